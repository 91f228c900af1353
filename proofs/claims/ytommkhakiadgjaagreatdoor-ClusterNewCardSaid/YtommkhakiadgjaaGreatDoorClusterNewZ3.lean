import Derived.Test.YtommkhakiadgjaaGreatDoorClusterNewZ2
import Derived.Shelf.SlSortCmp.NoneTotal
import Derived.KernelRfl
import Derived.ChangeKeysEq
import Derived.Shelf.Strings.Builder1
import Derived.Shelf.Strings.Builder2
import Derived.Shelf.Small.Bits
import Derived.Shelf.Small.Strs
import Derived.Shelf.Small.Wraps
import Derived.Shelf.Strings.BuilderF
import Derived.Shelf.Strconv.Atoi
import Derived.Shelf.Strconv.Itoa0
import Derived.Shelf.Strconv.Itoa1
import Derived.Shelf.LaysM
import Derived.Shelf.Strconv.Itoa2
import Derived.Shelf.Strconv.Itoa3
import Derived.Shelf.Strconv.AtoiErrFast
import Derived.Shelf.Strconv.ParseIntEmpty
import Derived.Shelf.Strconv.AtoiFail
import Derived.Shelf.Strconv.Clone
import Derived.Shelf.Strconv.SyntaxError
import Derived.Shelf.LaysC
import Derived.Shelf.Strconv.ToError
import Derived.Shelf.Strconv.Lower
import Derived.Shelf.Strconv.ParseUint10
import Derived.Shelf.Strconv.ParseUint10Empty
import Derived.Shelf.Strconv.ParseUint10Any
import Derived.Shelf.Strconv.ParseInt10
import Derived.Shelf.Strconv.AtoiLong
import Derived.Shelf.Strconv.AtoiInnerAll
import Derived.Shelf.Strconv.RangeError
import Derived.Shelf.Strconv.ToErrorRange
import Derived.Shelf.Strconv.AtoiAll
import Derived.Shelf.Strconv.ErrVarAll
import Derived.Shelf.Strings.Prefix
import Derived.Shelf.Bits.Mul64
import Derived.Shelf.Strings.Repeat
import Derived.Ground.Names2Prog
import Derived.Shelf.Slices.Clone
import Derived.Shelf.Slices.SearchI
import Derived.Shelf.Slices.In.SortNone
import Derived.Ground.SlgnProg
import Derived.Shelf.SlicesE.Clone
set_option maxHeartbeats 40000000
set_option maxRecDepth 100000
set_option linter.unusedVariables false
namespace Go.E.Y
open Go.Proofs
abbrev Rk:=ByteArray×List Int×(Option Addr×Nat×Nat)
def n8(u:List Int):List Int:=[u.getD 0 0,u.getD 1 0,u.getD 2 0,u.getD 3 0,u.getD 4 0,u.getD 5 0,u.getD 6 0,u.getD 7 0]
theorem yn{u:List Int}(h:u.length=8):n8 u=u:=by
 match u,h with
 |[a,b,c,d,e,f,g,i],_=>rfl
def fj(r:Rk):List Value:=[.string r.1]++(n8 r.2.1).map (Value.int .u64)++[.slice r.2.2.1 r.2.2.2.1 r.2.2.2.2]
theorem dW:fp fj 10:=⟨λ_=>rfl,λx u hu=>by
 simp only[fj,aR,aL,aV]at hu
 rcases hu with(rfl|⟨_,_,rfl⟩)|rfl<;>rfl,by decide⟩
structure pP(m:aD)(r:Rk)(x:Kd):Prop where
 k:r.1=x.1
 u:r.2.1=x.2.1
 u8:x.2.1.length=8
 e:Na m (.slice r.2.2.1 r.2.2.2.1 r.2.2.2.2) x.2.2
variable{m':aD}
theorem pP.sub{m:aD}{r:Rk}{x:Kd}(h:pP m r x)(hs:cL m m'):pP m' r x:=⟨h.k,h.u,h.u8,h.e.sub hs⟩
theorem pP.len{m:aD}{r:Rk}{x:Kd}(h:pP m r x):r.2.2.2.1=x.2.2.length:=by
 obtain⟨a,c,e⟩:=h.e.shape;injection e
structure dC(m:aD)(R:List Rk)(L:List Kd):Prop where
 len:R.length=L.length
 je:∀i (h1:i<R.length) (h2:i<L.length),pP m R[i] L[i]
theorem dC.nil(m:aD):dC m [] []:=⟨rfl,λi h=>by simp at h⟩
variable{R:List Rk}
theorem dC.sub{m:aD}{L:List Kd}(h:dC m R L)(hs:cL m m'):dC m' R L:=⟨h.len,λi h1 h2=>(h.je i h1 h2).sub hs⟩
theorem dC.append{m:aD}{R':List Rk}{L L':List Kd}(h:dC m R L)(h':dC m R' L'):dC m (R++R') (L++L'):=by
 refine⟨by rw[ax,ax,h.len,h'.len],λi h1 h2=>?_⟩;have hl:=h.len;by_cases hi:i<R.length
 ·rw[List.getElem_append_left hi,List.getElem_append_left (by omega)]
  exact h.je i hi (by omega)
 ·rw[List.getElem_append_right (by omega),List.getElem_append_right (by omega)]
  simp only[hl];rw[ax]at h1 h2;have:=h'.je (i-L.length) (by omega) (by omega);exact this
theorem dC.one{m:aD}{r:Rk}{x:Kd}(h:pP m r x):dC m [r] [x]:=⟨rfl,λi h1 h2=>by
 have:i=0:=by simp at h1;omega
 subst this;exact h⟩
theorem dC.take{m:aD}{L:List Kd}(h:dC m R L)(i:Nat):dC m (R.take i) (L.take i):=by
 refine⟨by rw[aK,aK,h.len],λj h1 h2=>?_⟩;rw[List.getElem_take,List.getElem_take];exact h.je j _ _
theorem dC.drop{m:aD}{L:List Kd}(h:dC m R L)(i:Nat):dC m (R.drop i) (L.drop i):=by
 refine⟨by rw[cC,cC,h.len],λj h1 h2=>?_⟩;rw[List.getElem_drop,List.getElem_drop];exact h.je _ _ _
theorem dC.UL{m:aD}{L:List Kd}(h:dC m R L):R.map (·.1)=L.map (·.1):=by
 refine List.ext_getElem (by simp[h.len]) λi h1 h2=>?_;rw[qz,qz];exact(h.je i (by simpa using h1) (by simpa using h2)).k
theorem dC.any{m:aD}{L:List Kd}(h:dC m R L)(q:ByteArray->Bool):(R.any λr=>q r.1)=L.any λx=>q x.1:=by
 have e1:(R.any λr=>q r.1)=(R.map (·.1)).any q:=by rw[List.any_map];rfl
 have e2:(L.any λx=>q x.1)=(L.map (·.1)).any q:=by rw[List.any_map];rfl
 rw[e1,e2,h.UL]
abbrev Kv(x:Rk):CV:=.a [.one (.string x.1),.bG .u64 8 (n8 x.2.1),.one (.slice x.2.2.1 x.2.2.2.1 x.2.2.2.2)]
theorem hKs:∃ti,tt.get 63=some ti/\ti.k= .slice 177:=⟨_,rfl,rfl⟩
theorem hKn:∃ti,tt.get 177=some ti/\ti.size=10/\ti.bytes=104/\LB.cz ti.zero=fj (ByteArray.empty,[],(none,0,0)):=⟨_,rfl,rfl,rfl,rfl⟩
abbrev tyK:TyL Rk:={enc:=fj,s:=10,sl:=63,el:=177,by':=104,ts:=_,ti:=_,ok:=dW,h1:=rfl,h2:=rfl,h3:=rfl,h4:=rfl,h5:=rfl,h6:=rfl,h7:=by decide,h8:=by decide,lb:=λx=>[.one (.string x.1),.bG .u64 8 (n8 x.2.1),.one (.slice x.2.2.1 x.2.2.2.1 x.2.2.2.2)],lok:=λx=>⟨rfl,rfl,rfl,trivial⟩,lsz:=λx=>rfl,lcl:=λx=>by simp[LB.cz,eB.cells,fj],z:=(ByteArray.empty,[],(none,0,0)),hz:=rfl}
abbrev Kl(m:aD)(v:Value)(E:List Rk):Prop:=Gl tyK.toTy m v E
abbrev Ko(m:aD)(v:Value)(E:List Rk):Prop:=Gw tyK.toTy m v E
abbrev Ka(m:aD)(v:Value)(E:List Rk):Prop:=Ga tyK.toTy m v E
variable{v:Value}{E:List Rk}
theorem Kl.sub{m:aD}(h:Kl m v E)(hs:cL m m'):Kl m' v E:=Gl.sub h hs
theorem Ka.sub{m:aD}(h:Ka m v E)(hs:cL m m'):Ka m' v E:=Ga.sub h hs
theorem Ko.el{m:aD}(h:Ko m v E):Kl m v E:=Gw.el h
theorem Kl.ea{m:aD}(h:Kl m v E):Ka m v E:=Gl.ea h
theorem Ko.ea{m:aD}(h:Ko m v E):Ka m v E:=Gw.ea h
theorem Ko.nil(m:aD):Ko m (.slice none 0 0) []:=Gw.nil m
theorem Ka.nil(m:aD):Ka m (.slice none 0 0) []:=Ga.nil m
variable{i:Nat}
theorem Ka.real{m:aD}(h:Ka m v E)(hi:i<E.length):∃b o c,v= .slice (some ⟨b,o,none⟩) E.length c/\∀j (hj:j<E.length),dQ m b (o+j*10) (fj E[j]):=Ga.real h hi
variable{p:aD}
theorem zO{m:aD}{ls:List aD}{x:Value}{news:List Rk}(hs:aq m ls)(hi:ls[i]?=some p) (hv:Ko p v E) (hg:Ka m x news) (hb:E.length+news.length<=100000000):
  bF tP (.builtin .append [63,63]) [.v v,.v x] m λr m'=>∃v' p',r=[.v v']/\aq m' (ls.set i p')/\Ko p' v' (E++news):=amn hs hi hv hg hb
theorem OC{m:aD}{e:Rk}:bF tP (.buildSlice 63 1 [0]) [Kv e] m λr m'=>∃b,m b=none/\r=[.v (.slice (some ⟨b,0,none⟩) 1 1)]/\m'=m.set b (.cells (fj e).toArray 177):=AL (t:=tyK.toTy) (tyK.lcl e)
variable{b:Nat}
theorem Ko.blk1{m:aD}{e:Rk}(h:m b=some (.cells (fj e).toArray 177)):Ko m (.slice (some ⟨b,0,none⟩) 1 1) [e]:=Gw.blk1 h
theorem aca{m:aD}{ls:List aD}{b':Nat}{x:Rk}{y:Value}(hs:aq m ls)(hi:ls[i]?=some p) (hb:m b'=none) (hy:Ko p y E) (hl:E.length<=10000000):
  bF tP (.builtin .append [63,63]) [.v y,.v (.slice (some ⟨b',0,none⟩) 1 1)] (m.set b' (.cells (fj x).toArray 177)) λr m'=>∃y' p',r=[.v y']/\aq m' (ls.set i p')/\Ko p' y' (E++[x]):=Az hs hi hb hy hl
theorem axl:ar3 tyK.toTy 83:={}
theorem nO{m:aD}(hv:Ka m v E)(hl:E.length<=10000000):bi tP 83 [.v v] m λr m'=>∃v' p,r=[.v v']/\aq m' [p,m]/\Ko p v' E:=axl.cl hv hl
theorem aBs:as8 tyK (λb:Nat=>#[.pointer (some ⟨b,0,none⟩)]) (λb=>[cx b]) 138:={}
theorem wm{m:aD}{F:Nat}{p:Rk->Bool}(hv:Ka m v E)(hF:∀e∈E,eN tP F [Kv e,cx b] m [bR (p e)])(hl:E.length<=100000000):eN tP 138 [.v v,l5 F b] m [i64 (sH p E)]:=aBs.ix (x:=b) hv hF hl
theorem Fj{m:aD}{F:Nat}{p:Rk->Bool}(hv:Ka m v E)(hF:∀e∈E,eN tP F [Kv e,cx b] m [bR (p e)])(hl:E.length<=100000000):eN tP 251 [.v v,l5 F b] m [bR (E.any p)]:=by
 obtain⟨a,c,rfl⟩:=hv.shape;refine ap Tryz.func251 ?_;refine bt (wm hv hF hl) ?_;exact⟨by rw[tV],rfl⟩
theorem avw:∃ti,tt.get 3=some ti/\ti.k= .int .i64:=⟨_,rfl,rfl⟩
def yx(E:List Rk)(k:Nat)(x:Rk):List Rk:=E.take k++(x::E.drop k)
theorem EG(E:List Rk)(k:Nat)(x:Rk):(yx E k x).flatMap fj=(E.take k).flatMap fj++(fj x++(E.drop k).flatMap fj):=by rw[yx,dx,dw]
abbrev Xx{m:aD}{b o n c b' o' n' c':Nat}{arr CH:Array Value}{te t':TypeId}{fr':Nat×Nat}{news:List Value}(hb:m b=some (.cells arr te))(jH:o+min n' n*10<=arr.size)(qB:m b'=some (.cells CH t' fr'))(hlen:news.length=min n' n*10)(h4:jy CH o' news)(h5:∀u∈news,u.oneCell'=true):
  bF tP (.builtin .copy [63,63]) [.v (.slice (some ⟨b,o,none⟩) n c),.v (.slice (some ⟨b',o',none⟩) n' c')] m λr m'=>r=[.v (.int .i64 ((min n' n:Nat):Int))]/\m'=m.set b (.cells (arr.toList.take o++(news++arr.toList.drop (o+news.length))).toArray te):=by
 obtain⟨ti,h1,h2⟩:=hKs;obtain⟨ei,g1,g2,g3,g4⟩:=hKn;exact VK eR h1 h2 g1 hb (by rw[g2];exact jH) qB (by rw[g2];exact hlen) h4 h5
theorem afa{m:aD}{a:Option Addr}{n c k:Nat}(hl:Kl m (.slice a n c) E)(h0:0<k)(hg:c<n+k)(hb:n+k<=10000000):
  bF tP (.builtin .append [63,3]) [.v (.slice a n c),.v (.int .i64 k)] m λr m'=>∃b C,m b=none/\n+k<=C/\r=[.v (.slice (some ⟨b,0,none⟩) (n+k) C)]/\∃arr:Array Value,jy arr 0 (E.flatMap fj)/\arr.size=C*10/\m'=m.set b (.cells arr 177):=by
 obtain⟨ti,h1,h2⟩:=hKs;obtain⟨ei,g1,g2,g3,g4⟩:=hKn;obtain⟨ni,n1,n2⟩:=avw;have hn:E.length=n:=by obtain⟨a',c',e⟩:=hl.shape;cases e;rfl
 have Xc:gq m ei.size (.slice a n c) (E.flatMap fj):=by rw[g2];exact hl
 refine(aaK eR h1 h2 g1 n1 n2 (by rw[g2];decide) rfl Xc h0 hg (by rw[g3];omega) (by omega)).mono λr m' ⟨b,C,q1,q2,q3,q4⟩=>⟨b,C,q1,q2,q3,_,?_,?_,q4⟩
 ·intro j u hu
  grind
 ·simp only[oQ,kr,dM,dW.wC,g4,hn]
  have:(fj (ByteArray.empty,[],(none,0,0))).length=10:=rfl
  grind
theorem B4{mm m:aD}{x:Rk}{k b':Nat}(hs:aq mm [p,blk1 b' (.cells (fj x).toArray 177),m])(hv:Ko p v E)(hk:k<=E.length)(hl:E.length<=1000000):
  bi tP 161 [.v v,i64 k,.v (.slice (some ⟨b',0,none⟩) 1 1)] mm λr m'=>∃v' p',r=[.v v']/\aq m' [p',m]/\Ko p' v' (yx E k x):=by
 have hx:=(Ko.blk1 (e:=x) (m:=blk1 b' (.cells (fj x).toArray 177)) (aG ..)).el.ea;have ave:E.length=k->yx E k x=E++[x]:=λe=>by rw[yx,bP (by omega),kG (by omega)]
 rcases hv with⟨rfl,hE⟩|⟨b,o,c,n,arr,rfl,h1,h2,h3,h4,h5,h6⟩
 ·have hE0:E.length=0:=dW.count (n:=0) (by rw[hE];rfl)
  obtain rfl:k=0:=by omega
  have hE':E=[]:=cB hE0;subst hE';refine c7 awG Tryz.func161 ?_
  repeat refine xS ?_
  refine xN ?_;refine xY ?_;refine .mk _ (zO (i:=0) hs rfl (Ko.nil _) (hx.sub (hs.sub)) (by simp)) ?_;rintro _ m'⟨v',p',rfl,qW,pY⟩;exact⟨v',p',rfl,qW.dV 1,pY⟩
 have hn:E.length=n:=dW.count h2;subst hn;have hv:Ko p (.slice (some ⟨b,o,none⟩) E.length c) E:=.inr ⟨b,o,c,E.length,arr,rfl,h1,h2,h3,h4,h5,h6⟩;have h4:o+c*10<=arr.size:=h4;refine c7 awG Tryz.func161 ?_
 repeat refine xS ?_
 intro o1 _ _;refine xN ?_;apply bI<;>intro h
 ·have h':E.length=k:=by simp at h;omega
  refine .mk _ (zO (i:=0) hs rfl hv (hx.sub (hs.sub)) (by first|(rw[dW.len];omega)|(simp;omega))) ?_;rintro _ m'⟨v',p',rfl,qW,pY⟩;exact⟨v',p',rfl,qW.dV 1,by rw[ave h'];exact pY⟩
 have bH:k<E.length:=by simp at h;omega
 have ew1:IntKind.i64.wrap ((E.length:Int)+((1:Nat):Int))=((E.length+1:Nat):Int):=by rw[wi];omega
 refine .mk _ (sR eR (by rfl) rfl) ?_;rintro _ _⟨rfl,rfl⟩;conv=>whnf
 rw[ew1];have xq:mm b'=some (.cells (fj x).toArray 177):=hs.sub (a:=blk1 b' (.cells (fj x).toArray 177)) (by simp) _ _ (aG ..);have jc:mm b=some (.cells arr 177):=hs.sub (a:=p) (by simp) _ _ h1;have ak7:jy arr o (E.flatMap fj):=h5;have ak3:E.flatMap fj=(E.take k).flatMap fj++(E.drop k).flatMap fj:=by rw[<-dx,dL]
 have hA:((E.take k).flatMap fj).length=k*10:=by rw[dW.wC,aK];omega
 have hB:((E.drop k).flatMap fj).length=(E.length-k)*10:=by rw[dW.wC,cC]
 rw[ak3]at ak7;have hrA:=ak7.left;have hrB:=ak7.right;rw[hA]at hrB;have ek:(k:Int).toNat=k:=by omega
 have ew2:IntKind.i64.wrap (((E.length+1:Nat):Int)-(k:Int))=((E.length+1-k:Nat):Int):=by rw[wi];omega
 have ew3:IntKind.i64.wrap ((k:Int)+((1:Nat):Int))=((k+1:Nat):Int):=by rw[wi];omega
 apply bI<;>intro h
 ·have hc:c=E.length:=by have:=ah h;omega
  subst hc
  repeat refine xS ?_
  intro o2 q1 q2;obtain rfl:o2=o:=by have:=q1 (by omega);simpa [bK]using this
  conv=>whnf
  rw[ew1,ew2,ek];refine .mk _ (afa (E:=E.take k) (dW.pre (hv.el.sub (hs.sub)) (by omega) (by omega)) (by omega) (by omega) (by omega)) ?_;rintro _ m'⟨b2,C,oM,hC,rfl,aiC,r0,Ad,rfl⟩;conv=>whnf
  rw[show k-0+(E.length+1-k)=E.length+1 by omega]at hC⊢;have aup:b'≠b2:=λe=>by rw[e,oM]at xq;cases xq
  have ahy:b≠b2:=λe=>by rw[e,oM]at jc;cases jc
  repeat refine xS ?_
  intro o3 q1 q2;obtain rfl:o3=k*10:=by have:=q1 (by omega);simpa using this
  conv=>whnf
  rw[ek];refine .mk _ (Xx (news:=fj x) (aD.bg ..) (by omega) ((aD.eH _ _ aup).trans xq) (by first|(rw[dW.len];omega)|(simp;omega)) (λj u hu=>by rw[cD,bz];exact hu) (dW.one x)) ?_;rintro _ _⟨rfl,rfl⟩;conv=>whnf
  rw[aD.set_set];have Xg:k*10+(fj x).length<=aiC.size:=by first|(rw[dW.len];omega)|(simp;omega)
  have r1:jy _ (k*10) (fj x):=jy.FG Xg;have r2:=r0.uV Xg (.inl (by rw[hA];omega));have ahk:=kv Xg;rw[Ad]at ahk;generalize (aiC.toList.take (k*10)++(fj x++aiC.toList.drop (k*10+(fj x).length))).toArray=ae9 at r1 r2 ahk⊢;rw[ew3]
  repeat refine xS ?_
  intro o4 q1 q2;have ek1:((k+1:Nat):Int).toNat=k+1:=by omega
  rw[ek1]at q1;obtain rfl:o4=(k+1)*10:=by have:=q1 (by omega);simpa using this
  conv=>whnf
  rw[ek1]
  repeat refine xS ?_
  intro o5 q1 q2;rw[ek]at q1;obtain rfl:o5=o2+k*10:=by have:=q1 (by omega);simpa using this
  conv=>whnf
  rw[ek];refine .mk _ (Xx (news:=(E.drop k).flatMap fj) (aD.bg ..) (by omega) ((aD.eH _ _ ahy).trans jc) (by rw[hB];omega) hrB dW.DW) ?_;rintro _ m4⟨rfl,rfl⟩
  try refine⟨λ_ h=>(by cases h),?_⟩
  conv=>whnf
  rw[aD.set_set];have U9:(k+1)*10+((E.drop k).flatMap fj).length<=ae9.size:=by rw[hB,ahk];omega
  have r3:=jy.FG U9;have r4:=r1.uV U9 (.inl (by first|(rw[dW.len];omega)|(simp;omega)));have r5:=r2.uV U9 (.inl (by rw[hA];omega));have apl:=kv U9;generalize (ae9.toList.take ((k+1)*10)++((E.drop k).flatMap fj++ae9.toList.drop ((k+1)*10+((E.drop k).flatMap fj).length))).toArray=awZ at r3 r4 r5 apl⊢;refine⟨_,_,rfl,((hs.new oM (.cells awZ 177)).dV 1).dV 1,?_⟩;refine dW.mk' (aG ..) (by simp[yx];omega) hC (by rw[apl,ahk];omega) ?_;rw[EG];exact r5.append (by rw[hA,cD];exact r4.append (by rw[show k*10+(fj x).length=(k+1)*10 by first|(rw[dW.len];omega)|(simp;omega)];exact r3))
 ·have hc:E.length+1<=c:=by have:=aj h;omega
  conv=>whnf
  rw[ew1]
  repeat refine xS ?_
  intro o2 q1 q2;obtain rfl:o2=o:=by have:=q1 (by omega);simpa [bK]using this
  have en1:((E.length+1:Nat):Int).toNat=E.length+1:=by omega
  conv=>whnf
  rw[ew3,en1]
  repeat refine xS ?_
  intro o3 _ _
  have aqs:b'≠b:=λe=>by
   have hd:=(bh.1 hs.2).1 (blk1 b' (.cells (fj x).toArray 177)) (by simp) b;rcases hd with hd|hd
   ·rw[h1]at hd;cases hd
   ·rw[e,aG]at hd;cases hd
  obtain⟨ti,t1,t2⟩:=hKs;obtain⟨ei,g1,g2,g3,g4⟩:=hKn;refine aj1 (Z2 (P:=tP) (t:=63) (tr:=4) eR Tryz.func243 (by rfl) (by rfl) (by kernel_rfl) t1 t2 g1 (by kernel_rfl) xq jc aqs (by have e1:c*tyK.s=c*10:=rfl;have e2:E.length*tyK.s=E.length*10:=rfl;omega)) ?_;rintro _ _⟨rfl,rfl⟩;refine xY ?_;conv=>whnf
  rw[ew3]
  repeat refine xS ?_
  intro o4 q1 q2;rw[show((k+1:Nat):Int).toNat=k+1 by omega]at q1;obtain rfl:o4=o2+(k+1)*10:=by have:=q1 (by omega);simpa using this
  repeat refine xS ?_
  intro o5 q1 q2;rw[ek]at q1;obtain rfl:o5=o2+k*10:=by have:=q1 (by omega);simpa using this
  conv=>whnf
  rw[ek,show((k+1:Nat):Int).toNat=k+1 by omega];rw[show E.length+1-0=E.length+1 by omega,show c-0=c by omega];have ah5:min (E.length+1-k) (E.length+1-(k+1))=E.length-k:=by omega
  refine .mk _ (Xx (news:=(E.drop k).flatMap fj) jc (by rw[ah5];have e1:c*tyK.s=c*10:=rfl;have e2:E.length*tyK.s=E.length*10:=rfl;omega) jc (by rw[hB,ah5]) hrB dW.DW) ?_;rintro _ m4⟨rfl,rfl⟩
  try refine⟨λ_ h=>(by cases h),?_⟩
  have Xg:o2+(k+1)*10+((E.drop k).flatMap fj).length<=arr.size:=by rw[hB];omega
  have r1:=jy.FG Xg;have r2:=hrA.uV Xg (.inl (by rw[hA];omega));have apn:=kv Xg;have Ta:=λo'=>hs.set h1 (o':Obj);generalize (arr.toList.take (o2+(k+1)*10)++((E.drop k).flatMap fj++arr.toList.drop (o2+(k+1)*10+((E.drop k).flatMap fj).length))).toArray=amm at r1 r2 apn⊢
  repeat refine xS ?_
  intro o6 q1 q2;rw[ek]at q1;obtain rfl:o6=o2+k*10:=by have:=q1 (by omega);simpa using this
  conv=>whnf
  rw[ek];refine .mk _ (Xx (news:=fj x) (aD.bg ..) (by omega) ((aD.eH _ _ aqs).trans xq) (by first|(rw[dW.len];omega)|(simp;omega)) (λj u hu=>by rw[cD,bz];exact hu) (dW.one x)) ?_;rintro _ _⟨rfl,rfl⟩;conv=>whnf
  rw[aD.set_set];have U9:o2+k*10+(fj x).length<=amm.size:=by first|(rw[dW.len];omega)|(simp;omega)
  have r3:=jy.FG U9;have r4:=r1.uV U9 (.inr (by first|(rw[dW.len];omega)|(simp;omega)));have r5:=r2.uV U9 (.inl (by rw[hA];omega));have apm:=kv U9;generalize (amm.toList.take (o2+k*10)++(fj x++amm.toList.drop (o2+k*10+(fj x).length))).toArray=aiC at r3 r4 r5 apm⊢;refine⟨_,_,rfl,(Ta _).dV 1,?_⟩;refine dW.mk' (aD.bg ..) (by simp[yx];omega) hc (by rw[apm,apn];exact h4) ?_;rw[EG];exact r5.append (by rw[hA];exact r3.append (by rw[show o2+k*10+(fj x).length=o2+(k+1)*10 by first|(rw[dW.len];omega)|(simp;omega)];exact r4))
theorem EF{m:aD}{x:Int}:eN tP 361 [i64 x] m [bR false]:=by
 refine ap Tryz.func361 ?_;exact⟨by simp,rfl⟩
theorem EE{m:aD}{x:Int}:eN tP 362 [u64 x] m [bR false]:=by
 refine ap Tryz.func362 ?_;exact⟨by simp,rfl⟩
variable{y:Int}
theorem qu{m:aD}{x:Int}:eN tP 308 [i64 x,i64 y] m [i64 (sP x y)]:=by
 refine ap Tryz.func308 ?_;refine bt (EF) ?_;refine bt (EF) ?_;refine xN ?_;refine xN ?_;apply bI<;>intro h
 ·exact⟨by rw[sP,aC (ah h)],rfl⟩
 have h1:=aj h;apply bI<;>intro h
 ·exact⟨by rw[sP,if_neg h1,aC (ah h)],rfl⟩
 ·exact⟨by rw[sP,if_neg h1,if_neg (aj h)],rfl⟩
theorem wJ{m:aD}{x:Int}:eN tP 309 [u64 x,u64 y] m [i64 (sP x y)]:=by
 refine ap Tryz.func309 ?_;refine bt (EE) ?_;refine bt (EE) ?_;refine xN ?_;refine xN ?_;apply bI<;>intro h
 ·exact⟨by rw[sP,aC (ah h)],rfl⟩
 have h1:=aj h;apply bI<;>intro h
 ·exact⟨by rw[sP,if_neg h1,aC (ah h)],rfl⟩
 ·exact⟨by rw[sP,if_neg h1,if_neg (aj h)],rfl⟩
theorem Qa:∀{l:List Int},(∀x∈l,x=0)->Qb l=0
 |[],_=>rfl
 |x::r,h=>by rw[Qb,aC (h x (by simp)),Qa λy hy=>h y (by simp[hy])]
theorem acr:∀{l:List Int}{i:Nat} (hi:i<l.length),(∀x∈l.take i,x=0)->l[i]≠0->Qb l=l[i]
 |x::r,0,_,_,ga=>by
  have ga:x≠0:=ga;rw[Qb,if_neg ga];rfl
 |x::r,i+1,hi,h,ga=>by
  rw[Qb,aC (h x (by simp))];exact acr (l:=r) (by simpa using hi) (λy hy=>h y (by simp[hy])) ga
theorem adO{m:aD}{l:List Int}(hv:Il m v l)(hl:l.length<=1000000):eN tP 307 [.v v] m [i64 (Qb l)]:=by
 obtain⟨a,c,rfl⟩:=hv.shape;refine ap Tryz.func307 ?_;refine .mk (ι:=Nat) (λi=>l.length-i) (λi mm=>i<=l.length/\(∀x∈l.take i,x=0)/\mm=m) (λi=>[(3,.c (i64 0)),(6,.c (.v (.slice a l.length c))),(7,.c (i64 l.length)),(8,.c (i64 i))]) (λ_=>[]) 0 ⟨by omega,by simp,rfl⟩ ?_ ?_
 ·exact Cr
 rintro i mm⟨hi,cM,he⟩;subst mm;apply bI<;>intro h
 ·have h':=ah h
  have bH:i<l.length:=by omega
  obtain⟨bl,ol,c',hh,hg⟩:=hv.real bH;injection hh with eK _ fN;subst eK;have hg:=hg i bH
  repeat refine xS ?_
  refine⟨_,by simp only[bK,aA];exact hg,rfl,?_⟩;have dI:l.take (i+1)=l.take i++[l[i]]:=au bH;apply bI<;>intro h
  ·have ga:l[i]≠0:=by simpa using h
   exact⟨by rw[acr bH cM ga],rfl⟩
  ·have hz:l[i]=0:=by simpa using h
   refine⟨i+1,⟨by omega,λx hx=>?_,rfl⟩,by omega,?_⟩
   ·rw[dI]at hx
    rcases aR.1 hx with hx|hx
    ·exact cM x hx
    ·rw[aL.1 hx];exact hz
   ·exact Cr
 ·have h':=aj h
  obtain rfl:i=l.length:=by omega
  rw[aJ]at cM;exact⟨by rw[Qa cM],rfl⟩
theorem IN{m:aD}{x:Int}:bF tP (.buildSlice 61 2 [0,1]) [i64 x,i64 y] m λr m'=>∃b,m b=none/\r=[.v (.slice (some ⟨b,0,none⟩) 2 2)]/\m'=m.set b (.cells (ic [x,y]).toArray 3):=
 dm (n:=2) eR hIs rfl Tf rfl rfl (by simp[CV.cs]) (by simp) (by simp)
theorem aeP{m:aD}{x z u:Int}:bF tP (.buildSlice 61 4 [0,1,2,3]) [i64 x,i64 y,i64 z,i64 u] m λr m'=>∃b,m b=none/\r=[.v (.slice (some ⟨b,0,none⟩) 4 4)]/\m'=m.set b (.cells (ic [x,y,z,u]).toArray 3):=
 dm (n:=4) eR hIs rfl Tf rfl rfl (by simp[CV.cs]) (by simp) (by simp)
theorem Il.Je{m:aD}{l:List Int}{t:TypeId}{fr:Nat×Nat}(h:m b=some (.cells (ic l).toArray t fr)):Il m (.slice (some ⟨b,0,none⟩) l.length l.length) l:=
 .inr ⟨b,0,l.length,l.length,_,_,_,rfl,h,by simp,aW _,λj u hu=>by rw[cD,bz];exact hu,akW⟩
end Go.E.Y
namespace Go.E
open Go.Proofs Go.Shelf Go.RowKit Go.Lib Go.Sort
theorem cr.aqS{W W':World}{m':aD}(h:cr iI W m' W')(hd:W.drawn<=W'.drawn):∃q os,W'=grow (W.drewN q) os:=by
 refine⟨W'.drawn-W.drawn,W'.heap.extract W.heap.size W'.heap.size,?_⟩
 have e1:W'.heap=W.heap++W'.heap.extract W.heap.size W'.heap.size:=by
  refine Array.ext_getElem? λi=>?_;by_cases hi:i<W.heap.size
  ·rw[fI hi];exact(h.frame i hi rfl).2
  ·rw[Array.getElem?_append_right (by omega),Array.getElem?_extract]
   have:=h.size;split
   ·congr 1;omega
   ·rw[Array.getElem?_eq_none];omega
 have e2:W'.drawn=W.drawn+(W'.drawn-W.drawn):=by omega
 have h1:=h.tape;have h2:=h.os;have h3:=h.output
 cases W' with
 |mk heap tape drawn os output=>
  simp only at e1 e2 h1 h2 h3;subst h1 h2 h3
  show World.mk _ _ _ _ _=World.mk _ _ _ _ _
  rw[World.mk.injEq];exact⟨e1,rfl,e2,rfl,rfl⟩
theorem J7{m:aD}{W:World}(hW:mg m W){b o k:Nat}{arr:Array Value}{T:TypeId}{fr:Nat×Nat}(hb:m b=some (.cells arr T fr))(d:Array Value)(os:Array Obj):
  cr m W (m.set b (.cells (Sort.putCells id o d arr) T fr)) (Sort.grow (Sort.putRow id (Sort.ahead W k) b o d) os):=by
 have yD:=hW _ _ hb;have bH:=hW.lt hb
 have Bg:∀x,x<W.heap.size->(Sort.grow (Sort.putRow id (Sort.ahead W k) b o d) os).heap[x]?=if b=x then some (.cells (Sort.putCells id o d arr) T fr)else W.heap[x]?:=λx hx=>by
  have e:(Sort.grow (Sort.putRow id (Sort.ahead W k) b o d) os).heap=W.heap.modify b (Sort.onCells (Sort.putCells id o d))++os:=rfl;rw[e,fI (by simpa using hx),Array.getElem?_modify];by_cases h:b=x
  ·subst h;simp[yD,Sort.onCells]
  ·simp[h]
 refine⟨λx u hx=>?_,?_,rfl,rfl,rfl,λx hx hn=>?_,λ_=>Nat.le_add_right _ _⟩
 ·by_cases h:x=b
  ·subst h;rw[aD.bg]at hx;rw[Bg _ bH,aC rfl];exact hx
  ·rw[aD.eH _ _ h]at hx
   rw[Bg _ (hW.lt hx),if_neg (Ne.symm h)];exact hW _ _ hx
 ·grind
 ·have h:x≠b:=λe=>by subst e;rw[hb]at hn;cases hn
  exact⟨by rw[aD.eH _ _ h];exact hn,by rw[Bg _ hx,if_neg (Ne.symm h)]⟩
theorem flatK_at{α:Type}[Inhabited α]{enc:α->List Value}{k:Nat}(h:fp enc k){E:List α}{t:Nat}(ht:t<E.length*k):(E.flatMap enc)[t]?=some (flatK enc k E.toArray)[t]! :=by
 have JL:=h.pos;have hq:t/k<E.length:=lI (by rw[lH];exact ht);have hr:=fo t JL;have hl:t%k<(enc E[t/k]).length:=by rw[h.len];exact hr
 have e1:=h.at hq (az hl);rw[lH,Jh]at e1;rw[e1,get_flatK _ _ _ _ (by simpa using ht)]
 grind
section
variable {P:Program}{ρ:Ren}{α:Type} [Inhabited α]
theorem PB(L:SlLaysF0.n6 P ρ){k:Nat}(aE:∀w,(isAgg (ρ.t 24)).run P w= .ok true w)(zE:∀w,(Go.sizeOf (ρ.t 24)).run P w= .ok k w){enc:α->List Value}(hk:fp enc k){cf:α->α->Int}(hO:SWO (ltOf cf))(hT:∀x y,(ltOf cf) x y=false->(ltOf cf) y x=false->x=y){g:Nat}
  {parts:α->LB} (hp:∀x,LB.cz (parts x)=enc x) (hpo:∀x,LB.ok (parts x)) (hcf:∀x y,bi P g [.a (parts x),.a (parts y)] iI λr _=>r=[i64 (cf x y)])
  {m:aD}{W:World} (hW:mg m W) (hS:sZ iI W) {e:TypeId}{v:Value}{E:List α} (hv:mf m e k v (E.flatMap enc)) (hl:E.length<=1000000000):
  Calls P (ρ.f 6) ([CV.v v,Aj g].map CV.val).toArray W λed W'=>∃r m',ed= .returned (gm r)/\(∀x∈r,x.ok)/\(r=[]/\mf m' e k v ((E.mergeSort λx y=>!ltOf cf y x).flatMap enc))/\cr m W m' W':=by
 rcases hv with⟨rfl,e0⟩|⟨b,o,c,n,arr,rfl,h1,h2,h3,h4,h5,h6⟩
 ·have hE:E=[]:=cB (hk.count (n:=0) (by rw[e0];simp))
  subst hE;exact(AnyF.slices_SortFunc_none L none 0 _ W).mono λe W' ⟨h1,h2⟩=>⟨[],m,h1,by simp,⟨rfl,.inl ⟨rfl,by simp⟩⟩,by subst h2;exact cr.refl hW⟩
 ·have hn:E.length=n:=hk.count h2
  subst hn;have yD:=hW _ _ h1;have bH:b<W.heap.size:=hW.lt h1
  have hH:HoldsK enc k W b o E.toArray:=λj hj=>by
   have hj':j<E.length*k:=by simpa [size_flatK]using hj
   refine⟨?_,by simp[World.frozen?,yD]⟩;rw[iO yD];exact h5 j _ (flatK_at hk hj')
  have au2:CmpLays P g #[] enc k cf b o E.toArray.size W:=λn1 os1 dk1 _ x y=>by
   have hc:=(hcf x y).2 (by intro z hz;simp at hz;rcases hz with rfl|rfl<;>exact hpo _) (sortWorldK enc k W b o n1 dk1 os1) (λ_ _ h=>by cases h);simp only[aZ,lK,CV.val,hp]at hc;refine Calls.mono hc ?_;rintro e W'⟨r,m',rfl,_,rfl,ha⟩;refine⟨rfl,ha.aqS (ha.drawn (hS.lB ?_ λ_ _=>rfl))⟩
   show W.heap.size<=(W.heap.modify b (Sort.onCells (Sort.putCells id o (flatK enc k dk1)))++os1).size
   simp
  have hc:=AnyQ.slices_SortFunc_total L k aE zE enc hk.len hk.one cf hO g #[] b o c E.toArray W (hcf default default).1 au2 hH bH (by simp;omega) hT
  simp only[dM]at hc;refine hc.mono λe W' ⟨he,q,os,hw⟩=>?_;subst he;subst hw;have Ad:(flatK enc k (E.mergeSort λx y=>!ltOf cf y x).toArray).size=E.length*k:=by rw[size_flatK];simp
  refine⟨[],_,rfl,by simp,⟨rfl,.inr ⟨b,o,c,E.length,_,rfl,aD.bg ..,by rw[hk.wC,eW],h3,?_,λj u hu=>?_,hk.DW⟩⟩,J7 hW h1 _ _⟩
  ·simp only[Sort.putCells,Array.size_mapIdx];exact h4
  ·have EN:j<E.length*k:=by have:=(aQ.1 hu).1;rw[hk.wC,eW]at this;exact this
   have aut:E.length*k<=c*k:=cS _ h3;have JM:o+j<arr.size:=by omega
   rw[Sort.putCells,Array.getElem?_mapIdx,Array.getElem?_eq_getElem JM,dZ,aC ⟨by omega,by omega⟩,show o+j-o=j by omega];rw[flatK_at hk (by rw[eW];exact EN)]at hu;exact hu
theorem xO(es:wP P (ρ.f 6))(L:SlLaysF0.n6 P ρ){k:Nat}(aE:∀w,(isAgg (ρ.t 24)).run P w= .ok true w)(zE:∀w,(Go.sizeOf (ρ.t 24)).run P w= .ok k w){enc:α->List Value}(hk:fp enc k){cf:α->α->Int}(hO:SWO (ltOf cf))(hT:∀x y,(ltOf cf) x y=false->(ltOf cf) y x=false->x=y){g:Nat}
  {parts:α->LB} (hp:∀x,LB.cz (parts x)=enc x) (hpo:∀x,LB.ok (parts x)) (hcf:∀x y,bi P g [.a (parts x),.a (parts y)] iI λr _=>r=[i64 (cf x y)])
  {m p:aD}{l:List aD}{i:Nat} (hS:cK m) (hs:aq m l) (hi:l[i]?=some p) {e:TypeId}{v:Value}{E:List α} (hv:mf p e k v (E.flatMap enc)) (hl:E.length<=1000000000):
  bi P (ρ.f 6) [.v v,Aj g] m λr m'=>∃p',r=[]/\aq m' (l.set i p')/\mf p' e k v ((E.mergeSort λx y=>!ltOf cf y x).flatMap enc):=by
 refine⟨es,λ_ W hW=>?_⟩;have bM:=hs.pick hi;refine(PB L aE zE hk hO hT hp hpo hcf (hW.sub (hs.at hi)) (hS W hW) hv hl).mono ?_;rintro ed W'⟨r,p',h1,h2,⟨h3,h4⟩,h5⟩;obtain⟨m',h6,h7⟩:=h5.Bm bM hW;exact⟨r,m',h1,h2,⟨p',h3,aq.Gb hi h6,h4⟩,h7⟩
end
theorem brs{P:Program}{f:FuncId}{B:Func}(h1:(((P.funcs[f]?.getD B).name)== "runtime.NumGoroutine")=false) (h2:P.funcs[f]?=some {B with name:=(P.funcs[f]?.getD B).name}):Bears P f B:=⟨_,h1,h2⟩
end Go.E
namespace Go.E.Y
open Go.Proofs Go.Shelf Go.Sort Go.Lib
def aoC:Go.Shelf.Ren:=⟨rF [(6,334),(14,379),(15,219),(20,408),(21,409),(22,410),(23,411),(24,412),(25,413),(26,414),(27,415),(28,304),(29,305),(46,445),(47,356),(48,357),(49,446),(50,447),(57,477)],rF [(0,0),(3,3),(4,4),(5,5),(9,9),(22,109),(24,168),(25,337),(39,247),(45,402),(46,403),(50,339),(53,193),(55,47),(66,456),(70,459),(76,487),(77,428)],λn=>n⟩
theorem aji:SlLaysF0.n6 tP aoC:=by repeat' first|kernel_rfl|exact λ_=>rfl|(apply brs<;>kernel_rfl)|decide|constructor
instance:Inhabited En:=⟨(0,0,0,0)⟩
theorem Ol:wP tP 334:=aji.f6.enters rfl
theorem Yy{cf:En->En->Int}(hO:SWO (ltOf cf))(hT:∀x y,(ltOf cf) x y=false->(ltOf cf) y x=false->x=y){g:Nat}(hcf:∀x y,bi tP g [Nv x,Nv y] iI λr _=>r=[i64 (cf x y)])
  {m p:aD}{l:List aD}{i:Nat} (hS:cK m) (hs:aq m l) (hi:l[i]?=some p) {v:Value}{E:List En} (hv:No p v E) (hl:E.length<=1000000000):
  bi tP 334 [.v v,Aj g] m λr m'=>∃p',r=[]/\aq m' (l.set i p')/\No p' v (E.mergeSort λx y=>!ltOf cf y x):=
 xO (ρ:=aoC) Ol aji (k:=4) Tryz.isAgg168 Tryz.sizeOf168 mr hO hT (parts:=λx=>[.one (.int .i64 x.1),.one (.int .i64 x.2.1),.one (.int .u64 x.2.2.1),.one (.int .i64 x.2.2.2)]) (λ_=>rfl) (λ_=>⟨rfl,rfl,rfl,rfl,trivial⟩) hcf hS hs hi hv hl
theorem ayJ:as8 tyN (λb:Nat=>#[.pointer (some ⟨b,0,none⟩)]) (λb=>[cx b]) 333:={}
variable{v:Value}{E:List En}
theorem B5{m:aD}{F b:Nat}{p:En->Bool}(hv:Na m v E)(hF:∀e∈E,eN tP F [Nv e,cx b] m [bR (p e)])(hl:E.length<=100000000):eN tP 333 [.v v,l5 F b] m [i64 (sH p E)]:=ayJ.ix (x:=b) hv hF hl
theorem w9{m:aD}{F b:Nat}{p:En->Bool}(hv:Na m v E)(hF:∀e∈E,eN tP F [Nv e,cx b] m [bR (p e)])(hl:E.length<=100000000):eN tP 344 [.v v,l5 F b] m [bR (E.any p)]:=by
 obtain⟨a,c,rfl⟩:=hv.shape;refine ap Tryz.func344 ?_;refine bt (B5 hv hF hl) ?_;exact⟨by rw[tV],rfl⟩
theorem aq0(x y:En):rD [.one (.int .i64 x.1),.one (.int .i64 x.2.1),.one (.int .u64 x.2.2.1),.one (.int .i64 x.2.2.2)] [.one (.int .i64 y.1),.one (.int .i64 y.2.1),.one (.int .u64 y.2.2.1),.one (.int .i64 y.2.2.2)]=decide (x=y):=by
 have e:(x=y)↔x.1=y.1/\x.2.1=y.2.1/\x.2.2.1=y.2.2.1/\x.2.2.2=y.2.2.2:=⟨λh=>by subst h;simp,λh=>by obtain⟨a0,a1,a2,a3⟩:=x;obtain⟨b0,b1,b2,b3⟩:=y;simp only at h;simp only[cV];exact h⟩;rw[nV];simp only[rD,ceq,aB,gU,mj,bA,e]
theorem ajO(x y:En):(!rD [.one (.int .i64 x.1),.one (.int .i64 x.2.1),.one (.int .u64 x.2.2.1),.one (.int .i64 x.2.2.2)] [.one (.int .i64 y.1),.one (.int .i64 y.2.1),.one (.int .u64 y.2.2.1),.one (.int .i64 y.2.2.2)])=decide (x≠y):=by rw[aq0];simp
theorem RW{m:aD}{w:Value}{K:List En}(hv:Na m v E)(hw:Na m w K)(hl:E.length<=100000000):eN tP 283 [.v v,.v w] m [bR (decide (E=K))]:=by
 obtain⟨a,c,rfl⟩:=hv.shape;obtain⟨aw,cw,rfl⟩:=hw.shape;refine c7 aDj Tryz.func283 ?_;apply bI<;>intro h
 ·have:E≠K:=by rintro rfl;simp at h
  rw[aY this];exact rR
 have DN:E.length=K.length:=by simp at h;omega
 rw[<-DN]at hw⊢;refine .mk (ι:=Nat) (λi=>E.length-i) (λi mm=>i<=E.length/\E.take i=K.take i/\mm=m) (λi=>[(0,.c (.v (.slice a E.length c))),(1,.c (.v (.slice aw E.length cw))),(12,.c (i64 E.length)),(13,.c (i64 i))]) (λ_=>[]) 0 ⟨by omega,by simp,rfl⟩ ?_ ?_
 ·exact Cr
 rintro i mm⟨hi,Ac,he⟩;subst mm;apply bI<;>intro h1
 ·have jc:=ah h1
  have bH:i<E.length:=by omega
  have wv:i<K.length:=by omega
  obtain⟨b,o,c',hh,hg⟩:=hv.real bH;injection hh with eK _ fN;subst eK;have S8:Na m (.slice aw K.length cw) K:=by rw[<-DN];exact hw
  obtain⟨bw,ow,c',hh,LS⟩:=S8.real wv;injection hh with eK _ fN;subst eK;have hg:=hg i bH;have LS:=LS i wv
  repeat refine xS ?_
  refine⟨[.one (.int .i64 E[i].1),.one (.int .i64 E[i].2.1),.one (.int .u64 E[i].2.2.1),.one (.int .i64 E[i].2.2.2)],⟨rfl,rfl,rfl,rfl,trivial⟩,rfl,by simp only[bK,aA];exact hg,?_⟩
  repeat refine xS ?_
  refine⟨[.one (.int .i64 K[i].1),.one (.int .i64 K[i].2.1),.one (.int .u64 K[i].2.2.1),.one (.int .i64 K[i].2.2.2)],⟨rfl,rfl,rfl,rfl,trivial⟩,rfl,by simp only[bK,aA];exact LS,?_⟩;conv=>whnf
  rw[ajO];apply bI<;>intro h2
  ·have:E≠K:=by rintro rfl;exact absurd rfl (ah h2)
   rw[aY this];exact rR
  ·have iD:E[i]=K[i]:=by simpa using h2
   refine⟨i+1,⟨by omega,by rw[au bH,au wv,Ac,iD],rfl⟩,by omega,?_⟩;exact Cr
 ·have jc:=aj h1
  obtain rfl:i=E.length:=by omega
  rw[aJ,DN,aJ]at Ac;conv=>whnf
  rw[bB Ac];exact rR
abbrev Dv(x:Dt):CV:=.a [.one (.int .i64 x.1),.one (.int .u64 x.2)]
abbrev tyD:TyL Dt:={enc:=tm,s:=2,sl:=50,el:=49,by':=16,ts:=_,ti:=_,ok:=jD,h1:=rfl,h2:=rfl,h3:=rfl,h4:=rfl,h5:=rfl,h6:=rfl,h7:=by decide,h8:=by decide,lb:=λx=>[.one (.int .i64 x.1),.one (.int .u64 x.2)],lok:=λx=>⟨rfl,rfl,trivial⟩,lsz:=λx=>rfl,lcl:=λx=>by simp[LB.cz,eB.cells,tm],z:=(0,0),hz:=rfl}
abbrev Dl(m:aD)(v:Value)(E:List Dt):Prop:=Gl tyD.toTy m v E
abbrev Do(m:aD)(v:Value)(E:List Dt):Prop:=Gw tyD.toTy m v E
abbrev Da(m:aD)(v:Value)(E:List Dt):Prop:=Ga tyD.toTy m v E
variable{E:List Dt}
theorem Da.sub{m m':aD}(h:Da m v E)(hs:cL m m'):Da m' v E:=Ga.sub h hs
theorem Do.el{m:aD}(h:Do m v E):Dl m v E:=Gw.el h
theorem Dl.ea{m:aD}(h:Dl m v E):Da m v E:=Gl.ea h
theorem Do.ea{m:aD}(h:Do m v E):Da m v E:=Gw.ea h
theorem Do.nil(m:aD):Do m (.slice none 0 0) []:=Gw.nil m
theorem Da.nil(m:aD):Da m (.slice none 0 0) []:=Ga.nil m
theorem Da.real{m:aD}(h:Da m v E){i:Nat}(hi:i<E.length):∃b o c,v= .slice (some ⟨b,o,none⟩) E.length c/\∀j (hj:j<E.length),dQ m b (o+j*2) (tm E[j]):=Ga.real h hi
theorem XE{m:aD}{e:Dt}:bF tP (.buildSlice 50 1 [0]) [Dv e] m λr m'=>∃b,m b=none/\r=[.v (.slice (some ⟨b,0,none⟩) 1 1)]/\m'=m.set b (.cells (tm e).toArray 49):=AL (t:=tyD.toTy) (tyD.lcl e)
theorem ai5{m p:aD}{ls:List aD}{i b':Nat}{x:Dt}{y:Value}(hs:aq m ls)(hi:ls[i]?=some p) (hb:m b'=none) (hy:Do p y E) (hl:E.length<=10000000):
  bF tP (.builtin .append [50,50]) [.v y,.v (.slice (some ⟨b',0,none⟩) 1 1)] (m.set b' (.cells (tm x).toArray 49)) λr m'=>∃y' p',r=[.v y']/\aq m' (ls.set i p')/\Do p' y' (E++[x]):=Az hs hi hb hy hl
theorem al4(x y:Dt):rD [.one (.int .i64 x.1),.one (.int .u64 x.2)] [.one (.int .i64 y.1),.one (.int .u64 y.2)]=decide (x=y):=by
 have e:(x=y)↔x.1=y.1/\x.2=y.2:=⟨λh=>by subst h;simp,λh=>by obtain⟨a0,a1⟩:=x;obtain⟨b0,b1⟩:=y;simp only at h;simp only[cV];exact h⟩;rw[nV];simp only[rD,ceq,aB,gU,mj,bA,e]
theorem aq1(x y:Dt):(!rD [.one (.int .i64 x.1),.one (.int .u64 x.2)] [.one (.int .i64 y.1),.one (.int .u64 y.2)])=decide (x≠y):=by rw[al4];simp
open Go.Proofs Go.Shelf Go.Sort Go.Lib
def aoD:Go.Shelf.Ren:=⟨rF [(6,390),(14,433),(15,219),(20,455),(21,456),(22,457),(23,458),(24,459),(25,460),(26,461),(27,462),(28,304),(29,305),(46,480),(47,356),(48,357),(49,481),(50,482),(57,494)],rF [(0,0),(3,3),(4,4),(5,5),(9,9),(22,50),(24,49),(25,490),(39,247),(45,402),(46,403),(50,339),(53,193),(55,47),(66,456),(70,459),(76,487),(77,428)],λn=>n⟩
theorem ajj:SlLaysF0.n6 tP aoD:=by repeat' first|kernel_rfl|exact λ_=>rfl|(apply brs<;>kernel_rfl)|decide|constructor
instance:Inhabited Dt:=⟨(0,0)⟩
theorem Om:wP tP 390:=ajj.f6.enters rfl
theorem Yz{cf:Dt->Dt->Int}(hO:SWO (ltOf cf))(hT:∀x y,(ltOf cf) x y=false->(ltOf cf) y x=false->x=y){g:Nat}(hcf:∀x y,bi tP g [Dv x,Dv y] iI λr _=>r=[i64 (cf x y)])
  {m p:aD}{l:List aD}{i:Nat} (hS:cK m) (hs:aq m l) (hi:l[i]?=some p) {v:Value}{E:List Dt} (hv:Do p v E) (hl:E.length<=1000000000):
  bi tP 390 [.v v,Aj g] m λr m'=>∃p',r=[]/\aq m' (l.set i p')/\Do p' v (E.mergeSort λx y=>!ltOf cf y x):=
 xO (ρ:=aoD) Om ajj (k:=2) Tryz.isAgg49 Tryz.sizeOf49 jD hO hT (parts:=λx=>[.one (.int .i64 x.1),.one (.int .u64 x.2)]) (λ_=>rfl) (λ_=>⟨rfl,rfl,trivial⟩) hcf hS hs hi hv hl
theorem agx(a b:Dt):decide (Qb [sP a.1 b.1,sP a.2 b.2]<0)=qY a b:=by
 unfold qY;refine fF.2 ?_;simp only[Qb,sP];omega
theorem Ly{m:aD}{a b:Dt}:bi tP 434 [Dv a,Dv b] m λr m'=>r=[bR (qY a b)]/\cL m m':=by
 refine c7 aC4 Tryz.func434 ?_;refine fU (qu) ?_;refine bt (wJ) ?_;refine .mk _ (IN) ?_;rintro _ _⟨b1,kW,rfl,rfl⟩;refine bt (adO (Il.Je (aD.bg ..)) (by simp)) ?_;conv=>whnf
 rw[agx];exact⟨rfl,aD.bT _ kW⟩
theorem P9{m:aD}{a b:Dt}:bi tP 391 [Dv a,Dv b] m λr m'=>r=[i64 (VJ a b)]/\cL m m':=by
 refine ap Tryz.func391 ?_;refine aP (Ly (a:=a) (b:=b)) ?_;rintro _ m1⟨rfl,h1⟩;apply bI<;>intro h
 ·exact⟨by rw[VJ,aC h],h1⟩
 have hn:=h;refine aP (Ly (a:=b) (b:=a)) ?_;rintro _ m2⟨rfl,h2⟩;apply bI<;>intro h
 ·exact⟨by rw[VJ,if_neg (by rw[hn];simp),aC h],h1.trans h2⟩
 ·exact⟨by rw[VJ,if_neg (by rw[hn];simp),if_neg (by rw[h];simp)],h1.trans h2⟩
theorem Mv{m:aD}(hv:v.oneCell'=true):bi tP 364 [.v v] m λr m'=>∃b,m b=none/\r=[l5 393 b]/\m'=m.set b (.cells #[v] 50):=by
 refine c7 aDd Tryz.func364 ?_;intro b hb;refine .mk _ (df (cs:=[.pointer (some ⟨b,0,none⟩)]) (by simp[Value.oneCell'])) ?_;rintro _ _⟨rfl,rfl⟩;exact⟨b,hb,rfl,rfl⟩
theorem Jn{I:Nat->aD->Prop}{l b:Nat}{v:Value}{E:List Dt}(hn:E.length<=1000000000)(hI:∀k m,I k m->m b=some (.cells #[v] 50)/\Da m v E)
  (hy:∀k m (hk:k<E.length),I k m->CL tP l [Dv E[k]] m λr m'=>r=[.v (.bool true)]/\I (k+1) m') {m:aD} (h0:I 0 m):
  bi tP 393 [.v (.func (.yield l) #[] #[]),cx b] m λr m'=>r=[]/\I E.length m':=by
 obtain⟨g1,g2⟩:=hI 0 m h0;obtain⟨a,c,rfl⟩:=g2.shape;refine ap Tryz.func393 ?_;refine xM g1 ?_;refine .mk (ι:=Nat) (λk=>E.length-k) (λk mm=>k<=E.length/\I k mm) (λk=>[(0,.c (.v (.func (.yield l) #[] #[]))),(5,.c (.v (.slice a E.length c))),(6,.c (i64 E.length)),(7,.c (i64 k))]) (λ_=>[]) 0 ⟨by omega,h0⟩ ?_ ?_
 ·exact Cr
 rintro k mm⟨hk,hi⟩;apply bI<;>intro h1
 ·have jc:=ah h1
  have bH:k<E.length:=by omega
  obtain⟨bl,ol,c',hh,hg⟩:=(hI k mm hi).2.real bH;injection hh with eK _ fN;subst eK;have hg:=hg k bH;have I7:=hy k mm bH hi;generalize E[k]=x at hg I7
  repeat refine xS ?_
  refine⟨[.one (.int .i64 x.1),.one (.int .u64 x.2)],⟨rfl,rfl,trivial⟩,rfl,by simp only[bK,aA];exact hg,?_⟩;refine .mk _ I7 ?_;rintro _ m'⟨rfl,HR⟩;refine xN ?_;refine⟨k+1,⟨by omega,HR⟩,by omega,?_⟩;exact Cr
 ·have jc:=aj h1
  obtain rfl:k=E.length:=by omega
  exact⟨rfl,hi⟩
end Go.E.Y
namespace Go.E
variable{l:List aD}
theorem aq.aoB{m q:aD}(h:aq m (q::l)):aq m [gY l,q]/\aq (gY l) l:=by
 obtain⟨h1,h2⟩:=h;obtain⟨h3,h4⟩:=bh.1 h2;refine⟨⟨λx o hx=>?_,?_⟩,cL.refl _,h4⟩
 ·obtain⟨a,ha,Be⟩:=eQ hx
  simp only[aU,fG,rH]at ha;rcases ha with rfl|rfl
  ·obtain⟨b,hb,hx3⟩:=eQ Be
   exact h1 _ _ (jE h2 (bO _ hb) hx3)
  ·exact h1 _ _ (jE h2 (dv ..) Be)
 ·simp only[bh,aL,forall_eq,fG,false_implies,implies_true,List.Pairwise.nil,and_true]
  intro x
  cases hq:q x with
  |none=>exact .inr rfl
  |some o=>
   refine .inl (pM.2 λa ha=>?_);rcases h3 a ha x with h'|h'
   ·rw[hq]at h';cases h'
   ·exact h'
theorem aq.aoN{mm p:aD}(h:aq mm (p::l)):∃q,(∀x∈l,cL x q)/\aq mm [p,q]/\∀m' p',aq m' [p',q]->aq m' (p'::l):=by
 obtain⟨h2,h3⟩:=aq.aoB h;exact⟨gY l,λx hx=>h3.sub hx,h2.fm (List.Perm.swap _ _ _),λm' p' h4=>aq.under (a:=[p']) h4 h3⟩
theorem aq.aeR{m mm q:aD}(h:aq m [q,mm])(hs:aq mm l):aq m (q::l):=aq.under (a:=[q]) h hs
end Go.E
namespace Go.E.Y
open Go.Proofs
variable{e:En}
theorem rT{m:aD}:eN tP 223 [Nv e] m [Dv (kz e)]:=by
 refine ap Tryz.func223 ?_;exact rR
theorem ES{m:aD}{a b:En}:bi tP 224 [Nv a,Nv b] m λr m'=>r=[i64 (VC a b)]/\cL m m':=by
 refine c7 aDt Tryz.func224 ?_;refine fU (qu) ?_;refine fU (qu) ?_;refine fU (wJ) ?_;refine bt (qu) ?_;refine .mk _ (aeP) ?_;rintro _ _⟨b1,kW,rfl,rfl⟩;refine bt (adO (Il.Je (aD.bg ..)) (by simp)) ?_;exact⟨rfl,aD.bT _ kW⟩
theorem Dz:ltOf VC=aaO:=rfl
theorem D7{a b:En}:aaO a b=false↔¬(a.1<b.1\/(a.1=b.1/\(a.2.1<b.2.1\/(a.2.1=b.2.1/\(a.2.2.1<b.2.2.1\/(a.2.2.1=b.2.2.1/\a.2.2.2<b.2.2.2)))))):=by
 rw[<-L9];simp
theorem Z7:Go.Sort.SWO aaO where
 irrefl x:=by rw[D7];omega
 trans x y z h1 h2:=by rw[L9]at*;omega
 ntrans x y z h1 h2:=by rw[D7]at*;omega
theorem Sc{x y:En}(h1:aaO x y=false)(h2:aaO y x=false):x=y:=by
 rw[D7]at h1 h2
 grind
variable{p:aD}{i:Nat}{v:Value}{E:List En}
theorem aby{m:aD}{l:List aD}(hS:cK m)(hs:aq m l)(hi:l[i]?=some p)  (hv:No p v E) (hl:E.length<=1000000000):
  bi tP 334 [.v v,Aj 224] m λr m'=>∃p',r=[]/\aq m' (l.set i p')/\No p' v (nY E):=by
 have h:=Yy (cf:=VC) (by rw[Dz];exact Z7) (by rw[Dz];exact λx y=>Sc) (g:=224) (λx y=>ES.mono λr m' h=>h.1) hS hs hi hv hl;rw[Dz]at h;exact h
theorem Mu{m:aD}(hv:v.oneCell'=true):bi tP 265 [.v v] m λr m'=>∃b,m b=none/\r=[l5 335 b]/\m'=m.set b (.cells #[v] 109):=by
 refine c7 aDm Tryz.func265 ?_;intro b hb;refine .mk _ (df (cs:=[.pointer (some ⟨b,0,none⟩)]) (by simp[Value.oneCell'])) ?_;rintro _ _⟨rfl,rfl⟩;exact⟨b,hb,rfl,rfl⟩
theorem Jm{I:Nat->aD->Prop}{l b:Nat}{v:Value}{E:List En}(hn:E.length<=1000000000)(hI:∀k m,I k m->m b=some (.cells #[v] 109)/\Na m v E)
  (hy:∀k m (hk:k<E.length),I k m->CL tP l [Nv E[k]] m λr m'=>r=[.v (.bool true)]/\I (k+1) m') {m:aD} (h0:I 0 m):
  bi tP 335 [.v (.func (.yield l) #[] #[]),cx b] m λr m'=>r=[]/\I E.length m':=by
 obtain⟨g1,g2⟩:=hI 0 m h0;obtain⟨a,c,rfl⟩:=g2.shape;refine ap Tryz.func335 ?_;refine xM g1 ?_;refine .mk (ι:=Nat) (λk=>E.length-k) (λk mm=>k<=E.length/\I k mm) (λk=>[(0,.c (.v (.func (.yield l) #[] #[]))),(5,.c (.v (.slice a E.length c))),(6,.c (i64 E.length)),(7,.c (i64 k))]) (λ_=>[]) 0 ⟨by omega,h0⟩ ?_ ?_
 ·exact Cr
 rintro k mm⟨hk,hi⟩;apply bI<;>intro h1
 ·have jc:=ah h1
  have bH:k<E.length:=by omega
  obtain⟨bl,ol,c',hh,hg⟩:=(hI k mm hi).2.real bH;injection hh with eK _ fN;subst eK;have hg:=hg k bH;have I7:=hy k mm bH hi;generalize E[k]=x at hg I7
  repeat refine xS ?_
  refine⟨[.one (.int .i64 x.1),.one (.int .i64 x.2.1),.one (.int .u64 x.2.2.1),.one (.int .i64 x.2.2.2)],⟨rfl,rfl,rfl,rfl,trivial⟩,rfl,by simp only[bK,aA];exact hg,?_⟩;refine .mk _ I7 ?_;rintro _ m'⟨rfl,HR⟩;refine xN ?_;refine⟨k+1,⟨by omega,HR⟩,by omega,?_⟩;exact Cr
 ·have jc:=aj h1
  obtain rfl:k=E.length:=by omega
  exact⟨rfl,hi⟩
variable{b:Nat}
theorem Fm{m:aD}(hb:m b=some (.cells #[v] 109))(hv:Na m v E)(hl:E.length<=1000000):
  bi tP 279 [.v (.slice none 0 0),l5 335 b] m λr m'=>∃v' p,r=[.v v']/\aq m' [p,m]/\No p v' E:=by
 refine c7 azq Tryz.func279 ?_;intro bo Xj
 refine .mk 335 #[.pointer (some ⟨b,0,none⟩)] rfl rfl rfl (ι:=Nat)
  (λk mm=>k<=E.length/\∃vo p,aq mm [p,blk1 bo (.cells #[vo] 109),m]/\No p vo (E.take k)) 0 ⟨by omega,.slice none 0 0,iI,((aq.one m).new Xj _).cA,No.nil _⟩
  (λk x j=>∃h:k<E.length,x=[Nv E[k]]/\j=k+1) (λk x j ⟨_,h1,_⟩=>by subst h1;rfl) ?_
  (λmm=>∃vo p,aq mm [p,blk1 bo (.cells #[vo] 109),m]/\No p vo E) ?_ ?_
 ·rintro k _ _ mm⟨hk,vo,p,hs,hp⟩ ⟨bH,rfl,rfl⟩
  have dI:E.take (k+1)=E.take k++[E[k]]:=au bH;generalize E[k]=x at dI;intro b4 OV;refine⟨_,_,_,aD.bg ..,⟨aW 4,Jz⟩,?_⟩;rw[BM (by rfl)];have eP:=hs.new OV (.cells (qp x).toArray 168)
  change aq (mm.set b4 (.cells (LB.cz [.one (.int .i64 x.1),.one (.int .i64 x.2.1),.one (.int .u64 x.2.2.1),.one (.int .i64 x.2.2.2)]).toArray 168)) _ at eP
  generalize mm.set b4 (.cells (LB.cz [.one (.int .i64 x.1),.one (.int .i64 x.2.1),.one (.int .u64 x.2.2.1),.one (.int .i64 x.2.2.2)]).toArray 168)=m2 at eP⊢;have hr4:dQ m2 b4 0 (qp x):=⟨_,_,_,eP.get (a:=blk1 b4 (.cells (qp x).toArray 168)) (by simp) (aG ..),λj u hu=>by rw[cD,bz];exact hu⟩;refine⟨_,aF (eP.get (a:=blk1 bo (.cells #[vo] 109)) (by simp) (aG ..)) rfl,hp.ea.one,?_⟩;refine⟨[.one (.int .i64 x.1),.one (.int .i64 x.2.1),.one (.int .u64 x.2.2.1),.one (.int .i64 x.2.2.2)],⟨rfl,rfl,rfl,rfl,trivial⟩,rfl,hr4,?_⟩;refine .mk _ (FW (e:=x)) ?_;rintro _ _⟨b5,mo,rfl,rfl⟩;refine .mk _ (Wx (i:=1) eP rfl mo hp (by rw[aK];omega)) ?_;rintro _ m6⟨vo',p',rfl,gC,tZ⟩;refine⟨_,_,_,gC.get (a:=blk1 bo (.cells #[vo] 109)) (by simp) (aG ..),⟨by simp,by simp⟩,?_⟩;have iU:=gC.gu (i:=2) rfl (aG ..) (.cells #[vo'] 109);rw[cJ]at iU;refine⟨by omega,vo',p',iU.drop,?_⟩;rw[dI];exact tZ
 ·intro lb ob _ sI
  refine(Jm (I:=λk mm=>∃m1,(k<=E.length/\∃vo p,aq m1 [p,blk1 bo (.cells #[vo] 109),m]/\No p vo (E.take k))/\m1 lb=none/\mm=m1.set lb ob) (l:=lb) (b:=b) (v:=v) (E:=E) (by omega) ?_ ?_ ⟨_,⟨lF _,.slice none 0 0,iI,((aq.one m).new Xj _).cA,No.nil _⟩,by assumption,rfl⟩).mono ?_
  ·rintro k mm⟨m1,⟨_,vo,p,hs,_⟩,hl,rfl⟩
   have iH:cL m (m1.set lb ob):=(hs.sub).trans (aD.bT _ hl);exact⟨iH _ _ hb,hv.sub iH⟩
  ·rintro k mm hk⟨m1,hi,hl,rfl⟩
   exact sI k _ _ m1 hi ⟨hk,rfl,rfl⟩ hl
  ·rintro r m'⟨rfl,m1,⟨_,vo,p,hs,hp⟩,hl,rfl⟩
   rw[aJ]at hp;exact⟨m1,⟨vo,p,hs,hp⟩,hl,rfl⟩
 ·rintro mm⟨vo,p,hs,hp⟩
  refine⟨vo,aF (hs.get (a:=blk1 bo (.cells #[vo] 109)) (by simp) (aG ..)) rfl,hp.ea.one,?_⟩;exact⟨vo,p,rfl,hs.dV 1,hp⟩
theorem J4{m:aD}(hb:m b=some (.cells #[v] 109))(hv:Na m v E)(hl:E.length<=1000000):
  bi tP 280 [l5 335 b] m λr m'=>∃v' p,r=[.v v']/\aq m' [p,m]/\No p v' E:=by
 refine ap Tryz.func280 ?_;refine aP (Fm hb hv hl) ?_;rintro _ m1⟨v',p,rfl,hs,hp⟩;exact⟨v',p,rfl,hs,hp⟩
theorem MG{m:aD}(hS:cK m)(hb:m b=some (.cells #[v] 109))(hv:Na m v E)(hl:E.length<=1000000):
  bi tP 264 [l5 335 b,Aj 224] m λr m'=>∃v' p,r=[.v v']/\aq m' [p,m]/\No p v' (nY E):=by
 refine ap Tryz.func264 ?_;refine aP (J4 hb hv hl) ?_;rintro _ m1⟨v',p,rfl,hs,hp⟩;refine aP (aby (hS.sub (hs.sub)) hs (i:=0) rfl hp (by omega)) ?_;rintro _ m2⟨p1,rfl,bM,xf⟩;exact⟨v',p1,rfl,bM,xf⟩
theorem yb{m:aD}(hS:cK m)(hv:Na m v E)(hl:E.length<=1000000):
  bi tP 176 [.v v] m λr m'=>∃v' p,r=[.v v']/\aq m' [p,m]/\No p v' (nY E):=by
 obtain⟨a,c,rfl⟩:=hv.shape;refine ap Tryz.func176 ?_;refine aP (Mu (v:=.slice a E.length c) rfl) ?_;rintro _ m1⟨b,hb,rfl,rfl⟩;have hs:=(aq.one m).new hb (.cells #[.slice a E.length c] 109);refine aP (MG (hS.sub (hs.sub)) (aD.bg ..) (hv.sub (hs.sub)) hl) ?_;rintro _ m2⟨v',p,rfl,bZ,hp⟩;exact⟨v',p,rfl,(aq.aeR bZ hs).dV 1,hp⟩
variable{c:Nat}
theorem amd{m:aD}{o n:Nat}{arr:Array Value}{te:TypeId}(hb:m b=some (.cells arr te))(hn:0<n)(jH:o+n*2<=arr.size):
  bF tP (.builtin .clear [50]) [.v (.slice (some ⟨b,o,none⟩) n c)] m λr m'=>r=[]/\∃zs,zs.length=n*2/\(∀u∈zs,u.oneCell'=true)/\m'=m.set b (.cells (arr.toList.take o++zs++arr.toList.drop (o+n*2)).toArray te):=
 qw (P:=tP) eR tyD.h1 tyD.h2 tyD.h3 rfl (by rw[tyD.hz];exact tyD.ok.one _) (c:=c) hb hn jH
theorem DA:ltOf VJ=qY:=by
 funext a b
 unfold ltOf VJ
 grind
theorem aae{a b:Dt}:qY a b=true↔a.1<b.1\/(a.1=b.1/\a.2<b.2):=by simp[qY]
theorem D9{a b:Dt}:qY a b=false↔¬(a.1<b.1\/(a.1=b.1/\a.2<b.2)):=by simp[qY]
theorem aad:Go.Sort.SWO qY where
 irrefl x:=by rw[D9];omega
 trans x y z h1 h2:=by rw[aae]at*;omega
 ntrans x y z h1 h2:=by rw[D9]at*;omega
theorem Sj{x y:Dt}(h1:qY x y=false)(h2:qY y x=false):x=y:=by
 rw[D9]at h1 h2
 grind
variable{E:List Dt}
theorem abz{m:aD}{l:List aD}(hS:cK m)(hs:aq m l)(hi:l[i]?=some p)  (hv:Do p v E) (hl:E.length<=1000000000):
  bi tP 390 [.v v,Aj 391] m λr m'=>∃p',r=[]/\aq m' (l.set i p')/\Do p' v (uP E):=by
 have h:=Yz (cf:=VJ) (by rw[DA];exact aad) (by rw[DA];exact λx y=>Sj) (g:=391) (λx y=>P9.mono λr m' h=>h.1) hS hs hi hv hl;rw[DA]at h;exact h
theorem yR(a b:Dt)(r:List Dt):gL (a::b::r)=if a=b then gL (b::r)else a::gL (b::r):=by rw[gL]
theorem Mb(a:Dt):gL [a]=[a]:=rfl
theorem Br:∀(l:List Dt) (y x:Dt),gL (l++[y,x])=if y=x then gL (l++[y])else gL (l++[y])++[x]
 |[],y,x=>by
  show gL [y,x]=if y=x then gL [y]else gL [y]++[x]
  rw[yR,Mb,Mb];by_cases h:y=x
  ·rw[aC h,aC h,h]
  ·rw[if_neg h,if_neg h];rfl
 |[a],y,x=>by
  have ih:gL [y,x]=if y=x then gL [y]else gL [y]++[x]:=Br [] y x
  show gL (a::y::[x])=if y=x then gL (a::y::[])else gL (a::y::[])++[x]
  rw[yR a y [x],yR a y []];by_cases h:a=y
  ·rw[aC h,aC h];exact ih
  ·rw[if_neg h,if_neg h,ih];split<;>rfl
 |a::b::r,y,x=>by
  have ih:gL (b::(r++[y,x]))=if y=x then gL (b::(r++[y]))else gL (b::(r++[y]))++[x]:=Br (b::r) y x
  show gL (a::b::(r++[y,x]))=if y=x then gL (a::b::(r++[y]))else gL (a::b::(r++[y]))++[x]
  rw[yR a b (r++[y,x]),yR a b (r++[y])];by_cases h:a=b
  ·rw[aC h,aC h];exact ih
  ·rw[if_neg h,if_neg h,ih];split<;>rfl
theorem abt(h:i+1<E.length):E.take (i+2)=E.take i++[E[i],E[i+1]]:=by
 rw[au h,au (by omega:i<E.length),aX];rfl
theorem IF(h:i+1<E.length):gL (E.take (i+2))=if E[i]=E[i+1]then gL (E.take (i+1))else gL (E.take (i+1))++[E[i+1]]:=by
 rw[abt h,Br,au (by omega:i<E.length)]
theorem EZ:∀{E:List Dt},E.length<2->gL E=E
 |[],_=>rfl
 |[a],_=>rfl
 |a::b::r,h=>by simp at h;omega
theorem J2{mm m:aD}(hs:aq mm [p,m])(hv:Do p v E)(hl:E.length<=10000000):
  bi tP 392 [.v v] mm λr m'=>∃v' p',r=[.v v']/\aq m' [p',m]/\Do p' v' (gL E):=by
 obtain⟨a,c,rfl⟩:=hv.el.shape;refine c7 aC9 Tryz.func392 ?_;apply bI<;>intro h
 ·have h':=ah h
  exact⟨_,p,rfl,hs,by rw[EZ (by omega)];exact hv⟩
 have h2:2<=E.length:=by have:=aj h;omega
 obtain⟨bl,ol,c',hh,hg⟩:=hv.el.ea.real (i:=0) (by omega);injection hh with eK _ fN;subst eK;have yA:E.length<=c:=(jD.row hv).choose_spec.2.2.1;refine .mk (ι:=Nat) (λk=>E.length-k) (λk mm'=>1<=k/\k<=E.length/\gL (E.take k)=E.take k/\mm'=mm) (λk=>[(0,.c (.v (.slice (some ⟨bl,ol,none⟩) E.length c))),(3,.c (i64 k))]) (λ_=>[]) 1 ⟨by omega,by omega,EZ (by rw[aK];omega),rfl⟩ ?_ ?_
 ·exact Cr
 rintro k mm'⟨U6,hk,hcd,he⟩;subst mm';apply bI<;>intro h;rotate_left
 ·have h':=aj h
  obtain rfl:k=E.length:=by omega
  rw[aJ]at hcd;exact⟨_,p,rfl,hs,by rw[hcd];exact hv⟩
 have h':=ah h;have bH:k<E.length:=by omega
 have iH:cL p mm:=hs.sub (by simp);have Ag:=(hg k bH).sub iH;have wA:=(hg (k-1) (by omega)).sub iH;have ew:IntKind.i64.wrap ((k:Int)-1)=((k-1:Nat):Int):=by rw[wi];omega
 have dI:=IF (E:=E) (i:=k-1) (by omega);have Fb:k-1+1=k:=by omega
 have HQ:k-1+2=k+1:=by omega
 simp only[Fb,HQ]at dI
 repeat refine xS ?_
 refine⟨[.one (.int .i64 E[k].1),.one (.int .u64 E[k].2)],⟨rfl,rfl,trivial⟩,rfl,by simp only[bK,aA];exact Ag,?_⟩;conv=>whnf
 rw[ew]
 repeat refine xS ?_
 refine⟨[.one (.int .i64 (E[k-1]'(by omega)).1),.one (.int .u64 (E[k-1]'(by omega)).2)],⟨rfl,rfl,trivial⟩,rfl,by simp only[bK,aA];exact wA,?_⟩;conv=>whnf
 rw[al4];apply bI<;>intro h;rotate_left
 ·have ga:¬E[k-1]'(by omega)=E[k]:=λe=>by rw[e]at h;simp at h
  rw[if_neg ga,hcd,<-au bH]at dI;refine⟨k+1,⟨by omega,by omega,dI,rfl⟩,by omega,?_⟩;exact Cr
 have NV:E[k]=E[k-1]'(by omega):=ah h;rw[aC NV.symm,hcd]at dI
 repeat refine xS ?_
 intro o' q1 q2;obtain rfl:o'=ol+k*2:=by simpa [bK]using q1 (by omega)
 have ek:(k:Int).toNat=k:=by omega
 conv=>whnf
 rw[ek]
 refine .mk (ι:=Nat×Nat) (λi=>E.length-i.2) (λ⟨i,j⟩ mm'=>∃p Z,aq mm' [p,m]/\Do p (.slice (some ⟨bl,ol,none⟩) E.length c) Z/\Z.take i=gL (E.take (k+j))/\Z.drop (k+j-1)=E.drop (k+j-1)/\i<=k+j-1/\1<=j/\k+j<=E.length)
  (λ⟨i,j⟩=>[(0,.c (.v (.slice (some ⟨bl,ol,none⟩) E.length c))),(3,.c (i64 i)),(4,.c (.v (.slice (some ⟨bl,ol+k*2,none⟩) (E.length-k) (c-k)))),(5,.c (i64 j))]) (λ_=>[]) (k,1) ⟨p,E,hs,hv,dI.symm,rfl,by omega,by omega,by omega⟩ ?_ ?_
 ·exact Cr
 rintro⟨i,j⟩ mm' ⟨p,Z,hs,hZ,ht,hd,ZD,LR,hj⟩;have hZl:Z.length=E.length:=(jD.row hZ).choose_spec.2.1;apply bI<;>intro h
 ·have h':=ah h
  have bH:k+j<E.length:=by omega
  have hZE:∀x (hx:x<E.length),k+j-1<=x->Z[x]'(by omega)=E[x]:=λx hx Be=>by
   have:=be (λl:List Dt=>l[x-(k+j-1)]?) hd;simp only[cT,show k+j-1+(x-(k+j-1))=x by omega]at this;rw[az (by omega),az hx]at this;exact eL this
  obtain⟨OY,ol',c',hh,hg⟩:=hZ.el.ea.real (i:=0) (by omega);injection hh with eK _ fN;injection eK with eK;injection eK with kW I8;subst kW;subst I8;have iH:cL p mm':=hs.sub (by simp);have Ag:=(hg (k+j) (by omega)).sub iH;have wA:=(hg (k+j-1) (by omega)).sub iH;rw[hZE _ bH (by omega)]at Ag;rw[hZE _ (by omega) (by omega)]at wA;have dI:=IF (E:=E) (i:=k+j-1) (by omega);have Fb:k+j-1+1=k+j:=by omega
  have HQ:k+j-1+2=k+(j+1):=by omega
  simp only[Fb,HQ]at dI
  have LW:Z.drop (k+j)=E.drop (k+j):=by
   have:=be (List.drop 1) hd;rw[dU,dU,Fb]at this;exact this
  have ew:IntKind.i64.wrap ((j:Int)-1)=((j-1:Nat):Int):=by rw[wi];omega
  have eo1:ol+k*2+j*2=ol+(k+j)*2:=by omega
  have eo0:ol+k*2+(j-1)*2=ol+(k+j-1)*2:=by omega
  generalize hx:E[k+j]=x at Ag dI;generalize hy:E[k+j-1]'(by omega)=y at wA dI
  repeat refine xS ?_
  refine⟨[.one (.int .i64 x.1),.one (.int .u64 x.2)],⟨rfl,rfl,trivial⟩,rfl,by simp only[bK,aA,eo1];exact Ag,?_⟩;conv=>whnf
  rw[ew]
  repeat refine xS ?_
  refine⟨[.one (.int .i64 y.1),.one (.int .u64 y.2)],⟨rfl,rfl,trivial⟩,rfl,by simp only[bK,aA,eo0];exact wA,?_⟩;conv=>whnf
  rw[aq1];apply bI<;>intro h
  ·have ga:¬y=x:=λe=>by rw[e]at h;simp at h
   rw[if_neg ga]at dI
   repeat refine xS ?_
   refine⟨[.one (.int .i64 x.1),.one (.int .u64 x.2)],⟨rfl,rfl,trivial⟩,rfl,by simp only[bK,aA,eo1];exact Ag,?_⟩
   repeat refine xS ?_
   obtain⟨arr,k1,k2,k3⟩:=jD.set hZ (i:=i) (by omega) x;refine⟨arr,_,_,hs.sub (a:=p) (by simp) _ _ k1,⟨by simp only[bK,aA];exact k2,Jz⟩,?_⟩;have bZ:=hs.set k1 (.cells (arr.toList.take (ol+i*2)++(tm x++arr.toList.drop (ol+i*2+2))).toArray 49);simp only[bK,aA];have U6:IntKind.i64.wrap ((i:Int)+1)=((i+1:Nat):Int):=qJ (by omega);refine⟨(i+1,j+1),⟨_,Z.set i x,bZ,k3,?_,?_,by omega,by omega,by omega⟩,by simp only;omega,?_⟩
   ·rw[dI,<-ht,au (by rw[fc];omega),jq,List.take_set_of_le (by omega)]
   ·rw[show k+(j+1)-1=k+j by omega,km (by omega)];exact LW
   ·exact Cr
  ·have NV:y=x:=by simp at h;exact h.symm
   rw[aC NV]at dI;refine⟨(i,j+1),⟨p,Z,hs,hZ,by rw[dI];exact ht,by rw[show k+(j+1)-1=k+j by omega];exact LW,by omega,by omega,by omega⟩,by simp only;omega,?_⟩;exact Cr
 ·have h':=aj h
  have hje:k+j=E.length:=by omega
  rw[hje,aJ]at ht;obtain⟨arr,k1,k2,k3,k4,k5⟩:=jD.row hZ;have ei:(i:Int).toNat=i:=by omega
  repeat refine xS ?_
  intro o' q1 q2;have ho:o'=ol+i*2:=by simpa [bK]using q1 (by omega)
  subst ho;conv=>whnf
  rw[ei];refine .mk _ (amd (hs.sub (a:=p) (by simp) _ _ k1) (by omega) (by omega)) ?_;rintro _ m'⟨rfl,zs,QY,hz2,rfl⟩;have bZ:=hs.set k1 (.cells (arr.toList.take (ol+i*2)++zs++arr.toList.drop (ol+i*2+(E.length-i)*2)).toArray 49)
  repeat refine xS ?_
  intro o' q1 q2;obtain rfl:o'=ol:=by have:=q1 (by omega);simpa [bK]using this
  conv=>whnf
  rw[ei];refine⟨_,_,rfl,bZ,?_⟩;rw[<-ht];refine jD.mk' (aD.bg ..) (by rw[aK];omega) (by omega) ?_ λj u hu=>?_
  ·simp only[dM,ax,aK,cC,cq,QY];omega
  ·have EN:=(aQ.1 hu).1
   rw[jD.wC,aK]at EN;have Re:o'+j<o'+i*2:=by have:=cS 2 (Nat.min_le_left i Z.length);omega
   rw[<-jD.take,bN]at hu
   split at hu
   ·have:=k5 j u hu
    rw[bz,aX,aT (by rw[aK,cq];omega),bN,aC Re,bU];exact this
   ·cases hu
theorem aeG(l:List Dt):(gL (uP (l.filter jm))).length<=l.length:=by
 have h1:=Mc (uP (l.filter jm))
 have h2:(uP (l.filter jm)).length<=l.length:=by
  unfold uP;rw[eW];exact bC ..
 omega
theorem YB{m:aD}(hS:cK m)(hb:m b=some (.cells #[v] 50))(hv:Da m v E)(hl:E.length<=1000000):
  bi tP 363 [l5 393 b] m λr m'=>∃v' p,r=[.v v']/\aq m' [p,m]/\Do p v' (TW E):=by
 refine c7 aDe Tryz.func363 ?_;intro bo Xj
 refine .mk 393 #[.pointer (some ⟨b,0,none⟩)] rfl rfl rfl (ι:=Nat)
  (λk mm=>k<=E.length/\∃vo p,aq mm [p,blk1 bo (.cells #[vo] 50),m]/\Do p vo ((E.take k).filter jm)) 0 ⟨by omega,.slice none 0 0,iI,((aq.one m).new Xj _).cA,Do.nil _⟩
  (λk x j=>∃h:k<E.length,x=[Dv E[k]]/\j=k+1) (λk x j ⟨_,h1,_⟩=>by subst h1;rfl) ?_
  (λmm=>∃vo p,aq mm [p,blk1 bo (.cells #[vo] 50),m]/\Do p vo (E.filter jm)) ?_ ?_
 ·rintro k _ _ mm⟨hk,vo,p,hs,hp⟩ ⟨bH,rfl,rfl⟩
  have dI:E.take (k+1)=E.take k++[E[k]]:=au bH;generalize E[k]=x at dI;intro b4 OV;refine⟨_,_,_,aD.bg ..,⟨aW 2,Jz⟩,?_⟩;rw[BM (by rfl)];have eP:=hs.new OV (.cells (tm x).toArray 49)
  change aq (mm.set b4 (.cells (LB.cz [.one (.int .i64 x.1),.one (.int .u64 x.2)]).toArray 49)) _ at eP
  generalize mm.set b4 (.cells (LB.cz [.one (.int .i64 x.1),.one (.int .u64 x.2)]).toArray 49)=m2 at eP⊢;have hr4:dQ m2 b4 0 (tm x):=⟨_,_,_,eP.get (a:=blk1 b4 (.cells (tm x).toArray 49)) (by simp) (aG ..),λj u hu=>by rw[cD,bz];exact hu⟩;refine⟨[.one (.int .i64 x.1),.one (.int .u64 x.2)],⟨rfl,rfl,trivial⟩,rfl,hr4,?_⟩;refine bt (Eo (n:=x.1) (k:=x.2)) ?_;apply bI<;>intro h
  ·have hx:jm x=true:=h
   refine⟨_,aF (eP.get (a:=blk1 bo (.cells #[vo] 50)) (by simp) (aG ..)) rfl,hp.ea.one,?_⟩;refine⟨[.one (.int .i64 x.1),.one (.int .u64 x.2)],⟨rfl,rfl,trivial⟩,rfl,hr4,?_⟩;refine .mk _ (XE (e:=x)) ?_;rintro _ _⟨b5,mo,rfl,rfl⟩;have hfl:((E.take k).filter jm).length<=E.length:=by have h1:=bC jm (E.take k);rw[aK]at h1;omega
   refine .mk _ (ai5 (i:=1) eP rfl mo hp (by omega)) ?_;rintro _ m6⟨vo',p',rfl,gC,tZ⟩;refine⟨_,_,_,gC.get (a:=blk1 bo (.cells #[vo] 50)) (by simp) (aG ..),⟨by simp,by simp⟩,?_⟩;have iU:=gC.gu (i:=2) rfl (aG ..) (.cells #[vo'] 50);rw[cJ]at iU;refine⟨by omega,vo',p',iU.drop,?_⟩;rw[dI,aaB,List.filter_cons_of_pos hx];exact tZ
  ·have hx:¬jm x=true:=by have:jm x=false:=h;rw[this];simp
   refine⟨by omega,vo,p,eP.drop,?_⟩;rw[dI,aaB,List.filter_cons_of_neg hx];simpa using hp
 ·intro lb ob _ sI
  refine(Jn (I:=λk mm=>∃m1,(k<=E.length/\∃vo p,aq m1 [p,blk1 bo (.cells #[vo] 50),m]/\Do p vo ((E.take k).filter jm))/\m1 lb=none/\mm=m1.set lb ob) (l:=lb) (b:=b) (v:=v) (E:=E) (by omega) ?_ ?_ ⟨_,⟨lF _,.slice none 0 0,iI,((aq.one m).new Xj _).cA,Do.nil _⟩,by assumption,rfl⟩).mono ?_
  ·rintro k mm⟨m1,⟨_,vo,p,hs,_⟩,hl,rfl⟩
   have iH:cL m (m1.set lb ob):=(hs.sub).trans (aD.bT _ hl);exact⟨iH _ _ hb,hv.sub iH⟩
  ·rintro k mm hk⟨m1,hi,hl,rfl⟩
   exact sI k _ _ m1 hi ⟨hk,rfl,rfl⟩ hl
  ·rintro r m'⟨rfl,m1,⟨_,vo,p,hs,hp⟩,hl,rfl⟩
   rw[aJ]at hp;exact⟨m1,⟨vo,p,hs,hp⟩,hl,rfl⟩
 ·rintro mm⟨vo,p,hs,hp⟩
  have hfl:(E.filter jm).length<=E.length:=bC ..;refine⟨vo,aF (hs.get (a:=blk1 bo (.cells #[vo] 50)) (by simp) (aG ..)) rfl,hp.ea.one,?_⟩;refine aP (abz (hS.sub (hs.sub)) hs (i:=0) rfl hp (by omega)) ?_;rintro _ m1⟨p1,rfl,bM,xf⟩;refine⟨vo,aF (bM.get (a:=blk1 bo (.cells #[vo] 50)) (by simp) (aG ..)) rfl,hp.ea.one,?_⟩;have W9:(uP (E.filter jm)).length=(E.filter jm).length:=by unfold uP;exact eW _
  obtain⟨J,hJ,hsJ,oF⟩:=aq.aoN bM;refine aP (J2 hsJ xf (by omega)) ?_;rintro _ m2⟨v2,p2,rfl,atY,lE⟩;have bZ:aq m2 [p2,blk1 bo (.cells #[vo] 50),m]:=oF _ _ atY;refine⟨_,_,_,bZ.get (a:=blk1 bo (.cells #[vo] 50)) (by simp) (aG ..),⟨by simp,by simp⟩,?_⟩;have dy:=bZ.gu (i:=1) rfl (aG ..) (.cells #[v2] 50);rw[cJ]at dy;have dy:aq (m2.set bo (.cells #[v2] 50)) [p2,blk1 bo (.cells #[v2] 50),m]:=dy;have ebo:(m2.set bo (.cells #[v2] 50)) bo=some (.cells #[v2] 50):=aD.bg ..;have hle:=aeG E;have jG:TW E=(gL (uP (E.filter jm))).take 2000:=rfl;rw[jG];generalize gL (uP (E.filter jm))=L at lE hle;obtain⟨a2,c2,rfl⟩:=lE.el.shape;refine xM ebo ?_;refine xM ebo ?_;conv=>whnf
  have ah5:min (L.length:Int) 2000=((min L.length 2000:Nat):Int):=by omega
  rw[ah5]
  cases a2 with
  |none=>
   have hL:L=[]:=by
    rcases lE with⟨e,h⟩|⟨b',o',c',n',arr,e,_⟩
    ·exact cB (jD.count (n:=0) (by rw[h];rfl))
    ·cases e
   subst hL
   have hc2:c2=0:=by
    rcases lE with⟨e,h⟩|⟨b',o',c',n',arr,e,_⟩
    ·injection e
    ·cases e
   subst hc2;rw[show((min ([]:List Dt).length 2000:Nat):Int)=0 from rfl]
   repeat refine xS ?_
   exact⟨_,p2,rfl,dy.dV 1,.inl ⟨rfl,rfl⟩⟩
  |some a2=>
   obtain⟨b9,o9,e9⟩:=(show ∃b o,a2=⟨b,o,none⟩ by
    rcases lE with⟨e,h⟩|⟨b',o',c',n',arr,e,_⟩
    ·cases e
    ·injection e with e;injection e with e;exact⟨_,_,e⟩)
   subst e9;obtain⟨arr,r1,r2,r3,r4,r5⟩:=jD.row lE
   repeat refine xS ?_
   intro o' q1 q2
   obtain rfl:o'=o9:=by
    by_cases h0:c2=0
    ·exact q2 h0
    ·have:=q1 h0;simpa using this
   have aqn:=jD.cut lE (i:=min L.length 2000) (by omega)
   have et:L.take (min L.length 2000)=L.take 2000:=by
    by_cases h0:L.length<=2000
    ·rw[bP (by omega),bP h0]
    ·rw[Nat.min_eq_right (by omega)]
   rw[et]at aqn;refine⟨_,p2,rfl,dy.dV 1,?_⟩;simp only[aA,aiH];exact aqn
theorem acu{m:aD}(hS:cK m)(hv:Da m v E)(hl:E.length<=1000000):
  bi tP 310 [.v v] m λr m'=>∃v' p,r=[.v v']/\aq m' [p,m]/\Do p v' (TW E):=by
 obtain⟨a,c,rfl⟩:=hv.shape;refine ap Tryz.func310 ?_;refine aP (Mv (v:=.slice a E.length c) rfl) ?_;rintro _ m1⟨b,hb,rfl,rfl⟩;have hs:=(aq.one m).new hb (.cells #[.slice a E.length c] 50);refine aP (YB (hS.sub (hs.sub)) (aD.bg ..) (hv.sub (hs.sub)) hl) ?_;rintro _ m2⟨v',p,rfl,bZ,hp⟩;exact⟨v',p,rfl,(aq.aeR bZ hs).dV 1,hp⟩
abbrev iY(v:List Int)(a:Option Addr)(n c:Nat):CV:=.a [.bG .u64 8 v,.one (.slice a n c)]
theorem awV(u w:List Int):rD [.bG .u64 8 u] [.bG .u64 8 w]=decide (u=w):=by
 rw[nV];simp[rD]
variable{a a':Option Addr}{E K:List En}{u w:List Int}{c':Nat}
theorem vQ{m:aD}(hv:Na m (.slice a E.length c) E)(hw:Na m (.slice a' K.length c') K)(hl:E.length<=100000000):
  eN tP 203 [iY u a E.length c,iY w a' K.length c'] m [bR (decide (u=w)&&decide (E=K))]:=by
 refine ap Tryz.func203 ?_;conv=>whnf
 rw[awV];apply bI<;>intro h
 ·refine bt (RW hv hw hl) ?_
  exact⟨by rw[h];rfl,rfl⟩
 ·exact⟨by rw[h];rfl,rfl⟩
theorem xD{m:aD}{n x y:Int}:eN tP 171 [i64 n,i64 x,i64 y] m [bR (decide (x<=n)&&decide (n<=y))]:=by
 refine ap Tryz.func171 ?_;apply bI<;>intro h
 ·exact⟨by rw[h];rfl,rfl⟩
 ·exact⟨by rw[h];rfl,rfl⟩
abbrev opV(k i q:Int):CV:=.a [.one (.int .i64 k),.one (.int .i64 i),.one (.int .i64 q)]
theorem Hp{m:aD}{k i q:Int}:eN tP 105 [opV k i q] m [bR (E8 k i q)]:=by
 refine ap Tryz.func105 ?_;apply bI<;>intro h
 ·have h4:k=4:=by simpa using h
  refine⟨?_,rfl⟩;subst h4;simp[E8,rD,ceq,qO]
 have h4:¬k=4:=by simpa using h
 have hm:E8 k i q=if ¬(1<=i/\i<=60)then false
   else if k=1 then !decide (q=0)&&decide (-1000<=q/\q<=1000)
   else if k=2 then decide (0<=q/\q<=1000)
   else decide (k=3)&&decide (q=0):=by unfold E8;rw[if_neg h4]
 rw[hm];refine bt (xD) ?_;apply bI<;>intro h
 ·have hi:¬(1<=i/\i<=60):=by simp at h;omega
  exact⟨by rw[aC hi],rfl⟩
 have hi:1<=i/\i<=60:=by simp at h;omega
 rw[if_neg (by simpa using hi)];apply bI<;>intro h
 ·have h1:k=1:=by simpa using h
  rw[aC h1];apply bI<;>intro h
  ·have hq:¬q=0:=by simpa using h
   refine bt (xD) ?_;refine⟨?_,rfl⟩;rw[aY hq];simp
  ·have hq:q=0:=by simpa using h
   exact⟨by rw[bB hq];rfl,rfl⟩
 have h1:¬k=1:=by simpa using h
 rw[if_neg h1];apply bI<;>intro h
 ·have h2:k=2:=by simpa using h
  rw[aC h2];refine bt (xD) ?_;exact⟨by simp,rfl⟩
 have h2:¬k=2:=by simpa using h
 rw[if_neg h2];apply bI<;>intro h
 ·have h3:k=3:=by simpa using h
  exact⟨by rw[bB h3,qO];rfl,rfl⟩
 ·have h3:¬k=3:=by simpa using h
  exact⟨by rw[aY h3];rfl,rfl⟩
theorem NI{m:aD}:eN tP 221 [Nv e] m [bR (UR e)]:=by
 refine ap Tryz.func221 ?_;conv=>whnf
 repeat' (first|(refine⟨λh=>?_,λh=>?_⟩<;>conv=>whnf)|fail)
 all_goals (refine⟨?_,rfl⟩;simp[UR]at*;try omega)
theorem aab(h:i<E.length):(E.take (i+1)).map kz=(E.take i).map kz++[kz E[i]]:=by
 rw[au h,bD];rfl
theorem Lv{m:aD}(hS:cK m)(hv:Na m (.slice a E.length c) E)(hl:E.length<=1000000):
  bi tP 225 [iY u a E.length c] m λr m'=>∃v p,r=[.v v]/\aq m' [p,m]/\Do p v (AD E):=by
 refine ap Tryz.func225 ?_;refine .mk (ι:=Nat×Value) (λi=>E.length-i.1) (λ⟨i,vo⟩ mm=>i<=E.length/\∃p,aq mm [p,m]/\Do p vo ((E.take i).map kz)) (λ⟨i,vo⟩=>[(3,.c (.v vo)),(7,.c (.v (.slice a E.length c))),(8,.c (i64 E.length)),(9,.c (i64 i))]) (λ_=>[]) (0,.slice none 0 0) ⟨by omega,iI,(aq.one m).cA,Do.nil _⟩ ?_ ?_
 ·exact Cr
 rintro⟨i,vo⟩ mm ⟨hi,p,hs,hp⟩;apply bI<;>intro h
 ·have h':=ah h
  have bH:i<E.length:=by omega
  obtain⟨bl,ol,c',hh,hg⟩:=(hv.sub (hs.sub)).real bH;injection hh with eK _ fN;subst eK;have hg:=hg i bH;have dI:=aab bH;generalize E[i]=x at hg dI
  repeat refine xS ?_
  refine⟨[.one (.int .i64 x.1),.one (.int .i64 x.2.1),.one (.int .u64 x.2.2.1),.one (.int .i64 x.2.2.2)],⟨rfl,rfl,rfl,rfl,trivial⟩,rfl,by simp only[bK,aA];exact hg,?_⟩;refine bt (rT (e:=x)) ?_;refine .mk _ (XE (e:=kz x)) ?_;rintro _ _⟨b5,mo,rfl,rfl⟩;refine .mk _ (ai5 (i:=0) hs rfl mo hp (by rw[aH,aK];omega)) ?_;rintro _ m6⟨vo',p',rfl,gC,tZ⟩;refine⟨(i+1,vo'),⟨by omega,p',gC,by rw[dI];exact tZ⟩,by simp only;omega,?_⟩;exact Cr
 ·have h':=aj h
  obtain rfl:i=E.length:=by omega
  rw[aJ]at hp;have hS2:cK mm:=hS.sub (hs.sub);refine aP (acu hS2 (hp.ea.sub (hs.sub (a:=p))) (by rw[aH];omega)) ?_;rintro _ m2⟨v',p',rfl,bZ,lE⟩;exact⟨v',p',rfl,(aq.under (a:=[p']) bZ hs).dV 1,lE⟩
theorem PO{m:aD}(hS:cK m)(hv:Na m (.slice a E.length c) E)(hI:∀e∈E,CS e)(hl:E.length<=1000000):
  bi tP 141 [iY u a E.length c] m λr m'=>r=[bR (dA u E)]/\cL m m':=by
 have NX:∀i,i<E.length->Up u E i=false->dA u E=false:=λi hi e=>by
  have:(List.range E.length).all (Up u E)=false:=by
   rw[uI];exact⟨i,dS.2 hi,by rw[e];decide⟩
  rw[dA,this];simp
 refine c7 awK Tryz.func141 ?_;apply bI<;>intro h
 ·have h':400<E.length:=by have:=ah h;omega
  exact⟨by rw[dA,aY (by omega)];rfl,cL.refl _⟩
 have h4:E.length<=400:=by have:=aj h;omega
 refine .mk (ι:=Nat) (λi=>E.length-i) (λi mm=>i<=E.length/\(∀j,j<i->Up u E j=true)/\cL m mm) (λi=>[(1,.p 0 0),(10,.c (.v (.slice a E.length c))),(11,.c (i64 E.length)),(12,.c (i64 i))]) (λ_=>[(111,[.bG .u64 8 u,.one (.slice a E.length c)])]) 0 ⟨by omega,by omega,cL.refl _⟩ ?_ ?_
 ·exact Cr
 rintro i mm⟨hi,cM,hs⟩;apply bI<;>intro h
 ·have h':=ah h
  have bH:i<E.length:=by omega
  obtain⟨bl,ol,c',hh,hg⟩:=hv.real bH;injection hh with eK _ fN;subst eK;have js:=hg i bH;rw[On bH]at js;have ez:Up u E i=(UR (Z8 E i)&&Bi u (kz (Z8 E i))&&(decide (i=0)||aaO (Z8 E (i-1)) (Z8 E i))):=rfl;have ox:=hg (i-1) (by omega);rw[On (by omega)]at ox;have Xk:=NX i bH;have hIx:=hI _ (ah6 bH);generalize Z8 E i=x at js ez hIx
  repeat refine xS ?_
  refine⟨[.one (.int .i64 x.1),.one (.int .i64 x.2.1),.one (.int .u64 x.2.2.1),.one (.int .i64 x.2.2.2)],⟨rfl,rfl,rfl,rfl,trivial⟩,rfl,by simp only[bK,aA];exact js.sub hs,?_⟩;refine bt (NI (e:=x)) ?_;by_cases hx:UR x=true;rotate_left
  ·have hx0:UR x=false:=by simpa using hx
   rw[hx0]at ez⊢;refine xY ?_;exact⟨by rw[Xk ez],hs⟩
  rw[hx]at ez⊢;refine xN ?_;refine fU (rT (e:=x)) ?_;refine bt (HX (v:=u) (n:=x.2.1) (k:=x.2.2.1) hIx.2.1) ?_;have hhv:(uw x.2.1 x.2.2.1&&decide (x.2.2.1<=tk u x.2.1))=Bi u (kz x):=rfl;rw[hhv];by_cases hh:Bi u (kz x)=true;rotate_left
  ·have hh0:Bi u (kz x)=false:=by simpa using hh
   rw[hh0]at ez⊢;refine xY ?_;exact⟨by rw[Xk ez],hs⟩
  rw[hh]at ez⊢;refine xN ?_;apply bI<;>intro h1
  ·have jc:=ah h1
   have ew:IntKind.i64.wrap ((i:Int)-1)=((i-1:Nat):Int):=by rw[wi];omega
   rw[aY (show ¬i=0 by omega),nW,bj,bj]at ez;conv=>whnf
   rw[ew]
   repeat refine xS ?_
   generalize Z8 E (i-1)=y at ox ez;refine⟨[.one (.int .i64 y.1),.one (.int .i64 y.2.1),.one (.int .u64 y.2.2.1),.one (.int .i64 y.2.2.2)],⟨rfl,rfl,rfl,rfl,trivial⟩,rfl,by simp only[bK,aA];exact ox.sub hs,?_⟩;refine aP (ES (a:=y) (b:=x)) ?_;rintro _ m3⟨rfl,dy⟩
   try refine⟨λ_ h=>(by cases h),?_⟩
   conv=>whnf
   have hm3:cL m m3:=hs.trans dy
   have HS:decide (0<=VC y x)= !aaO y x:=by
    unfold aaO;by_cases adL:VC y x<0
    ·rw[bB adL,aY (by omega)];rfl
    ·rw[aY adL,bB (by omega)];rfl
   rw[HS];apply bI<;>intro h2
   ·have iD:aaO y x=false:=by simpa using h2
    rw[iD]at ez;exact⟨by rw[Xk ez],hm3⟩
   ·have iD:aaO y x=true:=by simpa using h2
    rw[iD]at ez;refine⟨i+1,⟨by omega,λj hj=>?_,hm3⟩,by omega,?_⟩
    ·by_cases e:j=i
     ·subst e;exact ez
     ·exact cM j (by omega)
    ·exact Cr
  ·have jc:=aj h1
   rw[bB (show i=0 by omega)]at ez;refine⟨i+1,⟨by omega,λj hj=>?_,hs⟩,by omega,?_⟩
   ·by_cases e:j=i
    ·subst e;rw[ez];rfl
    ·exact cM j (by omega)
   ·exact Cr
 ·have h':=aj h
  obtain rfl:i=E.length:=by omega
  have lD:=hv.sub hs;refine aP (Lv (u:=u) (hS.sub hs) lD hl) ?_;rintro _ m2⟨v',p',rfl,bZ,lE⟩
  try refine⟨λ_ h=>(by cases h),?_⟩
  obtain⟨a',c',rfl⟩:=lE.el.shape;refine⟨?_,hs.trans (bZ.sub)⟩;have aqD:(List.range E.length).all (Up u E)=true:=bL.2 λj hj=>cM j (dS.1 hj);rw[dA,aqD,bB h4];simp only[bj];rw[qO];have e:decide (((AD E).length:Int)=(E.length:Int))=decide ((AD E).length=E.length):=fF.2 (by omega);rw[e]
theorem pV{m:aD}(hS:cK m)(hv:Na m (.slice a E.length c) E)(hI:∀e∈E,CS e)(hl:E.length<=1000000):
  eN tP 141 [iY u a E.length c] m [bR (dA u E)]:=(PO hS hv hI hl).ret λ_ _ h=>h
theorem Su{m:aD}{f:En}(hb:m b=some (.cells (qp e).toArray 168)):eN tP 346 [Nv f,cx b] m [bR (!decide (e=f)&&decide (kz e=kz f))]:=by
 have hr:dQ m b 0 (qp e):=⟨_,_,_,hb,λj u hu=>by rw[cD,bz];exact hu⟩;refine c7 aDg Tryz.func346 ?_;refine⟨[.one (.int .i64 e.1),.one (.int .i64 e.2.1),.one (.int .u64 e.2.2.1),.one (.int .i64 e.2.2.2)],⟨rfl,rfl,rfl,rfl,trivial⟩,rfl,hr,?_⟩;conv=>whnf
 rw[ajO];apply bI<;>intro h
 ·have h':=ah h
  refine⟨[.one (.int .i64 e.1),.one (.int .i64 e.2.1),.one (.int .u64 e.2.2.1),.one (.int .i64 e.2.2.2)],⟨rfl,rfl,rfl,rfl,trivial⟩,rfl,hr,?_⟩;refine fU (rT (e:=e)) ?_;refine bt (rT (e:=f)) ?_;refine⟨?_,rfl⟩;rw[al4,aY h'];rfl
 ·have h':=aj h
  refine⟨?_,rfl⟩;have:e=f:=by simpa using h'
  rw[bB this];rfl
theorem Sv{m:aD}(hw:w.length=8)(hb:m b=some (.cells (LB.cz [.bG .u64 8 w,.one (.slice a K.length c)]).toArray 111))(hv:Na m (.slice a K.length c) K)(hl:K.length<=100000000):
  eN tP 345 [Nv e,cx b] m [bR (OA K e)]:=by
 refine bi.ret (R:=λr m'=>r=[bR (OA K e)]/\cL m m') ?_ λ_ _ h=>h;refine c7 av2 Tryz.func345 ?_;intro b2 oM;have hs:=aD.bT (.cells (qp e).toArray 168) oM
 have oY:gR (m.set b2 (.cells (qp e).toArray 168)) b 8=some (.slice a K.length c):=aF (hs _ _ hb) (by
  rw[bz]
  simp[LB.cz,eB.cells,hw])
 refine⟨_,oY,rfl,?_⟩;refine .mk _ (df (cs:=[.pointer (some ⟨b2,0,none⟩)]) (by simp[Value.oneCell'])) ?_;rintro _ _⟨rfl,rfl⟩;refine bt (w9 (p:=λf=>!decide (e=f)&&decide (kz e=kz f)) (hv.sub hs) (λf _=>Su (aD.bg ..)) hl) ?_;exact⟨rfl,hs⟩
theorem VM{m:aD}(hw8:w.length=8)(hv:Na m (.slice a E.length c) E)(hw:Na m (.slice a' K.length c') K)(hl:E.length<=100000000)(Xc:K.length<=100000000):
  eN tP 278 [iY u a E.length c,iY w a' K.length c'] m [bR (yS E K)]:=by
 refine bi.ret (R:=λr m'=>r=[bR (yS E K)]/\cL m m') ?_ λ_ _ h=>h;refine c7 aDl Tryz.func278 ?_;intro b3 Ah;have hs:=aD.bT (.cells (LB.cz [.bG .u64 8 w,.one (.slice a' K.length c')]).toArray 111) Ah;refine .mk _ (df (cs:=[.pointer (some ⟨b3,0,none⟩)]) (by simp[Value.oneCell'])) ?_;rintro _ _⟨rfl,rfl⟩;refine bt (w9 (p:=OA K) (hv.sub hs) (λf _=>Sv hw8 (aD.bg ..) (hw.sub hs) Xc) hl) ?_;exact⟨rfl,hs⟩
theorem JH{m:aD}{x:En}(hv:Na m v E)(hl:E.length<=100000000):eN tP 386 [.v v,Nv x] m [i64 (sH (λy=>decide (x=y)) E)]:=by
 obtain⟨a,c,rfl⟩:=hv.shape;refine c7 aDa Tryz.func386 ?_;refine .mk (ι:=Nat) (λi=>E.length-i) (λi mm=>i<=E.length/\(∀y∈E.take i,decide (x=y)=false)/\mm=m) (λi=>[(0,.c (.v (.slice a E.length c))),(3,.p 0 0),(7,.c (i64 E.length)),(8,.c (i64 i))]) (λ_=>[(168,[.one (.int .i64 x.1),.one (.int .i64 x.2.1),.one (.int .u64 x.2.2.1),.one (.int .i64 x.2.2.2)])]) 0 ⟨by omega,by simp,rfl⟩ ?_ ?_
 ·exact Cr
 rintro i mm⟨hi,cM,he⟩;subst mm;apply bI<;>intro h
 ·have h':=ah h
  have bH:i<E.length:=by omega
  obtain⟨bl,ol,c',hh,hg⟩:=hv.real bH;injection hh with eK _ fN;subst eK;have hg:=hg i bH;have dI:E.take (i+1)=E.take i++[E[i]]:=au bH
  repeat refine xS ?_
  refine⟨[.one (.int .i64 E[i].1),.one (.int .i64 E[i].2.1),.one (.int .u64 E[i].2.2.1),.one (.int .i64 E[i].2.2.2)],⟨rfl,rfl,rfl,rfl,trivial⟩,rfl,by simp only[bK,aA];exact hg,?_⟩;conv=>whnf
  rw[aq0];apply bI<;>intro h
  ·exact⟨by rw[tW bH cM h],rfl⟩
  ·refine⟨i+1,⟨by omega,λy hy=>?_,rfl⟩,by omega,?_⟩
   ·rw[dI]at hy
    rcases aR.1 hy with hy|hy
    ·exact cM y hy
    ·rw[aL.1 hy];exact h
   ·exact Cr
 ·have h':=aj h
  obtain rfl:i=E.length:=by omega
  rw[aJ]at cM;exact⟨by rw[nL cM],rfl⟩
theorem J0(x:En)(E:List En):(E.any λy=>decide (x=y))=E.contains x:=by
 grind
theorem Eb{m:aD}{x:En}(hv:Na m v E)(hl:E.length<=100000000):eN tP 348 [.v v,Nv x] m [bR (E.contains x)]:=by
 obtain⟨a,c,rfl⟩:=hv.shape;refine ap Tryz.func348 ?_;refine bt (JH hv hl) ?_;exact⟨by rw[tV,J0],rfl⟩
abbrev aea(F b b2 b3:Nat):CV:=.v (.func (.func F) #[] #[.pointer (some ⟨b,0,none⟩),.pointer (some ⟨b2,0,none⟩),.pointer (some ⟨b3,0,none⟩)])
abbrev mE(u:List Int)(a:Option Addr)(n c:Nat):Obj:=.cells (LB.cz [.bG .u64 8 u,.one (.slice a n c)]).toArray 111
abbrev yW(x:Bool):Obj:=.cells #[.bool x] 4
theorem ZT{α:Type}{p:α->Bool}{E:List α}(hi:i<E.length)(h:p E[i]=true):∃hk:((E.take i).filter p).length<(E.filter p).length,(E.filter p)[((E.take i).filter p).length]=E[i]:=by
 have e:E.filter p=(E.take i).filter p++E[i]::(E.drop (i+1)).filter p:=by
  conv=>lhs;rw[<-dL i E,aaB,qD hi,List.filter_cons,aC h]
 grind
theorem RB{α:Type}{p:α->Bool}{E:List α}(hi:i<E.length):((E.take (i+1)).filter p).length=((E.take i).filter p).length+if p E[i]then 1 else 0:=by
 rw[au hi,aaB,ax]
 grind
theorem Gq{m:aD}{n n':Nat}{both:Bool}:bi tP 281 [iY u a n c,iY w a' n' c',bR both] m λr m'=>∃b3 b4 b5,r=[aea 347 b3 b5 b4]/\aq m' [blk1 b5 (yW both),blk1 b4 (mE w a' n' c'),blk1 b3 (mE u a n c),m]:=by
 refine c7 aDk Tryz.func281 ?_;intro b3 Ah;intro b4 OV;intro b5 mo;refine .mk _ (df (cs:=[.pointer (some ⟨b3,0,none⟩),.pointer (some ⟨b5,0,none⟩),.pointer (some ⟨b4,0,none⟩)]) (by simp[Value.oneCell'])) ?_;rintro _ _⟨rfl,rfl⟩;exact⟨b3,b4,b5,rfl,(((aq.one m).new Ah _).new OV _).new mo _⟩
theorem Ys{I:Nat->aD->Prop}{l b3 b4 b5:Nat}{u w:List Int}{a a':Option Addr}{c c':Nat}{E K:List En}{both:Bool}(hw:w.length=8)(hn:E.length<=1000000)(hnk:K.length<=1000000)(hIE:∀e∈E,CS e)
  (hI:∀k m,I k m->m b3=some (mE u a E.length c)/\m b4=some (mE w a' K.length c')/\m b5=some (yW both)/\Na m (.slice a E.length c) E/\Na m (.slice a' K.length c') K)
  (hu:u.length=8)
  (hy:∀k m (hk:k<(jO E w K both).length),I k m->CL tP l [Nv (jO E w K both)[k]] m λr m'=>r=[.v (.bool true)]/\I (k+1) m') {m:aD} (h0:I 0 m):
  bi tP 347 [.v (.func (.yield l) #[] #[]),cx b3,cx b5,cx b4] m λr m'=>r=[]/\I (jO E w K both).length m':=by
 obtain⟨g3,_,_,_,_⟩:=hI 0 m h0;have hc8:∀(u:List Int) (v:Value),u.length=8->(LB.cz [.bG .u64 8 u,.one v])[8]?=some v:=λu v hu=>by simp[LB.cz,eB.cells,hu]
 refine c7 aDf Tryz.func347 ?_;refine⟨_,aF g3 (by rw[bz];exact hc8 u _ hu),rfl,?_⟩;refine .mk (ι:=Nat) (λi=>E.length-i) (λi mm=>i<=E.length/\I ((E.take i).filter (qH w K both)).length mm) (λi=>[(0,.c (.v (.func (.yield l) #[] #[]))),(2,.c (cx b5)),(3,.c (cx b4)),(9,.c (.v (.slice a E.length c))),(10,.c (i64 E.length)),(11,.c (i64 i))]) (λ_=>[]) 0 ⟨by omega,h0⟩ ?_ ?_
 ·exact Cr
 rintro i mm⟨hi,hii⟩;apply bI<;>intro h1
 ·have jc:=ah h1
  have bH:i<E.length:=by omega
  obtain⟨q3,q4,q5,qE,qK⟩:=hI _ mm hii;obtain⟨bl,ol,c2,hh,hg⟩:=qE.real bH;injection hh with eK _ fN;subst eK;have hg:=hg i bH;have LP:=RB (p:=qH w K both) bH
  have hyk:∀(hp:qH w K both E[i]=true),CL tP l [Nv E[i]] mm λr m'=>r=[.v (.bool true)]/\I (((E.take i).filter (qH w K both)).length+1) m':=λhp=>by
   obtain⟨hk,e⟩:=ZT bH hp;have:=hy _ mm hk hii;simp only[jO]at this;rw[e]at this;exact this
  have hx:=hIE _ (aO bH);generalize E[i]=x at hg LP hyk hx;have hpx:qH w K both x=((both&&K.contains x)|| !Bi w (kz x)):=rfl;have hv5:gR mm b5 0=some (.bool both):=aF q5 rfl;have qX:∀(p:Bool),qH w K both x=p->True:=λ_ _=>trivial;have hw4:dQ mm b4 0 []:=⟨_,_,_,q4,by simp⟩
  have hwr:dQ mm b4 0 (LB.cz [.bG .u64 8 w]):=⟨_,_,_,q4,λj y hj=>by
   rw[cD,bz];have e:LB.cz [.bG .u64 8 w,.one (.slice a' K.length c')]=LB.cz [.bG .u64 8 w]++[.slice a' K.length c']:=by simp[LB.cz,eB.cells]
   rw[e,aT (aQ.1 hj).1]
   exact hj⟩
  repeat refine xS ?_
  refine⟨[.one (.int .i64 x.1),.one (.int .i64 x.2.1),.one (.int .u64 x.2.2.1),.one (.int .i64 x.2.2.2)],⟨rfl,rfl,rfl,rfl,trivial⟩,rfl,by simp only[bK,aA];exact hg,?_⟩;refine⟨_,hv5,rfl,?_⟩
  cases both with
  |true=>
   refine xY ?_;refine⟨_,aF q4 (by rw[bz];exact hc8 w _ hw),rfl,?_⟩;refine bt (Eb (x:=x) qK (by omega)) ?_;by_cases hk:K.contains x=true
   ·rw[hk]at hpx⊢
    have hp:qH w K true x=true:=by rw[hpx];rfl
    refine xY ?_;refine .mk _ (hyk hp) ?_;rintro _ m'⟨rfl,HR⟩;refine xN ?_;refine⟨i+1,⟨by omega,by rw[LP,aC hp];exact HR⟩,by omega,?_⟩;exact Cr
   ·have hk:K.contains x=false:=by simpa using hk
    rw[hk]at hpx⊢;refine xN ?_;refine⟨[.bG .u64 8 w],⟨hw,trivial⟩,rfl,hwr,?_⟩;refine fU (rT (e:=x)) ?_;refine bt (HX (v:=w) (n:=x.2.1) (k:=x.2.2.1) hx.2.1) ?_;have hhv:(uw x.2.1 x.2.2.1&&decide (x.2.2.1<=tk w x.2.1))=Bi w (kz x):=rfl;rw[hhv];by_cases hh:Bi w (kz x)=true
    ·rw[hh]at hpx⊢
     have hp:qH w K true x=false:=by rw[hpx];simp
     refine xN ?_;refine⟨i+1,⟨by omega,by rw[LP,if_neg (by rw[hp];decide)];exact hii⟩,by omega,?_⟩;exact Cr
    ·have hh:Bi w (kz x)=false:=by simpa using hh
     rw[hh]at hpx⊢;have hp:qH w K true x=true:=by rw[hpx];simp
     refine xY ?_;refine .mk _ (hyk hp) ?_;rintro _ m'⟨rfl,HR⟩;refine xN ?_;refine⟨i+1,⟨by omega,by rw[LP,aC hp];exact HR⟩,by omega,?_⟩;exact Cr
  |false=>
   refine xN ?_;refine⟨[.bG .u64 8 w],⟨hw,trivial⟩,rfl,hwr,?_⟩;refine fU (rT (e:=x)) ?_;refine bt (HX (v:=w) (n:=x.2.1) (k:=x.2.2.1) hx.2.1) ?_;have hhv:(uw x.2.1 x.2.2.1&&decide (x.2.2.1<=tk w x.2.1))=Bi w (kz x):=rfl;rw[hhv];by_cases hh:Bi w (kz x)=true
   ·rw[hh]at hpx⊢
    have hp:qH w K false x=false:=by rw[hpx];simp
    refine xN ?_;refine⟨i+1,⟨by omega,by rw[LP,if_neg (by rw[hp];decide)];exact hii⟩,by omega,?_⟩;exact Cr
   ·have hh:Bi w (kz x)=false:=by simpa using hh
    rw[hh]at hpx⊢;have hp:qH w K false x=true:=by rw[hpx];simp
    refine xY ?_;refine .mk _ (hyk hp) ?_;rintro _ m'⟨rfl,HR⟩;refine xN ?_;refine⟨i+1,⟨by omega,by rw[LP,aC hp];exact HR⟩,by omega,?_⟩;exact Cr
 ·have jc:=aj h1
  obtain rfl:i=E.length:=by omega
  rw[aJ]at hii;exact⟨rfl,hii⟩
end Go.E.Y
namespace Go.E
section
variable {α:Type}{enc:α->List Value}{s:Nat}
theorem ab4{arr:Array Value}{a j:Nat}{old cs:List Value}(jH:a+old.length<=arr.size)(Bg:∀k u,old[k]?=some u->arr[a+k]?=some u) (hj:j+cs.length<=old.length):
  arr.toList.take a++((old.take j++cs++old.drop (j+cs.length))++arr.toList.drop (a+old.length))=arr.toList.take (a+j)++(cs++arr.toList.drop (a+j+cs.length)):=by
 have hlen:(old.take j++cs++old.drop (j+cs.length)).length=old.length:=by
  simp only[ax,aK,cC];omega
 have h1:=λk u=>uU (arr:=arr) (cs:=old.take j++cs++old.drop (j+cs.length)) (a:=a) (j:=k) (u:=u) (by rw[hlen];exact jH);have h2:=λk u=>uU (arr:=arr) (cs:=cs) (a:=a+j) (j:=k) (u:=u) (by omega);rw[hlen]at h1;refine List.ext_getElem? λk=>Option.ext λu=>?_;have h1:=h1 k u;have h2:=h2 k u;rw[bz]at h1 h2;rw[h1,h2];by_cases k1:k<a
 ·rw[aC k1,aC (by omega)]
 rw[if_neg k1];by_cases k2:k<a+old.length
 ·rw[aC k2]
  have zw:∃w,old[k-a]?=some w:=⟨_,az (by omega)⟩;obtain⟨w,hw⟩:=zw;have S8:=Bg _ _ hw;rw[show a+(k-a)=k by omega]at S8;by_cases k3:k<a+j
  ·rw[aC k3,aX,aT (by rw[aK];omega),bN,aC (by omega),hw,S8]
  ·rw[if_neg k3]
   by_cases k4:k<a+j+cs.length
   ·rw[aC k4,aX,bJ (by rw[aK];omega),aK,aT (by omega),show k-a-min j old.length=k-(a+j) by omega]
   ·rw[if_neg k4,bJ (by rw[ax,aK];omega),ax,aK,cT,show j+cs.length+(k-a-(min j old.length+cs.length))=k-a by omega,hw,S8]
 ·rw[if_neg k2,if_neg (by omega),if_neg (by omega)]
theorem fp.Wu(h:fp enc s){p:aD}{T:TypeId}{b o n c:Nat}{E:List α}(hl:mf p T s (.slice (some ⟨b,o,none⟩) n c) (E.flatMap enc)){i j:Nat}(hi:i<E.length){cs:List Value}{x:α}(hj:j+cs.length<=s)(hx:enc x=(enc E[i]).take j++cs++(enc E[i]).drop (j+cs.length)):
  ∃arr,p b=some (.cells arr T (0,0))/\o+i*s+j+cs.length<=arr.size/\mf (p.set b (.cells (arr.toList.take (o+i*s+j)++(cs++arr.toList.drop (o+i*s+j+cs.length))).toArray T (0,0))) T s (.slice (some ⟨b,o,none⟩) n c) ((E.set i x).flatMap enc):=by
 obtain⟨arr,h1,h2,h3⟩:=h.set hl hi x;obtain⟨CH,g1,_,_,_,g5⟩:=h.row hl;rw[h1]at g1;cases g1;refine⟨arr,h1,by omega,?_⟩
 have Bg:∀k u,(enc E[i])[k]?=some u->arr[o+i*s+k]?=some u:=λk u hu=>by
  rw[gi];exact g5 _ _ (h.at hi hu)
 rw[hx]at h3;have:=ab4 (arr:=arr) (a:=o+i*s) (j:=j) (old:=enc E[i]) (cs:=cs) (by rw[h.len];exact h2) Bg (by rw[h.len];exact hj);rw[h.len]at this;rw[this]at h3;exact h3
theorem abI{arr:Array Value}{a:Nat}{u:Value}(h:a<arr.size):(arr.toList.take a++([u]++arr.toList.drop (a+1))).toArray=arr.setIfInBounds a u:=by
 grind
theorem fp.setCell(h:fp enc s){p:aD}{T:TypeId}{b o n c:Nat}{E:List α}(hl:mf p T s (.slice (some ⟨b,o,none⟩) n c) (E.flatMap enc)){i j:Nat}(hi:i<E.length){u:Value}{x:α}(hj:j<s)(hx:enc x=(enc E[i]).take j++[u]++(enc E[i]).drop (j+1)):
  ∃arr,p b=some (.cells arr T (0,0))/\o+i*s+j<arr.size/\mf (p.set b (.cells (arr.setIfInBounds (o+i*s+j) u) T (0,0))) T s (.slice (some ⟨b,o,none⟩) n c) ((E.set i x).flatMap enc):=by
 obtain⟨arr,h1,h2,h3⟩:=h.Wu (cs:=[u]) hl hi (by simp only[ae,cW];omega) hx;simp only[ae,cW]at h2 h3;rw[abI (by omega)]at h3;exact⟨arr,h1,by omega,h3⟩
end
variable{l:List aD}
theorem aq.jN{m m':aD}{a:List aD}(h:aq m' (a++[m]))(hs:aq m l):aq m' (a++l):=by
 obtain⟨h1,h2⟩:=h;obtain⟨h3,h4⟩:=hs;obtain⟨h5,_,h6⟩:=cm.1 h2;have key:∀b∈l,∀x o,b x=some o->m x=some o:=λb hb x o hx=>h3 _ _ (jE h4 hb hx)
 have hp:(a++l).Pairwise Dj:=cm.2 ⟨h5,h4,λx hx y hy z=>by
  rcases h6 x hx m (by simp) z with h|h
  ·exact .inl h
  ·refine .inr ?_
   cases hyz:y z with
   |none=>rfl
   |some o=>rw[key y hy z o hyz]at h;cases h⟩
 refine⟨λx o hx=>?_,hp⟩;obtain⟨b,hb,HW⟩:=eQ hx;rcases aR.1 hb with hb|hb
 ·exact h1 _ _ (jE h2 (by simp[hb]) HW)
 ·exact h1 _ _ (jE h2 (by simp) (key b hb _ _ HW))
theorem aq.all{m:aD}(h:aq m l):aq (gY l) l:=⟨cL.refl _,h.2⟩
theorem aq.k9{m:aD}(a:List aD)(h:aq m (a++l)):aq m (gY a::l)/\aq (gY a) a:=by
 obtain⟨h1,h2⟩:=h;obtain⟨h3,h4,h5⟩:=cm.1 h2;refine⟨⟨λx o hx=>?_,bh.2 ⟨λb hb x=>?_,h4⟩⟩,cL.refl _,h3⟩
 ·obtain⟨b,hb,HW⟩:=eQ hx
  rcases aU.1 hb with rfl|hb
  ·obtain⟨d,hd,hdx⟩:=eQ HW
   exact h1 _ _ (jE h2 (by simp[hd]) hdx)
  ·exact h1 _ _ (jE h2 (by simp[hb]) HW)
 ·cases hx:gY a x with
  |none=>exact .inl rfl
  |some o=>
   obtain⟨d,hd,hdx⟩:=eQ hx;rcases h5 d hd b hb x with h|h
   ·rw[hdx]at h;cases h
   ·exact .inr h
variable{mm:aD}
theorem aq.part{p:aD}(h:aq mm (p::l)):∃q,(∀x∈l,cL x q)/\aq mm [p,q]/\∀m' p',aq m' [p',q]->aq m' (p'::l):=by
 have h0:aq mm (l++[p]):=h.fm (dY (l₁:=[p]) (l₂:=l));obtain⟨h2,h3⟩:=aq.k9 l h0;exact⟨gY l,λx hx=>h3.sub hx,h2.fm (List.Perm.swap _ _ _),λm' p' h4=>aq.jN (a:=[p']) h4 h3⟩
theorem aq.ai6{p p2:aD}(h:aq mm (p::p2::l)):∃q,(∀x∈l,cL x q)/\aq mm [p,p2,q]/\∀m' p' p2',aq m' [p',p2',q]->aq m' (p'::p2'::l):=by
 have h0:aq mm (l++[p,p2]):=h.fm (dY (l₁:=[p,p2]) (l₂:=l));obtain⟨h2,h3⟩:=aq.k9 l h0;refine⟨gY l,λx hx=>h3.sub hx,h2.fm ?_,λm' p' p2' h4=>aq.jN (a:=[p',p2']) h4 h3⟩;exact(List.Perm.swap _ _ _).trans (List.Perm.cons _ (List.Perm.swap _ _ _))
theorem aq.Ci{m q:aD}(h:aq mm (q::l))(hs:cL m q):aq mm (m::l):=by
 obtain⟨h1,h2⟩:=h;obtain⟨h3,h4⟩:=bh.1 h2;refine⟨λx o hx=>?_,bh.2 ⟨λb hb x=>?_,h4⟩⟩
 ·obtain⟨b,hb,HW⟩:=eQ hx
  rcases aU.1 hb with rfl|hb
  ·exact h1 _ _ (jE h2 (by simp) (hs _ _ HW))
  ·exact h1 _ _ (jE h2 (by simp[hb]) HW)
 ·cases hm:m x with
  |none=>exact .inl rfl
  |some o=>
   rcases h3 b hb x with h|h
   ·rw[hs _ _ hm]at h;cases h
   ·exact .inr h
end Go.E
namespace Go.E.Y
open Go.Proofs
variable{b:Nat}{l:List Value}
theorem dQ.tail{m:aD}{o k:Nat}(h:dQ m b o l):dQ m b (o+k) (l.drop k):=by
 obtain⟨arr,t,fr,h1,h2⟩:=h;refine⟨arr,t,fr,h1,λj u hu=>?_⟩
 grind
theorem dQ.ajD{m:aD}{o:Nat}{y:Value}(h:dQ m b o l)(hy:l[0]?=some y):gR m b o=some y:=by
 obtain⟨arr,t,fr,h1,h2⟩:=h;exact aF h1 (by have:=h2 0 y hy;simpa using this)
abbrev ur(k:ByteArray):Obj:=.cells #[.string k] 9
def lu(m:aD)(v:Value)(L:List Kd):Prop:=∃R,Ka m v R/\dC m R L
variable{m':aD}{v:Value}
theorem lu.sub{m:aD}{L:List Kd}(h:lu m v L)(hs:cL m m'):lu m' v L:=by
 obtain⟨R,h1,h2⟩:=h;exact⟨R,h1.sub hs,h2.sub hs⟩
theorem lu.nil(m:aD):lu m (.slice none 0 0) []:=⟨[],Ka.nil m,dC.nil m⟩
theorem lu.shape{m:aD}{L:List Kd}(h:lu m v L):∃a c,v= .slice a L.length c:=by
 obtain⟨R,h1,h2⟩:=h;rw[<-h2.len];exact h1.shape
variable{k:ByteArray}{r:Rk}
theorem Vr{m:aD}(hb:m b=some (ur k)):eN tP 139 [Kv r,cx b] m [bR (decide (r.1=k))]:=by
 refine ap Tryz.func139 ?_;refine xM hb ?_;exact⟨by rw[KG],rfl⟩
theorem sGt(a b:ByteArray):(!(Op.bytesLess a.toList b.toList||a.toList==b.toList))=eZ b a:=by
 rw[KG]
 show(!(eZ a b||decide (a=b)))=eZ b a
 by_cases h:a=b
 ·subst h;simp[oa]
 ·rw[aY h,Bool.or_false]
  cases h1:eZ a b with
  |true=>rw[tL h1];rfl
  |false=>
   cases h2:eZ b a with
   |true=>rfl
   |false=>exact absurd (qi h1 h2) h
theorem Tu{m:aD}(hb:m b=some (ur k)):eN tP 160 [Kv r,cx b] m [bR (eZ k r.1)]:=by
 refine ap Tryz.func160 ?_;refine xM hb ?_;exact⟨by rw[sGt],rfl⟩
variable{i:Nat}
theorem aee{L:List Kd}(hi:i<L.length)(h:L[i].1=k)(cM:∀x∈L.take i,x.1≠k):vj L k=some L[i].2:=by
 have:L.find? (λx=>decide (x.1=k))=some L[i]:=by
  rw[List.find?_eq_some_iff_getElem];refine⟨by simp[h],i,hi,rfl,λj hj=>?_⟩;have:=cM L[j] (lw.2 ⟨j,by omega,rfl⟩);simp[this]
 unfold vj
 grind
theorem aed{L:List Kd}(cM:∀x∈L,x.1≠k):vj L k=none:=by
 unfold vj
 grind
theorem dC.ajd{m:aD}{R:List Rk}{L:List Kd}(h:dC m R L)(cM:∀r∈R.take i,decide (r.1=k)=false):∀x∈L.take i,x.1≠k:=by
 intro x hx e;have h1:=(h.take i).any λy=>decide (y=k)
 grind
theorem G3{m:aD}{L:List Kd}(hv:lu m v L)(hl:L.length<=1000000):
  bi tP 74 [.v v,.v (.string k)] m λr m'=>∃a c,r=[iY (gh L k).1 a (gh L k).2.length c,bR (vj L k).isSome]/\cL m m'/\Na m (.slice a (gh L k).2.length c) (gh L k).2:=by
 obtain⟨R,hR,hK⟩:=hv;obtain⟨av,cv,rfl⟩:=hR.shape;have hlen:=hK.len;refine c7 c74 Tryz.func74 ?_;intro b hb;have hs:=aD.bT (ur k) hb;refine .mk _ (df (cs:=[.pointer (some ⟨b,0,none⟩)]) (by simp[Value.oneCell'])) ?_;rintro _ _⟨rfl,rfl⟩;refine bt (wm (p:=λr=>decide (r.1=k)) (hR.sub hs) (λr _=>Vr (aD.bg ..)) (by omega)) ?_;rcases lY (λr:Rk=>decide (r.1=k)) R with⟨e1,e2⟩|⟨i0,Ja,e1,e2,e3⟩
 ·rw[e1]
  refine xY ?_
  have xr:vj L k=none:=aed λx hx=>by
   have:=hK.ajd (k:=k) (i:=R.length) (by rw[aJ];exact e2) x;rw[hlen,aJ]at this;exact this hx
  have hg:gh L k=(fx,[]):=by rw[gh,xr];rfl
  rw[hg,xr];exact⟨none,0,rfl,hs,Na.nil _⟩
 ·rw[e1]
  refine⟨λh=>absurd h (by(simp<;>omega)),λ_=>?_⟩;obtain⟨bl,ol,c',hh,hg⟩:=hR.real Ja;injection hh with eK _ fN;subst eK;have hg:=hg i0 Ja;have hx:=hK.je i0 Ja (by omega);have hf:vj L k=some L[i0].2:=aee (by omega) (by rw[<-hx.k];exact ah e2) (hK.ajd e3);have JR:gh L k=L[i0].2:=by rw[gh,hf];rfl
  rw[JR,hf];generalize L[i0]=x at hx⊢;generalize R[i0]=r at hg hx;obtain⟨xk,xu,xE⟩:=x;obtain⟨rk,ru,ra,rn,rc⟩:=r;obtain⟨h1,h2,h3,h4⟩:=hx;have zu:=pP.len ⟨h1,h2,h3,h4⟩;simp only at h1 h2 h3 h4 zu;subst h1 h2 zu
  repeat refine xS ?_
  have hr:dQ (m.set b (ur k)) bl (ol+i0*10+1) (LB.cz [.bG .u64 8 ru,.one (.slice ra xE.length rc)]):=by
   have:=dQ.tail (k:=1) (hg.sub hs);simp only[fj,yn h3,List.singleton_append]at this;simpa [LB.cz,eB.cells]using this
  refine⟨[.bG .u64 8 ru,.one (.slice ra xE.length rc)],⟨h3,rfl,trivial⟩,rfl,by simp only[bK,aA];exact hr,?_⟩;exact⟨ra,rc,by simp,hs,h4⟩
variable{w:Value}
theorem yK{m:aD}{E K:List Int}(hv:Ia m v E)(hw:Ia m w K)(hl:E.length<=100000000):eN tP 253 [.v v,.v w] m [bR (decide (E=K))]:=by
 obtain⟨a,c,rfl⟩:=hv.shape;obtain⟨aw,cw,rfl⟩:=hw.shape;refine c7 aDp Tryz.func253 ?_;apply bI<;>intro h
 ·have:E≠K:=by rintro rfl;simp at h
  rw[aY this];exact rR
 have DN:E.length=K.length:=by simp at h;omega
 rw[<-DN]at hw⊢;refine .mk (ι:=Nat) (λi=>E.length-i) (λi mm=>i<=E.length/\E.take i=K.take i/\mm=m) (λi=>[(0,.c (.v (.slice a E.length c))),(1,.c (.v (.slice aw E.length cw))),(12,.c (i64 E.length)),(13,.c (i64 i))]) (λ_=>[]) 0 ⟨by omega,by simp,rfl⟩ ?_ ?_
 ·exact Cr
 rintro i mm⟨hi,Ac,he⟩;subst mm;apply bI<;>intro h1
 ·have jc:=ah h1
  have bH:i<E.length:=by omega
  have wv:i<K.length:=by omega
  obtain⟨b,o,c',hh,hg⟩:=hv.real bH;injection hh with eK _ fN;subst eK;have S8:Ia m (.slice aw K.length cw) K:=by rw[<-DN];exact hw
  obtain⟨bw,ow,c',hh,LS⟩:=S8.real wv;injection hh with eK _ fN;subst eK;have hg:=hg i bH;have LS:=LS i wv
  repeat refine xS ?_
  refine⟨_,hg,rfl,?_⟩
  repeat refine xS ?_
  refine⟨_,LS,rfl,?_⟩;conv=>whnf
  rw[show((E[i]!=K[i]):Bool)=decide (E[i]≠K[i]) by rw[bne,qO];simp];apply bI<;>intro h2
  ·have:E≠K:=by rintro rfl;exact absurd rfl (ah h2)
   rw[aY this];exact rR
  ·have iD:E[i]=K[i]:=by simpa using h2
   refine⟨i+1,⟨by omega,by rw[au bH,au wv,Ac,iD],rfl⟩,by omega,?_⟩;exact Cr
 ·have jc:=aj h1
  obtain rfl:i=E.length:=by omega
  rw[aJ,DN,aJ]at Ac;conv=>whnf
  rw[bB Ac];exact rR
theorem Oj{m:aD}{E K:List (List Nat)}(hv:OO m v E)(hw:OO m w K)(hl:E.length<=100000000):eN tP 254 [.v v,.v w] m [bR (decide (E=K))]:=by
 obtain⟨a,c,rfl⟩:=hv.shape;obtain⟨aw,cw,rfl⟩:=hw.shape;refine c7 aDo Tryz.func254 ?_;apply bI<;>intro h
 ·have:E≠K:=by rintro rfl;simp at h
  rw[aY this];exact rR
 have DN:E.length=K.length:=by simp at h;omega
 rw[<-DN]at hw⊢;refine .mk (ι:=Nat) (λi=>E.length-i) (λi mm=>i<=E.length/\E.take i=K.take i/\mm=m) (λi=>[(0,.c (.v (.slice a E.length c))),(1,.c (.v (.slice aw E.length cw))),(12,.c (i64 E.length)),(13,.c (i64 i))]) (λ_=>[]) 0 ⟨by omega,by simp,rfl⟩ ?_ ?_
 ·exact Cr
 rintro i mm⟨hi,Ac,he⟩;subst mm;apply bI<;>intro h1
 ·have jc:=ah h1
  have bH:i<E.length:=by omega
  have wv:i<K.length:=by omega
  obtain⟨b,o,c',hh,hg⟩:=hv.real bH;injection hh with eK _ fN;subst eK;have S8:OO m (.slice aw K.length cw) K:=by rw[<-DN];exact hw
  obtain⟨bw,ow,c',hh,LS⟩:=S8.real wv;injection hh with eK _ fN;subst eK;have hg:=hg i bH;have LS:=LS i wv
  repeat refine xS ?_
  refine⟨[.bG .u8 32 (nc E[i])],⟨(by show(nc E[i]).length=32;rw[mH];exact hv.ok _ (aO bH)),trivial⟩,rfl,by simp only[bK,aA];exact hg,?_⟩
  repeat refine xS ?_
  refine⟨[.bG .u8 32 (nc K[i])],⟨(by show(nc K[i]).length=32;rw[mH];exact S8.ok _ (aO wv)),trivial⟩,rfl,by simp only[bK,aA];exact LS,?_⟩;conv=>whnf
  rw[show(!rD [.bG .u8 32 (nc E[i])] [.bG .u8 32 (nc K[i])])=decide (E[i]≠K[i]) by rw[Ck];simp];apply bI<;>intro h2
  ·have:E≠K:=by rintro rfl;exact absurd rfl (ah h2)
   rw[aY this];exact rR
  ·have iD:E[i]=K[i]:=by simpa using h2
   refine⟨i+1,⟨by omega,by rw[au bH,au wv,Ac,iD],rfl⟩,by omega,?_⟩;exact Cr
 ·have jc:=aj h1
  obtain rfl:i=E.length:=by omega
  rw[aJ,DN,aJ]at Ac;conv=>whnf
  rw[bB Ac];exact rR
theorem PX{m:aD}{r':Rk}{x x':Kd}(h:pP m r x)(h':pP m r' x')(hl:x.2.2.length<=1000000):eN tP 252 [Kv r,Kv r'] m [bR (decide (x=x'))]:=by
 have e1:n8 r.2.1=x.2.1:=by rw[h.u,yn h.u8]
 have e2:n8 r'.2.1=x'.2.1:=by rw[h'.u,yn h'.u8]
 have hx:x=x'↔x.1=x'.1/\x.2.1=x'.2.1/\x.2.2=x'.2.2:=by
  obtain⟨k,u,E⟩:=x;obtain⟨k',u',E'⟩:=x';simp
 obtain⟨rk,ru,ra,rn,rc⟩:=r;obtain⟨rk',ru',ra',rn',rc'⟩:=r';have hn:=h.len;have OS:=h'.len;have hk:=h.k;have ve:=h'.k;have he:=h.e;have he':=h'.e;simp only at e1 e2 hn OS hk ve he he';subst hn OS hk ve;have eS:(x.1.toList==x'.1.toList)=decide (x.1=x'.1):=KG _ _;refine ap Tryz.func252 ?_;apply bI<;>intro h1
 ·conv=>whnf
  rw[e1,e2];refine bt (vQ he he' (by omega)) ?_;refine⟨?_,rfl⟩;have jc:x.1=x'.1:=ah (by rw[<-eS];exact h1);rw[<-Bool.decide_and,fF.2 (hx.trans ⟨λh=>h.2,λh=>⟨jc,h⟩⟩)]
 ·refine⟨?_,rfl⟩
  have jc:¬x.1=x'.1:=aj (by rw[<-eS];exact h1);rw[aY (λh=>jc (hx.1 h).1)]
instance:DecidableEq Kd:=λa b=>if h:a.1=b.1/\a.2=b.2 then .isTrue (Prod.ext h.1 h.2)else .isFalse λe=>h ⟨be _ e,be _ e⟩
theorem Oi{m:aD}{L L':List Kd}(hv:lu m v L)(hw:lu m w L')(hl:L.length<=1000000)(hL:∀x∈L,x.2.2.length<=1000000):
  eN tP 255 [.v v,.v w,Aj 252] m [bR (decide (L=L'))]:=by
 obtain⟨E,hv,hE⟩:=hv;obtain⟨K,hw,hK⟩:=hw;obtain⟨a,c,rfl⟩:=hv.shape;obtain⟨aw,cw,rfl⟩:=hw.shape;have l1:=hE.len;have l2:=hK.len;refine ap Tryz.func255 ?_;apply bI<;>intro h
 ·have:L≠L':=by rintro rfl;simp at h;omega
  rw[aY this];exact rR
 have DN:E.length=K.length:=by simp at h;omega
 rw[<-DN]at hw⊢;refine .mk (ι:=Nat) (λi=>E.length-i) (λi mm=>i<=E.length/\L.take i=L'.take i/\mm=m) (λi=>[(1,.c (.v (.slice aw E.length cw))),(2,.c (Aj 252)),(15,.c (.v (.slice a E.length c))),(16,.c (i64 E.length)),(17,.c (i64 i))]) (λ_=>[]) 0 ⟨by omega,by simp,rfl⟩ ?_ ?_
 ·exact Cr
 rintro i mm⟨hi,Ac,he⟩;subst mm;apply bI<;>intro h1
 ·have jc:=ah h1
  have bH:i<E.length:=by omega
  have wv:i<K.length:=by omega
  obtain⟨b,o,c',hh,hg⟩:=hv.real bH;injection hh with eK _ fN;subst eK;have S8:Ka m (.slice aw K.length cw) K:=by rw[<-DN];exact hw
  obtain⟨bw,ow,c',hh,LS⟩:=S8.real wv;injection hh with eK _ fN;subst eK;have hg:=hg i bH;have LS:=LS i wv;have hx:=hE.je i bH (by omega);have hy:=hK.je i wv (by omega)
  repeat refine xS ?_
  refine⟨[.one (.string E[i].1),.bG .u64 8 (n8 E[i].2.1),.one (.slice E[i].2.2.1 E[i].2.2.2.1 E[i].2.2.2.2)],⟨rfl,rfl,rfl,trivial⟩,rfl,by simp only[bK,aA];exact hg,?_⟩
  repeat refine xS ?_
  refine⟨[.one (.string K[i].1),.bG .u64 8 (n8 K[i].2.1),.one (.slice K[i].2.2.1 K[i].2.2.2.1 K[i].2.2.2.2)],⟨rfl,rfl,rfl,trivial⟩,rfl,by simp only[bK,aA];exact LS,?_⟩;refine bt (PX hx hy (hL _ (aO _))) ?_;apply bI<;>intro h2
  ·have:L≠L':=by rintro rfl;simp at h2
   rw[aY this];exact rR
  ·have iD:L[i]'(by omega)=L'[i]'(by omega):=by simpa using h2
   refine⟨i+1,⟨by omega,by rw[au (by omega),au (by omega),Ac,iD],rfl⟩,by omega,?_⟩;exact Cr
 ·have jc:=aj h1
  obtain rfl:i=E.length:=by omega
  rw[l1,aJ,<-l1,DN,l2,aJ]at Ac;conv=>whnf
  rw[bB Ac];exact rR
variable{s:ByteArray}
theorem GZ{m:aD}(hs:s.size<=1000000):bi tP 375 [.v (.string s)] m λr m'=>r=[u64 ((ao.uW (jR s):Nat):Int)]/\cL m m':=by
 refine ap Tryz.func375 ?_;refine .mk _ (ara) ?_;rintro _ m1⟨v,rfl,bM,hv⟩;refine aP (GY hv (by rw[ue];omega) (amf s)) ?_;rintro _ m2⟨rfl,bZ⟩;exact⟨rfl,bM.trans bZ⟩
theorem acf(l:List Nat):∀i,pt l (i+1)/256^i=(ao.sum l).getD 0 0
 |0=>by simp[pt]
 |i+1=>by
  have:=MA l (i+1);rw[M4 l (i+1),gN,lH (256^i) 256,<-uF,show(pt l (i+1)*256+(ao.sum l).getD (i+1) 0)/256=pt l (i+1) by omega,acf l i]
theorem YW(l:List Nat):ao.uW l/72057594037927936=(ao.sum l).getD 0 0:=acf l 7
theorem aci(l:List Nat):ao.uW l<18446744073709551616:=ace l 8
def qI(s:ByteArray):Nat:=ao.uW (jR s)/2305843009213693952
def gF(s:ByteArray):Nat:=ao.uW (jR s)/144115188075855872%16
theorem YY(s:ByteArray):qI s=(ao.sum (jR s)).getD 0 0/32:=by rw[<-YW,qI];omega
theorem K7(s:ByteArray):qI s<8:=by have:=MA (jR s) 0;rw[YY];omega
theorem OG{m:aD}(hs:s.size<=1000000):bi tP 327 [.v (.string s)] m λr m'=>r=[i64 (qI s:Nat),i64 (gF s:Nat)]/\cL m m':=by
 refine ap Tryz.func327 ?_;refine aP (GZ hs) ?_;rintro _ m1⟨rfl,bM⟩;have hp:=aci (jR s);refine⟨?_,bM⟩;have e1:=nZ (k:=.u64) (x:=ao.uW (jR s)) (n:=61) (by decide);have e2:=nZ (k:=.u64) (x:=ao.uW (jR s)) (n:=57) (by decide);rw[show(61:Int)=((61:Nat):Int) from rfl,e1,show(57:Int)=((57:Nat):Int) from rfl,e2];have e3:=OK (a:=ao.uW (jR s)/2^57) (b:=15) (ny (za ..) hp) (by decide);have e4:ao.uW (jR s)/2^57&&& 15=ao.uW (jR s)/2^57%16:=Nat.and_two_pow_sub_one_eq_mod (ao.uW (jR s)/2^57) 4;rw[show(15:Int)=((15:Nat):Int) from rfl,e3,e4];have q1:(2:Nat)^61=2305843009213693952:=rfl;have q2:(2:Nat)^57=144115188075855872:=rfl;rw[q1,q2,wi,wi];rfl
variable{n:Int}
theorem aas{m:aD}(hn: -9223372036854775808<=n/\n<=9223372036854775807):eN tP 328 [i64 n] m (if n<0\/7<n then[u64 0,i64 1]else[u64 (n*2305843009213693952),i64 0]):=by
 refine ap Tryz.func328 ?_;conv=>whnf
 repeat' (first|(refine⟨λh=>?_,λh=>?_⟩<;>conv=>whnf)|fail)
 all_goals refine⟨?_,rfl⟩
 ·rw[aC (.inl (ah h))]
 ·rw[aC (.inr (by have:=ah h;omega))]
 ·rename_i h1
  have jc:=aj h1;have iD:=aj h;rw[if_neg (by omega)];obtain⟨k,rfl⟩:∃k:Nat,n=k:=⟨n.toNat,by omega⟩;rw[wu,show(61:Int)=((61:Nat):Int) from rfl,agd (by decide) (by rw[show(2:Nat)^61=2305843009213693952 from rfl];omega)];rw[show(2:Nat)^61=2305843009213693952 from rfl];simp
theorem K6{m:aD}(hs:s.size<=1000000):bi tP 250 [.v (.string s)] m λr m'=>r=[i64 (qI s:Nat)]/\cL m m':=by
 refine ap Tryz.func250 ?_;refine aP (OG hs) ?_;rintro _ m1⟨rfl,bM⟩;exact⟨rfl,bM⟩
theorem Zk{m:aD}(hs:s.size<=1000000):bi tP 249 [.v (.string s)] m λr m'=>r=[i64 (gF s:Nat)]/\cL m m':=by
 refine ap Tryz.func249 ?_;refine aP (OG hs) ?_;rintro _ m1⟨rfl,bM⟩;exact⟨rfl,bM⟩
def Rd(m:aD)(bp:Nat)(s:RS):Prop:=∃v,m bp=some (.cells #[.bool true,v,.int .i64 s.2] 291)/\Lb m v s.1/\lp v≠some bp/\jl s.1/\s.1.length<=100000000
def Lx(m:aD)(bp:Nat)(v:Value)(l:List Int):Prop:=Lb m v l/\lp v≠some bp
theorem gq.BO{m:aD}{size:Nat}{o:Obj}(h:gq m size v l)(hn:lp v≠some b):gq (m.set b o) size v l:=
 h.cR λx hx=>aD.eH _ _ λe=>hn (by rw[hx,e])
variable{l:List Int}
theorem zy{m:aD}(hv:La m v l)(hb:jl l)(hl:l.length<=100000000):
  bi tP 97 [.v v] m λr m'=>∃bp p,r=[cx bp]/\aq m' [p,m]/\Rd p bp (l,0):=by
 refine c7 c97 Tryz.func97 ?_;refine aP (sQ hv hl) ?_;rintro _ m1⟨v1,p1,rfl,bM,lZ⟩;intro b kW;have hp:p1 b=none:=bM.none kW p1 (by simp);have bZ:=(bM.new kW (.cells (LB.cz [.one (.bool true),.one v1,.one (.int .i64 0)]).toArray 291)).jo;refine⟨b,_,rfl,bZ,v1,?_,?_,?_,hb,hl⟩
 ·rw[pB,aD.bg];rfl
 ·rw[pB];exact lZ.lb.sub (aD.bT _ hp)
 ·intro e
  rcases lZ with⟨rfl,_⟩|⟨b',o,c,n,arr,rfl,h1,_⟩
  ·simp[lp]at e
  ·simp[lp]at e;subst e;rw[h1]at hp;cases hp
variable{s:RS}{bp:Nat}
theorem iX{m:aD}(h:Rd m bp s):eN tP 103 [cx bp] m [i64 s.2]:=by
 obtain⟨v,hb,hv,hn,_⟩:=h;refine ap Tryz.func103 ?_;refine xN ?_;refine xM hb ?_;refine xN ?_;refine xM hb ?_;exact rR
def qP(m m':aD)(bp:Nat):Prop:=∀b,b≠bp->m' b=m b
theorem qP.refl(m:aD)(bp:Nat):qP m m bp:=λ_ _=>rfl
theorem qP.trans{m m'':aD}(h:qP m m' bp)(k:qP m' m'' bp):qP m m'' bp:=λb hb=>(k b hb).trans (h b hb)
theorem qP.set(m:aD)(bp:Nat)(o:Obj):qP m (m.set bp o) bp:=λ_ hb=>aD.eH _ _ hb
theorem Lx.only{m:aD}(h:Lx m bp v l)(k:qP m m' bp):Lx m' bp v l:=⟨h.1.cR λb hb=>k b λe=>h.2 (by rw[hb,e]),h.2⟩
theorem lh{m:aD}{is:Bool}(h:Rd m bp s):
  bi tP 169 [cx bp,bR is] m λr m'=>r=[]/\Rd m' bp (ay is s)/\qP m m' bp:=by
 have h0:=h;obtain⟨v,hb,hv,hn,OU,hl⟩:=h;refine ap Tryz.func169 ?_;refine bt (iX h0) ?_;apply bI<;>intro h1
 ·have jc:s.2=0:=by simpa using h1
  apply bI<;>intro h2
  ·have iD:is=false:=by simpa using h2
   refine⟨_,_,_,hb,⟨by simp,by omega⟩,?_⟩;refine⟨rfl,?_,qP.set _ _ _⟩;rw[ay,aC ⟨jc,iD⟩];exact⟨v,aD.bg ..,gq.BO hv hn,hn,OU,hl⟩
  ·have iD:is=true:=by simpa using h2
   refine⟨rfl,?_,qP.refl _ _⟩;rw[ay,if_neg (by simp[iD])];exact h0
 ·have jc:s.2≠0:=by simpa using h1
  refine⟨rfl,?_,qP.refl _ _⟩;rw[ay,if_neg (by simp[jc])];exact h0
variable{n:Nat}
theorem jT{m:aD}(h:Rd m bp s)(ml:n<9223372036854775808):
  bi tP 170 [cx bp,i64 n] m λr m'=>∃v',r=[.v v']/\Lx m' bp v' (fL n s).1/\Rd m' bp (fL n s).2/\qP m m' bp:=by
 have h0:=h;obtain⟨l,e⟩:=s;obtain⟨v,hb,hv,hn,OU,hl⟩:=h;simp only at hb hv OU hl;refine ap Tryz.func170 ?_;refine bt (iX h0) ?_;apply bI<;>intro h1
 ·have jc:e≠0:=by simpa using h1
  conv=>whnf
  rw[fL,aC jc];exact⟨_,rfl,⟨Lb.nil ..,by simp[lp]⟩,h0,qP.refl _ _⟩
 ·have jc:e=0:=by simpa using h1
  subst jc;refine⟨v,aF hb rfl,hv.one,?_⟩;obtain⟨a,c,rfl⟩:=hv.shape;apply bI<;>intro h2
  ·have iD:=ah h2
   refine⟨_,_,_,hb,⟨by simp,by omega⟩,?_⟩;conv=>whnf
   rw[fL,if_neg (by simp),aC (by show l.length<n;omega)];exact⟨_,rfl,⟨Lb.nil ..,by simp[lp]⟩,⟨_,aD.bg ..,gq.BO hv hn,hn,OU,hl⟩,qP.set _ _ _⟩
  ·have iD:=aj h2
   have ZA:n<=l.length:=by omega
   refine⟨.slice a l.length c,aF hb rfl,hv.one,?_⟩;rw[fL,if_neg (by simp),if_neg (by show ¬(l.length<n);omega)];rcases hv.cases with⟨c',e1,e2⟩|⟨b,o,c',arr,t,fr,e1,g1,g2,g3⟩
   ·subst e2
    cases e1;obtain rfl:n=0:=by simpa using ZA
    repeat refine xS ?_
    refine⟨.slice none 0 c,aF hb rfl,hv.one,?_⟩
    repeat refine xS ?_
    refine⟨_,_,_,hb,⟨by simp,by omega⟩,?_⟩;exact⟨_,rfl,⟨Lb.nil ..,by simp[lp]⟩,⟨_,aD.bg ..,Lb.nil ..,by simp[lp],jl.nil,by simp⟩,qP.set _ _ _⟩
   ·cases e1
    have hbn:b≠bp:=λe=>hn (by rw[e];rfl)
    repeat refine xS ?_
    intro o1 I8 aun
    obtain rfl:o1=o:=by
     rcases Nat.eq_zero_or_pos n with h|h
     ·exact aun (by omega)
     ·have:=I8 (by omega);simpa using this
    refine⟨.slice (some ⟨b,o1,none⟩) l.length c,aF hb rfl,hv.one,?_⟩
    repeat refine xS ?_
    intro o2 ho2 aAE;refine⟨_,_,_,hb,⟨by simp,by omega⟩,?_⟩;refine⟨_,rfl,⟨Lb.mk (arr:=arr) (t:=t) (fr:=fr) ?_ (by simp;omega) (by simp) ?_,?_⟩,⟨_,aD.bg ..,Lb.mk (arr:=arr) (t:=t) (fr:=fr) ?_ (by simp) (by omega) ?_,?_,OU.drop n,by simp;omega⟩,qP.set _ _ _⟩
    ·rw[aD.eH _ _ hbn];exact g1
    ·intro j u hu
     have:=(aQ.1 hu).1;simp only[aK]at this;rw[bN,aC (by omega)]at hu;exact g3 j u hu
    ·intro e;simp[lp]at e;exact hbn e
    ·rw[aD.eH _ _ hbn];exact g1
    ·intro j u hu
     rw[cT]at hu;have:n+j<l.length:=(aQ.1 hu).1;have e2:=ho2 (by omega);simp only[eG]at e2;have:=g3 _ u hu;rw[show o2+j=o1+(n+j) by simp at e2;omega];exact this
    ·intro e;simp[lp]at e;exact hbn e
theorem Lx.head{m:aD}(h:Lx m bp v l)(hl:l≠[]):∃b o c arr t fr,v= .slice (some ⟨b,o,none⟩) l.length c/\b≠bp/\m b=some (.cells arr t fr)/\(∀j n,l[j]?=some n->arr[o+j]?=some (.int .u8 n)):=by
 rcases h.1.cases with⟨c,rfl,h'⟩|⟨b,o,c,arr,t,fr,rfl,g1,g2,g3⟩
 ·grind
 ·exact⟨b,o,c,arr,t,fr,rfl,λe=>h.2 (by rw[e];rfl),g1,g3⟩
theorem akj{a c:Int}(ha:0<=a)(ha':a<72057594037927936)(hc:0<=c/\c<256):ag .or .u64 (nC .u64 a 8) (IntKind.u64.wrap c)=256*a+c:=by
 obtain⟨a,rfl⟩:=Fw ha;obtain⟨c,rfl⟩:=Fw hc.1;rw[wu]
 have e1:nC .u64 (a:Int) 8=((a*2^8:Nat):Int):=by
  show IntKind.u64.wrap ((a:Int)*256)=_
  rw[wu];omega
 rw[e1,Uo (by omega) (by omega),Dp 8 (by omega)];omega
theorem BV{m:aD}(h:Rd m bp s):
  bi tP 168 [cx bp] m λr m'=>r=[u64 (og s).1]/\Rd m' bp (og s).2/\qP m m' bp:=by
 have yB:jl s.1:=by obtain⟨v,_,_,_,h,_⟩:=h;exact h
 have Fa:=nF (n:=1) yB;have wz:=rK (n:=1) (s:=s);rcases qn:fL 1 s with⟨hd,s1⟩;rw[qn]at Fa wz;simp only at Fa wz;rcases hd with _|⟨c,_|⟨c',uA⟩⟩
 ·have e:og s=(0,s1):=by simp[og,qn]
  refine ap Tryz.func168 ?_;refine aP (jT (n:=1) h (by omega)) ?_;rintro _ m1⟨v1,rfl,lZ,h1,o1⟩;conv=>whnf
  rw[qn]at lZ h1;simp only at lZ h1;obtain⟨a1,c1,rfl⟩:=lZ.1.shape;refine xY ?_;conv=>whnf
  rw[e];exact⟨rfl,h1,o1⟩
 ·have hc:=Fa.1 c (by simp)
  have hcw:IntKind.i64.wrap c=(c.toNat:Int):=by rw[wi];omega
  have JI:=nF (n:=c.toNat) (zj (b:=decide (c<=8)) Fa.2);have Td:=rK (n:=c.toNat) (s:=ay (decide (c<=8)) s1)
  have hc8:c.toNat<=8\/(fL c.toNat (ay (decide (c<=8)) s1)).1=[]:=by
   by_cases h8:c<=8
   ·exact .inl (by omega)
   ·refine .inr ?_
    have:(ay (decide (c<=8)) s1).2≠0:=by
     unfold ay;split
     ·simp
     ·rename_i h;simp[h8]at h;exact h
    rw[fL,aC this]
  rcases jK:fL c.toNat (ay (decide (c<=8)) s1)with⟨l,s3⟩;rw[jK]at JI Td hc8;simp only at JI Td hc8
  have hl8:l.length<=8:=by
   rcases hc8 with h|h
   ·omega
   ·rw[h];simp
  have e:og s=(if (ay (l.isEmpty||decide (0<FQ l)) s3).2≠0 then 0 else VU l,ay (l.isEmpty||decide (0<FQ l)) s3):=by
   unfold og;rw[qn];dsimp only;rw[if_neg (by simp),show FQ [c]=c from rfl,jK]
  rcases l with _|⟨x,l'⟩
  ·refine ap Tryz.func168 ?_
   refine aP (jT (n:=1) h (by omega)) ?_;rintro _ m1⟨v1,rfl,lZ,h1,o1⟩;conv=>whnf
   rw[qn]at lZ h1;simp only at lZ h1;obtain⟨b,o,cc,arr,t,fr,rfl,hbn,kW,nT⟩:=lZ.head (by simp);refine⟨λh=>absurd h (by simp),λ_=>?_⟩;refine⟨⟨by simp,by simp⟩,?_⟩;refine⟨.int .u8 c,aF kW (nT 0 c rfl),rfl,?_⟩;refine aP (lh (is:=decide (c<=8)) h1) ?_;rintro _ m2⟨rfl,h2,o2⟩;have oM:m2 b=some (.cells arr t fr):=by rw[o2 b hbn];exact kW
   refine⟨⟨by simp,by simp⟩,?_⟩;refine⟨.int .u8 c,aF oM (nT 0 c rfl),rfl,?_⟩;conv=>whnf
   rw[hcw];refine aP (jT (n:=c.toNat) h2 (by omega)) ?_;rintro _ m3⟨v3,rfl,tX,h3,o3⟩;conv=>whnf
   rw[jK]at tX h3;simp only at tX h3;obtain⟨a3,c3,rfl⟩:=tX.1.shape;refine xY ?_;refine aP (lh (is:=true) h3) ?_;rintro _ m4⟨rfl,h4,o4⟩;refine .mk (ι:=Unit) (λ_=>0) (λ_ mm=>mm=m4) (λ_=>[(0,.c (cx bp)),(5,.c (u64 0)),(36,.c (.v (.slice a3 0 c3))),(37,.c (i64 0)),(38,.c (i64 0))]) (λ_=>[]) () rfl ?_ ?_
   ·exact Cr
   rintro _ _ rfl;refine xN ?_;have Ai:=h4;obtain⟨v4,OV,_⟩:=Ai;refine xM OV ?_;have qX:og s=(0,ay true s3):=by rw[e];simp[VU]
   rw[qX];apply bI<;>intro h5
   ·exact⟨rfl,h4,((o1.trans o2).trans o3).trans o4⟩
   ·exact⟨rfl,h4,((o1.trans o2).trans o3).trans o4⟩
  ·refine ap Tryz.func168 ?_
   refine aP (jT (n:=1) h (by omega)) ?_;rintro _ m1⟨v1,rfl,lZ,h1,o1⟩;conv=>whnf
   rw[qn]at lZ h1;simp only at lZ h1;obtain⟨b,o,cc,arr,t,fr,rfl,hbn,kW,nT⟩:=lZ.head (by simp);refine⟨λh=>absurd h (by simp),λ_=>?_⟩;refine⟨⟨by simp,by simp⟩,?_⟩;refine⟨.int .u8 c,aF kW (nT 0 c rfl),rfl,?_⟩;refine aP (lh (is:=decide (c<=8)) h1) ?_;rintro _ m2⟨rfl,h2,o2⟩;have oM:m2 b=some (.cells arr t fr):=by rw[o2 b hbn];exact kW
   refine⟨⟨by simp,by simp⟩,?_⟩;refine⟨.int .u8 c,aF oM (nT 0 c rfl),rfl,?_⟩;conv=>whnf
   rw[hcw];refine aP (jT (n:=c.toNat) h2 (by omega)) ?_;rintro _ m3⟨v3,rfl,tX,h3,o3⟩;conv=>whnf
   rw[jK]at tX h3;simp only at tX h3;obtain⟨b3,o3',cc3,ae9,t3,fr3,rfl,au5,Ah,ZK⟩:=tX.head (by simp);refine⟨λh=>absurd h (by simp;omega),λ_=>?_⟩;refine⟨⟨by simp,by simp⟩,?_⟩;refine⟨.int .u8 x,aF Ah (ZK 0 x rfl),rfl,?_⟩;refine aP (lh (is:=decide (0<x)) h3) ?_;rintro _ m4⟨rfl,h4,o4⟩;have e4:ay ((x::l').isEmpty||decide (0<FQ (x::l'))) s3=ay (decide (0<x)) s3:=rfl;rw[e4]at e;have QZ:=tX.only o4;refine .mk (ι:=Nat) (λi=>(x::l').length-i) (λi mm=>m4=mm/\i<=(x::l').length) (λi=>[(0,.c (cx bp)),(5,.c (u64 (VU ((x::l').take i)))),(36,.c (.v (.slice (some ⟨b3,o3',none⟩) (x::l').length cc3))),(37,.c (i64 (x::l').length)),(38,.c (i64 i))]) (λ_=>[]) 0 ⟨rfl,by simp⟩ ?_ ?_
   ·exact Cr
   rintro i _⟨rfl,hi⟩;apply bI<;>intro h5
   ·have h5':=ah h5
    have bH:i<(x::l').length:=by omega
    repeat refine xS ?_
    have avc:m4 b3=some (.cells ae9 t3 fr3):=by rw[o4 b3 au5];exact Ah
    refine⟨.int .u8 (x::l')[i],aF avc (ZK i _ (by simp)),rfl,?_⟩;refine⟨i+1,⟨rfl,by omega⟩,by omega,?_⟩;have hbt:=Mg (JI.1.take i);have hpw:(256:Nat)^((x::l').take i).length<=256^7:=pQ (by decide) (by rw[aK];omega);have hpe:((256^((x::l').take i).length:Nat):Int)=(256:Int)^((x::l').take i).length:=by simp
    have hx:=JI.1 (x::l')[i] (by simp)
    have dI:ag .or .u64 (nC .u64 (VU ((x::l').take i)) 8) (IntKind.u64.wrap (x::l')[i])=VU ((x::l').take (i+1)):=by
     rw[akj hbt.1 (by omega) hx,au bH,aeT]
    conv=>whnf
    repeat (refine And.intro (by first|with_reducible rfl|(first|exact cI (qJ (by omega))|exact cI dI)|exact cI (wi)|exact wi|rfl) ?_;conv=>whnf)
    exact xT
   ·have h5':=aj h5
    obtain rfl:i=(x::l').length:=by omega
    have Ai:=h4;obtain⟨v4,OV,_⟩:=Ai;refine xM OV ?_;conv=>whnf
    rw[e];apply bI<;>intro h6
    ·have h6':(ay (decide (0<x)) s3).2≠0:=by simpa using h6
     conv=>whnf
     rw[aC h6'];exact⟨rfl,h4,((o1.trans o2).trans o3).trans o4⟩
    ·have h6':(ay (decide (0<x)) s3).2=0:=by simpa using h6
     conv=>whnf
     rw[if_neg (by simp[h6']),aJ];exact⟨rfl,h4,((o1.trans o2).trans o3).trans o4⟩
 ·simp at wz
theorem Dg(h:jl s.1):BC (og s).1:=by
 have z:BC 0:=⟨by decide,by decide⟩;unfold og;rcases hr:fL 1 s with⟨hd,s1⟩;have b1:=nF (n:=1) h;rw[hr]at b1;dsimp only;split
 ·exact z
 ·rcases jK:fL (FQ hd).toNat (ay (decide (FQ hd<=8)) s1)with⟨l,s3⟩
  have b2:=nF (n:=(FQ hd).toNat) (zj (b:=decide (FQ hd<=8)) b1.2);have l2:=rK (n:=(FQ hd).toNat) (s:=ay (decide (FQ hd<=8)) s1);rw[jK]at b2 l2;dsimp only;split
  ·exact z
  ·refine arj b2.1 ?_
   by_cases h8:FQ hd<=8
   ·grind
   ·have:(ay (decide (FQ hd<=8)) s1).2≠0:=by
     unfold ay;split
     ·simp
     grind
    rw[fL,aC this]at jK
    grind
theorem Rd.xA{m:aD}(h:Rd m bp s):jl s.1:=by obtain⟨v,_,_,_,h,_⟩:=h;exact h
variable{dG:Int}
theorem j9{m:aD}(h:Rd m bp s)(hm:I64 dG):
  bi tP 98 [cx bp,i64 dG] m λr m'=>r=[i64 (cZ dG s).1]/\Rd m' bp (cZ dG s).2/\qP m m' bp:=by
 have hU:=Dg h.xA;have hU0:=hU.1;have hU1:=hU.2;have hm0:=hm.1;have NT:=hm.2;rcases hr:og s with⟨n,s1⟩;rw[hr]at hU0 hU1;simp only at hU0 hU1
 have key:∀is:Bool,is=(decide (0<=dG)&&decide (n<=max dG 0))->cZ dG s=(if (ay is s1).2≠0 then 0 else n,ay is s1):=by
  rintro is rfl;simp only[cZ,hr]
 refine ap Tryz.func98 ?_;refine aP (BV h) ?_;rintro _ m1⟨rfl,h1,o1⟩;conv=>whnf
 rw[hr]at h1;simp only[]at h1;apply bI<;>intro h2
 ·have iD:=ah h2
  conv=>whnf
  have k:=key (decide (n<=max dG 0)) (by simp[iD]);rw[hr];have ew:IntKind.u64.wrap (max dG 0)=max dG 0:=wu;rw[ew];refine aP (lh (is:=decide (n<=max dG 0)) h1) ?_;rintro _ m3⟨rfl,h3,o3⟩;refine bt (iX h3) ?_;conv=>whnf
  rw[k];apply bI<;>intro h4
  ·have Ai:(ay (decide (n<=max dG 0)) s1).2≠0:=by simpa using h4
   conv=>whnf
   rw[aC Ai];exact⟨rfl,h3,o1.trans o3⟩
  ·have Ai:(ay (decide (n<=max dG 0)) s1).2=0:=by simpa using h4
   conv=>whnf
   have hle:n<=max dG 0:=by
    unfold ay at Ai
    split at Ai
    ·simp at Ai
    ·rename_i hh;simp[Ai]at hh;omega
   rw[if_neg (by simp[Ai]),wi];exact⟨rfl,h3,o1.trans o3⟩
 ·have iD:=aj h2
  have k:=key false (by simp[iD]);refine aP (lh (is:=false) h1) ?_;rintro _ m3⟨rfl,h3,o3⟩;refine bt (iX h3) ?_;conv=>whnf
  rw[k]
  have ga:(ay false s1).2≠0:=by
   unfold ay;split
   ·simp
   ·rename_i hh;simpa using hh
  apply bI<;>intro h4
  ·conv=>whnf
   rw[aC ga];exact⟨rfl,h3,o1.trans o3⟩
  ·exact absurd h4 (by simpa using ga)
theorem yM{m:aD}(h:Rd m bp s):eN tP 158 [cx bp] m [i64 (if s.2≠0 then s.2 else if s.1=[]then 0 else 2)]:=by
 have h0:=h;obtain⟨v,hb,hv,hn,OU,hl⟩:=h;refine ap Tryz.func158 ?_;refine bt (iX h0) ?_;apply bI<;>intro h1
 ·have jc:s.2≠0:=by simpa using h1
  conv=>whnf
  rw[aC jc];exact rR
 ·have jc:s.2=0:=by simpa using h1
  obtain⟨a,c,rfl⟩:=hv.shape;refine⟨.slice a s.1.length c,aF hb rfl,rfl,?_⟩;conv=>whnf
  rw[if_neg (by simp[jc])];apply bI<;>intro h2
  ·have iD:=ah h2
   conv=>whnf
   rw[if_neg (by intro e;simp[e]at iD)];exact rR
  ·have iD:=aj h2
   conv=>whnf
   rw[aC (by apply cB;omega)];exact rR
theorem asW{n:Int}(h:BC n):oV .u64 n 1=n/2:=by
 show n.fdiv 2=_
 grind
theorem amo{n:Int}(h:BC n):ag .and .u64 n 1=n%2:=by
 obtain⟨k,rfl⟩:=Fw h.1;have:=h.2;have e:=OK (a:=k) (b:=1) (by omega) (by omega)
 grind
theorem AW{b:Bool}(h:(ay b s).2=0):s.2=0/\b=true:=by
 unfold ay at h
 grind
theorem adg{m:aD}(h:Rd m bp s):
  bi tP 323 [cx bp] m λr m'=>r=[i64 (Jt s).1]/\Rd m' bp (Jt s).2/\qP m m' bp:=by
 have hU:=Dg h.xA;rcases hr:og s with⟨n,s1⟩;rw[hr]at hU;simp only at hU;have hU0:=hU.1;have hU1:=hU.2
 have hI:Jt s=(let s2:=if n%2=0 then ay (decide (n/2<=4611686018427387904)) s1 else ay (decide (n/2<4611686018427387904)) s1;(if s2.2≠0 then 0 else if n%2=1 then-(n/2)-1 else n/2,s2)):=by
  simp only[Jt,hr]
 refine ap Tryz.func323 ?_;refine aP (BV h) ?_;rintro _ m1⟨rfl,h1,o1⟩;conv=>whnf
 simp only[hr]at h1;rw[hr];simp only[asW hU,amo hU];apply bI<;>intro h2
 ·have iD:n%2=0:=by simpa using h2
  refine aP (lh (is:=decide (n/2<=4611686018427387904)) h1) ?_;rintro _ m3⟨rfl,h3,o3⟩;refine bt (iX h3) ?_;conv=>whnf
  rw[hI];simp only[iD,oN];apply bI<;>intro h4
  ·have Ai:(ay (decide (n/2<=4611686018427387904)) s1).2≠0:=by simpa using h4
   conv=>whnf
   rw[aC Ai];exact⟨rfl,h3,o1.trans o3⟩
  ·have Ai:(ay (decide (n/2<=4611686018427387904)) s1).2=0:=by simpa using h4
   refine⟨λh=>absurd h (by rw[amo hU,iD];decide),λ_=>?_⟩;conv=>whnf
   have:=ah (AW Ai).2;rw[if_neg (by simp[Ai]),if_neg (by decide),wi];exact⟨rfl,h3,o1.trans o3⟩
 ·have iD:n%2=1:=by have:n%2≠0:=(by simpa using h2);omega
  refine aP (lh (is:=decide (n/2<4611686018427387904)) h1) ?_;rintro _ m3⟨rfl,h3,o3⟩;refine bt (iX h3) ?_;conv=>whnf
  rw[hI];simp only[iD,if_neg (show ¬(1:Int)=0 by decide),oN];apply bI<;>intro h4
  ·have Ai:(ay (decide (n/2<4611686018427387904)) s1).2≠0:=by simpa using h4
   conv=>whnf
   rw[aC Ai];exact⟨rfl,h3,o1.trans o3⟩
  ·have Ai:(ay (decide (n/2<4611686018427387904)) s1).2=0:=by simpa using h4
   refine⟨λ_=>?_,λh=>absurd h (by rw[amo hU,iD];decide)⟩;conv=>whnf
   have:=ah (AW Ai).2;rw[wi,WD (by omega) (by omega),if_neg (by simp[Ai])];exact⟨rfl,h3,o1.trans o3⟩
theorem ij(h:jl s.1)(hm:I64 dG):0<=(cZ dG s).1/\(cZ dG s).1<=max dG 0:=by
 have hU:=Dg h;rcases hr:og s with⟨n,s1⟩;rw[hr]at hU;have hU0:0<=n:=hU.1;simp only[cZ,hr];split
 ·omega
 ·rename_i hh
  have:=(AW (by simpa using hh)).2
  grind
theorem KD{m:aD}(h:Rd m bp s)(hm:I64 dG):
  bi tP 156 [cx bp,i64 dG] m λr m'=>∃v p q,r=[.v v]/\aq m' [p,q]/\Bs p v (kM dG s).1/\Rd q bp (kM dG s).2:=by
 have hn:=ij (dG:=dG) h.xA hm;have NT:=hm.2;rcases hr:cZ dG s with⟨k,s1⟩;rw[hr]at hn;simp only at hn;have ht:kM dG s=fL k.toNat s1:=by simp only[kM,hr]
 refine ap Tryz.func156 ?_;refine aP (j9 h hm) ?_;rintro _ m1⟨rfl,h1,o1⟩;conv=>whnf
 simp only[hr]at h1;rw[hr];have hk:(i64 k)=i64 (k.toNat:Int):=by rw[Int.toNat_of_nonneg hn.1]
 simp only[hk];refine aP (jT h1 (by omega)) ?_;rintro _ m2⟨v2,rfl,lD,h2,o2⟩;have OU:=nF (n:=k.toNat) h1.xA
 have hlen:(fL k.toNat s1).1.length<=100000000:=by
  obtain⟨v,_,_,_,_,hl⟩:=h1;unfold fL;split
  ·simp
  ·split
   ·simp
   ·simp;omega
 refine aP (sQ lD.1.la hlen) ?_;rintro _ m3⟨v3,p3,rfl,dy,tX⟩;conv=>whnf
 rw[ht];exact⟨v3,p3,m2,rfl,dy,tX,h2⟩
theorem Rd.mono{m:aD}(h:Rd m bp s)(hs:cL m m'):Rd m' bp s:=by
 obtain⟨v,h1,h2,h3⟩:=h;exact⟨v,hs _ _ h1,h2.sub hs,h3⟩
theorem ab1:(fL 32 s).1=[]\/(fL 32 s).1.length=32:=by
 unfold fL;split
 ·grind
 grind
theorem GM{m:aD}(h:Rd m bp s):
  bi tP 99 [cx bp] m λr m'=>r=[aq7 (gZ s).1]/\Rd m' bp (gZ s).2:=by
 have h32:=ab1 (s:=s)
 have NW:(gZ s).1.length=32:=by
  simp only[gZ];rcases h32 with e|e
  ·rw[e];rfl
  ·simp[e]
 refine c7 c99 Tryz.func99 ?_;intro b hb;intro o' ho _;obtain rfl:o'=0:=ho (by decide);have MS:=(aq.one m).new hb (Obj.cells (LB.cz [eB.bG IntKind.u8 32 (List.replicate 32 0)]).toArray 60);refine aP ((jT (n:=32) h (by decide)).at (i:=1) MS rfl) ?_;rintro _ m2⟨p2,⟨v2,rfl,lD,h2,o2⟩,bZ⟩;have oM:=bZ.at (i:=0) rfl _ _ (aG b _);refine .mk _ (VL eR OW rfl hU8 rfl oM (by simp[LB.cz,eB.cells]) (lD.1.sub (bZ.at (i:=1) rfl))) ?_;rintro _ _⟨rfl,rfl⟩;have dy:=bZ.gu (i:=0) rfl (aG b _) (Obj.cells (LB.cz [eB.bG IntKind.u8 32 (gZ s).1]).toArray 60)
 have HV:(List.take 0 (LB.cz [eB.bG IntKind.u8 32 (List.replicate 32 0)]).toArray.toList++List.take 32 (bc (fL 32 s).1)++List.drop (0+(List.take 32 (bc (fL 32 s).1)).length) (LB.cz [eB.bG IntKind.u8 32 (List.replicate 32 0)]).toArray.toList)=LB.cz [eB.bG IntKind.u8 32 (gZ s).1]:=by
  simp only[gZ];rcases h32 with e|e
  ·rw[e];rfl
  ·simp[e,bc,LB.cz,eB.cells,bP]
 rw[HV];refine⟨[.bG .u8 32 (gZ s).1],⟨NW,trivial⟩,rfl,dQ.Wl [] [] (aD.bg ..) rfl,?_⟩;exact⟨rfl,h2.mono (dy.at (i:=1) rfl)⟩
theorem Df:∀(k:Nat) (s:RS),(mz k s).1.length=k
 |0,_=>rfl
 |k+1,s=>by simp[mz,Df k s]
theorem YP{k:Nat}(h:k<8):((mz k s).1++List.replicate (8-k) 0).set k (og (mz k s).2).1=(mz (k+1) s).1++List.replicate (8-(k+1)) 0:=by
 have hl:=Df k s;rw[fA _ _ (by omega),hl,kF];obtain⟨j,hj⟩:∃j,8-k=j+1:=⟨8-k-1,by omega⟩;rw[hj,List.replicate_succ,s7,show 8-(k+1)=j by omega];simp[mz]
theorem abf{m:aD}(h:Rd m bp s):
  bi tP 240 [cx bp] m λr m'=>r=[aa4 (uS s).1]/\Rd m' bp (uS s).2/\qP m m' bp:=by
 refine ap Tryz.func240 ?_
 refine .mk (ι:=Nat) (λi=>8-i) (λi mm=>i<=8/\Rd mm bp (mz i s).2/\qP m mm bp)
  (λi=>[(0,.c (cx bp)),(2,.p 0 0),(3,.p 1 0),(5,.c (i64 i))]) (λi=>[(108,[.bG .u64 8 (List.replicate 8 0)]),(108,[.bG .u64 8 ((mz i s).1++List.replicate (8-i) 0)])]) 0 ⟨by omega,h,qP.refl _ _⟩ ?_ ?_
 ·exact Cr
 rintro i mm⟨hi,h1,o1⟩;apply bI<;>intro h2
 ·have iD:=ah h2
  refine aP (BV h1) ?_;rintro _ m3⟨rfl,h3,o3⟩
  repeat refine xS ?_
  refine⟨i+1,⟨by omega,h3,o1.trans o3⟩,by omega,?_⟩;conv=>whnf
  repeat (refine And.intro (by first|with_reducible rfl|(first|exact cI (qJ (by omega))|exact YP (by omega))|exact cI (wi)|exact wi|rfl) ?_;conv=>whnf)
  exact xT
 ·have iD:=aj h2
  obtain rfl:i=8:=by omega
  refine bt (iX h1) ?_;have hv:uS s=(if (mz 8 s).2.2≠0 then List.replicate 8 0 else(mz 8 s).1,(mz 8 s).2):=rfl;rw[hv];apply bI<;>intro h3
  ·have yF:(mz 8 s).2.2≠0:=by simpa using h3
   conv=>whnf
   rw[aC yF];exact⟨rfl,h1,o1⟩
  ·have yF:(mz 8 s).2.2=0:=by simpa using h3
   conv=>whnf
   rw[if_neg (by simp[yF])];refine⟨?_,h1,o1⟩;simp
theorem IZ.ok{e:En}(h:IZ e):CS e:=by
 have h1:=h.i1;have h2:=h.i2;have h3:=h.n1;have h4:=h.n2;have h5:=h.k1;have h6:=h.k2;have h7:=h.q1;have h8:=h.q2;unfold CS I U;omega
variable{E:List En}
theorem Vz(h:i<E.length):oB (E.take (i+1))=oB (E.take i)++JW E[i]:=by
 rw[au h,oB,bD,gk];simp[oB]
variable{c:Nat}
theorem K1{mm m p:aD}(hS:cK m){u:List Int}{a:Option Addr}(hs:aq mm [p,m])(hw:Wr p bp l)(hv:Na m (.slice a E.length c) E)(hu:yZ u)(hI:∀e∈E,CS e)(hl:l.length<=10000000-100000)(hlE:E.length<=1000000):
  bi tP 81 [cx bp,iY u a E.length c] mm λr m'=>r=[]/\∃p',aq m' [p',m]/\Wr p' bp (l++AY (u,E)):=by
 have B8:cL m mm:=hs.sub (by simp);refine ap Tryz.func81 ?_;refine bt (pV (u:=u) (hS.sub B8) (hv.sub B8) hI hlE) ?_;by_cases hr:dA u E=true;rotate_left
 ·have hr:dA u E=false:=by simpa using hr
  rw[hr];refine xY ?_;refine⟨rfl,p,hs,?_⟩;simp only[AY];rw[if_neg (by rw[hr];decide),cO];exact hw
 have ajB:=tM hu hr;have aBT:=pj hr;have hvl:=qd u;rw[hu.1]at hvl;rw[hr];refine xN ?_;refine aP (bi.frame hs (XX (v:=u) hw hu (by omega))) ?_;rintro _ m1⟨p1,⟨rfl,Zs⟩,bM⟩;conv=>whnf
 rw[wu];refine aP (bi.frame bM (iK (n:=(E.length:Int)) Zs (yf (by omega)) (by rw[ax];omega))) ?_;rintro _ m2⟨p2,⟨rfl,hw2⟩,bZ⟩;have Tc:=eI (E.length:Int);have aqv:(l++kH u++fe (E.length:Int)).length<=10000000-90000:=by simp only[ax];omega
 have u9:l++AY (u,E)=l++kH u++fe (E.length:Int)++oB E:=by
  simp only[AY];rw[aC hr,yV];simp only[aX]
 rw[u9];generalize l++kH u++fe (E.length:Int)=l0 at hw2 aqv;refine .mk (ι:=Nat) (λi=>E.length-i) (λi mm=>i<=E.length/\∃p,aq mm [p,m]/\Wr p bp (l0++oB (E.take i))) (λi=>[(0,.c (cx bp)),(20,.c (.v (.slice a E.length c))),(21,.c (i64 E.length)),(22,.c (i64 i))]) (λ_=>[]) 0 ⟨by omega,p2,bZ,by simpa [oB]using hw2⟩ ?_ ?_
 ·exact Cr
 rintro i mm⟨hi,p,hs,hw⟩;apply bI<;>intro h
 ·have h':=ah h
  have bH:i<E.length:=by omega
  obtain⟨bl,ol,c',hh,hg⟩:=(hv.sub (hs.sub (a:=m))).real bH;injection hh with eK _ fN;subst eK;have hg:=hg i bH;have dI:=Vz bH;have JS:=ajB _ (aO bH);have xz:=D6 (E:=E.take i) λe he=>ajB e (bX he);rw[aK]at xz;generalize E[i]=x at hg dI JS;have e1:=JS.i1;have e2:=JS.i2;have e3:=JS.n1;have e4:=JS.n2;have e5:=JS.k1;have e6:=JS.k2;have e7:=JS.q1;have e8:=JS.q2;have el:=RZ JS
  repeat refine xS ?_
  refine⟨[.one (.int .i64 x.1),.one (.int .i64 x.2.1),.one (.int .u64 x.2.2.1),.one (.int .i64 x.2.2.2)],⟨rfl,rfl,rfl,rfl,trivial⟩,rfl,by simp only[bK,aA];exact hg,?_⟩;conv=>whnf
  rw[wu];have n1:=eI x.1;have n2:=eI x.2.1;have n3:=eI x.2.2.1;refine aP (bi.frame hs (iK (n:=x.1) hw ⟨by omega,by omega⟩ (by simp only[ax];omega))) ?_;rintro _ k1⟨q1,⟨rfl,mQ⟩,Fa⟩;conv=>whnf
  rw[wu];refine aP (bi.frame Fa (iK (n:=x.2.1) mQ ⟨by omega,by omega⟩ (by simp only[ax];omega))) ?_;rintro _ k2⟨q2,⟨rfl,rO⟩,JI⟩;refine aP (bi.frame JI (iK (n:=x.2.2.1) rO ⟨by omega,by omega⟩ (by simp only[ax];omega))) ?_;rintro _ k3⟨q3,⟨rfl,EK⟩,W5⟩;refine aP (bi.frame W5 (aod (n:=x.2.2.2) EK ⟨by omega,by omega⟩ (by simp only[ax];omega))) ?_;rintro _ k4⟨q4,⟨rfl,Zx⟩,W4⟩;refine⟨i+1,⟨by omega,q4,W4,?_⟩,by omega,?_⟩
  ·rw[dI,JW]
   simpa only[aX]using Zx
  ·exact Cr
 ·have h':=aj h
  obtain rfl:i=E.length:=by omega
  rw[aJ]at hw;exact⟨rfl,p,hs,hw⟩
theorem aoG(h:jl s.1):I64 (Jt s).1:=by
 have hU:=Dg h;rcases hr:og s with⟨n,s1⟩;rw[hr]at hU;have h0:0<=n:=hU.1;have h1:n<18446744073709551616:=hU.2;unfold Jt I64
 grind
theorem agm(h:jl s.1):jl (og s).2.1:=by
 unfold og;rcases hr:fL 1 s with⟨hd,s1⟩;have b1:=nF (n:=1) h;rw[hr]at b1;dsimp only;split
 ·exact b1.2
 ·exact zj (nF (zj b1.2)).2
theorem aoF(h:jl s.1):yZ (uS s).1:=by
 have hn:∀k,jl (mz k s).2.1/\∀x∈(mz k s).1,BC x:=by
  intro k
  induction k with
  |zero=>exact⟨h,by simp[mz]⟩
  |succ k ih=>
   refine⟨agm ih.1,?_⟩;intro x hx;simp only[mz,aR,aL]at hx;rcases hx with hx|rfl
   ·exact ih.2 x hx
   ·exact Dg ih.1
 refine⟨?_,?_⟩
 ·unfold uS;simp only;split
  ·simp
  ·exact Df 8 s
 ·unfold uS;simp only;split
  ·intro x hx
   have:=List.eq_of_mem_replicate hx;subst this;exact⟨by decide,by decide⟩
  grind
theorem VA{m:aD}(h:Rd m bp s):
  bi tP 241 [cx bp] m λr m'=>r=[Nv (Iq s).1]/\Rd m' bp (Iq s).2/\CS (Iq s).1:=by
 refine ap Tryz.func241 ?_;have k1:=ij (dG:=60) h.xA ⟨by decide,by decide⟩;refine aP (j9 (dG:=60) h ⟨by decide,by decide⟩) ?_;rintro _ m1⟨rfl,h1,o1⟩;have k2:=ij (dG:=8) h1.xA ⟨by decide,by decide⟩;refine aP (j9 (dG:=8) h1 ⟨by decide,by decide⟩) ?_;rintro _ m2⟨rfl,h2,o2⟩;have k3:=Dg h2.xA;refine aP (BV h2) ?_;rintro _ m3⟨rfl,h3,o3⟩;have k4:=aoG h3.xA;refine aP (adg h3) ?_;rintro _ m4⟨rfl,h4,o4⟩;refine⟨rfl,h4,?_⟩;unfold Iq CS I U;unfold BC at k3;unfold I64 at k4;simp only;omega
theorem pg:yZ fx:=⟨rfl,λx hx=>by have:=List.eq_of_mem_replicate hx;subst this;exact⟨by decide,by decide⟩⟩
theorem Vx(h:s.2≠0):w8 n E s=(E,s):=by
 cases n with
 |zero=>rfl
 |succ n=>rw[w8,aC h]
theorem Vy(h:s.2=0):w8 (n+1) E s=w8 n (E++[(Iq s).1]) (Iq s).2:=by rw[w8,if_neg (by rw[h];decide)]
theorem AZ{mm m q:aD}(hS:cK m)(hs:aq mm [q,m])(hr:Rd q bp s):
  bi tP 157 [cx bp] mm λr m'=>∃x a c q' p,x=(oU s).1/\r=[iY x.1 a x.2.length c]/\aq m' [p,q',m]/\Rd q' bp (oU s).2/\Na p (.slice a x.2.length c) x.2/\yZ x.1/\∀e∈x.2,CS e:=by
 refine c7 aDB Tryz.func157 ?_;have hu:=aoF hr.xA;refine aP (bi.frame hs (abf hr)) ?_;rintro _ m1⟨q1,⟨rfl,qn,_⟩,bM⟩;have hn:=ij (dG:=400) qn.xA ⟨by decide,by decide⟩;refine aP (bi.frame bM (j9 (dG:=400) qn ⟨by decide,by decide⟩)) ?_;rintro _ m2⟨q2,⟨rfl,jK,_⟩,bZ⟩;have hD:wS s=w8 (cZ 400 (uS s).2).1.toNat [] (cZ 400 (uS s).2).2:=rfl;have hx1:Av s=ay (dA (uS s).1 (wS s).1) (wS s).2:=rfl;have Be:oU s=(if (Av s).2≠0 then(fx,[])else((uS s).1,(wS s).1),Av s):=rfl;generalize uS s=us at*;generalize cZ 400 us.2=ns at*;obtain⟨u,us2⟩:=us;obtain⟨n,ns2⟩:=ns;simp only at hu qn jK hn hD hx1 Be⊢;have hz:List.take 0 (List.replicate 8 (0:Int))++(u++List.drop (0+8) (List.replicate 8 0))=u:=by simp
 obtain⟨k,rfl⟩:∃k:Nat,n=(k:Int):=⟨n.toNat,by omega⟩;rw[aA]at hD;have hk:k<=400:=by omega
 generalize wS s=dd at*;generalize Av s=ss at*;generalize oU s=cc at*;refine .mk (ι:=Nat×Value×Nat×Nat) (λi=>k-i.1) (λ⟨i,a,nE,c⟩ mm=>i<=k/\∃p q E si,nE=List.length E/\E.length<=i/\aq mm [p,q,m]/\No p a E/\(∃aa,a= .slice aa nE c)/\Rd q bp si/\dd=w8 (k-i) E si/\∀e∈E,CS e) (λ⟨i,a,nE,c⟩=>[(0,.c (cx bp)),(2,.p 0 0),(3,.p 1 0),(8,.c (i64 k)),(9,.c (i64 i))]) (λ⟨i,a,nE,c⟩=>[(111,[.bG .u64 8 (List.replicate 8 0),.one (.slice none 0 0)]),(111,[.bG .u64 8 u,.one a])]) (0,.slice none 0 0,0,0) ⟨by omega,iI,q2,[],ns2,rfl,by simp,bZ.cA,No.nil _,⟨none,rfl⟩,jK,hD,by simp⟩ ?_ ?_
 ·conv=>whnf
  repeat (refine And.intro (by first|with_reducible rfl|(exact hz)|exact cI (wi)|exact wi|rfl) ?_;conv=>whnf)
  exact xT
 rintro⟨i,a,nE,c⟩ mm ⟨hi,p,q,E,si,hE,hEi,hs,hp,⟨aa,ha⟩,hr,Rj,ez⟩;subst hE ha;apply bI<;>intro h
 ·have h':=ah h
  have bH:i<k:=by omega
  refine bt (iX (hr.mono (hs.sub))) ?_;apply bI<;>intro h
  ·have ga:si.2≠0:=by simpa using h
   have adP:dd=(E,si):=by rw[Rj,Vx ga]
   have e1:dd.1=E:=by rw[adP]
   have e2:dd.2=si:=by rw[adP]
   rw[e1,e2]at hx1;rw[e1]at Be;refine bt (pV (u:=u) (hS.sub (hs.sub)) (hp.ea.sub (hs.sub)) ez (by omega)) ?_;refine aP (bi.at (i:=1) hs rfl (lh (is:=dA u E) hr)) ?_;rintro _ m5⟨q5,⟨rfl,hr5,_⟩,eD⟩;have eD:aq m5 [p,q5,m]:=eD;rw[<-hx1]at hr5;refine bt (iX (hr5.mono (eD.sub))) ?_;apply bI<;>intro h
   ·have h':ss.2≠0:=by simpa using h
    rw[aC h']at Be;exact⟨(fx,[]),none,0,q5,iI,by rw[Be],rfl,eD.drop.cA,by rw[Be];exact hr5,Na.nil _,pg,by simp⟩
   ·have h':¬ss.2≠0:=by simpa using h
    rw[if_neg h']at Be;exact⟨(u,E),aa,c,q5,p,by rw[Be],by simp,eD,by rw[Be];exact hr5,hp.ea,hu,ez⟩
  ·have ga:si.2=0:=by simpa using h
   have hkk:k-i=(k-(i+1))+1:=by omega
   rw[hkk,Vy ga]at Rj;refine aP (bi.at (i:=1) hs rfl (VA hr)) ?_;rintro _ m3⟨q3,⟨rfl,wo,alg⟩,dy⟩
   try refine⟨λ_ h=>(by cases h),?_⟩
   have dy:aq m3 [p,q3,m]:=dy;generalize Iq si=ee at Rj wo alg⊢;obtain⟨x,si'⟩:=ee;simp only at Rj wo alg;refine .mk _ (FW (e:=x)) ?_;rintro _ _⟨b5,mo,rfl,rfl⟩
   try refine⟨λ_ h=>(by cases h),?_⟩
   refine .mk _ (Wx (i:=0) dy rfl mo hp (by omega)) ?_;rintro _ m6⟨v',p',rfl,gC,tZ⟩
   try refine⟨λ_ h=>(by cases h),?_⟩
   have gC:aq m6 [p',q3,m]:=gC;obtain⟨a',c',rfl⟩:=tZ.el.shape;refine⟨(i+1,.slice a' (E++[x]).length c',(E++[x]).length,c'),⟨by omega,p',q3,E++[x],si',rfl,by rw[ax];simp;omega,gC,tZ,⟨a',rfl⟩,wo,Rj,λe he=>?_⟩,by simp only;omega,?_⟩
   ·rcases aR.1 he with he|he
    ·exact ez e he
    ·rw[aL.1 he];exact alg
   ·exact Cr
 ·have h':=aj h
  obtain rfl:i=k:=by omega
  rw[kF]at Rj;have adP:dd=(E,si):=Rj;have e1:dd.1=E:=by rw[adP]
  have e2:dd.2=si:=by rw[adP]
  rw[e1,e2]at hx1;rw[e1]at Be;refine bt (pV (u:=u) (hS.sub (hs.sub)) (hp.ea.sub (hs.sub)) ez (by omega)) ?_;refine aP (bi.at (i:=1) hs rfl (lh (is:=dA u E) hr)) ?_;rintro _ m5⟨q5,⟨rfl,hr5,_⟩,eD⟩;have eD:aq m5 [p,q5,m]:=eD;rw[<-hx1]at hr5;refine bt (iX (hr5.mono (eD.sub))) ?_;apply bI<;>intro h
  ·have h':ss.2≠0:=by simpa using h
   rw[aC h']at Be;exact⟨(fx,[]),none,0,q5,iI,by rw[Be],rfl,eD.drop.cA,by rw[Be];exact hr5,Na.nil _,pg,by simp⟩
  ·have h':¬ss.2≠0:=by simpa using h
   rw[if_neg h']at Be;exact⟨(u,E),aa,c,q5,p,by rw[Be],by simp,eD,by rw[Be];exact hr5,hp.ea,hu,ez⟩
def QK(L:List Kd)(i:Nat):Kd:=L.getD i (ByteArray.empty,[],[])
theorem wk{L:List Kd}(h:i<L.length):L[i]=QK L i:=by rw[QK,aI,az h];rfl
theorem ahc{L:List Kd}(h:i<L.length):QK L i∈L:=by rw[<-wk h];exact aO h
def Jx(L:List Kd)(i:Nat):Bool:=decide ((QK L i).1.size<=20)&&(decide (i=0)||eZ (QK L (i-1)).1 (QK L i).1)&&dA (QK L i).2.1 (QK L i).2.2
def cX(L:List Kd):Bool:=(List.range L.length).all (Jx L)&&decide (L.length<=2000)
structure jg(x:Kd):Prop where
 u:yZ x.2.1
 e:∀e∈x.2.2,CS e
 n:x.2.2.length<=1000
theorem ki.arg{x:Kd}(h:ki x):jg x:=⟨h.u,λe he=>(tM h.u h.r e he).ok,by have:=pj h.r;omega⟩
theorem el8{x:Kd}{m:aD}(h:pP m r x):LB.cz [.one (.string x.1),.bG .u64 8 x.2.1,.one (.slice r.2.2.1 x.2.2.length r.2.2.2.2)]=fj r:=by
 rw[fj,h.u,yn h.u8,h.k,<-h.len];simp[LB.cz,eB.cells]
theorem iC{m:aD}(hS:cK m){L:List Kd}(hv:lu m v L)(hA:∀x∈L,jg x)(hl:L.length<=1000000):
  bi tP 78 [.v v] m λr m'=>r=[bR (cX L)]/\cL m m':=by
 obtain⟨R,hR,hK⟩:=hv;obtain⟨av,cv,rfl⟩:=hR.shape;have hlen:=hK.len
 have NX:∀i,i<L.length->Jx L i=false->cX L=false:=λi hi e=>by
  have:(List.range L.length).all (Jx L)=false:=by
   rw[uI];exact⟨i,dS.2 hi,by rw[e];decide⟩
  rw[cX,this];rfl
 refine c7 c78 Tryz.func78 ?_;refine .mk (ι:=Nat) (λi=>R.length-i) (λi mm=>i<=R.length/\(∀j,j<i->Jx L j=true)/\cL m mm) (λi=>[(0,.c (.v (.slice av R.length cv))),(5,.c (.v (.slice av R.length cv))),(6,.c (i64 R.length)),(7,.c (i64 i))]) (λ_=>[]) 0 ⟨by omega,by omega,cL.refl _⟩ ?_ ?_
 ·exact Cr
 rintro i mm⟨hi,cM,hs⟩;apply bI<;>intro h
 ·have h':=ah h
  have bH:i<R.length:=by omega
  obtain⟨bl,ol,c',hh,hg⟩:=hR.real bH;injection hh with eK _ fN;subst eK;have Xk:=NX i (by omega);have js:=hg i bH;have Ag:=hg (i-1) (by omega);have hx:=hK.je i bH (by omega);have hx1:=hK.je (i-1) (by omega) (by omega);have LX:=hA _ (aO (show i<L.length by omega));have ez:Jx L i=(decide ((QK L i).1.size<=20)&&(decide (i=0)||eZ (QK L (i-1)).1 (QK L i).1)&&dA (QK L i).2.1 (QK L i).2.2):=rfl;rw[<-wk (show i<L.length by omega),<-wk (show i-1<L.length by omega)]at ez;rw[<-el8 hx]at js;have U6:(fj R[i-1])[0]?=some (.string L[i-1].1):=by rw[<-hx1.k];rfl
  have oY:=dQ.ajD Ag U6;have zu:=hx.len;have FO:=hx.e;have OQ:=hx.u8;generalize L[i]=x at*;generalize R[i]=r at*;generalize L[i-1]=y at*;rw[zu]at FO;obtain⟨xk,xu,xE⟩:=x;obtain⟨rk,ru,ra,rn,rc⟩:=r;simp only at js ez LX FO OQ
  repeat refine xS ?_
  refine⟨[.one (.string xk),.bG .u64 8 xu,.one (.slice ra xE.length rc)],⟨rfl,OQ,rfl,trivial⟩,rfl,by simp only[bK,aA];exact js.sub hs,?_⟩;apply bI<;>intro h
  ·have h2:20<xk.size:=by have:=ah h;omega
   rw[aY (by omega)]at ez;exact⟨by rw[Xk (by rw[ez];rfl)],hs⟩
  have h2:¬ 20<xk.size:=by have:=aj h;omega
  rw[bB (by omega),bj]at ez;apply bI<;>intro h
  ·have h3:0<i:=by have:=ah h;omega
   rw[aY (show ¬i=0 by omega),nW]at ez;have ew:IntKind.i64.wrap ((i:Int)-1)=((i-1:Nat):Int):=by rw[wi];omega
   conv=>whnf
   rw[ew]
   repeat refine xS ?_
   refine xL (nH oY hs) ?_;conv=>whnf
   have HS:(!Op.bytesLess y.1.toList xk.toList)= !eZ y.1 xk:=rfl;rw[HS];by_cases hls:eZ y.1 xk=true;rotate_left
   ·have hls:eZ y.1 xk=false:=by simpa using hls
    rw[hls]at ez⊢;refine xY ?_;exact⟨by rw[Xk (by rw[ez];rfl)],hs⟩
   rw[hls]at ez⊢;refine xN ?_;refine bt (pV (u:=xu) (hS.sub hs) (FO.sub hs) LX.e (by have:=LX.n;simp only at this;omega)) ?_;by_cases hr:dA xu xE=true;rotate_left
   ·have hr:dA xu xE=false:=by simpa using hr
    rw[hr]at ez⊢;refine xY ?_;exact⟨by rw[Xk (by rw[ez];simp)],hs⟩
   rw[hr]at ez⊢;refine xN ?_;refine⟨i+1,⟨by omega,λj hj=>?_,hs⟩,by omega,?_⟩
   ·by_cases e:j=i
    ·subst e;rw[ez];rfl
    ·exact cM j (by omega)
   ·exact Cr
  ·have h3:i=0:=by have:=aj h;omega
   rw[bB h3,Bool.true_or]at ez;refine bt (pV (u:=xu) (hS.sub hs) (FO.sub hs) LX.e (by have:=LX.n;simp only at this;omega)) ?_;by_cases hr:dA xu xE=true;rotate_left
   ·have hr:dA xu xE=false:=by simpa using hr
    rw[hr]at ez⊢;refine xY ?_;exact⟨by rw[Xk (by rw[ez];simp)],hs⟩
   rw[hr]at ez⊢;refine xN ?_;refine⟨i+1,⟨by omega,λj hj=>?_,hs⟩,by omega,?_⟩
   ·by_cases e:j=i
    ·subst e;rw[ez];rfl
    ·exact cM j (by omega)
   ·exact Cr
 ·have h':=aj h
  obtain rfl:i=R.length:=by omega
  refine⟨?_,hs⟩;have:(List.range L.length).all (Jx L)=true:=bL.2 λj hj=>cM j (by rw[hlen];exact dS.1 hj);rw[cX,this,bj,hlen];simp;omega
abbrev al2(F b:Nat):CV:=.v (.func (.func F) #[] #[.pointer (some ⟨b,0,none⟩)])
def QX(p:Int->Bool)(l:List Int):Int:=if l.any p then(l.findIdx p:Nat)else-1
variable{p:Int->Bool}
theorem WY(hi:i<l.length)(cM:∀x∈l.take i,p x=false)(h:p l[i]=true):QX p l=i:=by
 unfold QX;rw[aC (dh.2 ⟨_,aO hi,h⟩)]
 congr 1
 refine(List.findIdx_eq hi).2 ⟨h,λj hj=>cM _ ?_⟩;exact lw.2 ⟨j,by omega,rfl⟩
theorem LN(cM:∀x∈l,p x=false):QX p l= -1:=by
 unfold QX
 grind
theorem EI(p:Int->Bool)(l:List Int):decide (0<=QX p l)=l.any p:=by
 unfold QX
 grind
theorem QW{m:aD}{F:Nat}(hv:Ia m v l)(hF:∀x,eN tP F [i64 x,cx b] m [bR (p x)])(hl:l.length<=100000000):eN tP 267 [.v v,al2 F b] m [i64 (QX p l)]:=by
 obtain⟨a,c,rfl⟩:=hv.shape;refine ap Tryz.func267 ?_;refine .mk (ι:=Nat) (λi=>l.length-i) (λi mm=>i<=l.length/\(∀x∈l.take i,p x=false)/\mm=m) (λi=>[(0,.c (.v (.slice a l.length c))),(1,.c (al2 F b)),(7,.c (i64 l.length)),(8,.c (i64 i))]) (λ_=>[]) 0 ⟨by omega,by simp,rfl⟩ ?_ ?_
 ·exact Cr
 rintro i mm⟨hi,cM,he⟩;subst mm;apply bI<;>intro h
 ·have h':=ah h
  have bH:i<l.length:=by omega
  obtain⟨bl,ol,c',hh,hg⟩:=hv.real bH;injection hh with eK _ fN;subst eK;have hg:=hg i bH
  repeat refine xS ?_
  refine⟨_,hg,rfl,?_⟩;refine bt ((hF l[i])) ?_;have dI:l.take (i+1)=l.take i++[l[i]]:=au bH;apply bI<;>intro h
  ·exact⟨by rw[WY bH cM h],rfl⟩
  ·refine⟨i+1,⟨by omega,λx hx=>?_,rfl⟩,by omega,?_⟩
   ·rw[dI]at hx
    rcases aR.1 hx with hx|hx
    ·exact cM x hx
    ·rw[aL.1 hx];exact h
   ·exact Cr
 ·have h':=aj h
  obtain rfl:i=l.length:=by omega
  rw[aJ]at cM;exact⟨by rw[LN cM],rfl⟩
theorem yP{m:aD}{F:Nat}(hv:Ia m v l)(hF:∀x,eN tP F [i64 x,cx b] m [bR (p x)])(hl:l.length<=100000000):eN tP 214 [.v v,al2 F b] m [bR (l.any p)]:=by
 obtain⟨a,c,rfl⟩:=hv.shape;refine ap Tryz.func214 ?_;refine bt (QW hv hF hl) ?_;exact⟨by rw[EI],rfl⟩
structure gX where
 kind:Int
 (fr:Int)
 (qe:Int)
 (qA:Int)
 (part:Int)
 (jI:List Nat)
 (pl:List Int)
 (dg:List (List Nat))
 (ca:List Kd)
structure iS where
 p:Option Addr×Nat
 (d:Option Addr×Nat)
 (c:Option Addr×Nat)
abbrev gX.L(x:gX)(s:iS):LB:=[.one (.int .i64 x.kind),.one (.int .i64 x.fr),.one (.int .i64 x.qe),.one (.int .i64 x.qA),.one (.int .i64 x.part),.bG .u8 32 (nc x.jI),.one (.slice s.p.1 x.pl.length s.p.2),.one (.slice s.d.1 x.dg.length s.d.2),.one (.slice s.c.1 x.ca.length s.c.2)]
abbrev mT(x:gX)(s:iS):CV:=.a (x.L s)
structure gy(m:aD)(x:gX)(s:iS):Prop where
 Th:x.jI.length=32
 (pl:Ia m (.slice s.p.1 x.pl.length s.p.2) x.pl)
 (dg:OO m (.slice s.d.1 x.dg.length s.d.2) x.dg)
 (ca:lu m (.slice s.c.1 x.ca.length s.c.2) x.ca)
variable{s:iS}
theorem gy.sub{m:aD}{x:gX}(h:gy m x s)(hs:cL m m'):gy m' x s:=⟨h.Th,h.pl.sub hs,h.dg.sub hs,h.ca.sub hs⟩
structure qx(x:gX):Prop where
 k:∀c∈x.ca,jg c
 (s:∀c∈x.ca,c.1.size<=1000000)
 (e:∀c∈x.ca,c.2.2.length<=1000)
 (n:x.ca.length<=10000)
 (pn:x.pl.length<=10000)
 (dn:x.dg.length<=10000)
abbrev px(x:gX)(s:iS):Obj:=.cells (LB.cz (x.L s)).toArray 65
abbrev ac7(r:Rk):Obj:=.cells (LB.cz [.one (.string r.1),.bG .u64 8 (n8 r.2.1),.one (.slice r.2.2.1 r.2.2.2.1 r.2.2.2.2)]).toArray 177
theorem Hk{x:gX}(h:x.jI.length=32):(LB.cz (x.L s)).toArray[37]?=some (.slice s.p.1 x.pl.length s.p.2)/\(LB.cz (x.L s)).toArray[38]?=some (.slice s.d.1 x.dg.length s.d.2)/\(LB.cz (x.L s)).toArray[39]?=some (.slice s.c.1 x.ca.length s.c.2):=by
 simp[LB.cz,eB.cells,h]
theorem Jk{m:aD}{p:Int}(hb:m b=some (ac7 r))(hk:r.1.size<=1000000):bi tP 247 [i64 p,cx b] m λr' m'=>r'=[bR (decide (Tr.gF p=(gF r.1:Nat)))]/\cL m m':=by
 refine c7 aDq Tryz.func247 ?_;refine xM hb ?_;refine fU (wX) ?_;refine aP (Zk hk) ?_;rintro _ m1⟨rfl,bM⟩;exact⟨by rw[qO],bM⟩
def rY(x:gX)(k:ByteArray):Bool:=!kZ (jR k)||(!decide ((qI k:Int)=x.part)|| !x.pl.any λp=>decide (Tr.gF p=(gF k:Nat)))
def pT(x:gX):Bool:=cX x.ca&& !x.ca.any λc=>rY x c.1
theorem Mt{m:aD}{x:gX}(hb:m b=some (px x s))(hx:gy m x s)(hn:x.pl.length<=10000)(hk:r.1.size<=1000000):eN tP 246 [Kv r,cx b] m [bR (rY x r.1)]:=by
 refine bi.ret (R:=λr' m'=>r'=[bR (rY x r.1)]/\cL m m') ?_ λr' m' h=>h;refine c7 aDr Tryz.func246 ?_;intro b2 oM;refine .mk _ (df (cs:=[.pointer (some ⟨b2,0,none⟩)]) (by simp[Value.oneCell'])) ?_;rintro _ _⟨rfl,rfl⟩;conv=>whnf
 unfold rY;refine xM (aD.bg ..) ?_;refine bt (iB hk) ?_;apply bI<;>intro h
 ·exact⟨by rw[h];rfl,aD.bT _ oM⟩
 ·rw[h,nW]
  refine xM (aD.bg ..) ?_;refine xM (aD.bT _ oM _ _ hb) ?_;have aqy:=aD.bT (ac7 r) oM _ _ hb;have Ah:(m.set b2 (ac7 r)) b2=some (ac7 r):=aD.bg ..;have CU:=(hx.pl.sub (aD.bT (ac7 r) oM));refine aP (K6 hk) ?_;rintro _ m1⟨rfl,bM⟩;refine⟨akV aqy Ah bM,?_⟩;apply bI<;>intro h2
  ·have iD:¬((qI r.1:Int)=x.part):=by simpa using h2
   exact⟨by rw[aY iD];rfl,(aD.bT _ oM).trans bM⟩
  ·have iD:(qI r.1:Int)=x.part:=by simpa using h2
   refine⟨_,aF (bM _ _ aqy) (Hk hx.Th).1,rfl,?_⟩;refine bt (yP (p:=λp=>decide (Tr.gF p=(gF r.1:Nat))) (CU.sub bM) (λp=>(Jk (bM _ _ Ah) hk).ret λ_ _ h=>h) (by omega)) ?_;exact⟨by rw[bB iD];rfl,(aD.bT _ oM).trans bM⟩
theorem BD{m:aD}{x:gX}(hS:cK m)(hx:gy m x s)(ho:qx x):eN tP 163 [mT x s] m [bR (pT x)]:=by
 refine bi.ret (R:=λr' m'=>r'=[bR (pT x)]/\cL m m') ?_ λr' m' h=>h;obtain⟨R,hR,hK⟩:=hx.ca;refine c7 awF Tryz.func163 ?_;intro b hb;refine .mk _ (df (cs:=[.pointer (some ⟨b,0,none⟩)]) (by simp[Value.oneCell'])) ?_;rintro _ _⟨rfl,rfl⟩;have hm:(m.set b (px x s)) b=some (px x s):=aD.bg ..;refine⟨_,aF hm (Hk hx.Th).2.2,rfl,?_⟩;refine aP (iC (hS.sub (aD.bT _ hb)) (hx.ca.sub (aD.bT _ hb)) ho.k (by have:=ho.n;omega)) ?_;rintro _ m1⟨rfl,bM⟩;conv=>whnf
 unfold pT;apply bI<;>intro h
 ·refine⟨_,aF (bM _ _ hm) (Hk hx.Th).2.2,rfl,?_⟩
  have hl:=hK.len
  have hf:∀e∈R,eN tP 246 [Kv e,cx b] m1 [bR (rY x e.1)]:=λe he=>by
   refine Mt (bM _ _ hm) (hx.sub ((aD.bT _ hb).trans bM)) ho.pn ?_;obtain⟨i,hi,rfl⟩:=dc he;have:=hK.je i hi (by omega);rw[this.k];exact ho.s _ (aO _)
  refine bt (Fj (p:=λr=>rY x r.1) (hR.sub ((aD.bT _ hb).trans bM)) hf (by have:=ho.n;omega)) ?_;refine⟨?_,(aD.bT _ hb).trans bM⟩;rw[h,bj,hK.any (λk=>rY x k)]
 ·exact⟨by rw[h];rfl,(aD.bT _ hb).trans bM⟩
theorem Jv{m:aD}{x:gX}:eN tP 164 [mT x s] m [bR (rB x.qA 1 1099511627776&&rB x.part 0 7)]:=by
 refine ap Tryz.func164 ?_;conv=>whnf
 unfold rB
 repeat' (first|(refine⟨λh=>?_,λh=>?_⟩<;>conv=>whnf)|fail)
 all_goals exact⟨by simp_all<;>omega,rfl⟩
theorem Mi{m:aD}{x:gX}:eN tP 125 [mT x s] m [bR (rB x.kind 1 3)]:=by
 refine ap Tryz.func125 ?_;refine⟨λh=>?_,λh=>?_⟩<;>conv=>whnf
 all_goals exact⟨by rw[rB,h];rfl,rfl⟩
def fX:List Nat:=List.replicate 32 0
def uY(x:gX):gX:=
 if x.kind=1 then⟨x.kind,x.fr,x.qe,x.qA,x.part,x.jI,[],[],[]⟩
 else if x.kind=2 then⟨x.kind,x.fr,x.qe,x.qA,x.part,fX,x.pl,[],[]⟩
 else if x.kind=3\/x.kind=6 then⟨x.kind,x.fr,x.qe,x.qA,x.part,fX,x.pl,[],x.ca⟩
 else if x.kind=5 then⟨x.kind,x.fr,x.qe,x.qA,x.part,fX,x.pl,x.dg,[]⟩
 else if x.kind=7 then⟨x.kind,x.fr,x.qe,0,0,fX,[],[],x.ca⟩
 else⟨x.kind,x.fr,x.qe,x.qA,x.part,fX,[],[],[]⟩
def agu(x:gX)(s:iS):iS:=
 if x.kind=1 then⟨(none,0),(none,0),(none,0)⟩
 else if x.kind=2 then⟨s.p,(none,0),(none,0)⟩
 else if x.kind=3\/x.kind=6 then⟨s.p,(none,0),s.c⟩
 else if x.kind=5 then⟨s.p,s.d,(none,0)⟩
 else if x.kind=7 then⟨(none,0),(none,0),s.c⟩
 else⟨(none,0),(none,0),(none,0)⟩
theorem P6{m:aD}{x:gX}(hd:x.jI.length=32):eN tP 167 [mT x s] m [mT (uY x) (agu x s)]:=by
 refine c7 aDA Tryz.func167 ?_;conv=>whnf
 unfold uY agu;have hz:List.take 0 (List.replicate 32 (0:Int))++(nc x.jI++List.drop (0+32) (List.replicate 32 0))=nc x.jI:=by simp
 apply bI<;>intro h
 ·have h1:x.kind=1:=by simpa using h
  conv=>whnf
  rw[aC h1,aC h1,hz];exact rR
 have h1:¬x.kind=1:=by simpa using h
 rw[if_neg h1,if_neg h1];apply bI<;>intro h
 ·have h2:x.kind=2:=by simpa using h
  conv=>whnf
  rw[aC h2,aC h2];exact rR
 have h2:¬x.kind=2:=by simpa using h
 rw[if_neg h2,if_neg h2];apply bI<;>intro h
 ·have h3:x.kind=3:=by simpa using h
  conv=>whnf
  rw[aC (.inl h3),aC (.inl h3)];exact rR
 have h3:¬x.kind=3:=by simpa using h
 apply bI<;>intro h
 ·have h6:x.kind=6:=by simpa using h
  conv=>whnf
  rw[aC (.inr h6),aC (.inr h6)];exact rR
 have h6:¬x.kind=6:=by simpa using h
 have h36:¬(x.kind=3\/x.kind=6):=by omega
 rw[if_neg h36,if_neg h36];apply bI<;>intro h
 ·have h5:x.kind=5:=by simpa using h
  conv=>whnf
  rw[aC h5,aC h5];exact rR
 have h5:¬x.kind=5:=by simpa using h
 rw[if_neg h5,if_neg h5];apply bI<;>intro h
 ·have h7:x.kind=7:=by simpa using h
  conv=>whnf
  rw[aC h7,aC h7];exact rR
 have h7:¬x.kind=7:=by simpa using h
 rw[if_neg h7,if_neg h7];exact rR
theorem Wz{m:aD}{x:gX}(h:gy m x s):gy m (uY x) (agu x s):=by
 have hz:fX.length=32:=rfl;have e1:Ia m (.slice none 0 0) []:=(Io.nil m).il.ia;have e2:OO m (.slice none 0 0) []:=(I0.nil m).dl.da;have e3:lu m (.slice none 0 0) []:=lu.nil m;unfold uY agu
 repeat' split
 all_goals first|exact⟨h.Th,e1,e2,e3⟩|exact⟨hz,h.pl,e2,e3⟩|exact⟨hz,h.pl,e2,h.ca⟩|exact⟨hz,h.pl,h.dg,e3⟩|exact⟨hz,e1,e2,h.ca⟩|exact⟨hz,e1,e2,e3⟩
def GF(x y:gX):Bool:=(x.kind==y.kind)&&((x.fr==y.fr)&&((x.qe==y.qe)&&((x.qA==y.qA)&&((x.part==y.part)&&(decide (x.jI=y.jI)&&(decide (x.pl=y.pl)&&(decide (x.dg=y.dg)&&decide (x.ca=y.ca))))))))
theorem A2{m:aD}{x y:gX}{t:iS}(hx:gy m x s)(hy:gy m y t)(ho:qx x):eN tP 166 [mT x s,mT y t] m [bR (GF x y)]:=by
 have n1:=ho.n;have n2:=ho.pn;have n3:=ho.dn;have hd:rD [.bG .u8 32 (nc x.jI)] [.bG .u8 32 (nc y.jI)]=decide (x.jI=y.jI):=Ck ..;refine ap Tryz.func166 ?_;conv=>whnf
 unfold GF;apply bI<;>intro h;rotate_left
 ·exact⟨by rw[h];rfl,rfl⟩
 rw[h,bj];apply bI<;>intro h;rotate_left
 ·exact⟨by rw[h];rfl,rfl⟩
 rw[h,bj];apply bI<;>intro h;rotate_left
 ·exact⟨by rw[h];rfl,rfl⟩
 rw[h,bj];apply bI<;>intro h;rotate_left
 ·exact⟨by rw[h];rfl,rfl⟩
 rw[h,bj];apply bI<;>intro h;rotate_left
 ·exact⟨by rw[h];rfl,rfl⟩
 rw[h,bj];conv=>whnf
 rw[hd];apply bI<;>intro h;rotate_left
 ·exact⟨by rw[h];rfl,rfl⟩
 rw[h,bj];refine bt (yK hx.pl hy.pl (by omega)) ?_;apply bI<;>intro h;rotate_left
 ·exact⟨by rw[h];rfl,rfl⟩
 rw[h,bj];refine bt (Oj hx.dg hy.dg (by omega)) ?_;apply bI<;>intro h;rotate_left
 ·exact⟨by rw[h];rfl,rfl⟩
 rw[h,bj];refine bt (Oi hx.ca hy.ca (by omega) (λc hc=>by have:=ho.e c hc;omega)) ?_;exact rR
def NF(L:List Kd):ByteArray:=(L.map (·.1)).headD ByteArray.empty
def Vo(x:gX):Bool:=
 if x.kind=1\/x.kind=4 then true
 else if x.kind=2 then iR x.pl 1
 else if x.kind=3\/x.kind=6 then iR x.pl 2&&pT x
 else if x.kind=5 then(iR x.pl 0||iR x.pl 1)&&decide (x.dg.length=4*x.pl.length)
 else if x.kind=7 then(decide (x.ca.length=1)&&cX x.ca)&&kZ (jR (NF x.ca))
 else false
def Xh(x:gX):Bool:=((x.kind==7)||(rB x.qA 1 1099511627776&&rB x.part 0 7))&&(rB x.fr 1 8&&(rB x.qe 1 8&&((x.fr !=x.qe)&&GF x (uY x))))
def dR(x:gX):Bool:=Vo x&&Xh x
theorem gv{m:aD}{x:gX}{ok:Bool}(hx:gy m x s)(ho:qx x):
  Tl c95 (AU 15 (yX Tryz.f95)) (Mm tt.get Tryz.f95.results.toList λr m'=>r=[bR (ok&&Xh x)]/\m'=m)
   [(1,.p 0 0),(3,.c (bR ok))] [(65,x.L s)] m []:=by
 refine .at ?_;conv=>whnf
 unfold Xh;apply bI<;>intro h;rotate_left
 ·exact⟨by rw[h];rfl,rfl⟩
 rw[h,bj];apply bI<;>intro h1
 ·rw[h1,Bool.true_or,bj]
  refine bt (vZ) ?_;apply bI<;>intro h2;rotate_left
  ·exact⟨by rw[h2];rfl,rfl⟩
  rw[h2,bj];refine bt (vZ) ?_;apply bI<;>intro h2;rotate_left
  ·exact⟨by rw[h2];rfl,rfl⟩
  rw[h2,bj];apply bI<;>intro h2;rotate_left
  ·exact⟨by rw[h2];rfl,rfl⟩
  rw[h2,bj];refine fU (P6 hx.Th) ?_;refine bt (A2 hx (Wz hx) ho) ?_;exact rR
 ·rw[h1,nW]
  refine bt (Jv) ?_;apply bI<;>intro h2;rotate_left
  ·exact⟨by rw[h2];rfl,rfl⟩
  rw[h2,bj];refine bt (vZ) ?_;apply bI<;>intro h2;rotate_left
  ·exact⟨by rw[h2];rfl,rfl⟩
  rw[h2,bj];refine bt (vZ) ?_;apply bI<;>intro h2;rotate_left
  ·exact⟨by rw[h2];rfl,rfl⟩
  rw[h2,bj];apply bI<;>intro h2;rotate_left
  ·exact⟨by rw[h2];rfl,rfl⟩
  rw[h2,bj];refine fU (P6 hx.Th) ?_;refine bt (A2 hx (Wz hx) ho) ?_;exact rR
theorem nG{m:aD}{x:gX}(hS:cK m)(hx:gy m x s)(ho:qx x):eN tP 95 [mT x s] m [bR (dR x)]:=by
 have n1:=ho.n;have n2:=ho.pn;have n3:=ho.dn;refine c7 c95 Tryz.func95 ?_;conv=>whnf
 unfold dR Vo;apply bI<;>intro h
 ·have h1:x.kind=1:=by simpa using h
  rw[aC (.inl h1)];have tl:=gv (m:=m) (s:=s) (ok:=true) hx ho
  conv at tl=>whnf
  refine .via _ _ ?_ tl;exact Cr
 have h1:¬x.kind=1:=by simpa using h
 apply bI<;>intro h
 ·have h4:x.kind=4:=by simpa using h
  rw[aC (.inr h4)];have tl:=gv (m:=m) (s:=s) (ok:=true) hx ho
  conv at tl=>whnf
  refine .via _ _ ?_ tl;exact Cr
 have h4:¬x.kind=4:=by simpa using h
 have h14:¬(x.kind=1\/x.kind=4):=by omega
 rw[if_neg h14];apply bI<;>intro h
 ·have h2:x.kind=2:=by simpa using h
  rw[aC h2];refine bt (sC hx.pl (by omega)) ?_;have tl:=gv (m:=m) (s:=s) (ok:=iR x.pl 1) hx ho
  conv at tl=>whnf
  refine .via _ _ ?_ tl;exact Cr
 have h2:¬x.kind=2:=by simpa using h
 rw[if_neg h2];apply bI<;>intro h
 ·have h3:x.kind=3:=by simpa using h
  rw[aC (.inl h3)];refine bt (sC hx.pl (by omega)) ?_;apply bI<;>intro h5
  ·rw[h5,bj]
   refine bt (BD hS hx ho) ?_;have tl:=gv (m:=m) (s:=s) (ok:=pT x) hx ho
   conv at tl=>whnf
   refine .via _ _ ?_ tl;exact Cr
  ·rw[h5,fH]
   have tl:=gv (m:=m) (s:=s) (ok:=false) hx ho
   conv at tl=>whnf
   refine .via _ _ ?_ tl;exact Cr
 have h3:¬x.kind=3:=by simpa using h
 apply bI<;>intro h
 ·have h6:x.kind=6:=by simpa using h
  rw[aC (.inr h6)];refine bt (sC hx.pl (by omega)) ?_;apply bI<;>intro h5
  ·rw[h5,bj]
   refine bt (BD hS hx ho) ?_;have tl:=gv (m:=m) (s:=s) (ok:=pT x) hx ho
   conv at tl=>whnf
   refine .via _ _ ?_ tl;exact Cr
  ·rw[h5,fH]
   have tl:=gv (m:=m) (s:=s) (ok:=false) hx ho
   conv at tl=>whnf
   refine .via _ _ ?_ tl;exact Cr
 have h6:¬x.kind=6:=by simpa using h
 have h36:¬(x.kind=3\/x.kind=6):=by omega
 rw[if_neg h36];apply bI<;>intro h
 ·have h5:x.kind=5:=by simpa using h
  rw[aC h5];refine bt (sC hx.pl (by omega)) ?_;have e4:IntKind.i64.wrap (4*(x.pl.length:Int))=((4*x.pl.length:Nat):Int):=by rw[wi];omega
  have e5:(((x.dg.length:Nat):Int)==((4*x.pl.length:Nat):Int))=decide (x.dg.length=4*x.pl.length):=by rw[qO];exact fF.2 (by omega)
  apply bI<;>intro h8
  ·rw[h8,Bool.true_or,bj]
   conv=>whnf
   rw[e4,e5];have tl:=gv (m:=m) (s:=s) (ok:=decide (x.dg.length=4*x.pl.length)) hx ho
   conv at tl=>whnf
   refine .via _ _ ?_ tl;exact Cr
  ·rw[h8,nW]
   refine bt (sC hx.pl (by omega)) ?_;apply bI<;>intro h9
   ·rw[h9,bj]
    conv=>whnf
    rw[e4,e5];have tl:=gv (m:=m) (s:=s) (ok:=decide (x.dg.length=4*x.pl.length)) hx ho
    conv at tl=>whnf
    refine .via _ _ ?_ tl;exact Cr
   ·rw[h9,fH]
    have tl:=gv (m:=m) (s:=s) (ok:=false) hx ho
    conv at tl=>whnf
    refine .via _ _ ?_ tl;exact Cr
 have h5:¬x.kind=5:=by simpa using h
 rw[if_neg h5];apply bI<;>intro h
 ·have h7:x.kind=7:=by simpa using h
  rw[aC h7];conv=>whnf
  have e1:(((x.ca.length:Nat):Int)==1)=decide (x.ca.length=1):=by rw[qO];exact fF.2 (by omega)
  rw[e1];apply bI<;>intro h8
  ·have h8':x.ca.length=1:=ah h8
   rw[h8,bj];refine bt ((iC hS hx.ca ho.k (by omega)).ret λ_ _ h=>h) ?_;apply bI<;>intro h9
   ·rw[h9,bj]
    obtain⟨R,hR,hK⟩:=hx.ca;have hl:=hK.len;have bH:0<R.length:=by omega
    obtain⟨b,o,c',hh,hg⟩:=hR.real bH;injection hh with eK _ fN;have hg:=hg 0 bH
    have ek:(R[0]'bH).1=NF x.ca:=by
     have:=(hK.je 0 bH (by omega)).k;rw[this];unfold NF;rw[List.headD_eq_head?_getD,List.head?_map,List.head?_eq_getElem?,az (by omega)];rfl
    have EM:(NF x.ca).size<=1000000:=by
     rw[<-ek,(hK.je 0 bH (by omega)).k];exact ho.s _ (aO _)
    conv=>whnf
    simp only[eK];refine⟨⟨by omega,by omega⟩,?_⟩;refine⟨.string (R[0]'bH).1,by have:=fZ (j:=0) hg rfl;simpa [bK]using this,rfl,?_⟩;conv=>whnf
    rw[ek];refine bt (iB EM) ?_;have tl:=gv (m:=m) (s:=s) (ok:=kZ (jR (NF x.ca))) hx ho
    conv at tl=>whnf
    refine .via _ _ ?_ tl;exact Cr
   ·rw[h9,fH]
    have tl:=gv (m:=m) (s:=s) (ok:=false) hx ho
    conv at tl=>whnf
    refine .via _ _ ?_ tl;exact Cr
  ·rw[h8,fH,fH]
   have tl:=gv (m:=m) (s:=s) (ok:=false) hx ho
   conv at tl=>whnf
   refine .via _ _ ?_ tl;exact Cr
 have h7:¬x.kind=7:=by simpa using h
 rw[if_neg h7];have tl:=gv (m:=m) (s:=s) (ok:=false) hx ho
 conv at tl=>whnf
 refine .via _ _ ?_ tl;exact Cr
theorem Wp(l:List Int):tH l=AR l:=by
 have h1:=Gn l
 have:(tH l).data=(AR l).data:=by
  apply nA
  rw[h1];simp[AR,by8]
 cases h:tH l
 simp_all
theorem gq.Je{m:aD}{o:Obj}{s off:Nat}{l:List Value}(h:gq (m.set b o) s (.slice (some ⟨b,off,none⟩) n c) l):gq (blk1 b o) s (.slice (some ⟨b,off,none⟩) n c) l:=
 gq.cR (m:=m.set b o) h λx hx=>by
  injection hx with hx;subst hx;rw[aG,aD.bg]
theorem ajR{m:aD}{s:ByteArray}:bF tP (.conv 9 118) [.v (.string s)] m λr m'=>∃v p,r=[.v v]/\aq m' [p,m]/\La p v (chI s):=
 (Cy eR (t':=9) (t:=118) (e:=5) (by rfl) (by rfl) rfl (by rfl) rfl).mono λr m' ⟨b,c,o,h1,h2,h3,h4⟩=>⟨_,blk1 b o,h2,by rw[h3];exact(aq.one m).new h1 o,by
  subst h3
  exact .inl (gq.Je h4)⟩
theorem To(b:Nat):Wr (blk1 b (.cells (LB.cz [.one (.slice none 0 0)]).toArray 174)) b []:=⟨_,aG ..,Bs.nil _,by simp[lp]⟩
abbrev kyV(x:Kd)(a:Option Addr)(c:Nat):CV:=.a [.one (.string x.1),.bG .u64 8 x.2.1,.one (.slice a x.2.2.length c)]
theorem Er{m:aD}(hS:cK m){x:Kd}{a:Option Addr}(hv:Na m (.slice a x.2.2.length c) x.2.2)(hA:jg x)(hk:x.1.size<=1000000):
  bi tP 133 [kyV x a c] m λr m'=>∃v p,r=[.v v]/\aq m' [p,m]/\Bs p v (nJ x):=by
 obtain⟨k,u,E⟩:=x;have hn:E.length<=1000:=hA.n;simp only at hv hk;have DN:=zH k;have hnk:=eI ((chI k).length:Int);refine c7 aDD Tryz.func133 ?_;intro b hb;have MS:=(aq.one m).new hb (.cells (LB.cz [.one (.slice none 0 0)]).toArray 174);refine .mk _ (ajR (s:=k)) ?_;rintro _ m1⟨vk,pk,rfl,bM,hvk⟩;have bM:aq m1 [pk,blk1 b (.cells (LB.cz [.one (.slice none 0 0)]).toArray 174),m]:=aq.jN (a:=[pk]) bM MS;refine aP (F5 (i:=1) (j:=0) bM rfl rfl (by decide) (To b) hvk (by simp) (by omega)) ?_;rintro _ m2⟨rfl,p1,bZ,Zs⟩;have bZ:aq m2 [p1,m]:=bZ.drop;rw[bV]at Zs;refine aP (K1 hS bZ Zs hv hA.u hA.e (by simp only[BJ,ax];omega) (by show E.length<=_;omega)) ?_;rintro _ m3⟨rfl,p2,dy,hw2⟩
 have hpb:(AY (u,E)).length<=10000:=by
  unfold AY;split
  ·rename_i hr
   have:=Ec (c:=(u,E)) hA.u hr;omega
  ·simp
 refine aP ((tF hw2 (by simp only[BJ,ax];omega)).at dy (i:=0) rfl) ?_;rintro _ m4⟨p3,⟨v3,q,rfl,eP,tX⟩,eD⟩;have gC:=(eD.Vn (i:=0) rfl eP).dV 1;exact⟨v3,q,rfl,gC,tX⟩
theorem Js{m:aD}(hS:cK m){b:List Int}(hv:La m v b)(hb:jl b)(hl:b.length<=1000000):
  bi tP 90 [.v v] m λr m'=>∃x a c p,x=(PV b).1/\r=[kyV x a c,bR (PV b).2]/\aq m' [p,m]/\Na p (.slice a x.2.2.length c) x.2.2/\yZ x.2.1/\∀e∈x.2.2,CS e:=by
 have hR:PV b=((AR (kM 20 (b,0)).1,(oU (kM 20 (b,0)).2).1),decide (Ir (oU (kM 20 (b,0)).2).2=0)&&kZ (jR (AR (kM 20 (b,0)).1))):=rfl;rw[hR];refine c7 c90 Tryz.func90 ?_;refine aP (zy hv hb (by omega)) ?_;rintro _ m1⟨bp,p,rfl,bM,qn⟩;refine aP ((KD (dG:=20) qn ⟨by decide,by decide⟩).at bM (i:=0) rfl) ?_;rintro _ m2⟨p2,⟨vt,pt,q,rfl,bZ,hbt,jK⟩,dy⟩
 try refine⟨λ_ h=>(by cases h),?_⟩
 have dy:aq m2 [pt,q,m]:=dy.Vn (i:=0) rfl bZ
 have htl:(kM 20 (b,0)).1.length<=20:=by
  have:=ij (dG:=20) (s:=(b,0)) hb ⟨by decide,by decide⟩;have e:kM 20 (b,0)=fL (cZ 20 (b,0)).1.toNat (cZ 20 (b,0)).2:=rfl;rw[e];exact bq rK (by omega)
 generalize kM 20 (b,0)=t at*;obtain⟨tb,ts⟩:=t;simp only at hbt jK htl⊢;rw[<-Wp]
 have Ad:(tH tb).size<=1000000:=by
  have:(tH tb).size=tb.length:=by
   rw[<-ByteArray.size_data,<-cq,Gn,by8,aH]
  omega
 rcases hbt with⟨rfl,Bh⟩|⟨b',o',c',n',CH,rfl,g1,g2,g3,g4,g5,g6⟩
 ·have Bh:tb=[]:=List.map_eq_nil_iff.1 Bh
  subst Bh;obtain⟨fb,yy,eP,oF⟩:=aq.part (dy.fm (List.Perm.swap _ _ _));have adu:cL m fb:=yy m (by simp);refine aP (AZ (hS.sub adu) eP jK) ?_;rintro _ m3⟨x,a,c,q3,p3,hx,rfl,eD,wo,hE,hu,ez⟩
  try refine⟨λ_ h=>(by cases h),?_⟩
  conv=>whnf
  rw[<-hx];generalize oU ts=tc at*;obtain⟨tx,te⟩:=tc;simp only at hx wo⊢;subst hx;obtain⟨xu,xE⟩:=x;simp only at hE hu ez⊢;have hz:List.take 0 (List.replicate 8 (0:Int))++(xu++List.drop (0+8) (List.replicate 8 0))=xu:=by simp
  have gC:aq m3 [p3,m]:=by
   have h1:aq m3 [p3,fb]:=eD.dV 1;exact(aq.Ci (h1.fm (List.Perm.swap _ _ _)) adu).fm (List.Perm.swap _ _ _)
  have hen:(if te.2≠0 then te.2 else if te.1=[]then 0 else 2)=Ir te:=rfl
  first|(refine fU (yM (wo.mono (eD.sub))) ?_)|(refine bt (yM (wo.mono (eD.sub))) ?_)
  conv=>whnf
  rw[hen,qO];apply bI<;>intro h
  ·have h':=ah h
   refine fU (iB (s:=ByteArray.empty) (by decide)) ?_;exact⟨_,a,c,p3,rfl,by simp[h',show tH []=ByteArray.empty from rfl],gC,hE,hu,ez⟩
  ·have h':=aj h
   exact⟨_,a,c,p3,rfl,by simp[h',show tH []=ByteArray.empty from rfl],gC,hE,hu,ez⟩
 ·have OS:tb.length=n':=by
   have hbc:(bc tb).length=tb.length:=aH _;omega
  subst OS;refine .inr ⟨tb,rfl,_,_,rfl,⟨_,_,_,dy.sub (a:=pt) (by simp) _ _ g1,g5⟩,?_⟩;obtain⟨fb,yy,eP,oF⟩:=aq.part (dy.fm (List.Perm.swap _ _ _));have adu:cL m fb:=yy m (by simp);refine aP (AZ (hS.sub adu) eP jK) ?_;rintro _ m3⟨x,a,c,q3,p3,hx,rfl,eD,wo,hE,hu,ez⟩;refine⟨HG ((eD.sub (a:=fb) (by simp) _ _ (yy pt (by simp) _ _ g1)).trans (dy.sub (a:=pt) (by simp) _ _ g1).symm),?_⟩;conv=>whnf
  rw[<-hx];generalize oU ts=tc at*;obtain⟨tx,te⟩:=tc;simp only at hx wo⊢;subst hx;obtain⟨xu,xE⟩:=x;simp only at hE hu ez⊢;have hz:List.take 0 (List.replicate 8 (0:Int))++(xu++List.drop (0+8) (List.replicate 8 0))=xu:=by simp
  have gC:aq m3 [p3,m]:=by
   have h1:aq m3 [p3,fb]:=eD.dV 1;exact(aq.Ci (h1.fm (List.Perm.swap _ _ _)) adu).fm (List.Perm.swap _ _ _)
  have hen:(if te.2≠0 then te.2 else if te.1=[]then 0 else 2)=Ir te:=rfl
  first|(refine fU (yM (wo.mono (eD.sub))) ?_)|(refine bt (yM (wo.mono (eD.sub))) ?_)
  conv=>whnf
  rw[hen,qO];apply bI<;>intro h
  ·have h':=ah h
   refine fU (iB (s:=tH tb) Ad) ?_;exact⟨_,a,c,p3,rfl,by simp[h'],gC,hE,hu,ez⟩
  ·have h':=aj h
   exact⟨_,a,c,p3,rfl,by simp[h'],gC,hE,hu,ez⟩
theorem lQ{L:List Kd}(h:cX L=true):∀x∈L,x.1.size<=20:=by
 intro x hx;obtain⟨i,hi,rfl⟩:=dc hx;simp only[cX,aB,bL,dS]at h;have:=h.1 i hi;simp only[Jx,aB,bA]at this;rw[wk hi];omega
theorem WU{x:Kd}(hu:yZ x.2.1)(hk:x.1.size<=20):(nJ x).length<=6600:=by
 have h1:=zH x.1;have h2:=eI ((chI x.1).length:Int)
 have h3:(AY x.2).length<=6500:=by
  unfold AY;split
  ·rename_i hr;exact Ec hu hr
  ·simp
 simp only[nJ,BJ,ax];omega
theorem ac9(L:List Kd)(i:Nat):((L.take i).map nJ).flatten.length<=(L.map nJ).flatten.length:=by
 have e:=be (λX=>(X.map nJ).flatten.length) (dL i L)
 grind
theorem xC{m:aD}(hS:cK m){L:List Kd}(hv:lu m v L)(hA:∀x∈L,jg x)(hr:cX L=true)(hl:(L.map nJ).flatten.length<=9000000):
  bi tP 48 [.v v] m λr m'=>∃v' p,r=[.v v',i64 0]/\aq m' [p,m]/\Bs p v' (B3 L):=by
 have kV:L.length<=2000:=by
  simp only[cX,aB,bA]at hr;exact hr.2
 have hrs:=iC hS hv hA (by omega);rw[hr]at hrs;obtain⟨R,hR,hK⟩:=hv;obtain⟨av,cv,rfl⟩:=hR.shape;have hlen:=hK.len;refine c7 c48 Tryz.func48 ?_;refine bt (bi.ret hrs λ_ _ h=>h) ?_;refine xN ?_;intro b hb;conv=>whnf
 have MS:=(aq.one m).new hb (.cells (LB.cz [.one (.slice none 0 0)]).toArray 174);rw[wu];refine aP ((iK (To b) (n:=(R.length:Int)) ⟨by omega,by omega⟩ (by simp)).at MS (i:=0) rfl) ?_;rintro _ m1⟨p1,⟨rfl,Zs⟩,bM⟩;have bM:aq m1 [p1,m]:=bM;rw[bV]at Zs;have Tc:=eI (R.length:Int);refine .mk (ι:=Nat) (λi=>R.length-i) (λi mm=>i<=R.length/\∃p,aq mm [p,m]/\Wr p b (fe R.length++((L.take i).map nJ).flatten)) (λi=>[(4,.c (cx b)),(17,.c (.v (.slice av R.length cv))),(18,.c (i64 R.length)),(19,.c (i64 i))]) (λ_=>[]) 0 ⟨by omega,p1,bM,by simpa using Zs⟩ ?_ ?_
 ·exact Cr
 rintro i mm⟨hi,p,hs,hw⟩;have Ac:=bq (ac9 L i) hl;apply bI<;>intro h
 ·have h':=ah h
  have bH:i<R.length:=by omega
  have B8:cL m mm:=hs.sub (by simp);obtain⟨bl,ol,c',hh,hg⟩:=(hR.sub B8).real bH;injection hh with eK _ fN;subst eK;have js:=hg i bH;have hx:=hK.je i bH (by omega);have LX:=hA _ (aO (show i<L.length by omega));have EM:=lQ hr _ (aO (show i<L.length by omega))
  have dI:((L.take (i+1)).map nJ).flatten=((L.take i).map nJ).flatten++nJ L[i]:=by
   rw[au (by omega),bD,gk];simp
  rw[<-el8 hx]at js;have zu:=hx.len;have FO:=hx.e;have OQ:=hx.u8;generalize L[i]=x at*;generalize R[i]=r at*;rw[zu]at FO;obtain⟨xk,xu,xE⟩:=x;obtain⟨rk,ru,ra,rn,rc⟩:=r;simp only at js LX EM FO OQ;have ml:xE.length<=1000:=LX.n;have ZI:=zH xk;have hnk:=eI ((chI xk).length:Int)
  repeat refine xS ?_
  refine⟨[.one (.string xk),.bG .u64 8 xu,.one (.slice ra xE.length rc)],⟨rfl,OQ,rfl,trivial⟩,rfl,by simp only[bK,aA];exact js,?_⟩;refine .mk _ (ajR (s:=xk)) ?_;rintro _ k1⟨vk,pk,rfl,Fa,hvk⟩;have Fa:aq k1 [pk,p,m]:=aq.jN (a:=[pk]) Fa hs;refine aP (F5 (i:=1) (j:=0) Fa rfl rfl (by decide) hw hvk (by simp only[ax];omega) (by omega)) ?_;rintro _ k2⟨rfl,p2,JI,hw2⟩;have JI:aq k2 [p2,m]:=JI.drop;refine aP (K1 hS JI hw2 FO LX.u LX.e (by simp only[BJ,ax];omega) (by show xE.length<=_;omega)) ?_;rintro _ k3⟨rfl,p3,W5,hw3⟩;refine⟨i+1,⟨by omega,p3,W5,?_⟩,by omega,?_⟩
  ·rw[dI,nJ]
   simpa only[aX]using hw3
  ·exact Cr
 ·have h':=aj h
  obtain rfl:i=R.length:=by omega
  rw[hlen,aJ]at hw;rw[hlen,aJ]at*;refine aP ((tF hw (by simp only[ax];omega)).at hs (i:=0) rfl) ?_;rintro _ k4⟨p4,⟨v4,q,rfl,W4,QZ⟩,W3⟩;exact⟨v4,q,rfl,(W3.Vn (i:=0) rfl W4).dV 1,QZ⟩
def FB(l:List Int):List Nat:=l.map Int.toNat
def xw(D:List (List Nat)):List Int:=D.flatMap nc
namespace Wm
def t9(x:gX):List Int:=xw x.dg++B3 x.ca
def t8(x:gX):List Int:=fe x.dg.length++t9 x
def t7(x:gX):List Int:=kH x.pl++t8 x
def t6(x:gX):List Int:=fe x.pl.length++t7 x
def t5(x:gX):List Int:=(if x.kind=1 then nc x.jI else[])++t6 x
def t4(x:gX):List Int:=fe x.part++t5 x
def t3(x:gX):List Int:=fe x.qA++t4 x
def t2(x:gX):List Int:=fe x.qe++t3 x
def t1(x:gX):List Int:=fe x.fr++t2 x
end Wm
def we(x:gX):List Int:=fe x.kind++Wm.t1 x
def sj(dG:Int):Nat->List Int->RS->List Int×RS
 |0,l,s=>(l,s)
 |n+1,l,s=>sj dG n (l++[(cZ dG s).1]) (cZ dG s).2
def so:Nat->List (List Nat)->RS->List (List Nat)×RS
 |0,l,s=>(l,s)
 |n+1,l,s=>so n (l++[FB (gZ s).1]) (gZ s).2
def HJ(s:RS):Kd×RS:=((AR (kM 20 s).1,(oU (kM 20 s).2).1),(oU (kM 20 s).2).2)
def JC:Nat->List Kd->RS->List Kd×RS
 |0,L,s=>(L,s)
 |n+1,L,s=>if s.2≠0 then(L,s)else JC n (L++[(HJ s).1]) (HJ s).2
def E9(b:List Int):List Kd×RS:=JC (cZ 2000 (b,0)).1.toNat [] (cZ 2000 (b,0)).2
def lT(b:List Int):List Kd×Int:=if Ir (E9 b).2≠0\/cX (E9 b).1=false then([],3)else((E9 b).1,0)
namespace Rm
def m1(b:List Int):Int×RS:=cZ 7 (b,0)
def m2(b:List Int):Int×RS:=cZ 8 (m1 b).2
def m3(b:List Int):Int×RS:=cZ 8 (m2 b).2
def m4(b:List Int):Int×RS:=cZ 1099511627776 (m3 b).2
def m5(b:List Int):Int×RS:=cZ 7 (m4 b).2
def m6(b:List Int):List Int×RS:=if (m1 b).1=1 then gZ (m5 b).2 else(List.replicate 32 0,(m5 b).2)
def m7(b:List Int):Int×RS:=cZ 16 (m6 b).2
def m8(b:List Int):List Int×RS:=sj 20 (m7 b).1.toNat [] (m7 b).2
def m9(b:List Int):Int×RS:=cZ 16 (m8 b).2
def mA(b:List Int):List (List Nat)×RS:=so (m9 b).1.toNat [] (m9 b).2
def mC(b:List Int):List Kd×Int:=lT (if (mA b).2.2≠0 then[]else(mA b).2.1)
def mX(b:List Int):gX:=⟨(m1 b).1,(m2 b).1,(m3 b).1,(m4 b).1,(m5 b).1,FB (m6 b).1,(m8 b).1,(mA b).1,(mC b).1⟩
end Rm
def fP:gX:=⟨0,0,0,0,0,fX,[],[],[]⟩
def sg(b:List Int):gX×Int:=if (Rm.mA b).2.2≠0\/(Rm.mC b).2≠0\/dR (Rm.mX b)=false then(fP,3)else(Rm.mX b,0)
theorem abM{x y:gX}(h:GF x y=true):x=y:=by
 obtain⟨a1,a2,a3,a4,a5,a6,a7,a8,a9⟩:=x;obtain⟨b1,b2,b3,b4,b5,b6,b7,b8,b9⟩:=y;simp only[GF,aB,gU,bA]at h
 grind
theorem anJ(x:gX):GF x x=true:=by simp[GF]
theorem Nz{p n:Int}(h:mV p=n)(hn:0<=n):0<=p/\p<=20/\(n=2->5<=p)/\(n=1->1<=p/\p<=4)/\(n=0->p=0):=by
 unfold mV at h;omega
variable{l:List Int}
theorem rM{n:Int}(h:iR l n=true)(hn:0<=n):(∀p∈l,mV p=n)/\(∀p∈l,0<=p/\p<=20)/\l.length<=16/\(n<=1->l.length<=4)/\0<l.length:=by
 simp only[iR,aB,bL,dS,bA]at h;obtain⟨ha,h0⟩:=h
 have hl:∀i,i<l.length->mV (l.getD i 0)=n/\(i=0\/l.getD (i-1) 0<l.getD i 0):=λi hi=>by
  have:=ha i hi;simpa only[BY,aB,eM,bA]using this
 have hup:∀i,i<l.length->l.getD 0 0+i<=l.getD i 0:=λi=>by
  induction i with
  |zero=>intro _;omega
  |succ i ih=>
   intro hi;have h1:=ih (by omega);have h2:=(hl (i+1) hi).2;rw[Nat.add_sub_cancel]at h2;omega
 have Q9:=hup (l.length-1) (by omega);have e0:=Nz (hl 0 h0).1 hn;have e1:=Nz (hl (l.length-1) (by omega)).1 hn
 have n2:n<=2:=by
  have:=FK (l.getD 0 0)
  grind
 refine⟨?_,?_,by omega,λh1=>by omega,h0⟩
 ·intro p hp
  obtain⟨i,hi,rfl⟩:=dc hp
  grind
 ·intro p hp
  obtain⟨i,hi,rfl⟩:=dc hp;rw[ly hi];have:=Nz (hl i hi).1 hn;omega
structure arx(x:gX):Prop where
 k:1<=x.kind/\x.kind<=7
 (f:1<=x.fr/\x.fr<=8)
 (t:1<=x.qe/\x.qe<=8)
 (ft:x.fr≠x.qe)
 (s:0<=x.qA/\x.qA<=1099511627776)
 (p:0<=x.part/\x.part<=7)
 (d:x.kind≠1->x.jI=fX)
 (pl:∀p∈x.pl,0<=p/\p<=20)
 (pn:x.pl.length<=16)
 (dn:x.dg.length<=16)
 (ca:cX x.ca=true)
 (ok:Vo x=true)
 (ux:uY x=x)
 (hd:x.kind≠7->1<=x.qA)
theorem vU:cX []=true:=rfl
theorem nD{x:gX}(h:dR x=true):arx x:=by
 simp only[dR,aB]at h;obtain⟨hk,hh⟩:=h;have ZB:=hk;simp only[Xh,aB,eM,gU,bne_iff_ne,rB,bA]at hh;obtain⟨h1,h2,h3,h4,h5⟩:=hh;have e:=(abM h5).symm
 have ajE:(x.kind=1\/x.kind=4)\/x.kind=2\/(x.kind=3\/x.kind=6)\/x.kind=5\/x.kind=7:=by
  unfold Vo at hk
  grind
 have z:fX=fX:=rfl;obtain⟨kind,fr,qe,qA,part,jI,pl,dg,ca⟩:=x;simp only at h1 h2 h3 h4 ajE;rcases ajE with(rfl|rfl)|rfl|(rfl|rfl)|rfl|rfl
 ·simp[uY]at e
  obtain⟨rfl,rfl,rfl⟩:=e;exact⟨by simp,h2,h3,h4,by simp;omega,by simp;omega,λh=>absurd rfl h,by simp,by simp,by simp,vU,ZB,by simp[uY],by simp;omega⟩
 ·simp[uY]at e
  obtain⟨rfl,rfl,rfl,rfl⟩:=e;exact⟨by simp,h2,h3,h4,by simp;omega,by simp;omega,λh=>rfl,by simp,by simp,by simp,vU,ZB,by simp[uY],by simp;omega⟩
 ·simp[uY]at e
  obtain⟨rfl,rfl,rfl⟩:=e;have hl:iR pl 1=true:=by simpa [Vo]using hk
  have:=rM hl (by omega);exact⟨by simp,h2,h3,h4,by simp;omega,by simp;omega,λh=>rfl,this.2.1,this.2.2.1,by simp,vU,ZB,by simp[uY],by simp;omega⟩
 ·simp[uY]at e
  obtain⟨rfl,rfl⟩:=e;have hl:iR pl 2=true/\pT ⟨3,fr,qe,qA,part,fX,pl,[],ca⟩=true:=by simpa [Vo]using hk
  have:=rM hl.1 (by omega);have hr:=hl.2;simp only[pT,aB]at hr;exact⟨by simp,h2,h3,h4,by simp;omega,by simp;omega,λh=>rfl,this.2.1,this.2.2.1,by simp,hr.1,ZB,by simp[uY],by simp;omega⟩
 ·simp[uY]at e
  obtain⟨rfl,rfl⟩:=e;have hl:iR pl 2=true/\pT ⟨6,fr,qe,qA,part,fX,pl,[],ca⟩=true:=by simpa [Vo]using hk
  have:=rM hl.1 (by omega);have hr:=hl.2;simp only[pT,aB]at hr;exact⟨by simp,h2,h3,h4,by simp;omega,by simp;omega,λh=>rfl,this.2.1,this.2.2.1,by simp,hr.1,ZB,by simp[uY],by simp;omega⟩
 ·simp[uY]at e
  obtain⟨rfl,rfl⟩:=e;have hl:(iR pl 0=true\/iR pl 1=true)/\dg.length=4*pl.length:=by simpa [Vo]using hk
  have Ai:(∀p∈pl,0<=p/\p<=20)/\pl.length<=4:=by
   rcases hl.1 with h|h
   ·have:=rM h (by omega)
    grind
   ·have:=rM h (by omega)
    grind
  exact⟨by simp,h2,h3,h4,by simp;omega,by simp;omega,λh=>rfl,Ai.1,by have:=Ai.2;simp only;omega,by have:=Ai.2;have:=hl.2;simp only;omega,vU,ZB,by simp[uY],by simp;omega⟩
 ·simp[uY]at e
  obtain⟨rfl,rfl,rfl,rfl,rfl⟩:=e;have hl:(ca.length=1/\cX ca=true)/\kZ (jR (NF ca))=true:=by simpa [Vo]using hk
  exact⟨by simp,h2,h3,h4,by simp,by simp,λh=>rfl,by simp,by simp,by simp,hl.1.2,ZB,by simp[uY],by simp⟩
theorem abq(l:List Nat):FB (nc l)=l:=by
 simp[FB,Function.comp_def]
theorem GP{dG:Int}:∀(l Jf t:List Int),(∀x∈l,0<=x/\x<=dG)->dG<18446744073709551616->sj dG l.length Jf (kH l++t,0)=(Jf++l,(t,0))
 |[],Jf,t,_,_=>by simp[sj,kH]
 |x::l,Jf,t,h,hm=>by
  have hx:=h x (by simp);have e:=gJ (n:=x) (dG:=dG) ⟨hx.1,by omega⟩ hx.2 (kH l++t);have ih:=GP l (Jf++[x]) t (λy hy=>h y (by simp[hy])) hm;rw[Kw,aX,ae,sj,e];simp only;rw[ih];simp
theorem GQ:∀(l Jf:List (List Nat)) (t:List Int),D32 l->so l.length Jf (xw l++t,0)=(Jf++l,(t,0))
 |[],Jf,t,_=>by simp[so,xw]
 |d::l,Jf,t,h=>by
  have hd:(nc d).length=32:=by rw[aH];exact h d (by simp)
  have e:=BT hd (xw l++t);have ih:=GQ l (Jf++[d]) t λy hy=>h y (by simp[hy]);have e2:xw (d::l)=nc d++xw l:=by simp[xw]
  rw[e2,aX,ae,so,e];simp only;rw[abq,ih];simp
theorem UM{x:Kd}(hk:x.1.size<=20)(hu:yZ x.2.1)(h:dA x.2.1 x.2.2=true)(t:List Int):HJ (nJ x++t,0)=(x,(t,0)):=by
 have hl:=zH x.1;have e1:=GN (b:=chI x.1) (dG:=20) (by omega) (by omega) (AY x.2++t);have e2:=Gi (c:=x.2) hu h t;have e3:AY x.2=yV x.2:=aC h;unfold HJ;rw[nJ,aX,e1];simp only;rw[e3,e2,Ps]
theorem LH:∀(L Jf:List Kd) (t:List Int),(∀x∈L,x.1.size<=20/\yZ x.2.1/\dA x.2.1 x.2.2=true)->JC L.length Jf ((L.map nJ).flatten++t,0)=(Jf++L,(t,0))
 |[],Jf,t,_=>by simp[JC]
 |x::L,Jf,t,h=>by
  obtain⟨h1,h2,h3⟩:=h x (by simp);have e:=UM h1 h2 h3 ((L.map nJ).flatten++t);have ih:=LH L (Jf++[x]) t λy hy=>h y (by simp[hy]);rw[aZ,dX,aX,ae,JC,if_neg (by simp),e];simp only;rw[ih];simp
theorem alE{L:List Kd}(h:cX L=true):∀x∈L,dA x.2.1 x.2.2=true:=by
 intro x hx;obtain⟨i,hi,rfl⟩:=dc hx;simp only[cX,aB,bL,dS]at h;have:=h.1 i hi;simp only[Jx,aB,bA]at this;rw[wk hi];exact this.2
theorem aaV{L:List Kd}(h:cX L=true):L.length<=2000:=by
 simp only[cX,aB,bA]at h;exact h.2
theorem MY{L:List Kd}(h:cX L=true)(hu:∀x∈L,yZ x.2.1):lT (B3 L)=(L,0):=by
 have hn:=aaV h;have e1:=gJ (n:=(L.length:Int)) (dG:=2000) (yf (by omega)) (by omega) ((L.map nJ).flatten);have e2:=LH L [] [] λx hx=>⟨lQ h x hx,hu x hx,alE h x hx⟩
 have e3:E9 (B3 L)=(L,([],0)):=by
  unfold E9;rw[B3,e1]
  grind
 unfold lT;rw[e3];rw[if_neg (by simp[Ir,h])]
theorem T7{x:gX}(h:dR x=true)(hd:x.jI.length=32)(hD:D32 x.dg)(hu:∀c∈x.ca,yZ c.2.1):sg (we x)=(x,0):=by
 have r:=nD h;obtain⟨k1,k2⟩:=r.k;obtain⟨f1,f2⟩:=r.f;obtain⟨t1,t2⟩:=r.t;obtain⟨s1,s2⟩:=r.s;obtain⟨p1,p2⟩:=r.p;have pn:=r.pn;have dn:=r.dn;have e1:Rm.m1 (we x)=(x.kind,(Wm.t1 x,0)):=gJ ⟨by omega,by omega⟩ k2 _
 have e2:Rm.m2 (we x)=(x.fr,(Wm.t2 x,0)):=by
  unfold Rm.m2;rw[e1];exact gJ ⟨by omega,by omega⟩ f2 _
 have e3:Rm.m3 (we x)=(x.qe,(Wm.t3 x,0)):=by
  unfold Rm.m3;rw[e2];exact gJ ⟨by omega,by omega⟩ t2 _
 have e4:Rm.m4 (we x)=(x.qA,(Wm.t4 x,0)):=by
  unfold Rm.m4;rw[e3];exact gJ ⟨by omega,by omega⟩ s2 _
 have e5:Rm.m5 (we x)=(x.part,(Wm.t5 x,0)):=by
  unfold Rm.m5;rw[e4];exact gJ ⟨by omega,by omega⟩ p2 _
 have hz:nc fX=List.replicate 32 (0:Int):=rfl
 have e6:Rm.m6 (we x)=(nc x.jI,(Wm.t6 x,0)):=by
  unfold Rm.m6;rw[e1,e5];unfold Wm.t5;simp only;by_cases hk:x.kind=1
  ·rw[aC hk,aC hk]
   exact BT (by rw[aH];exact hd) _
  ·rw[if_neg hk,if_neg hk,r.d hk,hz]
   rfl
 have e7:Rm.m7 (we x)=((x.pl.length:Int),(Wm.t7 x,0)):=by
  unfold Rm.m7;rw[e6];exact gJ (yf (by omega)) (by omega) _
 have e8:Rm.m8 (we x)=(x.pl,(Wm.t8 x,0)):=by
  unfold Rm.m8;rw[e7];unfold Wm.t7;simp only;rw[aA,GP x.pl [] _ r.pl (by omega)];rfl
 have e9:Rm.m9 (we x)=((x.dg.length:Int),(Wm.t9 x,0)):=by
  unfold Rm.m9;rw[e8];exact gJ (yf (by omega)) (by omega) _
 have eA:Rm.mA (we x)=(x.dg,(B3 x.ca,0)):=by
  unfold Rm.mA;rw[e9];unfold Wm.t9;simp only;rw[aA,GQ x.dg [] _ hD];rfl
 have eC:Rm.mC (we x)=(x.ca,0):=by
  unfold Rm.mC;rw[eA];simp only;rw[if_neg (by simp),MY r.ca hu]
 have eX:Rm.mX (we x)=x:=by
  unfold Rm.mX;rw[e1,e2,e3,e4,e5,e6,e8,eA,eC];simp only[abq]
 unfold sg
 grind
theorem asY{c d:LB}{o:Nat}{x:Value}{t:TypeId}(hc:LB.ok c)(hx:x.oneCell'=true)(h:LB.set c o x=some d):o<(LB.cz c).toArray.size/\Obj.cells ((LB.cz c).toArray.setIfInBounds o x) t= .cells (LB.cz d).toArray t:=by
 obtain⟨_,h2,h3⟩:=LB.uQ hc hx h
 grind
theorem wb{x:gX}{s:iS}(h:x.jI.length=32):LB.ok (x.L s):=⟨rfl,rfl,rfl,rfl,rfl,by rw[eB.ok,aH];exact h,rfl,rfl,rfl,trivial⟩
variable{v:Value}
theorem Nq{x y:gX}{s s':iS}{o:Nat}(h:x.jI.length=32)(hv:v.oneCell'=true)(hs:LB.set (x.L s) o v=some (y.L s')):o<(LB.cz (x.L s)).toArray.size/\Obj.cells ((LB.cz (x.L s)).toArray.setIfInBounds o v) 65=px y s':=asY (wb h) hv hs
theorem Uz(h:jl l):nc (FB l)=l:=by
 rw[FB,nc,fS];refine(eu λx hx=>?_).trans (lL l);have:=h x hx
 grind
variable{s:RS}
theorem GR(h:jl s.1):(gZ s).1.length=32/\jl (gZ s).1:=by
 have h1:=(nF (n:=32) h).1;have h2:=rK (n:=32) (s:=s);unfold gZ;generalize fL 32 s=e at*;obtain⟨b,s1⟩:=e;simp only at h1 h2⊢;refine⟨by simp;omega,h1.append λx hx=>?_⟩
 grind
variable{bp:Nat}
theorem Zi{m:aD}(h:Rd m bp s):eN tP 102 [cx bp] m [i64 (if s.2≠0 then 0 else s.1.length)]:=by
 have h0:=h;obtain⟨v,hb,hv,hn,_⟩:=h;obtain⟨a,c,rfl⟩:=hv.shape;refine ap Tryz.func102 ?_;refine bt (iX h0) ?_;apply bI<;>intro h
 ·have h':s.2≠0:=by simpa using h
  exact⟨by rw[aC h'],rfl⟩
 ·have h':¬s.2≠0:=by simpa using h
  refine xM hb ?_;exact⟨by rw[if_neg h'],rfl⟩
variable{mm:aD}
theorem UE{m q:aD}{bm:Nat}{x:gX}(hs:aq mm [q,blk1 bm (px x ⟨(none,0),(none,0),(none,0)⟩),m])(hr:Rd q bp s)(hp:x.pl=[])(hd:x.dg=[])(DT:x.jI.length=32):
  bi tP 100 [cx bp,cx bm] mm λr m'=>r=[]/\∃P D q' pp pd sp sd,P=sj 20 (cZ 16 s).1.toNat [] (cZ 16 s).2/\D=so (cZ 16 P.2).1.toNat [] (cZ 16 P.2).2/\aq m' [pp,pd,q',blk1 bm (px {x with pl:=P.1,dg:=D.1} ⟨sp,sd,(none,0)⟩),m]/\Rd q' bp D.2/\Io pp (.slice sp.1 P.1.length sp.2) P.1/\I0 pd (.slice sd.1 D.1.length sd.2) D.1:=by
 refine c7 aDN Tryz.func100 ?_;have hn:=ij (dG:=16) hr.xA ⟨by decide,by decide⟩;refine aP (bi.frame hs (j9 (dG:=16) hr ⟨by decide,by decide⟩)) ?_;rintro _ mm⟨q1,⟨rfl,qn,_⟩,bM⟩;have e0:x={x with pl:=[]}:=by rw[<-hp]
 generalize cZ 16 s=ns at*;obtain⟨n,s1⟩:=ns;simp only at hn qn;obtain⟨k,rfl⟩:∃k:Nat,n=(k:Int):=⟨n.toNat,by omega⟩;rw[aA];have hk:k<=16:=by omega
 refine .mk (ι:=Nat×Option Addr×Nat×List Int) (λi=>k-i.1) (λ⟨i,a,c,P⟩ mm=>i<=k/\∃q pp si,aq mm [pp,q,blk1 bm (px {x with pl:=P} ⟨(a,c),(none,0),(none,0)⟩),m]/\Io pp (.slice a P.length c) P/\Rd q bp si/\P.length=i/\sj 20 k [] s1=sj 20 (k-i) P si) (λ⟨i,a,c,P⟩=>[(0,.c (cx bp)),(1,.c (cx bm)),(5,.c (i64 k)),(6,.c (i64 i))]) (λ_=>[]) (0,none,0,[]) ⟨by omega,q1,iI,s1,by rw[e0]at bM;exact bM.cA,Io.nil _,qn,rfl,rfl⟩ ?_ ?_
 ·exact Cr
 rintro⟨i,a,c,P⟩ mm ⟨hi,q,pp,si,hs,hpp,hr,hPl,hP⟩;apply bI<;>intro h
 ·have h':=ah h
  have bH:i<k:=by omega
  have EO:mm bm=some (px {x with pl:=P} ⟨(a,c),(none,0),(none,0)⟩):=hs.get (a:=blk1 bm _) (by simp) (aG ..);have hw:=ij (dG:=20) hr.xA ⟨by decide,by decide⟩
  have hP':sj 20 (k-i) P si=sj 20 (k-(i+1)) (P++[(cZ 20 si).1]) (cZ 20 si).2:=by
   rw[show k-i=(k-(i+1))+1 by omega];rfl
  refine⟨_,aF EO (Hk (x:={x with pl:=P}) DT).1,rfl,?_⟩;refine aP (bi.at (i:=1) hs rfl (j9 (dG:=20) hr ⟨by decide,by decide⟩)) ?_;rintro _ m2⟨q2,⟨rfl,jK,_⟩,bZ⟩;generalize cZ 20 si=e at*;obtain⟨v,si'⟩:=e;simp only at jK hP' hw;have DU:m2 bm=some (px {x with pl:=P} ⟨(a,c),(none,0),(none,0)⟩):=bZ.get (a:=blk1 bm _) (by simp) (aG ..);refine⟨HG (DU.trans EO.symm),?_⟩;refine .mk _ (qa) ?_;rintro _ _⟨b5,mo,rfl,rfl⟩;refine⟨yt DU (aD.bT _ mo),?_⟩;refine .mk _ (Es bZ mo hpp (by omega)) ?_;rintro _ m3⟨y',pp',rfl,dy,apH⟩;obtain⟨ya,yc,rfl⟩:=apH.il.ia.shape;have ahW:m3 bm=some (px {x with pl:=P} ⟨(a,c),(none,0),(none,0)⟩):=dy.get (a:=blk1 bm _) (by simp) (aG ..);have dI:=Nq (x:={x with pl:=P}) (y:={x with pl:=P++[v]}) (s:=⟨(a,c),(none,0),(none,0)⟩) (s':=⟨(ya,yc),(none,0),(none,0)⟩) (o:=37) (v:=.slice ya (P++[v]).length yc) DT rfl rfl;refine⟨_,_,_,ahW,⟨dI.1,by simp⟩,?_⟩;have eP:=dy.gu (i:=2) rfl (aG ..) (Obj.cells ((LB.cz (gX.L {x with pl:=P} ⟨(a,c),(none,0),(none,0)⟩)).toArray.setIfInBounds 37 (.slice ya (P++[v]).length yc)) 65);rw[cJ,dI.2]at eP;refine⟨(i+1,ya,yc,P++[v]),⟨by omega,q2,pp',si',?_,apH,jK,by simp[hPl],by rw[hP,hP']⟩,by simp only;omega,?_⟩
  ·rw[dI.2]
   exact eP
  ·exact Cr
 have h':=aj h;obtain rfl:i=k:=by omega
 have hPe:sj 20 i [] s1=(P,si):=by rw[hP,kF];rfl
 rw[hPe];have hn:=ij (dG:=16) hr.xA ⟨by decide,by decide⟩;refine aP (bi.at (i:=1) hs rfl (j9 (dG:=16) hr ⟨by decide,by decide⟩)) ?_;rintro _ m2⟨q2,⟨rfl,jK,_⟩,bZ⟩;have e0:({x with pl:=P}:gX)={x with pl:=P,dg:=[]}:=by rw[<-hd]
 generalize NQ:cZ 16 si=ns at*;obtain⟨n,s2⟩:=ns;simp only at hn jK;obtain⟨j,rfl⟩:∃k:Nat,n=(k:Int):=⟨n.toNat,by omega⟩;have hj:j<=16:=by omega
 refine .mk (ι:=Nat×Option Addr×Nat×List (List Nat)) (λi=>j-i.1) (λ⟨i,ad,cd,D⟩ mm=>i<=j/\∃q pd si,aq mm [pd,pp,q,blk1 bm (px {x with pl:=P,dg:=D} ⟨(a,c),(ad,cd),(none,0)⟩),m]/\I0 pd (.slice ad D.length cd) D/\Rd q bp si/\D.length=i/\so j [] s2=so (j-i) D si) (λ⟨i,ad,cd,D⟩=>[(0,.c (cx bp)),(1,.c (cx bm)),(21,.c (i64 j)),(22,.c (i64 i))]) (λ_=>[]) (0,none,0,[]) ⟨by omega,q2,iI,s2,by rw[e0]at bZ;exact bZ.cA,I0.nil _,jK,rfl,rfl⟩ ?_ ?_
 ·exact Cr
 rintro⟨k,ad,cd,D⟩ mm ⟨hk,q,pd,sk,hs,hpd,hr,hDl,hD⟩;apply bI<;>intro h
 ·have h':=ah h
  have bH:k<j:=by omega
  have EO:mm bm=some (px {x with pl:=P,dg:=D} ⟨(a,c),(ad,cd),(none,0)⟩):=hs.get (a:=blk1 bm _) (by simp) (aG ..)
  have hD':so (j-k) D sk=so (j-(k+1)) (D++[FB (gZ sk).1]) (gZ sk).2:=by
   rw[show j-k=(j-(k+1))+1 by omega];rfl
  have OU:=hr.xA;refine⟨_,aF EO (Hk (x:={x with pl:=P,dg:=D}) DT).2.1,rfl,?_⟩;refine aP (bi.at (i:=2) hs rfl (GM hr)) ?_;rintro _ m3⟨q3,⟨rfl,wo⟩,dy⟩;have ahW:m3 bm=some (px {x with pl:=P,dg:=D} ⟨(a,c),(ad,cd),(none,0)⟩):=dy.get (a:=blk1 bm _) (by simp) (aG ..);obtain⟨NW,hdb⟩:=GR OU;have hdn:=Uz hdb;generalize gZ sk=e at*;obtain⟨v,sk'⟩:=e;simp only at wo hD' NW hdb hdn;rw[<-hdn];have hvl:(FB v).length=32:=by rw[FB,aH];exact NW
  generalize FB v=v' at*;refine⟨HG (ahW.trans EO.symm),?_⟩;refine .mk _ (SA (d:=v') hvl) ?_;rintro _ _⟨b5,mo,rfl,rfl⟩;refine⟨yt ahW (aD.bT _ mo),?_⟩;refine .mk _ (acb dy mo hvl hpd (by omega)) ?_;rintro _ m4⟨y',pd',rfl,eP,apI⟩;obtain⟨ya,yc,rfl⟩:=apI.dl.shape;have au7:m4 bm=some (px {x with pl:=P,dg:=D} ⟨(a,c),(ad,cd),(none,0)⟩):=eP.get (a:=blk1 bm _) (by simp) (aG ..);have dI:=Nq (x:={x with pl:=P,dg:=D}) (y:={x with pl:=P,dg:=D++[v']}) (s:=⟨(a,c),(ad,cd),(none,0)⟩) (s':=⟨(a,c),(ya,yc),(none,0)⟩) (o:=38) (v:=.slice ya (D++[v']).length yc) DT rfl rfl;refine⟨_,_,_,au7,⟨dI.1,by simp⟩,?_⟩;have eD:=eP.gu (i:=3) rfl (aG ..) (Obj.cells ((LB.cz (gX.L {x with pl:=P,dg:=D} ⟨(a,c),(ad,cd),(none,0)⟩)).toArray.setIfInBounds 38 (.slice ya (D++[v']).length yc)) 65);rw[cJ,dI.2]at eD;refine⟨(k+1,ya,yc,D++[v']),⟨by omega,q3,pd',sk',?_,apI,wo,by simp[hDl],by rw[hD,hD']⟩,by simp only;omega,?_⟩
  ·rw[dI.2]
   exact eD
  ·exact Cr
 have h':=aj h;obtain rfl:k=j:=by omega
 have hDe:so k [] s2=(D,sk):=by rw[hD,kF];rfl
 exact⟨rfl,(P,si),(D,sk),q,pp,pd,(a,c),(ad,cd),rfl,by simp only[NQ,aA,hDe],hs.ir [1,0,2,3,4],hr,hpp,hpd⟩
theorem WV{k:ByteArray}{c:Ct}:∀{L:List Kd}{j:Nat},j<=L.length->(∀x∈L.take j,eZ k x.1=false)->(∀(h:j<L.length),eZ k L[j].1=true)->sG k c L=L.take j++((k,c)::L.drop j)
 |[],j,hj,_,_=>by
  have:j=0:=by simpa using hj
  subst this;rfl
 |x::L,0,_,_,h=>by
  have this:eZ k x.1=true:=h (by simp);unfold sG;rw[aC this];rfl
 |x::L,j+1,hj,h1,h2=>by
  have hx:eZ k x.1=false:=h1 x (by simp);unfold sG;rw[if_neg (by rw[hx];decide),WV (L:=L) (j:=j) (by simpa using hj) (λy hy=>h1 y (by simp[hy])) (λh=>h2 (by simpa using h))];rfl
def BS(k:ByteArray)(u:List Int)(s:Option Addr×Nat×Nat)(r:Rk):Rk:=if r.1=k then(r.1,u,s)else r
def akp(k:ByteArray)(c:Ct)(x:Kd):Kd:=if x.1=k then(k,c)else x
variable{k:ByteArray}
theorem Pd{L:List Kd}{c:Ct}(h:(L.any λx=>decide (x.1=k))=true):iz L k c=L.map (akp k c):=by unfold iz;rw[aC h];rfl
theorem aob{L:List Kd}{c:Ct}(h:(L.any λx=>decide (x.1=k))=false):iz L k c=sG k c L:=by unfold iz;rw[if_neg (by rw[h];decide)]
variable{u:List Int}{E:List En}
theorem dC.xm{m:aD}{R:List Rk}{L:List Kd}(h:dC m R L){s:Option Addr×Nat×Nat}(hu:u.length=8)(hE:Na m (.slice s.1 s.2.1 s.2.2) E):dC m (R.map (BS k u s)) (L.map (akp k (u,E))):=by
 refine⟨by rw[aH,aH,h.len],λi h1 h2=>?_⟩;rw[qz,qz];have hx:=h.je i (by simpa using h1) (by simpa using h2);unfold BS akp;by_cases hk:(R[i]'(by simpa using h1)).1=k
 ·rw[aC hk,aC (by rw[<-hx.k];exact hk)]
  exact⟨hk,rfl,hu,hE⟩
 ·rw[if_neg hk,if_neg (by rw[<-hx.k];exact hk)]
  exact hx
def tf{α:Type}(f:α->α)(R:List α)(i:Nat):List α:=(R.take i).map f++R.drop i
variable{α:Type}
theorem BG(f:α->α)(R:List α)(i:Nat):(tf f R i).length=R.length:=by simp[tf];omega
variable{i:Nat}
theorem Fy(f:α->α)(R:List α)(hi:i<R.length):(tf f R i)[i]'(by rw[BG];exact hi)=R[i]:=by
 unfold tf
 grind
theorem ze(f:α->α)(R:List α)(hi:i<R.length):tf f R (i+1)=(tf f R i).set i (f R[i]):=by
 unfold tf;rw[au hi,List.set_append,if_neg (by simp;omega),bD];simp[gH (Nat.le_of_lt hi)];rw[qD hi];rfl
theorem F9(f:α->α)(R:List α):tf f R R.length=R.map f:=by simp[tf]
theorem C7(f:α->α)(R:List α):tf f R 0=R:=by simp[tf]
theorem aof(f:α->α)(R:List α)(hi:i<R.length)(h:f R[i]=R[i]):tf f R (i+1)=tf f R i:=by
 rw[ze f R hi,h];have:=Fy f R hi
 conv=>lhs;rw[<-this]
 exact vG _
theorem FX{m:aD}{s:Option Addr×Nat×Nat}(hu:u.length=8):bF tP (.buildSlice 63 1 [0]) [.a [.one (.string k),.bG .u64 8 u,.one (.slice s.1 s.2.1 s.2.2)]] m λr m'=>∃b,m b=none/\r=[.v (.slice (some ⟨b,0,none⟩) 1 1)]/\m'=m.set b (.cells (fj (k,u,s)).toArray 177):=by
 have:=OC (m:=m) (e:=(k,u,s));dsimp only[Kv]at this;rw[yn hu]at this;exact this
variable{c:Nat}
theorem x4{g m:aD}{L:List Kd}{a:Option Addr}(hs:aq mm [g,m])(hv:lu g v L)(hc:Na mm (.slice a E.length c) E)(hu:u.length=8)(hl:L.length<=100000)(hlE:E.length<=100000):
  bi tP 91 [.v v,.v (.string k),iY u a E.length c] mm λr m'=>∃v' p,r=[.v v']/\aq m' [p,m]/\lu p v' (iz L k (u,E))/\cL g p:=by
 obtain⟨R,hR,hK⟩:=hv;obtain⟨av,cv,rfl⟩:=hR.shape;have hlen:=hK.len;refine c7 c91 Tryz.func91 ?_;intro b hb;have MS:=hs.new hb (ur k);refine aP (l7 (hc.sub (aD.bT _ hb)) (by omega)) ?_;rintro _ m1⟨vc,pc,rfl,bM,hpc⟩;have bM:aq m1 [pc,blk1 b (ur k),g,m]:=aq.jN (a:=[pc]) bM MS;obtain⟨ac,cc,rfl⟩:=hpc.el.shape;refine aP (nO (hR.sub (bM.sub)) (by omega)) ?_;rintro _ m2⟨vk,pk,rfl,bZ,hpk⟩;have bZ:aq m2 [pk,pc,blk1 b (ur k),g,m]:=aq.jN (a:=[pk]) bZ bM;obtain⟨ak,ck,rfl⟩:=hpk.el.shape;refine .mk (ι:=Nat) (λi=>R.length-i) (λi mm=>i<=R.length/\∃p,aq mm [p,pc,blk1 b (ur k),g,m]/\Ko p (.slice ak R.length ck) (tf (BS k u (ac,E.length,cc)) R i)) (λi=>[(4,.c (cx b)),(5,.p 0 0),(7,.c (.v (.slice ak R.length ck))),(8,.c (bR ((R.take i).any λr=>decide (r.1=k)))),(18,.c (i64 R.length)),(19,.c (i64 i))]) (λ_=>[(111,[.bG .u64 8 u,.one (.slice ac E.length cc)])]) 0 ⟨by omega,pk,bZ,by rw[C7];exact hpk⟩ ?_ ?_
 ·exact Cr
 rintro i mm⟨hi,p,dy,hp⟩;apply bI<;>intro h
 ·have h':=ah h
  have bH:i<R.length:=by omega
  have hzl:=BG (BS k u (ac,E.length,cc)) R i;have hza:(tf (BS k u (ac,E.length,cc)) R i)[i]?=some R[i]:=by rw[az (by omega),Fy _ _ bH]
  have hzn:=ze (BS k u (ac,E.length,cc)) R bH;have hzs:=aof (BS k u (ac,E.length,cc)) R bH;have dI:R.take (i+1)=R.take i++[R[i]]:=au bH;generalize tf (BS k u (ac,E.length,cc)) R i=Z at hp hzl hza hzn hzs;have DP:i<Z.length:=by omega
  rw[az DP,aM]at hza;obtain⟨bl,ol,c2,hh,hg⟩:=hp.el.ea.real DP;injection hh with eK _ fN;subst eK;have hg:=hg i DP;have adC:=λx hj hx=>dW.Wu (cs:=LB.cz [.bG .u64 8 u,.one (.slice ac E.length cc)]) (x:=x) hp DP (j:=1) hj hx;rw[hza]at hg adC;generalize R[i]=r at hg dI hzn hzs adC;have Ah:mm b=some (ur k):=dy.get (a:=blk1 b (ur k)) (by simp) (aG ..)
  repeat refine xS ?_
  refine⟨_,by simp only[bK,aA];exact(dQ.ajD (hg.sub (dy.sub)) rfl),rfl,?_⟩;refine xM Ah ?_;conv=>whnf
  rw[KG];apply bI<;>intro h
  ·have hk:=ah h
   have ak9:BS k u (ac,E.length,cc) r=(r.1,u,(ac,E.length,cc)):=by unfold BS;rw[aC hk]
   rw[ak9]at hzn;have ZH:∀y,(LB.cz [.bG .u64 8 u,.one y]).length=9:=λy=>by simp[LB.cz,eB.cells,hu]
   obtain⟨arr,ZM,ZL,ha3⟩:=adC (r.1,u,(ac,E.length,cc)) (by rw[ZH];omega) (by
    rw[ZH];simp only[fj,yn hu]
    simp[LB.cz,eB.cells,kG,n8])
   rw[ZH]at ZL ha3;rw[<-hzn]at ha3
   repeat refine xS ?_
   have hmb:mm bl=some (.cells arr 177):=dy.sub (a:=p) (by simp) _ _ ZM;refine⟨_,_,_,hmb,⟨?_,Jz⟩,?_⟩
   ·simp only[bK,aA]
    exact ZL
   simp only[bK,aA];have eP:=dy.set ZM (.cells (arr.toList.take (ol+i*10+1)++(LB.cz [.bG .u64 8 u,.one (.slice ac E.length cc)]++arr.toList.drop (ol+i*10+1+9))).toArray 177);refine⟨i+1,⟨by omega,_,eP,ha3⟩,by omega,?_⟩;conv=>whnf
   repeat (refine And.intro (by first|with_reducible rfl|(first|exact cI (qJ (by omega))|(rw[dI,List.any_append];simp[hk]))|exact cI (wi)|exact wi|rfl) ?_;conv=>whnf)
   exact xT
  ·have hk:=aj h
   have ak9:BS k u (ac,E.length,cc) r=r:=by unfold BS;rw[if_neg hk]
   refine⟨i+1,⟨by omega,p,dy,by rw[hzs ak9];exact hp⟩,by omega,?_⟩;conv=>whnf
   repeat (refine And.intro (by first|with_reducible rfl|(first|exact cI (qJ (by omega))|(rw[dI,List.any_append];simp[hk]))|exact cI (wi)|exact wi|rfl) ?_;conv=>whnf)
   exact xT
 ·have h':=aj h
  obtain rfl:i=R.length:=by omega
  rw[F9]at hp;rw[aJ];have H3:=hK.any λy=>decide (y=k);have hcE:∀{m'},cL pc m'->Na m' (.slice ac E.length cc) E:=λhx=>hpc.ea.sub hx;apply bI<;>intro h
  ·have hth:(L.any λx=>decide (x.1=k))=true:=by rw[<-H3];exact h
   conv=>whnf
   rw[Pd hth];have eD:aq mm ([p,pc,blk1 b (ur k),g]++[m]):=dy;obtain⟨gC,iU⟩:=aq.k9 _ eD;refine⟨_,_,rfl,gC,⟨_,hp.ea.sub (iU.sub),?_⟩,iU.sub⟩;exact(hK.sub (iU.sub)).xm hu (hpc.ea.sub (iU.sub))
  ·have hth:(L.any λx=>decide (x.1=k))=false:=by rw[<-H3];exact h
   rw[aob hth]
   have aux:R.map (BS k u (ac,E.length,cc))=R:=by
    refine(eu λr hr=>?_).trans (lL R);have:(R.any λr=>decide (r.1=k))=false:=h;have:=oP.1 this r hr;unfold BS;rw[if_neg (by simpa using this)];rfl
   rw[aux]at hp;have mo:mm b=some (ur k):=dy.get (a:=blk1 b (ur k)) (by simp) (aG ..);refine .mk _ (df (cs:=[.pointer (some ⟨b,0,none⟩)]) (by simp[Value.oneCell'])) ?_;rintro _ _⟨rfl,rfl⟩;refine bt (wm (p:=λr=>eZ k r.1) (hp.ea.sub (dy.sub)) (λr _=>Tu mo) (by omega)) ?_
   have qX:∀j,j<=L.length->(∀r∈R.take j,eZ k r.1=false)->(∀h:j<R.length,eZ k R[j].1=true)->sG k (u,E) L=L.take j++((k,(u,E))::L.drop j):=λj hj h1 h2=>by
    refine WV hj (λx hx=>?_) λbH=>?_
    ·have e1:=(hK.take j).any λy=>eZ k y
     have e2:((R.take j).any λr=>eZ k r.1)=false:=oP.2 λr hr=>by rw[h1 r hr];decide
     rw[e2]at e1;simpa using oP.1 e1.symm x hx
    ·rw[<-(hK.je j (by omega) bH).k];exact h2 (by omega)
   have aef:∀(m2 p':aD) (v':Value) (j:Nat),aq m2 [p',gY [pc,blk1 b (ur k),g,m]]->Ko p' v' (yx R j (k,u,(ac,E.length,cc)))->j<=L.length->(∀r∈R.take j,eZ k r.1=false)->(∀h:j<R.length,eZ k R[j].1=true)->∃v'' p,[CV.v v']=[.v v'']/\aq m2 [p,m]/\lu p v'' (sG k (u,E) L)/\cL g p:=λm2 p' v' j h1 h2 h3 h4 h5=>by
    have zv:aq m2 ([p',pc,blk1 b (ur k),g]++[m]):=aq.jN (a:=[p']) h1 (dy.drop.all);obtain⟨nr,u7⟩:=aq.k9 _ zv;refine⟨_,_,rfl,nr,⟨_,h2.ea.sub (u7.sub),?_⟩,u7.sub⟩;rw[qX j h3 h4 h5];have hKx:=hK.sub (u7.sub (a:=g));have ox:pP _ (k,u,(ac,E.length,cc)) (k,(u,E)):=⟨rfl,rfl,hu,hpc.ea.sub (u7.sub (a:=pc))⟩;exact(hKx.take j).append ((dC.one ox).append (hKx.drop j))
   rcases lY (λr:Rk=>eZ k r.1) R with⟨e1,e2⟩|⟨i0,Ja,e1,e2,e3⟩
   ·rw[e1]
    refine xY ?_;refine xM mo ?_;refine .mk _ (FX (k:=k) (s:=(ac,E.length,cc)) hu) ?_;rintro _ _⟨b6,Xl,rfl,rfl⟩;have eD:=dy.new Xl (.cells (fj (k,u,(ac,E.length,cc))).toArray 177)
    have gC:aq _ ([pc,blk1 b (ur k),g,m]++[p,blk1 b6 (.cells (fj (k,u,(ac,E.length,cc))).toArray 177)]):=eD.fm (by
     refine(List.Perm.swap _ _ _).trans ?_
     exact dY (l₁:=[p,blk1 b6 _]) (l₂:=[pc,blk1 b (ur k),g,m]))
    have iU:=(aq.k9 _ gC).1
    have iU:aq _ [p,blk1 b6 (.cells (fj (k,u,(ac,E.length,cc))).toArray 177),gY [pc,blk1 b (ur k),g,m]]:=iU.fm (by
     refine(List.Perm.swap _ _ _).trans ?_
     exact List.Perm.cons _ (List.Perm.swap _ _ _))
    refine aP (B4 iU hp (k:=R.length) (by omega) (by omega)) ?_;rintro _ m8⟨v',p',rfl,k8,tZ⟩;exact aef _ _ _ _ k8 tZ (by omega) (by rw[aJ];exact e2) (λh=>absurd h (by omega))
   ·rw[e1]
    refine⟨λh=>absurd h (by(simp<;>omega)),λ_=>?_⟩;refine xM mo ?_;refine .mk _ (FX (k:=k) (s:=(ac,E.length,cc)) hu) ?_;rintro _ _⟨b6,Xl,rfl,rfl⟩;have eD:=dy.new Xl (.cells (fj (k,u,(ac,E.length,cc))).toArray 177)
    have gC:aq _ ([pc,blk1 b (ur k),g,m]++[p,blk1 b6 (.cells (fj (k,u,(ac,E.length,cc))).toArray 177)]):=eD.fm (by
     refine(List.Perm.swap _ _ _).trans ?_
     exact dY (l₁:=[p,blk1 b6 _]) (l₂:=[pc,blk1 b (ur k),g,m]))
    have iU:=(aq.k9 _ gC).1
    have iU:aq _ [p,blk1 b6 (.cells (fj (k,u,(ac,E.length,cc))).toArray 177),gY [pc,blk1 b (ur k),g,m]]:=iU.fm (by
     refine(List.Perm.swap _ _ _).trans ?_
     exact List.Perm.cons _ (List.Perm.swap _ _ _))
    refine aP (B4 iU hp (k:=i0) (by omega) (by omega)) ?_;rintro _ m8⟨v',p',rfl,k8,tZ⟩;exact aef _ _ _ _ k8 tZ (by omega) e3 (λ_=>e2)
theorem GS{g m:aD}{L:List Kd}{a:Option Addr}(hs:aq mm [g,m])(hv:lu g v L)(hc:Na mm (.slice a E.length c) E)(hu:u.length=8)(hl:L.length<=100000)(hlE:E.length<=100000):
  bi tP 91 [.v v,.v (.string k),iY u a E.length c] mm λr m'=>∃v' p,r=[.v v']/\aq m' [p,m]/\lu p v' (iz L k (u,E)):=
 (x4 hs hv hc hu hl hlE).mono λ_ _ ⟨v',p,h1,h2,h3,_⟩=>⟨v',p,h1,h2,h3⟩
theorem Yn(s:RS):(oU s).1.2.length<=400:=by
 unfold oU;simp only;split
 ·simp
 ·rename_i h
  have h0:(Av s).2=0:=by simpa using h
  unfold Av ay at h0
  split at h0
  ·cases h0
  ·rename_i h1
   have:dA (uS s).1 (wS s).1=true:=by
    grind
   exact pj this
theorem Yp(l:List Int):(AR l).size=l.length:=by
 rw[<-ByteArray.size_data,<-cq,AR];simp
theorem YO(hb:jl s.1):(kM 20 s).1.length<=20:=by
 have h:=ij (dG:=20) (s:=s) hb ⟨by decide,by decide⟩;have e:kM 20 s=fL (cZ 20 s).1.toNat (cZ 20 s).2:=rfl;rw[e];exact bq rK (by omega)
theorem aq.sK{m a b:aD}{l:List aD}(h:aq m (a::b::l)):∃j,cL a j/\cL b j/\aq m (j::l):=by
 have hd:=h.dj;refine⟨ig a b,λx o hx=>by simp only[ig,hx],λx o hx=>?_,h.jo⟩;rcases hd x with h1|h1
 ·simp only[ig,h1,hx]
 grind
structure aiL(x:Kd):Prop where
 a:jg x
 (n:x.2.2.length<=400)
 (k:x.1.size<=20)
theorem MX{m:aD}(hS:cK m)(hv:La m v l)(hb:jl l)(hl:l.length<=100000000):
  bi tP 101 [.v v] m λr m'=>∃v' p,r=[.v v',i64 (lT l).2]/\aq m' [p,m]/\lu p v' (lT l).1/\∀x∈(lT l).1,aiL x:=by
 have hF:lT l=if Ir (E9 l).2≠0\/cX (E9 l).1=false then([],3)else((E9 l).1,0):=rfl
 have hD:E9 l=JC (cZ 2000 (l,0)).1.toNat [] (cZ 2000 (l,0)).2:=rfl;refine c7 aDM Tryz.func101 ?_;refine aP (zy hv hb hl) ?_;rintro _ mm⟨bp,q,rfl,hs,hr⟩;have hn:=ij (dG:=2000) hr.xA ⟨by decide,by decide⟩;refine aP (bi.frame hs (j9 (dG:=2000) hr ⟨by decide,by decide⟩)) ?_;rintro _ mm⟨q,⟨rfl,hr,_⟩,hs⟩;generalize cZ 2000 (l,0)=ns at*;obtain⟨n,s1⟩:=ns;simp only at hn hr hD;obtain⟨k,rfl⟩:∃k:Nat,n=(k:Int):=⟨n.toNat,by omega⟩;rw[aA]at hD;have hk:k<=2000:=by omega
 generalize E9 l=dd at*;generalize lT l=ff at*;refine .mk (ι:=Nat×Option Addr×Nat×List Rk) (λi=>k-i.1) (λ⟨i,a,c,R⟩ mm=>i<=k/\∃p g q L si,aq mm [p,g,q,m]/\Ko p (.slice a R.length c) R/\dC g R L/\Rd q bp si/\dd=JC (k-i) L si/\(∀x∈L,aiL x)/\L.length<=i) (λ⟨i,a,c,R⟩=>[(4,.c (cx bp)),(5,.c (.v (.slice a R.length c))),(9,.c (i64 k)),(10,.c (i64 i))]) (λ_=>[]) (0,none,0,[]) ⟨by omega,iI,iI,q,[],s1,hs.cA.cA,Ko.nil _,dC.nil _,hr,hD,by simp,by simp⟩ ?_ ?_
 ·exact Cr
 rintro⟨i,a,c,R⟩ mm ⟨hi,p,g,q,L,si,hs,hp,hK,hr,Rj,hG,hL⟩;refine⟨λh=>?a1,λh=>?a2⟩
 case' a1=>
  have h':=ah h;have bH:i<k:=by omega
  refine bt (iX (hr.mono (hs.sub))) ?_;refine⟨λh2=>?b1,λh2=>?b3⟩
 case b3=>
  have iD:si.2=0:=by simpa using h2
  have hd2:dd=JC (k-(i+1)) (L++[(HJ si).1]) (HJ si).2:=by
   rw[Rj,show k-i=(k-(i+1))+1 by omega,JC,if_neg (by rw[iD];decide)]
  have ox:HJ si=((AR (kM 20 si).1,(oU (kM 20 si).2).1),(oU (kM 20 si).2).2):=rfl;have htl:=YO hr.xA;refine aP ((KD (dG:=20) hr ⟨by decide,by decide⟩).at hs (i:=2) rfl) ?_;rintro _ m2⟨q2,⟨vt,pt,q,rfl,bZ,hbt,jK⟩,dy⟩
  try refine⟨λ_ h=>(by cases h),?_⟩
  have dy:aq m2 [pt,q,p,g,m]:=dy.Vn (i:=2) rfl bZ;generalize kM 20 si=t at*;obtain⟨tb,ts⟩:=t;simp only at hbt jK htl ox;have Ac:=Yn ts;rcases hbt with⟨rfl,Bh⟩|⟨b',o',c',n',CH,rfl,g1,g2,g3,g4,g5,g6⟩
  case' inl=>
   have Bh:tb=[]:=List.map_eq_nil_iff.1 Bh;subst Bh;conv=>whnf
   obtain⟨AS,Q1⟩:∃AS,AS=ByteArray.empty:=⟨_,rfl⟩;rw[<-Q1];have Q1:AS=AR []:=Q1
  case' inr=>
   have OS:tb.length=n':=by
    have hbc:(bc tb).length=tb.length:=aH _;omega
   subst OS;refine .inr ⟨tb,rfl,_,_,rfl,⟨_,_,_,dy.sub (a:=pt) (by simp) _ _ g1,g5⟩,?_⟩;obtain⟨AS,Q1⟩:∃AS,AS=tH tb:=⟨_,rfl⟩;rw[<-Q1];rw[Wp]at Q1;have Fb:=dy.sub (a:=pt) (by simp) _ _ g1
  all_goals
   obtain⟨fb,yy,eP,oF⟩:=(dy.ir [1,0,2,3,4]).fb;refine aP (AZ (hS.sub (yy m (by simp))) eP jK) ?_;rintro _ m3⟨x,a',c',q3,p3,hx,rfl,eD,wo,hE,hu,ez⟩;have gC:aq m3 [p3,q3,pt,p,g,m]:=oF _ [p3,q3] eD
   first|refine⟨HG ((gC.sub (a:=pt) (by simp) _ _ g1).trans Fb.symm),?_⟩|refine⟨λ_ h=>(by cases h),?_⟩
   conv=>whnf
   rw[<-hx]at ox Ac;obtain⟨xu,xE⟩:=x;simp only at hE hu ez Ac ox⊢;have hz:List.take 0 (List.replicate 8 (0:Int))++(xu++List.drop (0+8) (List.replicate 8 0))=xu:=by simp
   refine .mk _ (FX (k:=AS) (u:=xu) (s:=(a',xE.length,c')) hu.1) ?_;rintro _ _⟨b5,mo,rfl,rfl⟩
   first|refine⟨yt (gC.sub (a:=pt) (by simp) _ _ g1) (aD.bT _ mo),?_⟩|skip
   refine .mk _ (aca (i:=3) gC rfl mo hp (by have:=hK.len;omega)) ?_;rintro _ m4⟨v',p',rfl,iU,tZ⟩
   first|refine⟨HG ((iU.sub (a:=pt) (by simp) _ _ g1).trans (aD.bT _ mo _ _ (gC.sub (a:=pt) (by simp) _ _ g1)).symm),?_⟩|skip
   try refine⟨λ_ h=>(by cases h),?_⟩
   obtain⟨a2,c2,rfl⟩:=tZ.el.shape;obtain⟨j,LR,Re,k8⟩:=aq.sK (iU.ir [0,4,3,1,5]);rw[ox,<-Q1]at hd2;refine⟨(i+1,a2,c2,R++[(AS,xu,a',xE.length,c')]),⟨by omega,p',j,q3,L++[(AS,xu,xE)],_,k8.ir [1,0,2,3],tZ,(hK.sub Re).append (dC.one ⟨rfl,rfl,hu.1,hE.sub LR⟩),wo,hd2,?_,by simp;omega⟩,by simp only;omega,?_⟩
   ·intro y hy
    rcases aR.1 hy with hy|hy
    ·exact hG y hy
    ·rw[aL.1 hy]
     exact⟨⟨hu,ez,by simp only;omega⟩,Ac,by simp only;rw[Q1,Yp];exact htl⟩
   ·exact Cr
 case' b1=>
  have iD:si.2≠0:=by simpa using h2
  have hdn:dd=(L,si):=by
   rw[Rj,show k-i=(k-(i+1))+1 by omega,JC,aC iD]
 case' a2=>
  have h':=aj h;obtain rfl:i=k:=by omega
  have hdn:dd=(L,si):=by rw[Rj,kF];rfl
 all_goals
  have hky:lu mm (.slice a R.length c) L:=⟨R,(hp.el.sub (hs.sub)).ea,hK.sub (hs.sub)⟩;rw[hdn]at hF;simp only at hF;refine bt (yM (hr.mono (hs.sub))) ?_;have hen:(if si.2≠0 then si.2 else if si.1=[]then 0 else 2)=Ir si:=rfl;rw[hen];apply bI<;>intro h3
  ·have yF:Ir si≠0:=by simpa using h3
   rw[aC (.inl yF)]at hF;exact⟨_,iI,by rw[hF],(hs.ir [3]).cA,by rw[hF];exact lu.nil _,by rw[hF];simp⟩
  ·have yF:¬Ir si≠0:=by simpa using h3
   refine aP (iC (hS.sub (hs.sub)) hky (λx hx=>(hG x hx).a) (by omega)) ?_;rintro _ m4⟨rfl,B8⟩;by_cases jK:cX L=true
   ·rw[jK]
    refine xN ?_;conv=>whnf
    rw[if_neg (by rw[jK];simp;simpa using yF)]at hF;obtain⟨j,LR,Re,k8⟩:=aq.sK (hs.grow B8);exact⟨_,j,by rw[hF],k8.ir [0,2],by rw[hF];exact⟨R,(hp.el.sub LR).ea,hK.sub Re⟩,by rw[hF];exact hG⟩
   ·have jK:cX L=false:=by simpa using jK
    rw[jK];refine xY ?_;conv=>whnf
    rw[aC (.inr jK)]at hF;exact⟨_,iI,by rw[hF],((hs.ir [3]).grow B8).cA,by rw[hF];exact lu.nil _,by rw[hF];simp⟩
abbrev afZ(n:Int):CV:=.v (.int .u32 n)
theorem La.real{m:aD}(h:La m v l)(hl:l≠[]):∃b o c,v= .slice (some ⟨b,o,none⟩) l.length c:=(h.lb hl).real hl
variable{n b:Nat}
theorem Lb.je{m:aD}{o j:Nat}(h:Lb m (.slice (some ⟨b,o,none⟩) n c) l){x:Int}(hj:l[j]?=some x):gR m b (o+j)=some (.int .u8 x):=by
 obtain⟨arr,t,fr,h1,h2⟩:=h.range;exact aF h1 (h2 j _ (by simp[hj]))
theorem ZS(h:i<l.length):(l.take (i+1)).foldl (λs c=>Fr.JZ s c.toNat) 4294967295=Fr.JZ ((l.take i).foldl (λs c=>Fr.JZ s c.toNat) 4294967295) (l[i]).toNat:=by
 rw[au h,iT];rfl
theorem aa3{s:Nat}{x:Int}(hs:s<2^32)(hx:0<=x/\x<256):ag .xor .u32 (s:Int) (IntKind.u32.wrap x)=((s ^^^ x.toNat:Nat):Int):=by
 obtain⟨k,rfl⟩:∃k:Nat,x=k:=⟨x.toNat,by omega⟩;rw[XY (by omega) (by omega),pS hs (by omega)];rfl
theorem L3{m:aD}(hv:La m v l)(hb:jl l)(hl:l.length<=100000000):eN tP 291 [.v v] m [afZ ((Fr.Ov l:Nat):Int)]:=by
 obtain⟨a,c,rfl⟩:=hv.shape;refine ap Tryz.func291 ?_;refine .mk (ι:=Nat) (λi=>l.length-i) (λi mm=>i<=l.length/\mm=m) (λi=>[(3,.c (afZ (((l.take i).foldl (λs c=>Fr.JZ s c.toNat) 4294967295:Nat):Int))),(7,.c (.v (.slice a l.length c))),(8,.c (i64 l.length)),(9,.c (i64 i))]) (λ_=>[]) 0 ⟨by omega,rfl⟩ ?_ ?_
 ·exact Cr
 rintro i mm⟨hi,he⟩;subst mm;apply bI<;>intro h1
 ·have jc:=ah h1
  have bH:i<l.length:=by omega
  have ga:l≠[]:=by intro e;subst e;simp at bH
  obtain⟨b,o,c',hh⟩:=La.real hv ga;injection hh with eK _ fN;subst eK;have hx:=hb l[i] (aO bH)
  repeat refine xS ?_
  refine⟨_,by have:=Lb.je (hv.lb ga) (az bH);simp only[bK,aA];exact this,rfl,?_⟩;have hs:=Fr.FU (l:=l.take i) (s:=4294967295) (by decide) (hb.take i);have hft:=ZS bH;generalize (l.take i).foldl (λs c=>Fr.JZ s c.toNat) 4294967295=s0 at hs hft⊢;conv=>whnf
  rw[aa3 hs hx];have qW:s0 ^^^ (l[i]).toNat<2^32:=jB hs (by omega);have hc1:Fr.JZ s0 (l[i]).toNat=Fr.Jq 8 (s0 ^^^ (l[i]).toNat):=rfl;rw[hc1]at hft;generalize s0 ^^^ (l[i]).toNat=s1 at qW hft⊢;refine .mk (ι:=Nat) (λk=>8-k) (λk mm=>k<=8/\mm=m) (λk=>[(3,.c (afZ ((Fr.Jq k s1:Nat):Int))),(7,.c (.v (.slice (some ⟨b,o,none⟩) l.length c))),(8,.c (i64 l.length)),(9,.c (i64 i)),(17,.c (i64 k))]) (λ_=>[]) 0 ⟨by omega,rfl⟩ ?_ ?_
  ·exact Cr
  rintro k mm⟨hk,he⟩;subst mm;apply bI<;>intro h2
  ·have iD:=ah h2
   have DN:k<8:=by omega
   have hsk:=Fr.MD (k:=k) qW;have hsu:=Fr.KH k s1;generalize Fr.Jq k s1=s2 at hsk hsu⊢
   have ea:ag .and .u32 (s2:Int) 1=((s2%2:Nat):Int):=by
    have:=zR (a:=s2) (b:=1) hsk (by decide);rw[show(1:Int)=((1:Nat):Int) from rfl,this,Nat.and_one_is_mod]
   have er:oV .u32 (s2:Int) 1=((s2/2:Nat):Int):=by
    have:=nZ (k:=.u32) (x:=s2) (n:=1) (by decide);rw[show(1:Int)=((1:Nat):Int) from rfl,this,Nat.pow_one]
   conv=>whnf
   rw[ea,er];have ap2:s2/2<2^32:=by omega
   apply bI<;>intro h3
   ·have yF:s2%2=1:=by simp at h3;omega
    have est:Fr.stp s2=(s2/2) ^^^ 3988292384:=by rw[Fr.stp,aC yF]
    have ex:=pS (a:=s2/2) (b:=3988292384) ap2 (by decide);refine⟨k+1,⟨by omega,rfl⟩,by omega,?_⟩;rw[hsu,est];conv=>whnf
    repeat (refine And.intro (by first|with_reducible rfl|(first|exact cI (qJ (by omega))|exact cI ex)|exact cI (wi)|exact wi|rfl) ?_;conv=>whnf)
    exact xT
   ·have yF:¬s2%2=1:=by simp at h3;omega
    have est:Fr.stp s2=s2/2:=by rw[Fr.stp,if_neg yF]
    refine⟨k+1,⟨by omega,rfl⟩,by omega,?_⟩;rw[hsu,est];exact Cr
  ·have iD:=aj h2
   obtain rfl:k=8:=by omega
   refine⟨i+1,⟨by omega,rfl⟩,by omega,?_⟩;rw[hft];exact Cr
 ·have jc:=aj h1
  obtain rfl:i=l.length:=by omega
  rw[aJ];have hs:=Fr.FU (l:=l) (s:=4294967295) (by decide) hb;have hc:Fr.Ov l=l.foldl (λs c=>Fr.JZ s c.toNat) 4294967295 ^^^ 4294967295:=rfl;rw[hc];generalize l.foldl (λs c=>Fr.JZ s c.toNat) 4294967295=s0 at hs⊢;exact⟨by rw[show(4294967295:Int)=((4294967295:Nat):Int) from rfl,pS hs (by decide)],rfl⟩
theorem amh{m:aD}{x y z w:Int}:bF tP (.buildSlice 118 4 [0,1,2,3]) [.v (.int .u8 x),.v (.int .u8 y),.v (.int .u8 z),.v (.int .u8 w)] m λr m'=>∃b,m b=none/\r=[.v (.slice (some ⟨b,0,none⟩) 4 4)]/\m'=m.set b (.cells (bc [x,y,z,w]).toArray 5):=
 dm (n:=4) eR OW rfl hU8 rfl rfl (by simp[CV.cs]) (by simp) (by simp)
theorem L4{m:aD}{s:Nat}(hs:s<2^32):bi tP 290 [afZ (s:Int)] m λr m'=>∃v p,r=[.v v]/\aq m' [p,m]/\Bs p v (Fr.pC s):=by
 have e8:=nZ (k:=.u32) (x:=s) (n:=8) (by decide);have e16:=nZ (k:=.u32) (x:=s) (n:=16) (by decide);have e24:=nZ (k:=.u32) (x:=s) (n:=24) (by decide);refine ap Tryz.func290 ?_;conv=>whnf
 rw[show(8:Int)=((8:Nat):Int) from rfl,e8,show(16:Int)=((16:Nat):Int) from rfl,e16,show(24:Int)=((24:Nat):Int) from rfl,e24];refine .mk _ (amh) ?_;rintro _ _⟨b,hb,rfl,rfl⟩;refine⟨_,_,rfl,(aq.one m).new hb _,?_⟩;refine Bs.Je (l:=Fr.pC s) ?_ rfl;rw[aG];simp only[IntKind.wrap_u8];have q8:(2:Nat)^8=256:=rfl;have q16:(2:Nat)^16=65536:=rfl;have q24:(2:Nat)^24=16777216:=rfl;rw[q8,q16,q24];rfl
theorem HK{m:aD}:eN tP 287 [i64 n] m [bR (Fr.mB n)]:=by
 refine ap Tryz.func287 ?_;conv=>whnf
 repeat' (first|(refine⟨λh=>?_,λh=>?_⟩<;>conv=>whnf)|fail)
 ·have h':=ah h
  have e1:decide (1<=n)=true:=bB (by omega);have e2:decide ((n:Int)<=20000)=decide (n<=20000):=fF.2 (by omega);rw[Fr.mB,e1,e2,bj];exact rR
 ·have h':=aj h
  have e1:decide (1<=n)=false:=aY (by omega);rw[Fr.mB,e1,fH];exact rR
theorem LV{m:aD}(hn:n<=1000000000):bi tP 289 [i64 n] m λr m'=>∃v p,r=[.v v]/\aq m' [p,m]/\Bs p v (fe n):=by
 refine c7 aDi Tryz.func289 ?_;intro b hb;conv=>whnf
 have MS:=(aq.one m).new hb (.cells (LB.cz [.one (.slice none 0 0)]).toArray 174);have hw0:Wr (blk1 b (.cells (LB.cz [.one (.slice none 0 0)]).toArray 174)) b []:=⟨_,aG ..,Bs.nil _,by simp[lp]⟩;rw[wu (n:=(n:Int)) (by omega) (by omega)];refine aP ((iK hw0 (n:=(n:Int)) ⟨by omega,by omega⟩ (by simp)).at MS (i:=0) rfl) ?_;rintro _ m1⟨p1,⟨rfl,Zs⟩,bM⟩;have h9:=eI (n:Int);refine aP ((tF Zs (by simp;omega)).at bM (i:=0) rfl) ?_;rintro _ m2⟨p2,⟨v2,q,rfl,bZ,lD⟩,dy⟩;have eP:=(dy.Vn (i:=0) rfl bZ).dV 1;exact⟨v2,q,rfl,eP,by simpa using lD⟩
theorem O7{m:aD}(hv:La m v l)(hb:jl l)(h:Fr.mB l.length=true):bi tP 215 [.v v] m λr m'=>∃v' p,r=[.v v',i64 0]/\aq m' [p,m]/\Bs p v' (Fr.wr l):=by
 have h':1<=l.length/\l.length<=20000:=by simpa [Fr.mB]using h
 obtain⟨a,c,rfl⟩:=hv.shape;have h9:=eI (l.length:Int);refine ap Tryz.func215 ?_;refine bt (HK) ?_;conv=>whnf
 rw[h];refine xN ?_;refine aP (LV (n:=l.length) (by omega)) ?_;rintro _ m1⟨v1,p1,rfl,bM,lZ⟩;refine bt (L3 (hv.sub (bM.sub)) hb (by omega)) ?_;refine aP (L4 (Fr.aeE hb)) ?_;rintro _ m2⟨v2,p2,rfl,bZ,lD⟩;have bZ:=bZ.under (a:=[p2]) bM;refine .mk _ (aip) ?_;rintro _ _⟨b3,Ah,rfl,rfl⟩;have dy:=bZ.new Ah (.cells #[v1,.slice a l.length c,v2] 118);have q1:cL p1 m2:=bZ.sub (by simp);have q2:cL p2 m2:=bZ.sub (by simp);have q3:cL m m2:=bZ.sub (by simp);have q4:=aD.bT (.cells #[v1,.slice a l.length c,v2] 118) Ah;refine aP (EX (jL.aos (aD.bg ..) (lZ.lb.la.sub (q1.trans q4)) (hv.sub (q3.trans q4)) (lD.lb.la.sub (q2.trans q4))) (by simp[oT,Fr.pC];omega) (by simp)) ?_;rintro _ m4⟨v',p,rfl,eP,pY⟩;have eP:=eP.under (a:=[p]) dy;refine⟨v',p,rfl,(((eP.dV 1).dV 1).dV 1),?_⟩;simpa [oT,Fr.wr,aX]using pY
theorem Vw{m:aD}{w:Value}{k:List Int}(hv:La m v l)(hw:La m w k)(hl:l.length<=100000000):eN tP 314 [.v v,.v w] m [bR (decide (l=k))]:=by
 obtain⟨a,c,rfl⟩:=hv.shape;obtain⟨aw,cw,rfl⟩:=hw.shape;refine c7 aDh Tryz.func314 ?_;apply bI<;>intro h
 ·have:l≠k:=by rintro rfl;simp at h
  rw[aY this];exact rR
 have DN:l.length=k.length:=by simp at h;omega
 rw[<-DN]at hw⊢;refine .mk (ι:=Nat) (λi=>l.length-i) (λi mm=>i<=l.length/\l.take i=k.take i/\mm=m) (λi=>[(0,.c (.v (.slice a l.length c))),(1,.c (.v (.slice aw l.length cw))),(12,.c (i64 l.length)),(13,.c (i64 i))]) (λ_=>[]) 0 ⟨by omega,by simp,rfl⟩ ?_ ?_
 ·exact Cr
 rintro i mm⟨hi,Ac,he⟩;subst mm;apply bI<;>intro h1
 ·have jc:=ah h1
  have bH:i<l.length:=by omega
  have ga:l≠[]:=by intro e;subst e;simp at bH
  have apM:k≠[]:=by intro e;rw[e]at DN;simp only[cW]at DN;omega
  obtain⟨b,o,c',hh⟩:=La.real hv ga;injection hh with eK _ fN;subst eK;have S8:La m (.slice aw k.length cw) k:=by rw[<-DN];exact hw
  obtain⟨bw,ow,c',hh⟩:=La.real S8 apM;injection hh with eK _ fN;subst eK;have wv:i<k.length:=by omega
  repeat refine xS ?_
  refine⟨_,by have:=Lb.je (hv.lb ga) (az bH);simp only[bK,aA];exact this,rfl,?_⟩
  repeat refine xS ?_
  refine⟨_,by have:=Lb.je (hw.lb apM) (az wv);simp only[bK,aA];exact this,rfl,?_⟩;apply bI<;>intro h2
  ·have:l≠k:=by rintro rfl;simp at h2
   rw[aY this];exact rR
  ·have iD:l[i]=k[i]:=by simpa using h2
   refine⟨i+1,⟨by omega,by rw[au bH,au wv,Ac,iD],rfl⟩,by omega,?_⟩;exact Cr
 ·have jc:=aj h1
  obtain rfl:i=l.length:=by omega
  rw[aJ,DN,aJ]at Ac;conv=>whnf
  rw[bB Ac];exact rR
theorem Lb.avQ{m:aD}{o:Nat}(h:Lb m (.slice (some ⟨b,o,none⟩) n c) l):l.length<=c:=by
 rcases h.cases with⟨c,h1,h2⟩|⟨b',o',c',arr,t,fr,h1,h2,h3,h4⟩
 ·cases h1
 grind
theorem Lb.al8{m:aD}{o c':Nat}(h:Lb m (.slice (some ⟨b,o,none⟩) n c) l)(i len:Nat)(hk:i+len<=l.length)(hc:len<=c'):Lb m (.slice (some ⟨b,o+i,none⟩) len c') ((l.drop i).take len):=by
 rcases h.cases with⟨c,h1,h2⟩|⟨b',o',c',arr,t,fr,h1,h2,h3,h4⟩
 ·cases h1
 ·cases h1
  refine Lb.mk h2 (by simp;omega) hc (λj x hj=>?_)
  grind
theorem Dw{m:aD}(hv:La m v l)(hb:jl l)(hl:l.length<=10000000):bi tP 228 [.v v] m λr m'=>∃v' p,r=[.v v',i64 ((Fr.next l).2.1:Nat),i64 (Fr.next l).2.2]/\aq m' [p,m]/\Bs p v' (Fr.next l).1:=by
 obtain⟨a,c,rfl⟩:=hv.shape;refine c7 aDs Tryz.func228 ?_;refine aP (zy hv hb (by omega)) ?_;rintro _ m1⟨bp,p1,rfl,bM,h1⟩;refine aP ((j9 h1 (dG:=20000) ⟨by decide,by decide⟩).at bM (i:=0) rfl) ?_;rintro _ m2⟨p2,⟨rfl,h2,_⟩,bZ⟩;have hk:=ij (dG:=20000) (s:=(l,0)) hb ⟨by decide,by decide⟩;have iH:cL m m2:=bZ.sub (by simp);rcases hr:cZ 20000 (l,0)with⟨n,fb,e⟩;rw[hr]at h2 hk;simp only[]
 have hx:Fr.next l=(if e=8 then([],0,0)else if e≠0\/n=0 then([],0,3)else if (l.length:Int)-(fe n).length<n.toNat+4 then([],0,0)else
   if Fr.pC (Fr.Ov ((l.drop (fe n).length).take n.toNat))=(l.drop ((fe n).length+n.toNat)).take 4 then((l.drop (fe n).length).take n.toNat,(fe n).length+n.toNat+4,0)else([],0,9)):=by
  unfold Fr.next;simp only[hr]
 simp only at hk;obtain⟨ZB,U6⟩:=hk;have U6:n<=20000:=by omega
 have Bh:∃p,aq m2 [p,m]:=⟨_,bZ⟩;have h3:=h2.mono (bZ.sub);refine bt (iX h3) ?_;apply bI<;>intro h
 ·have h':e=8:=by simpa using h
  conv=>whnf
  rw[hx,aC h'];exact⟨_,_,rfl,bZ,Bs.nil _⟩
 have h8:¬e=8:=by simpa using h
 refine bt (iX h3) ?_;apply bI<;>intro h
 ·have h':e≠0:=by simpa using h
  conv=>whnf
  rw[hx,if_neg h8,aC (.inl h')];exact⟨_,_,rfl,bZ,Bs.nil _⟩
 have h0:e=0:=by simpa using h
 apply bI<;>intro h
 ·have h':n=0:=by simpa using h
  conv=>whnf
  rw[hx,if_neg h8,aC (.inr h')];exact⟨_,_,rfl,bZ,Bs.nil _⟩
 have hn0:¬n=0:=by simpa using h
 rw[if_neg h8,if_neg (by omega)]at hx;obtain⟨k,rfl⟩:∃k:Nat,n=k:=⟨n.toNat,by omega⟩;rw[aA]at hx;have h9:=eI (k:Int);refine aP (LV (n:=k) (by omega)) ?_;rintro _ m3⟨v1,q1,rfl,dy,lZ⟩;obtain⟨a1,c1,rfl⟩:=lZ.lb.shape;have dy:=dy.under (a:=[q1]) bZ;have apr:cL m m3:=dy.sub (by simp);generalize nT:(fe (k:Int)).length=je at*;have e1:IntKind.i64.wrap ((l.length:Int)-(je:Int))=(l.length:Int)-je:=wi;have e2:IntKind.i64.wrap ((k:Int)+4)=((k+4:Nat):Int):=by rw[wi];omega
 conv=>whnf
 rw[e1,e2];apply bI<;>intro h
 ·have h':=ah h
  conv=>whnf
  rw[hx,aC (by omega)];exact⟨_,_,rfl,dy.dV 1,Bs.nil _⟩
 have h':=aj h;rw[if_neg (by omega)]at hx;have e3:IntKind.i64.wrap ((je:Int)+(k:Int))=((je+k:Nat):Int):=by rw[wi];omega
 have ga:l≠[]:=by rintro rfl;simp at h';omega
 have hv0:=hv;obtain⟨b,o,c',hh⟩:=La.real hv ga;injection hh with eK _ fN;subst eK;have hlb:=(hv.lb ga).sub apr;have yA:=Lb.avQ hlb;conv=>whnf
 rw[e3]
 repeat refine xS ?_
 intro o1 I8 _;obtain rfl:o1=o+je:=by have:=I8 (by omega);rw[aA]at this;simpa using this
 simp only[aA];rw[show je+k-je=k by omega];have hd:=Lb.al8 (c':=c-je) hlb je k (by omega) (by omega);refine aP (sQ hd.la (by simp;omega)) ?_;rintro _ m4⟨v4,q4,rfl,eP,QZ⟩;conv=>whnf
 have eP:=eP.under (a:=[q4]) dy;have axx:cL m m4:=eP.sub (by simp);have hbd:jl ((l.drop je).take k):=(hb.drop _).take _;have e4:IntKind.i64.wrap (((je+k:Nat):Int)+4)=((je+k+4:Nat):Int):=by rw[wi];omega
 rw[e3,e4]
 repeat refine xS ?_
 intro o2 ho2 _;obtain rfl:o2=o+(je+k):=by have:=ho2 (by omega);rw[aA]at this;simpa using this
 simp only[aA];rw[show je+k+4-(je+k)=4 by omega];refine bt (L3 (QZ.lb.la.sub (eP.sub)) hbd (by simp;omega)) ?_;refine aP (L4 (Fr.aeE hbd)) ?_;rintro _ m5⟨v5,q5,rfl,eD,hv5⟩;have eD:=eD.under (a:=[q5]) eP;have Q0:cL m m5:=eD.sub (by simp);have hd2:=Lb.al8 (c':=c-(je+k)) ((hv.lb ga).sub Q0) (je+k) 4 (by omega) (by omega);refine bt (Vw (hv5.lb.la.sub (eD.sub)) hd2.la (by simp[Fr.pC])) ?_;apply bI<;>intro h
 ·have hq:¬Fr.pC (Fr.Ov ((l.drop je).take k))=(l.drop (je+k)).take 4:=by simpa using h
  conv=>whnf
  rw[hx,if_neg hq];exact⟨_,q5,rfl,((eD.dV 1).dV 1).dV 1,Bs.nil _⟩
 ·have hq:Fr.pC (Fr.Ov ((l.drop je).take k))=(l.drop (je+k)).take 4:=by simpa using h
  conv=>whnf
  rw[hx,aC hq];refine⟨v4,q4,?_,((eD.dV 2).dV 2).dV 0,QZ⟩;rw[e3,e4]
theorem Lb.ach{m:aD}{o:Nat}(hv:La m (.slice (some ⟨b,o,none⟩) n c) l)(hc:l.length<=c)(k:Nat)(hk:k<=l.length)(o':Nat)(ho:c-k≠0->o'=o+k):La m (.slice (some ⟨b,o',none⟩) (l.length-k) (c-k)) (l.drop k):=by
 by_cases ga:l.drop k=[]
 ·have h0:l.length-k=0:=by have:=be List.length ga;simpa using this
  rcases hv with h|⟨rfl,a,h⟩
  ·rcases h.cases with⟨_,h1,_⟩|⟨b',o'',c',arr,t,fr,h1,h2,h3,h4⟩
   ·cases h1
   ·cases h1
    rw[ga,h0];exact(Lb.mk (l:=[]) (o:=o') h2 rfl (lF _) (λj x hj=>by cases hj)).la
  ·injection h with h1 h2 h3
   subst h3;exact .inr ⟨by simp,⟨b,o',none⟩,by simp⟩
 ·have hl:l≠[]:=by rintro rfl;simp at ga
  have hd:0<(l.drop k).length:=qS.2 ga;rw[cC]at hd;obtain rfl:=ho (by omega);have:=Lb.al8 (c':=c-k) (hv.lb hl) k (l.length-k) (by omega) (by omega);rw[bP (by simp)]at this;exact this.la
theorem aq.Wl{m p a b:aD}{l:List aD}(h:aq m (p::a::b::l)):aq m (p::ig a b::l)/\cL a (ig a b)/\cL b (ig a b):=by
 have h1:aq m (a::b::p::l):=h.fm ((List.Perm.swap a p (b::l)).trans ((List.Perm.swap b p l).cons a));refine⟨h1.jo.fm (List.Perm.swap p (ig a b) l),λx o hx=>by simp[ig,hx],λx o hx=>?_⟩;rcases h1.dj x with h'|h'
 ·simp[ig,h',hx]
 grind
variable{b:List Int}{f:Nat}
theorem YK(h:0<(Fr.next b).2.1):Fr.lU (f+1) b=((Fr.next b).1::(Fr.lU f (b.drop (Fr.next b).2.1)).1,(Fr.next b).2.1+(Fr.lU f (b.drop (Fr.next b).2.1)).2.1,(Fr.lU f (b.drop (Fr.next b).2.1)).2.2):=by
 rw[Fr.lU];simp only[aC h]
theorem YJ(h:¬ 0<(Fr.next b).2.1):Fr.lU (f+1) b=([],0,(Fr.next b).2.2):=by
 rw[Fr.lU];simp only[if_neg h]
structure Got(l:List Int)(f:Nat)(je:Nat)(ls:List (List Int)):Prop where
 le:je<=l.length
 kJ:l.length-je<f
 vz:ls.length<=je
 eq:Fr.lU (l.length+1) l=(ls++(Fr.lU f (l.drop je)).1,je+(Fr.lU f (l.drop je)).2.1,(Fr.lU f (l.drop je)).2.2)
theorem Got.start(l:List Int):Got l (l.length+1) 0 []:=⟨by omega,by omega,by simp,by simp⟩
theorem Got.xn{je:Nat}{ls:List (List Int)}(h:Got l f je ls)(hp:0<(Fr.next (l.drop je)).2.1):∃f',f=f'+1/\Got l f' (je+(Fr.next (l.drop je)).2.1) (ls++[(Fr.next (l.drop je)).1]):=by
 obtain⟨f',rfl⟩:∃f',f=f'+1:=⟨f-1,by have:=h.kJ;omega⟩;have hl:=Fr.agQ (l.drop je);rw[cC]at hl;have:=h.le;have:=h.kJ;have:=h.vz
 refine⟨f',rfl,by omega,by omega,by simp;omega,?_⟩;rw[h.eq,YK hp,dU]
 grind
theorem Got.stop{je:Nat}{ls:List (List Int)}(h:Got l f je ls)(hp:¬ 0<(Fr.next (l.drop je)).2.1):Fr.lU (l.length+1) l=(ls,je,(Fr.next (l.drop je)).2.2):=by
 obtain⟨f',rfl⟩:∃f',f=f'+1:=⟨f-1,by have:=h.kJ;omega⟩;rw[h.eq,YJ hp];simp
theorem YL{m:aD}{b o:Nat}(hv:La m (.slice (some ⟨b,o,none⟩) l.length c) l)(hb:jl l)(hl:l.length<=10000000)(hc:l.length<=c):bi tP 148 [.v (.slice (some ⟨b,o,none⟩) l.length c)] m λr m'=>∃v' ps p,r=[.v v',i64 ((Fr.lU (l.length+1) l).2.1:Nat),i64 (Fr.lU (l.length+1) l).2.2]/\aq m' [p,m]/\jL p v' ps/\ps.map (·.2)=(Fr.lU (l.length+1) l).1:=by
 refine ap Tryz.func148 ?_
 refine .mk 0 _ rfl (ι:=Nat×Value×Nat) (λi=>i.1) (λ⟨f,x,k⟩ mm=>∃(ps:List (Value×List Int)) (p q:aD),Got l f k (ps.map (·.2))/\aq mm [p,q,m]/\mf p 118 1 x (ps.map (·.1))/\∀u∈ps,La q u.1 u.2)
  (λ⟨f,x,k⟩=>[(0,.c (.v (.slice (some ⟨b,o,none⟩) l.length c))),(5,.c (.v x)),(6,.c (i64 k))]) (λ_=>[]) ?_ ?_
 ·repeat refine xS ?_
  intro o1 I8 _;have EL:=Lb.ach hv hc 0 (by omega) o1 (λh=>by have:=I8 (by simp only[Int.toNat_zero];omega);simpa using this);have e0:c-(0:Int).toNat=c-0:=rfl;rw[e0,show l.length-(0:Int).toNat=l.length-0 from rfl];have hg:=Got.start l;refine aP (Dw EL (hb.drop _) (by simp;omega)) ?_;rintro _ m1⟨v1,p1,rfl,bM,lZ⟩;apply bI<;>intro h1
  ·have jc:0<(Fr.next (l.drop 0)).2.1:=by have:=ah h1;omega
   obtain⟨f',yz,js⟩:=hg.xn jc;have hle:=js.le;have bZ:aq m1 (iI::[p1,m]):=bM.cA;refine .mk _ (CC) ?_;rintro _ _⟨b1,kW,rfl,rfl⟩;refine .mk _ (ai4 (p:=iI) (y:=.slice none 0 0) (vs:=[]) bZ kW lZ.lb.one (.inl ⟨rfl,rfl⟩) (by simp)) ?_;rintro _ m2⟨x',p',rfl,dy,xq⟩;refine⟨(f',x',0+(Fr.next (l.drop 0)).2.1),⟨[(v1,(Fr.next (l.drop 0)).1)],p',p1,js,dy,xq,by simpa using lZ.lb.la⟩,?_⟩;conv=>whnf
   repeat (refine And.intro (by first|with_reducible rfl|(first|exact cI (by rw[wi];omega))|exact cI (wi)|exact wi|rfl) ?_;conv=>whnf)
   exact xT
  ·have jc:¬ 0<(Fr.next (l.drop 0)).2.1:=by have:=aj h1;omega
   have dI:=hg.stop jc;conv=>whnf
   rw[dI];exact⟨_,[],iI,rfl,(bM.dV 0).cA,⟨.inl ⟨_,rfl,rfl⟩,by simp⟩,rfl⟩
 ·rintro⟨f,x,k⟩ mm ⟨ps,p,q,hg,hs,hx,hq⟩
  have hle:=hg.le;have iH:cL m mm:=hs.sub (by simp)
  repeat refine xS ?_
  intro o1 I8 _;have EL:=Lb.ach (hv.sub iH) hc k hg.le o1 (λh=>by have:=I8 (by rw[aA];omega);simpa using this);simp only[aA];refine aP (Dw EL (hb.drop _) (by simp;omega)) ?_;rintro _ m1⟨v1,p1,rfl,bM,lZ⟩;have bM:=bM.under (a:=[p1]) hs;have Ro:=hg.vz;rw[aH]at Ro;apply bI<;>intro h1
  ·have jc:0<(Fr.next (l.drop k)).2.1:=by have:=ah h1;omega
   obtain⟨f',rfl,js⟩:=hg.xn jc;have aAS:=js.le;have bZ:aq m1 (p::[p1,q,m]):=bM.fm (List.Perm.swap _ _ _);refine .mk _ (CC) ?_;rintro _ _⟨b1,kW,rfl,rfl⟩;refine .mk _ (ai4 bZ kW lZ.lb.one hx (by simp;omega)) ?_;rintro _ m2⟨x',p',rfl,dy,xq⟩;obtain⟨eP,hsa,hsb⟩:=aq.Wl dy;refine⟨(f',x',k+(Fr.next (l.drop k)).2.1),⟨ps++[(v1,(Fr.next (l.drop k)).1)],p',_,by simpa using js,eP,by simpa using xq,?_⟩,by simp only;omega,?_⟩
   ·intro u hu
    rcases aR.1 hu with hu|hu
    ·exact(hq u hu).sub hsb
    ·rw[aL.1 hu];exact lZ.lb.la.sub hsa
   ·conv=>whnf
    repeat (refine And.intro (by first|with_reducible rfl|(first|exact cI (by rw[wi];omega))|exact cI (wi)|exact wi|rfl) ?_;conv=>whnf)
    exact xT
  ·have jc:¬ 0<(Fr.next (l.drop k)).2.1:=by have:=aj h1;omega
   have dI:=hg.stop jc;conv=>whnf
   rw[dI];have bZ:aq m1 (p::[q,m]):=bM.drop;have hd:=bZ.dj;have dy:=bZ.jo;refine⟨x,ps,ig p q,rfl,dy,⟨hx.eF.sub (λy u hu=>by simp[ig,hu]),λu hu=>(hq u hu).sub (λy w hw=>?_)⟩,rfl⟩;rcases hd y with h'|h'
   ·simp[ig,h',hw]
   ·rw[h']at hw;cases hw
def xd(b:List Int)(s:RS):Prop:=∃k,k<=b.length/\s.1=b.drop k
theorem xd.take(h:xd b s)(n:Nat):xd b (fL n s).2:=by
 obtain⟨k,hk,e⟩:=h;unfold fL;split
 ·exact⟨k,hk,e⟩
 ·split
  ·exact⟨k,hk,e⟩
  ·rename_i h2
   rw[e,cC]at h2;exact⟨k+n,by omega,by simp only[e,dU]⟩
theorem xd.akH(h:xd b s)(x:Bool):xd b (ay x s):=by
 obtain⟨k,hk,e⟩:=h;exact⟨k,hk,by rw[KQ];exact e⟩
theorem xd.num(h:xd b s):xd b (og s).2:=by
 unfold og;have h1:=h.take 1;generalize fL 1 s=e at*;obtain⟨hd,s1⟩:=e;simp only at h1⊢;split
 ·exact h1
 ·exact((h1.akH _).take _).akH _
theorem xd.tK(h:xd b s)(dG:Int):xd b (cZ dG s).2:=by
 unfold cZ;exact h.num.akH _
theorem xd.jI(h:xd b s):xd b (gZ s).2:=by
 unfold gZ;exact h.take 32
theorem xd.bG{dG:Int}:∀(n:Nat) (l:List Int) {s:RS},xd b s->xd b (sj dG n l s).2
 |0,_,_,h=>h
 |n+1,_,_,h=>xd.bG n _ (h.tK dG)
theorem xd.D8:∀(n:Nat) (l:List (List Nat)) {s:RS},xd b s->xd b (so n l s).2
 |0,_,_,h=>h
 |n+1,_,_,h=>xd.D8 n _ h.jI
theorem xd.oF(h:xd b s):b.drop (b.length-s.1.length)=s.1/\s.1.length<=b.length:=by
 obtain⟨k,hk,e⟩:=h;rw[e,cC];exact⟨by rw[show b.length-(b.length-k)=k by omega],by omega⟩
theorem akL(b:List Int):xd b (Rm.mA b).2:=by
 have h0:xd b ((b,0):RS):=⟨0,by omega,rfl⟩;have h5:xd b (Rm.m5 b).2:=((((h0.tK 7).tK 8).tK 8).tK _).tK 7
 have h6:xd b (Rm.m6 b).2:=by
  unfold Rm.m6;split
  ·exact h5.jI
  ·exact h5
 exact xd.D8 _ _ ((xd.bG _ _ (h6.tK 16)).tK 16)
theorem xd.xA(h:xd b s)(hb:jl b):jl s.1:=by
 obtain⟨k,_,e⟩:=h;rw[e];exact hb.drop k
theorem KR{dG:Int}:∀(n:Nat) (l:List Int) (s:RS),(sj dG n l s).1.length=l.length+n
 |0,_,_=>rfl
 |n+1,l,s=>by
  rw[sj,KR n];simp;omega
theorem KS:∀(n:Nat) (l:List (List Nat)) (s:RS),(so n l s).1.length=l.length+n
 |0,_,_=>rfl
 |n+1,l,s=>by
  rw[so,KS n];simp;omega
theorem MZ(b:List Int):(lT b).1.length<=2000:=by
 unfold lT;split
 ·simp
 ·rename_i h
  have:cX (E9 b).1=true:=by
   cases hr:cX (E9 b).1 with
   |true=>rfl
   |false=>exact absurd (.inr hr) h
  exact aaV this
theorem acQ(b:List Int):xd b (Rm.m6 b).2:=by
 have h0:xd b ((b,0):RS):=⟨0,by omega,rfl⟩;have h5:xd b (Rm.m5 b).2:=((((h0.tK 7).tK 8).tK 8).tK _).tK 7;unfold Rm.m6;split
 ·exact h5.jI
 ·exact h5
theorem akN(hb:jl b):(Rm.m8 b).1.length<=16:=by
 have h:=ij (dG:=16) ((acQ b).xA hb) ⟨by decide,by decide⟩;unfold Rm.m8;rw[KR];have e:Rm.m7 b=cZ 16 (Rm.m6 b).2:=rfl;rw[e];simp;omega
theorem akM(hb:jl b):(Rm.mA b).1.length<=16:=by
 have h8:xd b (Rm.m8 b).2:=xd.bG _ _ ((acQ b).tK 16);have h:=ij (dG:=16) (h8.xA hb) ⟨by decide,by decide⟩;unfold Rm.mA;rw[KS];have e:Rm.m9 b=cZ 16 (Rm.m8 b).2:=rfl;rw[e];simp;omega
abbrev noS:iS:=⟨(none,0),(none,0),(none,0)⟩
abbrev Rm.x0(l:List Int):gX:=⟨(Rm.m1 l).1,(Rm.m2 l).1,(Rm.m3 l).1,(Rm.m4 l).1,(Rm.m5 l).1,fX,[],[],[]⟩
theorem agT{x:gX}{s:iS}{d:List Int}(h:x.jI.length=32)(hd:d.length=32)(hn:nc (FB d)=d):List.take (0+5) (LB.cz (x.L s)).toArray.toList++(LB.cz [eB.bG .u8 32 d]++List.drop (0+5+LB.size [eB.bG .u8 32 d]) (LB.cz (x.L s)).toArray.toList)=LB.cz (gX.L {x with jI:=FB d} s):=by
 have e:(LB.cz (x.L s))=[.int .i64 x.kind,.int .i64 x.fr,.int .i64 x.qe,.int .i64 x.qA,.int .i64 x.part]++((nc x.jI).map (Value.int .u8)++[.slice s.p.1 x.pl.length s.p.2,.slice s.d.1 x.dg.length s.d.2,.slice s.c.1 x.ca.length s.c.2]):=by simp[LB.cz,eB.cells]
 have hl:((nc x.jI).map (Value.int .u8)).length=32:=by simp[h]
 have e2:List.drop 37 (LB.cz (x.L s))=[.slice s.p.1 x.pl.length s.p.2,.slice s.d.1 x.dg.length s.d.2,.slice s.c.1 x.ca.length s.c.2]:=by
  rw[e,<-aX,List.drop_left' (by simp[h])]
 have e3:List.take 5 (LB.cz (x.L s))=[.int .i64 x.kind,.int .i64 x.fr,.int .i64 x.qe,.int .i64 x.qA,.int .i64 x.part]:=by
  rw[e];rfl
 show List.take 5 (LB.cz (x.L s))++(LB.cz [eB.bG .u8 32 d]++List.drop 37 (LB.cz (x.L s)))=_
 rw[e2,e3];simp only[gX.L,hn];simp[LB.cz,eB.cells]
theorem xP{m:aD}{dG:Int}{n:Int×RS}(h:Rd m bp s)(hm:I64 dG)(e:cZ dG s=n):bi tP 98 [cx bp,i64 dG] m λr m'=>r=[i64 n.1]/\Rd m' bp n.2/\qP m m' bp:=by
 subst e;exact j9 h hm
theorem UB{m:aD}(hS:cK m)(hv:Lb m v l)(hb:jl l)(hl:l.length<=100000000):
  bi tP 63 [.v v] m λr m'=>∃s' p,r=[mT (sg l).1 s',i64 (sg l).2]/\aq m' [p,m]/\gy p (sg l).1 s'/\qx (sg l).1/\∀x∈(sg l).1.ca,aiL x:=by
 have apo:=(akL l).oF;have hX:Rm.mX l=⟨(Rm.m1 l).1,(Rm.m2 l).1,(Rm.m3 l).1,(Rm.m4 l).1,(Rm.m5 l).1,FB (Rm.m6 l).1,(Rm.m8 l).1,(Rm.mA l).1,(Rm.mC l).1⟩:=rfl;have hM:sg l=if (Rm.mA l).2.2≠0\/(Rm.mC l).2≠0\/dR (Rm.mX l)=false then(fP,3)else(Rm.mX l,0):=rfl
 have hC:Rm.mC l=lT (if (Rm.mA l).2.2≠0 then[]else(Rm.mA l).2.1):=rfl;have hA:Rm.mA l=so (Rm.m9 l).1.toNat [] (Rm.m9 l).2:=rfl;have h9:Rm.m9 l=cZ 16 (Rm.m8 l).2:=rfl;have h8:Rm.m8 l=sj 20 (Rm.m7 l).1.toNat [] (Rm.m7 l).2:=rfl;have h7:Rm.m7 l=cZ 16 (Rm.m6 l).2:=rfl;have h6:Rm.m6 l=if (Rm.m1 l).1=1 then gZ (Rm.m5 l).2 else(List.replicate 32 0,(Rm.m5 l).2):=rfl
 obtain⟨va,vc,rfl⟩:=hv.shape;refine c7 c63 Tryz.func63 ?_;refine aP (zy hv.la hb hl) ?_;rintro _ mm⟨bp,q,rfl,hs,hr⟩;refine aP (bi.frame hs (xP (dG:=7) (n:=Rm.m1 l) hr ⟨by decide,by decide⟩ rfl)) ?_;rintro _ mm⟨q,⟨rfl,hr,_⟩,hs⟩;refine aP (bi.frame hs (xP (dG:=8) (n:=Rm.m2 l) hr ⟨by decide,by decide⟩ rfl)) ?_;rintro _ mm⟨q,⟨rfl,hr,_⟩,hs⟩;refine aP (bi.frame hs (xP (dG:=8) (n:=Rm.m3 l) hr ⟨by decide,by decide⟩ rfl)) ?_;rintro _ mm⟨q,⟨rfl,hr,_⟩,hs⟩;refine aP (bi.frame hs (xP (dG:=1099511627776) (n:=Rm.m4 l) hr ⟨by decide,by decide⟩ rfl)) ?_;rintro _ mm⟨q,⟨rfl,hr,_⟩,hs⟩;refine aP (bi.frame hs (xP (dG:=7) (n:=Rm.m5 l) hr ⟨by decide,by decide⟩ rfl)) ?_;rintro _ mm⟨q,⟨rfl,hr,_⟩,hs⟩;intro bm EO;refine⟨_,_,_,aD.bg ..,⟨aW 40,Jz⟩,?_⟩;rw[BM (by rfl)];have bM:=hs.new EO (px (Rm.x0 l) noS);refine xM (aD.bg ..) ?_;refine⟨λh=>?a1,λh=>?a2⟩
 case' a1=>
  have h1:(Rm.m1 l).1=1:=by simpa using h
  rw[aC h1]at h6;obtain⟨NW,hdb⟩:=GR hr.xA;refine aP (bi.at (i:=1) bM rfl (GM hr)) ?_;rintro _ mm⟨q,⟨rfl,hr⟩,bZ⟩;conv=>whnf
  rw[<-h6]at hr NW hdb⊢;have DU:mm bm=some (px (Rm.x0 l) noS):=bZ.get (a:=blk1 bm (px (Rm.x0 l) noS)) (by simp) (aG ..);refine⟨_,_,_,DU,⟨?_,Jz⟩,?_⟩
  ·simp only[LB.size,eB.size]
   simp[LB.cz,eB.cells,fX]
  conv=>whnf
  rw[agT (x:=Rm.x0 l) rfl NW (Uz hdb)];have dy:=bZ.gu (i:=0) rfl (aG ..) (px {Rm.x0 l with jI:=FB (Rm.m6 l).1} noS);rw[cJ]at dy;have eP:aq _ [q,blk1 bm (px {Rm.x0 l with jI:=FB (Rm.m6 l).1} noS),m]:=dy.ir [1,0,2];generalize mm.set bm _=mm at eP⊢;have DT:(FB (Rm.m6 l).1).length=32:=by rw[FB,aH];exact NW
 case' a2=>
  have h1:¬(Rm.m1 l).1=1:=by simpa using h
  rw[if_neg h1]at h6;have hr:Rd q bp (Rm.m6 l).2:=by rw[h6];exact hr
  have DT:(FB (Rm.m6 l).1).length=32:=by rw[h6];rfl
  have eP:aq (mm.set bm (px (Rm.x0 l) noS)) [q,blk1 bm (px {Rm.x0 l with jI:=FB (Rm.m6 l).1} noS),m]:=by
   rw[h6];exact bM.ir [1,0,2]
  conv=>whnf
 all_goals
  refine aP (UE (x:={Rm.x0 l with jI:=FB (Rm.m6 l).1}) eP hr rfl rfl DT) ?_;rintro _ mm⟨rfl,P,D,q,pp,pd,sp,sd,hP,hD2,hs,hr,hpp,hpd⟩;conv=>whnf
  rw[<-h7,<-h8]at hP;subst hP;rw[<-h9,<-hA]at hD2;subst hD2;refine bt (Zi (hr.mono (hs.sub))) ?_;conv=>whnf
  obtain⟨k,hk,hke,hkd⟩:∃k:Nat,k<=l.length/\IntKind.i64.wrap ((l.length:Int)-if (Rm.mA l).2.2≠0 then 0 else((Rm.mA l).2.1.length:Int))=(k:Int)/\l.drop k=(if (Rm.mA l).2.2≠0 then[]else(Rm.mA l).2.1):=by
   by_cases he:(Rm.mA l).2.2≠0
   ·rw[aC he,aC he]
    exact⟨l.length,aW _,by rw[wi];omega,List.drop_length⟩
   ·rw[if_neg he,if_neg he]
    have:=apo.2;exact⟨l.length-(Rm.mA l).2.1.length,by omega,by rw[wi];omega,apo.1⟩
  rw[<-hkd]at hC;rw[hke];rcases hv.cases with⟨c2,h2,hl0⟩|⟨b2,o2,c2,arr,t2,fr2,h2,_,hc2,_⟩
  all_goals
   injection h2 with h2 _ h4;subst h2
  case' inl=>
   have EL:La mm (.slice none (l.length-((k:Int)).toNat) (vc-((k:Int)).toNat)) (List.drop k l):=by
    subst hl0;have ZB:k=0:=by simpa using hk
    subst ZB;exact .inl (.inl ⟨vc,rfl,rfl⟩)
   repeat refine xS ?_
  case' inr=>
   subst h4
   repeat refine xS ?_
   intro o1 I8 _;have EL:=Lb.ach (hv.la.sub (hs.sub)) hc2 k hk o1 (λh=>by have:=I8 (by rw[aA];omega);simpa using this);simp only[aA];conv=>whnf
  all_goals
   refine aP (MX (hS.sub (hs.sub)) EL (hb.drop k) (by rw[cC];omega)) ?_;rintro _ mm⟨v4,p4,rfl,eD,hky,JR⟩;conv=>whnf
   rw[<-hC]at hky JR⊢;obtain⟨ca,cc,rfl⟩:=hky.shape;have gC:=aq.jN (a:=[p4]) eD hs;have DU:=gC.get (a:=blk1 bm (px {Rm.x0 l with jI:=FB (Rm.m6 l).1,pl:=(Rm.m8 l).1,dg:=(Rm.mA l).1} ⟨sp,sd,(none,0)⟩)) (by simp) (aG ..);have dI:=Nq (x:={Rm.x0 l with jI:=FB (Rm.m6 l).1,pl:=(Rm.m8 l).1,dg:=(Rm.mA l).1}) (y:=Rm.mX l) (s:=⟨sp,sd,(none,0)⟩) (s':=⟨sp,sd,(ca,cc)⟩) (o:=39) (v:=.slice ca (Rm.mC l).1.length cc) DT rfl rfl;refine⟨_,_,_,DU,⟨dI.1,by simp⟩,?_⟩;have iU:=gC.gu (i:=4) rfl (aG ..) (px (Rm.mX l) ⟨sp,sd,(ca,cc)⟩);rw[cJ]at iU;rw[dI.2];generalize mm.set bm _=mm at iU⊢;have k8:aq mm [p4,pp,pd,q,blk1 bm (px (Rm.mX l) ⟨sp,sd,(ca,cc)⟩),m]:=iU;have DU:=k8.get (a:=blk1 bm (px (Rm.mX l) ⟨sp,sd,(ca,cc)⟩)) (by simp) (aG ..);have nT:∀j,cL p4 j->cL pp j->cL pd j->gy j (Rm.mX l) ⟨sp,sd,(ca,cc)⟩:=λj h1 h2 h3=>⟨DT,(hpp.il.ia).sub h2,(hpd.dl.da).sub h3,hky.sub h1⟩
   have ez:qx (Rm.mX l):=⟨λc hc=>(JR c hc).a,λc hc=>by have:=(JR c hc).k;omega,λc hc=>by have:=(JR c hc).n;omega,by
    have:=MZ (if (Rm.mA l).2.2≠0 then[]else(Rm.mA l).2.1)
    show(Rm.mC l).1.length<=_
    rw[Rm.mC]
    omega,by have:=akN hb;show(Rm.m8 l).1.length<=_;omega,by have:=akM hb;show(Rm.mA l).1.length<=_;omega⟩
   have uK:sg l=(fP,3)->∃s' p,[mT fP noS,i64 3]=[mT (sg l).1 s',i64 (sg l).2]/\aq mm [p,m]/\gy p (sg l).1 s'/\qx (sg l).1/\∀x∈(sg l).1.ca,aiL x:=λe=>by
    rw[e];exact⟨noS,iI,rfl,(k8.ir [5]).cA,⟨rfl,(Io.nil _).il.ia,(I0.nil _).dl.da,lu.nil _⟩,⟨by simp[fP],by simp[fP],by simp[fP],by simp[fP],by simp[fP],by simp[fP]⟩,by simp[fP]⟩
   refine bt (iX (hr.mono (k8.sub))) ?_;apply bI<;>intro h2
   ·have iD:(Rm.mA l).2.2≠0:=by simpa using h2
    exact uK (by rw[hM,aC (.inl iD)])
   have iD:¬(Rm.mA l).2.2≠0:=by simpa using h2
   apply bI<;>intro h3
   ·have yF:(Rm.mC l).2≠0:=by simpa using h3
    exact uK (by rw[hM,aC (.inr (.inl yF))])
   have yF:¬(Rm.mC l).2≠0:=by simpa using h3
   refine⟨gX.L (Rm.mX l) ⟨sp,sd,(ca,cc)⟩,wb DT,rfl,dQ.Wl [] [] DU rfl,?_⟩;obtain⟨j,k1,k2,zv⟩:=aq.sK k8;obtain⟨j2,k3,k4,nr⟩:=aq.sK zv;have aqC:=nT j2 (k1.trans k3) (k2.trans k3) k4;refine bt (nG (x:=Rm.mX l) (s:=⟨sp,sd,(ca,cc)⟩) (hS.sub (k8.sub)) (aqC.sub (nr.sub)) ez) ?_;by_cases jK:dR (Rm.mX l)=true
   ·rw[jK]
    refine xN ?_;refine⟨gX.L (Rm.mX l) ⟨sp,sd,(ca,cc)⟩,wb DT,rfl,dQ.Wl [] [] DU rfl,?_⟩;have e:sg l=(Rm.mX l,0):=by rw[hM,if_neg (by simp only[jK,not_or];exact⟨iD,yF,by decide⟩)]
    rw[e];exact⟨⟨sp,sd,(ca,cc)⟩,j2,rfl,nr.ir [0,3],aqC,ez,JR⟩
   ·have jK:dR (Rm.mX l)=false:=by simpa using jK
    rw[jK];refine xY ?_;exact uK (by rw[hM,aC (.inr (.inr jK))])
theorem Qp{m:aD}{x:gX}{s:iS}(hS:cK m)(hx:gy m x s)(ho:qx x)(hl:(x.ca.map nJ).flatten.length<=9000000):
  bi tP 59 [mT x s] m λr m'=>∃v p,r=[.v v,i64 (if dR x then 0 else 3)]/\aq m' [p,m]/\Bs p v (if dR x then we x else[]):=by
 refine c7 c59 Tryz.func59 ?_;refine bt (nG hS hx ho) ?_;by_cases hr:dR x=true;rotate_left
 ·have hr:dR x=false:=by simpa using hr
  rw[hr];refine xY ?_;exact⟨_,iI,rfl,(aq.one m).cA,Bs.nil _⟩
 have r:=nD hr;rw[hr,aC rfl,aC rfl];refine xN ?_;intro b hb;obtain⟨k1,k2⟩:=r.k;obtain⟨f1,f2⟩:=r.f;obtain⟨t1,t2⟩:=r.t;obtain⟨s1,s2⟩:=r.s;obtain⟨p1,p2⟩:=r.p;have MS:aq (m.set b (.cells (LB.cz [.one (.slice none 0 0)]).toArray 174)) [blk1 b (.cells (LB.cz [.one (.slice none 0 0)]).toArray 174),m]:=(aq.one m).new hb _;refine .mk (ι:=Nat) (λi=>5-i) (λi mm=>i<=5/\∃p,aq mm [p,m]/\Wr p b (kH ([x.kind,x.fr,x.qe,x.qA,x.part].take i))) (λi=>[(1,.p 0 0),(4,.c (cx b)),(28,.c (.a [.bG .i64 5 [x.kind,x.fr,x.qe,x.qA,x.part]])),(29,.c (i64 i))]) (λ_=>[(65,x.L s)]) 0 ⟨by omega,_,MS,To b⟩ ?_ ?_
 ·exact Cr
 rintro i mm⟨hi,p,hs,hw⟩;apply bI<;>intro h
 ·have h':=ah h
  have bH:i<5:=by omega
  have hF:∀v∈[x.kind,x.fr,x.qe,x.qA,x.part],0<=v/\v<=1099511627776:=by
   intro v hv;simp only[aU,fG,rH]at hv;rcases hv with rfl|rfl|rfl|rfl|rfl<;>omega
  have hlen:[x.kind,x.fr,x.qe,x.qA,x.part].length=5:=rfl;have vd:=au (l:=[x.kind,x.fr,x.qe,x.qA,x.part]) (i:=i) (by omega);have hm:=hF _ (aO (l:=[x.kind,x.fr,x.qe,x.qA,x.part]) (n:=i) (by omega));have xz:=qd ([x.kind,x.fr,x.qe,x.qA,x.part].take i);rw[aK]at xz;have et:bK (i:Int) 1=i:=by simp[bK]
  have eg:[x.kind,x.fr,x.qe,x.qA,x.part].getD (bK (i:Int) 1) 0=[x.kind,x.fr,x.qe,x.qA,x.part][i]'(by omega):=by
   rw[et,aI,az (by omega)];rfl
  generalize [x.kind,x.fr,x.qe,x.qA,x.part][i]'(by omega)=v at eg vd hm
  repeat (refine xS ?_;conv=>whnf)
  rw[eg,wu];refine aP (bi.frame hs (iK (n:=v) hw ⟨by omega,by omega⟩ (by omega))) ?_;rintro _ m'⟨p',⟨rfl,S8⟩,qW⟩;refine⟨i+1,⟨by omega,p',qW,by rw[vd,Ku];exact S8⟩,by omega,?_⟩;exact Cr
 have h':=aj h;obtain rfl:i=5:=by omega
 rw[bP (aW 5)]at hw;have hl5:=qd [x.kind,x.fr,x.qe,x.qA,x.part];rw[show[x.kind,x.fr,x.qe,x.qA,x.part].length=5 from rfl]at hl5;have DT:(nc x.jI).length=32:=by rw[aH];exact hx.Th
 have hgo:∀l0:List Int,l0=kH [x.kind,x.fr,x.qe,x.qA,x.part]++(if x.kind=1 then nc x.jI else[])->l0.length<=100/\we x=l0++Wm.t6 x:=by
  rintro _ rfl;refine⟨?_,?_⟩
  ·rw[ax]
   split
   ·omega
   ·simp;omega
  ·simp[we,Wm.t1,Wm.t2,Wm.t3,Wm.t4,Wm.t5,kH]
 refine⟨λh=>?a1,λh=>?a2⟩
 case' a1=>
  have h1:x.kind=1:=by simpa using h
  rw[aC h1]at hgo;obtain⟨hl0,hB⟩:=hgo _ rfl;refine aP (bi.frame hs (BF hw DT (by omega))) ?_;rintro _ mm⟨p,⟨rfl,hw⟩,hs⟩;conv=>whnf
  generalize kH [x.kind,x.fr,x.qe,x.qA,x.part]++nc x.jI=l0 at hl0 hB hw
 case' a2=>
  have h1:¬x.kind=1:=by simpa using h
  rw[if_neg h1,cO]at hgo;obtain⟨hl0,hB⟩:=hgo _ rfl;generalize kH [x.kind,x.fr,x.qe,x.qA,x.part]=l0 at hl0 hB hw;conv=>whnf
 all_goals
  rw[hB];have np:=r.pn;have nd:=r.dn;have hnp:=eI (x.pl.length:Int);have NR:=eI (x.dg.length:Int);have hvp:=qd x.pl;rw[wu];refine aP (bi.frame hs (iK (n:=(x.pl.length:Int)) hw (yf (by omega)) (by omega))) ?_;rintro _ mm⟨p,⟨rfl,hw⟩,hs⟩;refine .mk (ι:=Nat) (λi=>x.pl.length-i) (λi mm=>i<=x.pl.length/\∃p,aq mm [p,m]/\Wr p b (l0++fe x.pl.length++kH (x.pl.take i))) (λi=>[(1,.p 0 0),(4,.c (cx b)),(51,.c (.v (.slice s.p.1 x.pl.length s.p.2))),(52,.c (i64 x.pl.length)),(53,.c (i64 i))]) (λ_=>[(65,x.L s)]) 0 ⟨by omega,p,hs,by simpa [kH]using hw⟩ ?_ ?_
  ·exact Cr
  rintro i mm⟨hi,p,hs,hw⟩;apply bI<;>intro h
  ·have h':=ah h
   have bH:i<x.pl.length:=by omega
   obtain⟨bl,ol,c',hh,hg⟩:=(hx.pl.sub (hs.sub (a:=m))).real bH;injection hh with eK _ fN;have wA:=hg i bH;have vd:=au bH;have hm:=r.pl _ (aO bH);have xz:=qd (x.pl.take i);rw[aK]at xz;generalize x.pl[i]=v at wA vd hm;conv=>whnf
   simp only[eK]
   repeat refine xS ?_
   refine⟨_,wA,rfl,?_⟩;conv=>whnf
   rw[wu];refine aP (bi.frame hs (iK (n:=v) hw ⟨by omega,by omega⟩ (by simp only[ax];omega))) ?_;rintro _ mm⟨p,⟨rfl,hw⟩,hs⟩;refine⟨i+1,⟨by omega,p,hs,by rw[vd,Ku];simpa only[aX]using hw⟩,by omega,?_⟩;exact Cr
  have h':=aj h;obtain rfl:i=x.pl.length:=by omega
  rw[aJ]at hw;conv=>whnf
  rw[wu];refine aP (bi.frame hs (iK (n:=(x.dg.length:Int)) hw (yf (by omega)) (by simp only[ax];omega))) ?_;rintro _ mm⟨p,⟨rfl,hw⟩,hs⟩
  have aqg:∀i,(xw (x.dg.take i)).length<=32*x.dg.length:=λi=>by
   have:=zG (D:=x.dg.take i) λd hd=>hx.dg.ok d (bX hd);rw[aK,IB,zX]at this;rw[xw,zX];simp only[aH]at this⊢;omega
  refine .mk (ι:=Nat) (λi=>x.dg.length-i) (λi mm=>i<=x.dg.length/\∃p,aq mm [p,m]/\Wr p b (l0++fe x.pl.length++kH x.pl++fe x.dg.length++xw (x.dg.take i))) (λi=>[(1,.p 0 0),(4,.c (cx b)),(69,.c (.v (.slice s.d.1 x.dg.length s.d.2))),(70,.c (i64 x.dg.length)),(71,.c (i64 i))]) (λ_=>[(65,x.L s)]) 0 ⟨by omega,p,hs,by simpa [xw]using hw⟩ ?_ ?_
  ·exact Cr
  rintro i mm⟨hi,p,hs,hw⟩;apply bI<;>intro h
  ·have h':=ah h
   have bH:i<x.dg.length:=by omega
   obtain⟨bl,ol,c',hh,hg⟩:=(hx.dg.sub (hs.sub (a:=m))).real bH;injection hh with eK _ fN;have wA:=hg i bH
   have vd:xw (x.dg.take (i+1))=xw (x.dg.take i)++nc x.dg[i]:=by
    rw[au bH,xw,dx];simp[xw]
   have hm:(nc x.dg[i]).length=32:=by rw[aH];exact hx.dg.ok _ (aO bH)
   have xz:=aqg i;generalize x.dg[i]=v at wA vd hm;conv=>whnf
   simp only[eK]
   repeat refine xS ?_
   refine⟨[.bG .u8 32 (nc v)],⟨hm,trivial⟩,rfl,by simp only[bK,aA];exact wA,?_⟩;refine aP (bi.frame hs (BF hw hm (by simp only[ax];omega))) ?_;rintro _ mm⟨p,⟨rfl,hw⟩,hs⟩;refine⟨i+1,⟨by omega,p,hs,by rw[vd];simpa only[aX]using hw⟩,by omega,?_⟩;exact Cr
  have h':=aj h;obtain rfl:i=x.dg.length:=by omega
  have xz:=aqg x.dg.length;rw[aJ]at hw xz;refine aP (xC (hS.sub (hs.sub)) (hx.ca.sub (hs.sub)) ho.k r.ca hl) ?_;rintro _ mm⟨v2,p2,rfl,bZ,lD⟩;have dy:=aq.jN (a:=[p2]) bZ hs;refine aP ((tF hw (by simp only[ax];omega)).at dy (i:=1) rfl) ?_;rintro _ mm⟨p3,⟨v3,q,rfl,eP,tX⟩,eD⟩;have gC:aq mm [q,p,p2,m]:=eD.Vn (i:=1) rfl eP
  have Xd:(B3 x.ca).length<=9000009:=by
   have:=eI (x.ca.length:Int);rw[B3,ax];omega
  refine .mk _ (nQ (i:=0) gC rfl tX (lD.lb.sub (gC.sub)).la (by simp only[ax];omega)) ?_;rintro _ mm⟨v4,p4,rfl,iU,HZ⟩;have k8:aq mm [p4,m]:=iU.ir [0,3];refine⟨v4,p4,rfl,k8,?_⟩;have e:l0++Wm.t6 x=l0++fe x.pl.length++kH x.pl++fe x.dg.length++xw x.dg++B3 x.ca:=by simp only[Wm.t6,Wm.t7,Wm.t8,Wm.t9,aX]
  rw[e];exact HZ.ux
abbrev R4:=Int×Int
def MF(x:R4):Value:=.agg #[.int .i64 x.1,.int .i64 x.2]
theorem aaE:Tryz.prog.underlying 126=some (.array 2 3):=by kernel_rfl
theorem aj8:Tryz.prog.cellsOf 3=1:=by kernel_rfl
theorem al6:∃i,Tryz.prog.info? 3=some i:=mh.1 (by kernel_rfl)
theorem ahN(w:World)(x:R4):(part 3 #[.int .i64 x.1,.int .i64 x.2] 0).run tP w= .ok (.int .i64 x.1) w/\(part 3 #[.int .i64 x.1,.int .i64 x.2] 1).run tP w= .ok (.int .i64 x.2) w:=
 ⟨run_part_plain w (by kernel_rfl) rfl,run_part_plain w (by kernel_rfl) rfl⟩
theorem ayF(w:World)(a b:R4):(Op.equal 126 (MF a) (MF b)).run tP w= .ok (decide (a=b)) w:=by
 obtain⟨i,hi⟩:=al6
 show(Op.equalIn (9999+1) 126 (MF a) (MF b)).run tP w=_
 unfold MF;rw[run_equalIn_array w 9999 _ _ aaE hi,aj8];have e1:(Op.equalIn 9999 3 (.int .i64 a.1) (.int .i64 b.1)).run tP w= .ok (a.1==b.1) w:=run_equalIn_int w 9998 _ _ .i64 _ _ (by kernel_rfl);have e2:(Op.equalIn 9999 3 (.int .i64 a.2) (.int .i64 b.2)).run tP w= .ok (a.2==b.2) w:=run_equalIn_int w 9998 _ _ .i64 _ _ (by kernel_rfl);obtain⟨a1,a2⟩:=a;obtain⟨b1,b2⟩:=b;obtain⟨p0,p1⟩:=ahN w (a1,a2);obtain⟨r0,r1⟩:=ahN w (b1,b2);simp only[List.range,List.range.loop,Op.eqItems,nw,CX,Sem.run_bind];simp only at p0 p1 r0 r1 e1 e2;by_cases h1:a1=b1
 ·subst h1
  by_cases h2:a2=b2
  ·subst h2;simp[p0,p1,e1,e2,Result.andThen_ok]
  ·simp[p0,p1,r0,r1,e1,e2,h2,Result.andThen_ok]
 ·simp[p0,r0,e1,h1,Result.andThen_ok]
theorem ast(n:Nat)(w:World)(a:R4)(e:Bool):(Instr.checkKey e (n+1+1) 126 (MF a)).run tP w= .ok () w:=by
 obtain⟨i,hi⟩:=al6;have c1:(Instr.checkKey e (n+1) 3 (.int .i64 a.1)).run tP w= .ok () w:=MapKept.run_checkKey (d:=.int .i64) (by kernel_rfl) ((arp .i64).isK a.1) e n;have c2:(Instr.checkKey e (n+1) 3 (.int .i64 a.2)).run tP w= .ok () w:=MapKept.run_checkKey (d:=.int .i64) (by kernel_rfl) ((arp .i64).isK a.2) e n;have hz:(sizeOf 3).run tP w= .ok 1 w:=by rw[run_sizeOf w hi,aj8]
 unfold MF;generalize n+1=k at*;rw[Instr.checkKey];simp only[Sem.run_bind,run_underlying aaE,Result.andThen_ok,Std.Legacy.Range.forIn_eq_forIn_range',Std.Legacy.Range.size,aiH,Nat.add_one_sub_one,Nat.div_one,List.range',List.forIn_cons,List.forIn_nil,hz,nw,CX,cD,(ahN w a).1,(ahN w a).2,c1,c2,Sem.run_pure]
theorem anW:anT tP MF 126 (.array 2 3):=
 ⟨λ_ _=>rfl,ayF,λw a e=>ast 9998 w a e,λa=>by simp[MF,Instr.sameBits]⟩
abbrev Nen:=R4×List (List Int)
structure mi where
 (E:List Nen)
 (put:Int)
 (fQ:Int)
 (aqz:Int)
def k7(k:R4)(E:List Nen):List (List Int):=((E.find? λe=>decide (k=e.1)).map (·.2)).getD []
def N7(k:R4)(L:List (List Int)):List Nen->List Nen
 |[]=>[(k,L)]
 |e::E=>if k=e.1 then(k,L)::E else e::N7 k L E
def ali(k:R4):List Nen->List Nen
 |[]=>[]
 |e::E=>if k=e.1 then E else e::ali k E
def sa(E:List Nen):Nat:=(E.map (·.2.length)).sum
theorem vw(k:R4)(e:Nen)(E:List Nen):k7 k (e::E)=if k=e.1 then e.2 else k7 k E:=by
 unfold k7;rw[iZ];by_cases h:k=e.1<;>simp[h]
theorem alq(k:R4)(L:List (List Int)):∀E,sa (N7 k L E)+(k7 k E).length=sa E+L.length
 |[]=>by simp[N7,sa,k7]
 |e::E=>by
  have ih:=alq k L E;rw[vw,N7];unfold sa at*
  split<;>simp only[aZ,o8]at* <;>omega
theorem an3(k:R4):∀E,sa (ali k E)+(k7 k E).length=sa E
 |[]=>by simp[ali,sa,k7]
 |e::E=>by
  have ih:=an3 k E;rw[vw,ali];unfold sa at*
  split<;>simp only[aZ,o8]at* <;>omega
def ajg(k:R4)(i:Nat)(E:List Nen):List Nen:=if (k7 k E).eraseIdx i=[]then ali k E else N7 k ((k7 k E).eraseIdx i) E
theorem asQ{k:R4}{E:List Nen}(h:i<(k7 k E).length):sa (ajg k i E)+1=sa E:=by
 have h1:=alq k ((k7 k E).eraseIdx i) E;have h2:=an3 k E;have h3:=List.length_eraseIdx_of_lt h;unfold ajg;split
 ·rename_i h4
  rw[h4]at h3;simp at h3;omega
 ·omega
abbrev NRw:=R4×Nat×Value×List (Value×List Int)
def r8(r:NRw):lq R4:=⟨r.1,.v r.2.2.1,r.2.1⟩
def rwE(r:NRw):Nen:=(r.1,r.2.2.2.map (·.2))
structure NMs(q:aD)(x:Value×List Int):Prop where
 b:Bs q x.1 x.2
 (y:jl x.2)
 l:x.2.length<=10000000
def RwP(p:aD)(r:NRw):Prop:=∃po qs,aq p (po::qs)/\mf po 118 1 r.2.2.1 (r.2.2.2.map (·.1))/\PL NMs qs r.2.2.2
abbrev ua(mb:Nat)(N:mi):Obj:=.cells #[.map (some mb),.int .i64 N.put,.int .i64 N.fQ,.int .i64 N.aqz] 124
structure aDQ(p:aD)(a:Nat)(N:mi)(mb clock:Nat)(rs:List NRw)(ps:List aD):Prop where
 sp:aq p (blk1 a (ua mb N)::blk1 mb (nk MF (rs.map r8) clock)::ps)
 rw:PL RwP ps rs
 (e:rs.map rwE=N.E)
 (bn:∀r∈rs,r.2.1<clock)
 (bd:rs.Pairwise λx y=>x.2.1≠y.2.1)
 (ku:rs.Pairwise λx y=>x.1≠y.1)
 n:sa N.E<=2000
def aaQ(p:aD)(a:Nat)(N:mi):Prop:=∃mb clock rs ps,aDQ p a N mb clock rs ps
structure aiB(k:R4)(rs:List NRw)(i:Nat)(r:NRw):Prop where
 ix:rs[i]?=some r
 ky:r.1=k
 (f:mD k (rs.map r8)=some (.v r.2.2.1))
 (g:k7 k (rs.map rwE)=r.2.2.2.map (·.2))
 s:∀v ms c,uu k (.v v) c (rs.map r8)=(rs.set i (k,r.2.1,v,ms)).map r8/\N7 k (ms.map (·.2)) (rs.map rwE)=(rs.set i (k,r.2.1,v,ms)).map rwE
 d:Fi k (rs.map r8)=(rs.eraseIdx i).map r8/\ali k (rs.map rwE)=(rs.eraseIdx i).map rwE
structure azv(k:R4)(rs:List NRw):Prop where
 n:∀r∈rs,r.1≠k
 (f:mD k (rs.map r8)=none)
 (g:k7 k (rs.map rwE)=[])
 s:∀v ms c,uu k (.v v) c (rs.map r8)=(rs++[(k,c,v,ms)]).map r8/\N7 k (ms.map (·.2)) (rs.map rwE)=(rs++[(k,c,v,ms)]).map rwE
theorem R2(k:R4)(e:lq R4)(es:List (lq R4)):mD k (e::es)=if k=e.k then some e.v else mD k es:=by
 unfold mD;rw[iZ];by_cases h:k=e.k<;>simp[h]
theorem R8(k:R4):∀rs:List NRw,(∃i r,aiB k rs i r)\/azv k rs
 |[]=>.inr ⟨by simp,rfl,rfl,λv ms c=>⟨rfl,rfl⟩⟩
 |x::rs=>by
  by_cases h:k=x.1
  ·refine .inl ⟨0,x,rfl,h.symm,?_,?_,λv ms c=>⟨?_,?_⟩,?_,?_⟩
   ·rw[aZ,R2,aC (show k=(r8 x).k from h)];rfl
   ·rw[aZ,vw,aC (show k=(rwE x).1 from h)];rfl
   ·rw[aZ,uu,aC (show k=(r8 x).k from h)];rfl
   ·rw[aZ,N7,aC (show k=(rwE x).1 from h)];rfl
   ·rw[aZ,Fi,aC (show k=(r8 x).k from h)];rfl
   ·rw[aZ,ali,aC (show k=(rwE x).1 from h)];rfl
  ·have hm:¬k=(r8 x).k:=h
   have he:¬k=(rwE x).1:=h;rcases R8 k rs with⟨i,r,ih⟩|ih
   ·refine .inl ⟨i+1,r,by simpa using ih.ix,ih.ky,?_,?_,λv ms c=>⟨?_,?_⟩,?_,?_⟩
    ·rw[aZ,R2,if_neg hm];exact ih.f
    ·rw[aZ,vw,if_neg he];exact ih.g
    ·rw[aZ,uu,if_neg hm,(ih.s v ms c).1];rfl
    ·rw[aZ,N7,if_neg he,(ih.s v ms c).2];rfl
    ·rw[aZ,Fi,if_neg hm,ih.d.1];rfl
    ·rw[aZ,ali,if_neg he,ih.d.2];rfl
   ·refine .inr ⟨λr hr=>?_,?_,?_,λv ms c=>⟨?_,?_⟩⟩
    ·rcases aU.1 hr with rfl|hr
     ·exact λe=>h e.symm
     ·exact ih.n r hr
    ·rw[aZ,R2,if_neg hm];exact ih.f
    ·rw[aZ,vw,if_neg he];exact ih.g
    ·rw[aZ,uu,if_neg hm,(ih.s v ms c).1];rfl
    ·rw[aZ,N7,if_neg he,(ih.s v ms c).2];rfl
structure gg(mm m:aD)(a:Nat)(N:mi)(mb clock:Nat)(rs:List NRw)(ps:List aD):Prop where
 sp:aq mm (blk1 a (ua mb N)::blk1 mb (nk MF (rs.map r8) clock)::m::ps)
 rw:PL RwP ps rs
 (e:rs.map rwE=N.E)
 (bn:∀r∈rs,r.2.1<clock)
 (bd:rs.Pairwise λx y=>x.2.1≠y.2.1)
 (ku:rs.Pairwise λx y=>x.1≠y.1)
 n:sa N.E<=2000
variable{a:Nat}{N:mi}
theorem aaQ.op{p m:aD}(h:aaQ p a N)(hs:aq mm [p,m]):∃mb clock rs ps,gg mm m a N mb clock rs ps:=by
 obtain⟨mb,clock,rs,ps,h⟩:=h;have h1:=aq.tQ hs h.sp
 exact⟨mb,clock,rs,ps,h1.fm (by
  rw[db,db]
  exact((dY (l₁:=ps) (l₂:=[m])).cons _).cons _),h.rw,h.e,h.bn,h.bd,h.ku,h.n⟩
variable{clock:Nat}
theorem gg.cl{m:aD}{mb:Nat}{rs:List NRw}{ps:List aD}(h:gg mm m a N mb clock rs ps):∃p,aq mm [p,m]/\aaQ p a N:=by
 have h1:aq mm ((blk1 a (ua mb N)::blk1 mb (nk MF (rs.map r8) clock)::ps)++[m]):=h.sp.fm (by
  rw[db,db]
  exact((dY (l₁:=[m]) (l₂:=ps)).cons _).cons _)
 obtain⟨h2,h3⟩:=aq.k9 _ h1;exact⟨_,h2,mb,clock,rs,ps,h3,h.rw,h.e,h.bn,h.bd,h.ku,h.n⟩
theorem gg.o{m:aD}{mb:Nat}{rs:List NRw}{ps:List aD}(h:gg mm m a N mb clock rs ps):mm a=some (ua mb N):=h.sp.get (a:=blk1 a (ua mb N)) (by simp) (aG ..)
theorem gg.m{mm m:aD}{a:Nat}{N:mi}{mb clock:Nat}{rs:List NRw}{ps:List aD}(h:gg mm m a N mb clock rs ps):mm mb=some (nk MF (rs.map r8) clock):=h.sp.get (a:=blk1 mb (nk MF (rs.map r8) clock)) (by simp) (aG ..)
section
variable {m:aD}
end
namespace Tr
end Tr
theorem vV{L:List Kd}:cX L=true↔(∀x∈L,x.1.size<=20/\dA x.2.1 x.2.2=true)/\s6 L/\L.length<=2000:=by
 constructor
 ·intro h
  refine⟨λx hx=>⟨lQ h x hx,alE h x hx⟩,?_,aaV h⟩;simp only[cX,aB,bL,dS]at h
  have aqE:∀i,i+1<L.length->eZ (QK L i).1 (QK L (i+1)).1=true:=λi hi=>by
   have:=h.1 (i+1) hi;simp only[Jx,aB,eM,bA]at this
   grind
  have key:∀d i,i+d+1<L.length->eZ (QK L i).1 (QK L (i+d+1)).1=true:=λd=>by
   induction d with
   |zero=>intro i hi;exact aqE i hi
   |succ d ih=>intro i hi;exact qh (ih i (by omega)) (aqE (i+d+1) hi)
  refine dz.2 λi j hi hj ZD=>?_;have:=key (j-i-1) i (by omega);rw[show i+(j-i-1)+1=j by omega]at this;rw[wk hi,wk hj];exact this
 ·rintro⟨h1,h2,h3⟩
  unfold cX;rw[bB h3,mj,bL];intro i hi;have hi:=dS.1 hi;have h4:=h1 _ (ahc hi);unfold Jx;rw[h4.2,bB h4.1,mj,bj,eM];by_cases h0:i=0
  ·grind
  ·refine .inr ?_
   have:=dz.1 h2 (i-1) i (by omega) hi (by omega);rw[wk hi,wk (by omega)]at this;exact this
theorem HI(L:List Kd):jl (B3 L):=by
 unfold B3;refine(ju _).append λx hx=>?_;obtain⟨l,hl,hx⟩:=List.mem_flatten.1 hx;obtain⟨k,_,rfl⟩:=aV.1 hl;exact FL k x hx
section
variable {m:aD}{v:Value}{L:List Kd}{part:Int}
end
structure kl where
 id:Int
 (tg:Int)
 (jV:Int)
 (part:Int)
 (round:Int)
 (pl:List Int)
 (gD:Bk)
 (Oo:Int)
abbrev CN:=Option Addr×Nat
abbrev kl.L(x:kl)(s:CN):LB:=[.one (.int .i64 x.id),.one (.int .i64 x.tg),.one (.int .i64 x.jV),.one (.int .i64 x.part),.one (.int .i64 x.round),.one (.slice s.1 x.pl.length s.2),.one (.int .i64 x.gD.gM),.one (.int .i64 x.gD.cap),.one (.int .i64 x.gD.dG),.one (.int .i64 x.gD.gI),.one (.int .i64 x.Oo)]
structure qZ(m:aD)(x:kl)(s:CN):Prop where
 pl:Ia m (.slice s.1 x.pl.length s.2) x.pl
 (n:x.pl.length<=100000)
theorem qZ.sub{m m':aD}{x:kl}{s:CN}(h:qZ m x s)(hs:cL m m'):qZ m' x s:=⟨h.pl.sub hs,h.n⟩
section
variable {m:aD}{x:kl}{s:CN}
end
namespace Tr
end Tr
def R6(n:Int):List Value:=[.int .i64 n]
theorem lf:fp R6 1:=⟨λ_=>rfl,λx u hu=>by simp[R6]at hu;subst hu;rfl,by decide⟩
abbrev af0:Ty Int:={enc:=R6,s:=1,sl:=61,el:=3,by':=8,ts:=_,ti:=_,ok:=lf,h1:=rfl,h2:=rfl,h3:=rfl,h4:=rfl,h5:=rfl,h6:=rfl,h7:=by decide,h8:=by decide}
abbrev Wa:=Gw af0
abbrev Ita:=Ga af0
abbrev Itv(x:Int):CV:=i64 x
theorem adb(l:List Int):l.flatMap R6=ic l:=by induction l with
 |nil=>rfl
 |cons x l ih=>rw[dw,ih];rfl
variable{v:Value}{l:List Int}
theorem Io.it{m:aD}(h:Io m v l):Wa m v l:=by unfold Wa Gw;rw[adb];exact h
theorem Gw.io{m:aD}(h:Wa m v l):Io m v l:=by unfold Wa Gw at h;rw[adb]at h;exact h
variable{p:aD}{b:Nat}
theorem Wa.store{o n c k:Nat}(x:Int)(h:Wa p (.slice (some ⟨b,o,none⟩) n c) l)(hk:k<l.length):
  ∃arr,p b=some (.cells arr 3 (0,0))/\o+k<arr.size/\Wa (p.set b (.cells (arr.setIfInBounds (o+k) (.int .i64 x)) 3 (0,0))) (.slice (some ⟨b,o,none⟩) n c) (l.set k x):=by
 obtain⟨arr,h1,h2,h3⟩:=mf.store (k:=k) (x:=.int .i64 x) h.io (by simpa [ic]using hk) rfl;refine⟨arr,h1,h2,Io.it ?_⟩;rw[show(ic l).set k (.int .i64 x)=ic (l.set k x) by simp[ic]]at h3;exact h3
structure azx{κ:Type}(cp:κ->Array Value)(cs:κ->List CV):Prop where
 ix:∀{m:aD}{v:Value}{E:List Int}{F:Nat}{x:κ}{p:Int->Bool},Ita m v E->(∀e∈E,eN tP F (Itv e::cs x) m [bR (p e)])->E.length<=100000000->eN tP 267 [.v v,ajb F (cp x)] m [i64 (sH p E)]:=by
  intro m v E F x p hv hF hl;obtain⟨a,c,rfl⟩:=hv.shape;refine exC (P:=λfv=>eN tP _ [_,fv] _ _) λcc hc=>?_;refine ap Tryz.func267 ?_;refine .mk (ι:=Nat) (λi=>E.length-i) (λi mm=>i<=E.length/\(∀x∈E.take i,p x=false)/\mm=m) (λi=>[(0,.c (.v (.slice a E.length c))),(1,.c (ajb F cc)),(7,.c (i64 E.length)),(8,.c (i64 i))]) (λ_=>[]) 0 ⟨by omega,by simp,rfl⟩ ?_ ?_
  ·exact Cr
  rintro i mm⟨hi,cM,he⟩;subst mm;apply bI<;>intro h
  ·have h':=ah h
   have bH:i<E.length:=by omega
   obtain⟨bl,ol,c',hh,hg⟩:=hv.real bH;injection hh with eK _ fN;subst eK;have hg:=hg i bH
   repeat refine xS ?_
   refine⟨.int .i64 E[i],by have:=fZ (j:=0) (hg) rfl;simpa [bK]using this,rfl,?_⟩;subst hc;refine bt ((hF E[i] (aO bH))) ?_;have dI:E.take (i+1)=E.take i++[E[i]]:=au bH;apply bI<;>intro h
   ·exact⟨by rw[tW bH cM h],rfl⟩
   ·refine⟨i+1,⟨by omega,λx hx=>?_,rfl⟩,by omega,?_⟩
    ·rw[dI]at hx
     rcases aR.1 hx with hx|hx
     ·exact cM x hx
     ·rw[aL.1 hx];exact h
    ·exact Cr
  ·have h':=aj h
   obtain rfl:i=E.length:=by omega
   rw[aJ]at cM;exact⟨by rw[nL cM],rfl⟩
theorem aBt:azx (λb:Nat=>#[.pointer (some ⟨b,0,none⟩)]) (λb=>[cx b]):={}
theorem XA{m:aD}{b o n c:Nat}{arr:Array Value}{te:TypeId}(hb:m b=some (.cells arr te))(hn:0<n)(jH:o+n*1<=arr.size):
  bF tP (.builtin .clear [61]) [.v (.slice (some ⟨b,o,none⟩) n c)] m λr m'=>r=[]/\∃zs,zs.length=n*1/\(∀u∈zs,u.oneCell'=true)/\m'=m.set b (.cells (arr.toList.take o++zs++arr.toList.drop (o+n*1)).toArray te):=by
 obtain⟨ti,h1,h2⟩:∃ti,tt.get 61=some ti/\ti.k= .slice 3:=⟨_,rfl,rfl⟩;obtain⟨ei,g1,g2,g3,g4⟩:∃ti,tt.get 3=some ti/\ti.size=1/\ti.bytes=8/\LB.cz ti.zero=R6 0:=⟨_,rfl,rfl,rfl,rfl⟩;have:=qw (P:=tP) eR h1 h2 g1 (by rw[g4,g2];rfl) (by rw[g4];exact lf.one _) (c:=c) hb hn (by rw[g2];exact jH)
 grind
structure aDW{κ:Type}(cp:κ->Array Value)(cs:κ->List CV):Prop where
 dl:azx cp cs->∀{mm m p:aD}{v:Value}{E:List Int}{F:Nat}{x:κ}{pr:Int->Bool},aq mm [p,m]->Wa p v E->(∀m',cL m m'->∀e∈E,eN tP F (Itv e::cs x) m' [bR (pr e)])->E.length<=10000000->bi tP 182 [.v v,ajb F (cp x)] mm λr m'=>∃v' p',r=[.v v']/\aq m' [p',m]/\Wa p' v' (E.filter λe=>!pr e):=by
  intro hix mm m p v E F x pr hs hv hF hl;obtain⟨a,c,rfl⟩:=hv.el.shape;have h0:=hix.ix (x:=x) (hv.el.ea.sub (hs.sub)) (hF _ (hs.sub)) (by omega)
  revert h0
  refine exC (P:=λfv=>eN tP _ [_,fv] _ _->bi tP _ [_,fv] _ _) λcc hc h0=>?_;refine ap Tryz.func182 ?_
  first|refine fU (h0) ?_ |refine bt (h0) ?_
  rcases lY pr E with⟨e1,e2⟩|⟨i0,Ja,e1,e2,e3⟩
  ·rw[e1]
   refine xY ?_;refine⟨_,p,rfl,hs,?_⟩;have:E.filter (λe=>!pr e)=E:=bY.2 λx hx=>by rw[e2 x hx];rfl
   rw[this];exact hv
  rw[e1];obtain⟨bl,ol,c',hh,hg⟩:=hv.el.ea.real Ja;injection hh with eK _ fN;subst eK;have ga:((i0:Int)== -1)=false:=by rw[qO];exact aY (by omega)
  refine⟨λh=>absurd h (by rw[ga];decide),λ_=>?_⟩;have ew:IntKind.i64.wrap ((i0:Int)+1)=((i0+1:Nat):Int):=qJ (by omega);conv=>whnf
  rw[ew]
  refine .mk (ι:=Nat×Nat) (λi=>E.length-i.2) (λ⟨i,j⟩ mm=>∃p Z,aq mm [p,m]/\Wa p (.slice (some ⟨bl,ol,none⟩) E.length c) Z/\Z.take i=(E.take j).filter (λe=>!pr e)/\Z.drop j=E.drop j/\i<j/\j<=E.length)
   (λ⟨i,j⟩=>[(0,.c (.v (.slice (some ⟨bl,ol,none⟩) E.length c))),(1,.c (ajb F cc)),(5,.c (i64 i)),(6,.c (i64 j))]) (λ_=>[]) (i0,i0+1) ⟨p,E,hs,hv,?_,rfl,by omega,by omega⟩ ?_ ?_
  ·rw[au Ja,aaB]
   have:(E.take i0).filter (λe=>!pr e)=E.take i0:=bY.2 λx hx=>by rw[e3 x hx];rfl
   rw[this];simp[e2]
  ·exact Cr
  rintro⟨i,j⟩ mm ⟨p,Z,hs,hZ,ht,hd,ZD,hj⟩;have hZl:Z.length=E.length:=(lf.row hZ).choose_spec.2.1;apply bI<;>intro h
  ·have h':=ah h
   have bH:j<E.length:=by omega
   have hZE:Z[j]'(by omega)=E[j]:=by
    have:=be (λl:List Int=>l[0]?) hd;simp only[cT,gO]at this;rw[az (by omega),az bH]at this;exact eL this
   obtain⟨OY,ol',c',hh,hg⟩:=hZ.el.ea.real (i:=j) (by omega);injection hh with eK _ fN;injection eK with eK;injection eK with kW I8;subst kW;subst I8;have js:=hg j (by omega);have dI:E.take (j+1)=E.take j++[E[j]]:=au bH
   have LW:Z.drop (j+1)=E.drop (j+1):=by
    rw[<-dU,<-dU,hd]
   rw[hZE]at js;have hxm:E[j]∈E:=aO bH;generalize E[j]=x at js dI hxm
   repeat refine xS ?_
   refine⟨.int .i64 x,by have:=fZ (j:=0) (js.sub (hs.sub)) rfl;simpa [bK]using this,rfl,?_⟩;subst hc;refine bt ((hF _ (hs.sub) x hxm)) ?_
   cases hp:pr x with
   |true=>
    refine xN ?_;refine⟨(i,j+1),⟨p,Z,hs,hZ,by rw[dI,aaB,ht];simp[hp],LW,by omega,by omega⟩,by simp only;omega,?_⟩;exact Cr
   |false=>
    refine xY ?_
    repeat refine xS ?_
    obtain⟨arr,k1,k2,k3⟩:=Wa.store (k:=i) x hZ (by omega);refine⟨arr,_,_,hs.sub (a:=p) (by simp) _ _ k1,⟨by simpa [bK]using k2,by simp⟩,?_⟩;have bZ:=hs.set k1 (.cells (arr.setIfInBounds (ol+i) (.int .i64 x)) 3);simp only[bK,aA];have U6:IntKind.i64.wrap ((i:Int)+1)=((i+1:Nat):Int):=qJ (by omega);refine⟨(i+1,j+1),⟨_,Z.set i x,bZ,k3,?_,?_,by omega,by omega⟩,by simp only;omega,?_⟩
    ·rw[dI,aaB,<-ht,au (by rw[fc];omega),jq,List.take_set_of_le (by omega)]
     simp[hp]
    ·rw[km (by omega)];exact LW
    ·exact Cr
  ·have h':=aj h
   obtain rfl:j=E.length:=by omega
   rw[aJ]at ht;obtain⟨arr,k1,k2,k3,k4,k5⟩:=lf.row hZ
   repeat refine xS ?_
   intro o' q1 q2;have ho:o'=ol+i*1:=by simpa using q1 (by omega)
   have ei:(i:Int).toNat=i:=by omega
   subst ho;conv=>whnf
   rw[ei];refine .mk _ (XA (hs.sub (a:=p) (by simp) _ _ k1) (by omega) (by omega)) ?_;rintro _ m'⟨rfl,zs,QY,hz2,rfl⟩;have bZ:=hs.set k1 (.cells (arr.toList.take (ol+i*1)++zs++arr.toList.drop (ol+i*1+(E.length-i)*1)).toArray 3)
   repeat refine xS ?_
   intro o' q1 q2;obtain rfl:o'=ol:=by have:=q1 (by omega);simpa [bK]using this
   conv=>whnf
   rw[ei];refine⟨_,_,rfl,bZ,?_⟩;rw[<-ht];refine lf.mk' (aD.bg ..) (by rw[aK];omega) (by omega) ?_ λj u hu=>?_
   ·simp only[dM,ax,aK,cC,cq,QY];omega
   ·have EN:=(aQ.1 hu).1
    rw[lf.wC,aK]at EN;have Re:o'+j<o'+i*1:=by have:=cS 1 (Nat.min_le_left i Z.length);omega
    rw[<-lf.take,bN]at hu
    split at hu
    ·have:=k5 j u hu
     rw[bz,aX,aT (by rw[aK,cq];omega),bN,aC Re,bU];exact this
    ·cases hu
theorem aCZ:aDW (λb:Nat=>#[.pointer (some ⟨b,0,none⟩)]) (λb=>[cx b]):={}
variable{mm:aD}
theorem Iz{m:aD}{E:List Int}{F:Nat}{pr:Int->Bool}(hs:aq mm [p,m])(hv:Wa p v E)(hF:∀m',cL m m'->∀e∈E,eN tP F [Itv e,cx b] m' [bR (pr e)])(hl:E.length<=10000000):
  bi tP 182 [.v v,l5 F b] mm λr m'=>∃v' p',r=[.v v']/\aq m' [p',m]/\Wa p' v' (E.filter λe=>!pr e):=aCZ.dl aBt (x:=b) hs hv hF hl
theorem ud{m:aD}(hv:Ia m v l)(hl:l.length<=1000000):bi tP 39 [.v v] m λr m'=>∃v' p,r=[.v v']/\aq m' [p,m]/\Io p v' l:=by
 obtain⟨a,c,rfl⟩:=hv.shape
 cases a with
 |none=>
  have hE:l=[]:=by
   rcases Nat.eq_zero_or_pos l.length with h|h
   ·exact cB h
   ·obtain⟨b,o,c',e,_⟩:=hv.real h
    cases e
  subst hE;refine ap Tryz.func39 ?_;refine xY ?_;exact⟨_,iI,rfl,(aq.one m).cA,Io.nil _⟩
 |some a=>
  refine ap Tryz.func39 ?_;refine xN ?_;refine .mk _ (ajT (t:=af0)) ?_;rintro _ _⟨b,hb,rfl,rfl⟩;refine .mk _ (zQ (i:=0) ((aq.one m).new hb _) rfl (Gw.blk0 (t:=af0) (aG ..)).io (hv.sub (aD.bT _ hb)) (by simp;omega)) ?_;rintro _ m'⟨v',p,rfl,hs,pY⟩;exact⟨v',p,rfl,hs,pY⟩
section
variable {m:aD}{v:Value}{L:List Kd}{part:Int}
end
theorem Hf(m:aD):gy m fP ⟨(none,0),(none,0),(none,0)⟩:=⟨rfl,(Io.nil m).il.ia,(I0.nil m).dl.da,lu.nil m⟩
theorem aq.lB{q m:aD}(h:aq mm [p,q])(hs:cL m q):aq mm [p,m]:=(aq.Ci (h.ir [1,0]) hs).ir [1,0]
section
variable {m:aD}{x:kl}{s:CN}{v:Value}{L:List Kd}
end
theorem aq.ad9{k l:List aD}(h:aq mm (k++l)):∃j,aq j k/\aq mm (j::l):=by
 have h2:(k++l).Pairwise Dj:=h.2;obtain⟨p1,p2,p3⟩:=cm.1 h2;refine⟨gY k,⟨λ_ _ h=>h,p1⟩,λx o hx=>h.1 x o ?_,bh.2 ⟨λb hb x=>?_,p2⟩⟩
 ·obtain⟨a,ha,AH⟩:=eQ hx
  rcases aU.1 ha with rfl|ha
  ·obtain⟨b,hb,HW⟩:=eQ AH
   exact jE h2 (lJ _ hb) HW
  ·exact jE h2 (jp _ ha) AH
 ·rcases hp:b x with _|o
  ·grind
  ·refine .inl (pM.2 λa ha=>?_)
   rcases p3 a ha b hb x with h|h
   ·exact h
   grind
def p32(l:List Nat):List Nat:=(l++List.replicate 32 0).take 32
theorem M9(l:List Nat):(p32 l).length=32:=by simp[p32]
theorem akz{l:List Nat}(h:l.length=32):p32 l=l:=by rw[p32,List.take_left' h]
abbrev Rm:=gX×iS
abbrev Rm.x(r:Rm):gX:={r.1 with jI:=p32 r.1.jI}
def Xp(r:Rm):List Value:=LB.cz (r.x.L r.2)
theorem Qq(x:gX)(s:iS)(h:x.jI.length=32):(LB.cz (x.L s)).length=40/\∀u∈LB.cz (x.L s),u.oneCell'=true:=by
 refine⟨?_,LB.iN (wb h)⟩;rw[LB.fJ (wb h)];rfl
theorem yN:fp Xp 40:=⟨λr=>(Qq _ _ (M9 _)).1,λr=>(Qq _ _ (M9 _)).2,by decide⟩
abbrev Yc:Ty Rm:={enc:=Xp,s:=40,sl:=96,el:=65,by':=144,ts:=_,ti:=_,ok:=yN,h1:=rfl,h2:=rfl,h3:=rfl,h4:=rfl,h5:=rfl,h6:=rfl,h7:=by decide,h8:=by decide}
abbrev Rhm:=Rm×Int
def Cp(r:Rhm):List Value:=Xp r.1++[.int .i64 r.2]
theorem Sa:fp Cp 41:=⟨λr=>by rw[Cp,ax,yN.len];rfl,λr u hu=>by
 rcases aR.1 hu with h|h
 ·exact yN.one _ u h
 ·rw[aL.1 h];rfl,by decide⟩
abbrev E5:Ty Rhm:={enc:=Cp,s:=41,sl:=205,el:=286,by':=152,ts:=_,ti:=_,ok:=Sa,h1:=rfl,h2:=rfl,h3:=rfl,h4:=rfl,h5:=rfl,h6:=rfl,h7:=by decide,h8:=by decide}
structure Rv where
 id:Int
 (err:Int)
 (l:List Int)
abbrev Rv.L(x:Rv)(s:CN):LB:=[.one (.int .i64 x.id),.one (.int .i64 x.err),.one (.slice s.1 x.l.length s.2)]
abbrev Ran:=Rv×CN
def EU(r:Ran):List Value:=LB.cz (r.1.L r.2)
theorem It:fp EU 3:=⟨λ_=>rfl,λx u hu=>by simp[EU,LB.cz,eB.cells]at hu;rcases hu with rfl|rfl|rfl<;>rfl,by decide⟩
abbrev Yd:Ty Ran:={enc:=EU,s:=3,sl:=90,el:=93,by':=40,ts:=_,ti:=_,ok:=It,h1:=rfl,h2:=rfl,h3:=rfl,h4:=rfl,h5:=rfl,h6:=rfl,h7:=by decide,h8:=by decide}
abbrev Rha:=Ran×Int
def Is(r:Rha):List Value:=EU r.1++[.int .i64 r.2]
theorem Sb:fp Is 4:=⟨λ_=>rfl,λx u hu=>by simp[Is,EU,LB.cz,eB.cells]at hu;rcases hu with rfl|rfl|rfl|rfl<;>rfl,by decide⟩
abbrev Gd:Ty Rha:={enc:=Is,s:=4,sl:=206,el:=284,by':=48,ts:=_,ti:=_,ok:=Sb,h1:=rfl,h2:=rfl,h3:=rfl,h4:=rfl,h5:=rfl,h6:=rfl,h7:=by decide,h8:=by decide}
abbrev ik(vo va:Value)(fQ:Int):Obj:=.cells #[.bool true,vo,va,.int .i64 fQ] 208
structure kf where
 dE:List (gX×Int)
 (o7:List (Rv×Int))
structure aw6(p q:aD)(b:Nat)(B:kf)(vo va:Value)(fQ:Int)(po pa:aD)(RO:List Rhm)(RA:List Rha):Prop where
 sp:aq p [blk1 b (ik vo va fQ),po,pa]
 (o:Gw E5 po vo RO)
 (a:Gw Gd pa va RA)
 (eo:RO.map (λr=>(r.1.1,r.2))=B.dE)
 (ea:RA.map (λr=>(r.1.1,r.2))=B.o7)
 (ho:∀r∈RO,gy q r.1.1 r.1.2)
 (ha:∀r∈RA,Ia q (.slice r.1.2.1 r.1.1.l.length r.1.2.2) r.1.1.l)
def y5(p q:aD)(b:Nat)(B:kf):Prop:=∃vo va fQ po pa RO RA,aw6 p q b B vo va fQ po pa RO RA
theorem y5.grow{q q':aD}{B:kf}(h:y5 p q b B)(hs:cL q q'):y5 p q' b B:=by
 obtain⟨vo,va,fQ,po,pa,RO,RA,h⟩:=h;exact⟨vo,va,fQ,po,pa,RO,RA,h.sp,h.o,h.a,h.eo,h.ea,λr hr=>(h.ho r hr).sub hs,λr hr=>(h.ha r hr).sub hs⟩
theorem Y1{m:aD}:bi tP 54 [] m λr m'=>∃b p,r=[cx b]/\aq m' [p,m]/\y5 p iI b ⟨[],[]⟩:=by
 refine c7 c54 Tryz.func54 ?_;intro b hb;refine⟨b,blk1 b (ik (.slice none 0 0) (.slice none 0 0) 0),rfl,(aq.one m).new hb _,_,_,0,iI,iI,[],[],((aq.one _).cA.cA).ir [2,0,1],Gw.nil _,Gw.nil _,rfl,rfl,by simp,by simp⟩
section
variable {m:aD}{b:Nat}{vo va:Value}{fQ:Int}
theorem Dq{mark:Int}(hb:m b=some (ik vo va fQ)):eN tP 266 [cx b,i64 mark] m [i64 (if mark<0 then 1 else 0)]:=by
 refine ap Tryz.func266 ?_;refine xN ?_;refine xM hb ?_;refine xN ?_;apply bI<;>intro h
 ·have h':=ah h
  exact⟨by rw[aC h'],rfl⟩
 ·have h':=aj h
  exact⟨by rw[if_neg h'],rfl⟩
end
abbrev AM:=kl×CN
def ET(r:AM):List Value:=LB.cz (r.1.L r.2)
theorem arQ:fp ET 11:=⟨λ_=>rfl,λx u hu=>by simp[ET,LB.cz,eB.cells]at hu;rcases hu with rfl|rfl|rfl|rfl|rfl|rfl|rfl|rfl|rfl|rfl|rfl<;>rfl,by decide⟩
abbrev xj:Ty AM:={enc:=ET,s:=11,sl:=145,el:=238,by':=104,ts:=_,ti:=_,ok:=arQ,h1:=rfl,h2:=rfl,h3:=rfl,h4:=rfl,h5:=rfl,h6:=rfl,h7:=by decide,h8:=by decide}
abbrev Seo:=Gw xj
end Go.E.Y
namespace Go.E
open Go.Proofs
section
variable {P:Program}{T:lz}
end
end Go.E
namespace Go.E.Y
open Go.Proofs
theorem xb{mm m p0:aD}{b3 b4 b5:Nat}{v0:Value}{u w:List Int}{a a':Option Addr}{c c':Nat}{E0 E K:List En}{both:Bool}(MS:aq mm [p0,m])(hp0:No p0 v0 E0)(hu:u.length=8)(hw:w.length=8)(hl0:E0.length<=1000000)(hn:E.length<=1000000)(hnk:K.length<=1000000)(hIE:∀e∈E,CS e)
  (h3:m b3=some (mE u a E.length c)) (h4:m b4=some (mE w a' K.length c')) (h5:m b5=some (yW both)) (hE:Na m (.slice a E.length c) E) (hK:Na m (.slice a' K.length c') K):
  bi tP 279 [.v v0,aea 347 b3 b5 b4] mm λr m'=>∃v' p,r=[.v v']/\aq m' [p,m]/\No p v' (E0++jO E w K both):=by
 have hSl:(jO E w K both).length<=1000000:=bq (bC _ _) hn;obtain⟨av,cv,rfl⟩:=hp0.el.shape;refine c7 azq Tryz.func279 ?_;intro bo Xj;have bM:=MS.new Xj (.cells #[.slice av E0.length cv] 109);have bM:aq (mm.set bo (.cells #[.slice av E0.length cv] 109)) [p0,blk1 bo (.cells #[.slice av E0.length cv] 109),m]:=bM.fm (List.Perm.swap _ _ _)
 refine .mk 347 #[.pointer (some ⟨b3,0,none⟩),.pointer (some ⟨b5,0,none⟩),.pointer (some ⟨b4,0,none⟩)] rfl rfl rfl (ι:=Nat)
  (λk mm=>k<=(jO E w K both).length/\∃vo p,aq mm [p,blk1 bo (.cells #[vo] 109),m]/\No p vo (E0++(jO E w K both).take k)) 0 ⟨by omega,_,p0,bM,by simpa using hp0⟩
  (λk x j=>∃h:k<(jO E w K both).length,x=[Nv (jO E w K both)[k]]/\j=k+1) (λk x j ⟨_,h1,_⟩=>by subst h1;rfl) ?_
  (λmm=>∃vo p,aq mm [p,blk1 bo (.cells #[vo] 109),m]/\No p vo (E0++jO E w K both)) ?_ ?_
 ·rintro k _ _ mm⟨hk,vo,p,hs,hp⟩ ⟨bH,rfl,rfl⟩
  have dI:(jO E w K both).take (k+1)=(jO E w K both).take k++[(jO E w K both)[k]]:=au bH;generalize (jO E w K both)[k]=x at dI;intro b4 OV;refine⟨_,_,_,aD.bg ..,⟨aW 4,Jz⟩,?_⟩;rw[BM (by rfl)];have eP:=hs.new OV (.cells (qp x).toArray 168)
  change aq (mm.set b4 (.cells (LB.cz [.one (.int .i64 x.1),.one (.int .i64 x.2.1),.one (.int .u64 x.2.2.1),.one (.int .i64 x.2.2.2)]).toArray 168)) _ at eP
  generalize mm.set b4 (.cells (LB.cz [.one (.int .i64 x.1),.one (.int .i64 x.2.1),.one (.int .u64 x.2.2.1),.one (.int .i64 x.2.2.2)]).toArray 168)=m2 at eP⊢;have hr4:dQ m2 b4 0 (qp x):=⟨_,_,_,eP.get (a:=blk1 b4 (.cells (qp x).toArray 168)) (by simp) (aG ..),λj u hu=>by rw[cD,bz];exact hu⟩;refine⟨_,aF (eP.get (a:=blk1 bo (.cells #[vo] 109)) (by simp) (aG ..)) rfl,hp.ea.one,?_⟩;refine⟨[.one (.int .i64 x.1),.one (.int .i64 x.2.1),.one (.int .u64 x.2.2.1),.one (.int .i64 x.2.2.2)],⟨rfl,rfl,rfl,rfl,trivial⟩,rfl,hr4,?_⟩;refine .mk _ (FW (e:=x)) ?_;rintro _ _⟨b5,mo,rfl,rfl⟩;refine .mk _ (Wx (i:=1) eP rfl mo hp (by rw[ax,aK];omega)) ?_;rintro _ m6⟨vo',p',rfl,gC,tZ⟩;refine⟨_,_,_,gC.get (a:=blk1 bo (.cells #[vo] 109)) (by simp) (aG ..),⟨by simp,by simp⟩,?_⟩;have iU:=gC.gu (i:=2) rfl (aG ..) (.cells #[vo'] 109);rw[cJ]at iU;refine⟨by omega,vo',p',iU.drop,?_⟩;rw[dI,<-aX];exact tZ
 ·intro lb ob _ sI
  refine(Ys (I:=λk mm=>∃m1,(k<=(jO E w K both).length/\∃vo p,aq m1 [p,blk1 bo (.cells #[vo] 109),m]/\No p vo (E0++(jO E w K both).take k))/\m1 lb=none/\mm=m1.set lb ob) (l:=lb) (b3:=b3) (b4:=b4) (b5:=b5) (u:=u) (w:=w) (a:=a) (a':=a') (c:=c) (c':=c') (E:=E) (K:=K) (both:=both) hw hn hnk hIE ?_ hu ?_ ⟨_,⟨lF _,_,p0,bM,by simpa using hp0⟩,by assumption,rfl⟩).mono ?_
  ·rintro k mm⟨m1,⟨_,vo,p,hs,_⟩,hl,rfl⟩
   have iH:cL m (m1.set lb ob):=(hs.sub).trans (aD.bT _ hl);exact⟨iH _ _ h3,iH _ _ h4,iH _ _ h5,hE.sub iH,hK.sub iH⟩
  ·rintro k mm hk⟨m1,hi,hl,rfl⟩
   exact sI k _ _ m1 hi ⟨hk,rfl,rfl⟩ hl
  ·rintro r m'⟨rfl,m1,⟨_,vo,p,hs,hp⟩,hl,rfl⟩
   rw[aJ]at hp;exact⟨m1,⟨vo,p,hs,hp⟩,hl,rfl⟩
 ·rintro mm⟨vo,p,hs,hp⟩
  refine⟨vo,aF (hs.get (a:=blk1 bo (.cells #[vo] 109)) (by simp) (aG ..)) rfl,hp.ea.one,?_⟩;exact⟨vo,p,rfl,hs.dV 1,hp⟩
theorem J3{m:aD}{b3 b4 b5:Nat}{u w:List Int}{a a':Option Addr}{c c':Nat}{E K:List En}{both:Bool}(hu:u.length=8)(hw:w.length=8)(hn:E.length<=1000000)(hnk:K.length<=1000000)(hIE:∀e∈E,CS e)
  (h3:m b3=some (mE u a E.length c)) (h4:m b4=some (mE w a' K.length c')) (h5:m b5=some (yW both)) (hE:Na m (.slice a E.length c) E) (hK:Na m (.slice a' K.length c') K):
  bi tP 280 [aea 347 b3 b5 b4] m λr m'=>∃v' p,r=[.v v']/\aq m' [p,m]/\No p v' (jO E w K both):=by
 refine ap Tryz.func280 ?_;refine aP (xb (E0:=[]) (aq.one m).cA (No.nil _) hu hw (by simp) hn hnk hIE h3 h4 h5 hE hK) ?_;rintro _ m1⟨v',p,rfl,hs,hp⟩;exact⟨v',p,rfl,hs,hp⟩
theorem Cg{α:Type}{size:Nat}:∀(ls:List (List α)),(∀a∈ls,a.length=size)->∀(i:Nat) (a:List α),ls[i]?=some a->∀(j:Nat) (u:α),a[j]?=some u->ls.flatten[i*size+j]?=some u
 |[],_,i,a,hi,_,_,_=>by simp at hi
 |b::ls,h,0,a,hi,j,u,hu=>by
  simp at hi;subst hi
  simp only[dX,nw,cD];rw[aT (aQ.1 hu).1];exact hu
 |b::ls,h,i+1,a,hi,j,u,hu=>by
  have hb:=h b (by simp);have ih:=Cg ls (λa ha=>h a (by simp[ha])) i a (by simpa using hi) j u hu;simp only[dX];rw[bJ (by rw[hb,fM];omega),hb];rw[show(i+1)*size+j-size=i*size+j by rw[fM];omega];exact ih
abbrev TA(a:List Int):List Value:=a.map (Value.int .u64)
def ars(m:aD)(v:Value)(ls:List (List Int)):Prop:=gq m 8 v (ls.map TA).flatten/\fg v=ls.length/\∀a∈ls,V8 a
def uy(i:Nat)(ls:List (List Int)):List Int:=(ls.take i).foldl (List.zipWith max) (List.replicate 8 0)
theorem afY:V8 (List.replicate 8 0):=V8.of rfl rfl
theorem Rx:∀(ls:List (List Int)) (z:List Int),V8 z->(∀a∈ls,V8 a)->V8 (ls.foldl (List.zipWith max) z)
 |[],z,hz,_=>hz
 |a::ls,z,hz,h=>Rx ls _ (hz.zip (h a (by simp))) (λb hb=>h b (by simp[hb]))
variable{ls:List (List Int)}
theorem Zm(h:∀a∈ls,V8 a)(i:Nat):V8 (uy i ls):=Rx _ _ afY (λa ha=>h a (bX ha))
theorem QM{i:Nat}{a:List Int}(h:ls[i]?=some a):uy (i+1) ls=List.zipWith max (uy i ls) a:=by
 unfold uy;have hi:=(aQ.1 h).1;have:ls[i]=a:=(aQ.1 h).2;rw[au hi,iT,this];rfl
theorem UO:uy ls.length ls=ls.foldl (List.zipWith max) (List.replicate 8 0):=by rw[uy,aJ]
theorem UN{m:aD}{v:Value}(hv:ars m v ls)(hn:ls.length<9223372036854775808):eN tP 282 [.v v] m [AP (ls.foldl (List.zipWith max) (List.replicate 8 0))]:=by
 obtain⟨hl,hlen,h8⟩:=hv;have qX:∀i,i=ls.length->uy i ls=ls.foldl (List.zipWith max) (List.replicate 8 0):=by rintro i rfl;exact UO
 rcases hl with⟨c,rfl,Bh⟩|⟨b,o,c,n,arr,t,fr,rfl,g1,g2,_,g3,g4⟩
 ·have h0:ls=[]:=td.1 hlen.symm
  subst h0;refine bW (c:=du) Tryz.func282 rfl ?_
  refine .mk (ι:=Unit) (λi=>0) (λi=>True) (λi=>[(2,.p 0 0),(3,.p 1 0),(8,.c (.v (.slice none 0 c))),(9,.c (i64 0)),(10,.c (i64 0))])
   (λi=>[(108,[.bG .u64 8 (List.replicate 8 0)]),(108,[.bG .u64 8 (List.replicate 8 0)])]) (λ_=>m) () trivial ?_ ?_
  ·exact Cr
  intro i hi;refine xN ?_;exact rR
 ·have OS:n=ls.length:=hlen
  subst OS;refine bW (c:=du) Tryz.func282 rfl ?_
  refine .mk (ι:=Nat) (λi=>ls.length-i) (λi=>i<=ls.length) (λi=>[(2,.p 0 0),(3,.p 1 0),(8,.c (.v (.slice (some ⟨b,o,none⟩) ls.length c))),(9,.c (i64 ls.length)),(10,.c (i64 i))])
   (λi=>[(108,[.bG .u64 8 (List.replicate 8 0)]),(108,[.bG .u64 8 (uy i ls)])]) (λ_=>m) 0 (by omega) ?_ ?_
  ·exact Cr
  intro i hi;apply bI<;>intro h
  ·have h':=ah h
   have HR:i<ls.length:=by omega
   have ha:ls[i]?=some ls[i]:=by simp[HR]
   have h8a:=h8 _ (aO HR);have h8j:=Zm h8 i;have hs:=QM ha;have LR:=h8j.1;have ZM:=h8a.1;generalize ls[i]=a at ha h8a hs ZM
   repeat refine xS ?_
   refine⟨[.bG .u64 8 a],⟨ZM,trivial⟩,rfl,?_,?_⟩
   ·refine⟨arr,t,fr,g1,λj u hu=>?_⟩
    have:=Cg (size:=8) (ls.map TA) (by simpa using λx hx=>(h8 x hx).1) i (TA a) (by simp[ha]) j u (by simpa [LB.cz,eB.cells]using hu);have:=g3 _ _ this;simp only[bK];rw[show o+(Int.toNat (i:Int))*8+j=o+(i*8+j) by simp;omega];exact this
   refine .mk (ι:=Nat) (λk=>8-k) (λk=>k<=8) (λk=>[(2,.p 0 0),(3,.p 1 0),(8,.c (.v (.slice (some ⟨b,o,none⟩) ls.length c))),(9,.c (i64 ls.length)),(10,.c (i64 i)),(14,.c (AP a)),(15,.c (i64 k))])
    (λk=>[(108,[.bG .u64 8 (List.replicate 8 0)]),(108,[.bG .u64 8 (Aq max k (uy i ls) a)])]) (λ_=>m) 0 (by omega) ?_ ?_
   ·conv=>whnf
    repeat (refine And.intro (by first|with_reducible rfl|(exact(Tj _ _ _).symm)|exact cI (wi)|exact wi|rfl) ?_;conv=>whnf)
    exact xT
   intro k hk;apply bI<;>intro h
   ·have h':=ah h
    repeat refine xS ?_
    refine⟨k+1,by omega,by omega,?_⟩;conv=>whnf
    repeat (refine And.intro (by first|with_reducible rfl|(exact Kf _ _ _ _ (by omega) (by omega))|exact cI (wi)|exact wi|rfl) ?_;conv=>whnf)
    exact xT
   ·have h':=aj h
    have:k=8:=by omega
    subst this;have e8:=Kg max 8 (uy i ls) a (by omega) (by omega);refine⟨i+1,by omega,by omega,?_⟩;conv=>whnf
    repeat (refine And.intro (by first|with_reducible rfl|(exact e8.trans hs.symm)|exact cI (wi)|exact wi|rfl) ?_;conv=>whnf)
    exact xT
  ·have h':=aj h
   have HR:i=ls.length:=by omega
   have e:=qX i HR;refine⟨?_,rfl⟩;rw[e]
variable{u:List Int}
theorem aor{m:aD}{b:Nat}{v:List Int}(hu:V8 u)(hv:V8 v):ars (m.set b (.cells (fl [AP u,AP v]).toArray 108)) (.slice (some ⟨b,0,none⟩) 2 2) [u,v]:=by
 refine⟨.inr ⟨b,0,2,2,_,_,_,rfl,aD.bg ..,?_,aW _,?_,?_⟩,rfl,?_⟩
 ·simp[hu.1,hv.1]
 ·intro j x hx
  simpa [fl,CV.cs,LB.cz,eB.cells]using hx
 ·intro x hx
  simp at hx;rcases hx with⟨a,_,rfl⟩|⟨a,_,rfl⟩<;>rfl
 grind
theorem IM{m:aD}{v:List Int}(hu:V8 u)(hv:V8 v):bF tP (.buildSlice 448 2 [0,1]) [AP u,AP v] m λr m'=>∃b,m b=none/\r=[.v (.slice (some ⟨b,0,none⟩) 2 2)]/\m'=m.set b (.cells (fl [AP u,AP v]).toArray 108):=
 dm eR (t:=448) (e:=108) (by rfl) rfl (by rfl) rfl rfl (by simp[CV.cs,LB.cz,eB.cells,hu.1,hv.1]) (by simp) (by simp)
theorem yZ.v8(h:yZ u):V8 u:=⟨h.1,λi=>by
 have:=h.at i;unfold BC at this;unfold U
 omega⟩
variable{y:Ct}
theorem Pl{x:Ct}(h:dA x.1 x.2=false\/dA y.1 y.2=false):nh x y=((fx,[]),3):=by unfold nh;rw[aC h]
theorem TG{x:Ct}(h1:dA x.1 x.2=true)(h2:dA y.1 y.2=true)(h:yS x.2 y.2=true):nh x y=((fx,[]),14):=by
 unfold nh;rw[if_neg (by rw[h1,h2];simp),aC h]
theorem Ye{x:Ct}(h1:dA x.1 x.2=true)(h2:dA y.1 y.2=true)(h:yS x.2 y.2=false)(hf:400<(yv x.1 y.1 x.2 y.2).length):nh x y=((fx,[]),5):=by
 unfold nh;rw[if_neg (by rw[h1,h2];simp),if_neg (by rw[h];decide),aC hf]
theorem af1{x:Ct}(h1:dA x.1 x.2=true)(h2:dA y.1 y.2=true)(h:yS x.2 y.2=false)(hf:¬ 400<(yv x.1 y.1 x.2 y.2).length):nh x y=((QL x.1 y.1,nY (yv x.1 y.1 x.2 y.2)),0):=by
 unfold nh;rw[if_neg (by rw[h1,h2];simp),if_neg (by rw[h];decide),if_neg hf]
theorem zg(l:List En):(nY l).length=l.length:=eW ..
theorem Pk{m:aD}(hS:cK m){w:List Int}{a a':Option Addr}{c c':Nat}{E K:List En}(hu:yZ u)(hw:yZ w)(hv:Na m (.slice a E.length c) E)(hk:Na m (.slice a' K.length c') K)(hIE:∀e∈E,CS e)(hIK:∀e∈K,CS e)(hl:E.length<=1000)(DN:K.length<=1000):
  bi tP 202 [iY u a E.length c,iY w a' K.length c'] m λr m'=>∃x e a2 c2 p,x=(nh (u,E) (w,K)).1/\e=(nh (u,E) (w,K)).2/\r=[iY x.1 a2 x.2.length c2,i64 e]/\aq m' [p,m]/\Na p (.slice a2 x.2.length c2) x.2:=by
 have zero:∀e,nh (u,E) (w,K)=((fx,[]),e)->∃(x:Ct) (e':Int) (a2:Option Addr) (c2:Nat) (p:aD),x=(nh (u,E) (w,K)).1/\e'=(nh (u,E) (w,K)).2/\[iY fx none 0 0,i64 e]=[iY x.1 a2 x.2.length c2,i64 e']/\aq m [p,m]/\Na p (.slice a2 x.2.length c2) x.2:=λe h=>
  ⟨(fx,[]),e,none,0,iI,by rw[h],by rw[h],rfl,(aq.one m).cA,Na.nil _⟩
 refine c7 aDv Tryz.func202 ?_;refine bt (pV (u:=u) hS hv hIE (by omega)) ?_;by_cases qn:dA u E=true;rotate_left
 ·have qn:dA u E=false:=by simpa using qn
  rw[qn];refine xY ?_;exact zero 3 (Pl (.inl qn))
 rw[qn];refine xN ?_;refine bt (pV (u:=w) hS hk hIK (by omega)) ?_;by_cases jK:dA w K=true;rotate_left
 ·have jK:dA w K=false:=by simpa using jK
  rw[jK];refine xY ?_;exact zero 3 (Pl (.inr jK))
 rw[jK];refine xN ?_;refine bt (VM (u:=u) hw.1 hv hk (by omega) (by omega)) ?_;by_cases hc:yS E K=true
 ·rw[hc]
  refine xY ?_;exact zero 14 (TG qn jK hc)
 have hc:yS E K=false:=by simpa using hc
 rw[hc];refine xN ?_;refine aP (Gq (m:=m) (u:=u) (w:=w) (a:=a) (a':=a') (n:=E.length) (n':=K.length) (c:=c) (c':=c') (both:=true)) ?_;rintro _ m1⟨b3,b4,b5,rfl,bM⟩
 try refine⟨λ_ h=>(by cases h),?_⟩
 have Zt:cL m m1:=bM.sub (by simp);have Ah:m1 b3=some (mE u a E.length c):=bM.get (a:=blk1 b3 (mE u a E.length c)) (by simp) (aG ..);have OV:m1 b4=some (mE w a' K.length c'):=bM.get (a:=blk1 b4 (mE w a' K.length c')) (by simp) (aG ..);have mo:m1 b5=some (yW true):=bM.get (a:=blk1 b5 (yW true)) (by simp) (aG ..);refine aP (J3 hu.1 hw.1 (by omega) (by omega) hIE Ah OV mo (hv.sub Zt) (hk.sub Zt)) ?_;rintro _ m2⟨v1,p1,rfl,bZ,xf⟩
 try refine⟨λ_ h=>(by cases h),?_⟩
 have aAm:cL m m2:=Zt.trans (bZ.sub);refine aP (Gq (m:=m2) (u:=w) (w:=u) (a:=a') (a':=a) (n:=K.length) (n':=E.length) (c:=c') (c':=c) (both:=false)) ?_;rintro _ m3⟨d3,d4,d5,rfl,dy⟩
 try refine⟨λ_ h=>(by cases h),?_⟩
 have eP:aq m3 [blk1 d5 (yW false),blk1 d4 (mE u a E.length c),blk1 d3 (mE w a' K.length c'),p1,m1]:=aq.under (a:=[blk1 d5 (yW false),blk1 d4 (mE u a E.length c),blk1 d3 (mE w a' K.length c')]) dy bZ;have eD:aq m3 [p1,blk1 d5 (yW false),blk1 d4 (mE u a E.length c),blk1 d3 (mE w a' K.length c'),m1]:=(eP.pick (i:=3) rfl);obtain⟨q,hq,gC,oF⟩:=aq.part eD;have hqm:cL m q:=Zt.trans (hq m1 (by simp));have hd3:q d3=some (mE w a' K.length c'):=hq (blk1 d3 (mE w a' K.length c')) (by simp) _ _ (aG ..);have hd4:q d4=some (mE u a E.length c):=hq (blk1 d4 (mE u a E.length c)) (by simp) _ _ (aG ..);have hd5:q d5=some (yW false):=hq (blk1 d5 (yW false)) (by simp) _ _ (aG ..);have wz:(jO E w K true).length<=1000:=bq (bC _ _) hl;have Td:(jO K u E false).length<=1000:=bq (bC _ _) DN;refine aP (xb gC xf hw.1 hu.1 (by omega) (by omega) (by omega) hIK hd3 hd4 hd5 (hk.sub hqm) (hv.sub hqm)) ?_;rintro _ m4⟨v2,p2,rfl,iU,lE⟩
 try refine⟨λ_ h=>(by cases h),?_⟩
 have k8:=oF _ _ iU;have aAl:cL m m4:=Zt.trans (k8.sub)
 have hpm:aq m4 [p2,m]:=by
  have:=k8.pick (i:=4) rfl;exact(aq.Ci (((this.dV 2).dV 2).dV 2) Zt).fm (List.Perm.swap _ _ _)
 have EN:(yv u w E K).length<=2000:=by simp only[yv,ax];omega
 change No p2 v2 (yv u w E K)at lE
 obtain⟨a2,c2,rfl⟩:=lE.el.shape;have hfl:=Ye (x:=(u,E)) (y:=(w,K)) qn jK hc;have ez:=af1 (x:=(u,E)) (y:=(w,K)) qn jK hc;simp only at hfl ez;generalize yv u w E K=J at lE EN hfl ez⊢;apply bI<;>intro h
 ·have h':400<J.length:=by have:=ah h;omega
  have e:=hfl h';exact⟨(fx,[]),5,none,0,iI,by rw[e],by rw[e],rfl,hpm.drop.cA,Na.nil _⟩
 ·have h':¬ 400<J.length:=by have:=aj h;omega
  have e:=ez h';refine .mk _ (IM hu.v8 hw.v8) ?_;rintro _ _⟨b6,Xl,rfl,rfl⟩;refine bt (UN (aor hu.v8 hw.v8) (by simp)) ?_;have zv:=hpm.new Xl (.cells (fl [AP u,AP w]).toArray 108);have apq:cL m _:=zv.sub (a:=m);refine aP (yb (hS.sub apq) (lE.ea.sub (zv.sub (a:=p2))) (by omega)) ?_;rintro _ m5⟨v3,p3,rfl,nr,UZ⟩;obtain⟨a3,c3,rfl⟩:=UZ.el.shape;have u7:aq m5 [p3,m]:=(((aq.jN (a:=[p3]) nr zv).dV 1).dV 1);refine⟨(QL u w,nY J),0,a3,c3,p3,by rw[e],by rw[e],by simp[QL],u7,UZ.ea⟩
end Go.E.Y
namespace Go.Proofs
open Go.Shelf
def Tryz.QB:Go.Shelf.Ren:=⟨λ|103=>311|210=>365|206=>320|n=>n,λ|9=>9|4=>4|24=>415|3=>3|n=>n,λ|n=>n⟩
theorem Tryz.ag5:Go.Proofs.Lays.n103 Tryz.prog Tryz.QB:=by repeat' first|kernel_rfl|exact λ_=>rfl|decide|constructor
open Go.RowKit in
theorem Tryz.strings_CutPrefix(s p:ByteArray)(w:World):
  Calls Tryz.prog 311 #[.string s,.string p] w λe w'=>e= .returned (.tuple #[.string ⟨(Lib.trimPrefix s.data.toList p.data.toList).toArray⟩,.bool (Lib.hasPrefix s.data.toList p.data.toList)])/\w'=w:=Any.strings_CutPrefix Tryz.ag5 s p w
def Tryz.NB:Go.Shelf.Ren:=⟨λ|171=>153|243=>233|246=>317|283=>368|284=>369|285=>370|286=>371|129=>305|317=>399|318=>400|319=>401|320=>402|337=>438|338=>439|n=>n,λ|3=>3|9=>9|2=>2|4=>4|171=>467|0=>0|53=>47|37=>118|5=>5|173=>469|212=>499|51=>193|20=>20|213=>500|46=>247|232=>59|233=>554|n=>n,λ|17=>0|18=>4|19=>5|n=>n⟩
theorem Tryz.ac1:Go.Proofs.LaysM.n171 Tryz.prog Tryz.NB:=by repeat' first|kernel_rfl|exact λ_=>rfl|decide|constructor
open Go.RowKit Go.Sort Go.Lib in
theorem Tryz.strconv_Itoa(n:Int)(h0: -9223372036854775808<=n)(h1:n<=9223372036854775807)(w:World)(atT:Lib.TabIs Tryz.prog w "internal/strconv.uint64pow10" .u64 Lib.pow10Tab):
  Calls Tryz.prog 153 #[.int .i64 n] w λe w'=>e= .returned (.string ⟨(Lib.itoa n).toArray⟩)/\∃k os,w'=grow (w.drewN k) os:=Any.strconv_Itoa Tryz.ac1 n h0 h1 w atT
def Tryz.NC:Go.Shelf.Ren:=⟨λ|172=>312|244=>366|245=>367|247=>394|279=>395|280=>396|281=>397|282=>398|287=>435|316=>436|171=>153|205=>437|321=>463|322=>464|243=>233|246=>317|283=>368|284=>369|285=>370|286=>371|129=>305|317=>399|318=>400|319=>401|320=>402|337=>438|338=>439|n=>n,λ|9=>9|3=>3|75=>353|76=>354|4=>4|5=>5|167=>492|37=>118|0=>0|85=>493|2=>2|168=>495|53=>47|175=>526|46=>247|210=>530|127=>427|145=>553|143=>551|21=>21|171=>467|173=>469|212=>499|51=>193|20=>20|213=>500|232=>59|233=>554|80=>356|n=>n,λ|15=>2|16=>3|17=>0|18=>4|19=>5|n=>n⟩
theorem Tryz.HD:Go.Proofs.LaysC.n172 Tryz.prog Tryz.NC:=by repeat' first|kernel_rfl|exact λ_=>rfl|decide|constructor
open Go.RowKit in
theorem Tryz.strconv_Atoi_ok(s:ByteArray)(auw:s.size<=9223372036854775806)(v:Int)(h:Lib.atoiAll s.data.toList= .ok v)(w:World):
  Calls Tryz.prog 312 #[.string s] w λe w'=>e= .returned (.tuple #[.int .i64 v,.nilIface])/\(w'=w\/∃t,w'=Lib.bytesWorld w 5 t):=Any.strconv_Atoi_ok Tryz.HD s auw v h w
open Go.RowKit in
theorem Tryz.strconv_Atoi_syntax_var(s:ByteArray)(alk:s.size<=281474976710656)(h:Lib.atoiAll s.data.toList=Lib.atoiAll [])(tp:TypeId)(p:Value)(w:World)(akZ:w.var? Tryz.prog "strconv.ErrSyntax" =some #[.iface tp p]):
  Calls Tryz.prog 312 #[.string s] w λe w'=>∃N,e= .returned (.tuple #[.int .i64 0,.iface 495 (.pointer (some ⟨N,0,none⟩))])/\w.heap.size<=N/\w'.heap[N]?=some (.cells #[.string ⟨#[65,116,111,105]⟩,.string s,.iface tp p] 530 (0,0))/\Below w.heap.size w w':=Any.strconv_Atoi_syntax_var Tryz.HD s alk h tp p w akZ
open Go.RowKit in
theorem Tryz.strconv_Atoi_range_var(s:ByteArray)(alk:s.size<=281474976710656)(h:Lib.atoiAll s.data.toList= .range)(tp:TypeId)(p:Value)(w:World)(akZ:w.var? Tryz.prog "strconv.ErrRange" =some #[.iface tp p]):
  Calls Tryz.prog 312 #[.string s] w λe w'=>∃N,e= .returned (.tuple #[.int .i64 (Lib.atoiSat s.data.toList),.iface 495 (.pointer (some ⟨N,0,none⟩))])/\w.heap.size<=N/\w'.heap[N]?=some (.cells #[.string ⟨#[65,116,111,105]⟩,.string s,.iface tp p] 530 (0,0))/\Below w.heap.size w w':=Any.strconv_Atoi_range_var Tryz.HD s alk h tp p w akZ
def Tryz.EC:Go.Shelf.Ren:=⟨λ|105=>154|212=>234|99=>235|165=>236|166=>237|170=>238|169=>239|263=>318|264=>319|206=>320|240=>321|241=>322|276=>372|277=>373|n=>n,λ|9=>9|3=>3|4=>4|20=>20|0=>0|46=>247|109=>346|5=>5|72=>351|76=>354|51=>193|146=>423|53=>47|148=>425|70=>349|37=>118|75=>353|127=>427|164=>471|80=>356|n=>n,λ|n=>n⟩
theorem Tryz.ag4:Go.Proofs.Lays.n105 Tryz.prog Tryz.EC:=by repeat' first|kernel_rfl|exact λ_=>rfl|decide|constructor
theorem Tryz.CP:Builder.Extra Tryz.prog Tryz.EC:=by repeat' first|kernel_rfl|exact λ_=>rfl|decide|constructor
open Go.RowKit Go.Lib in
theorem Tryz.strings_Repeat(s:ByteArray)(c:Nat)(w:World)(hc:c<=9223372036854775807)(hlen:s.size*c<=140737488355328):
  Calls Tryz.prog 154 #[.string s,.int .i64 c] w λe w'=>e= .returned (.string ⟨(Lib.repeatL s.data.toList c).toArray⟩)/\Below w.heap.size w w':=Any.strings_Repeat Tryz.ag4 Tryz.CP s c w hc hlen
end Go.Proofs
namespace Go.E.Y
open Go.Proofs Go.RowKit
variable{W:World}
theorem ui{m:aD}{W':World}(hW:mg m W)(h:Below W.heap.size W W')(hd:sZ m W->W.drawn<=W'.drawn):cr m W m W':=by
 refine⟨λb o hb=>?_,h.size,h.tape,h.os,h.output,λb hb hm=>⟨hm,h.block b hb⟩,hd⟩;rw[h.block b (hW.lt hb)];exact hW b o hb
theorem VY{m:aD}(hW:mg m W)(k:Nat)(os:Array Obj):cr m W m (Sort.grow (W.drewN k) os):=by
 have e:∀b,b<W.heap.size->(Sort.grow (W.drewN k) os).heap[b]?=W.heap[b]?:=λb hb=>by
  show(W.heap++os)[b]?=_
  grind
 refine⟨λb o hb=>?_,?_,rfl,rfl,rfl,λb hb hm=>⟨hm,e b hb⟩,λ_=>Nat.le_add_right _ _⟩
 ·rw[e b (hW.lt hb)];exact hW b o hb
 grind
theorem Bu{m:aD}{W':World}(hW:mg m W)(h:W'=W):cr m W m W':=by subst h;exact cr.refl hW
theorem rQ{f:FuncId}{fn:Func}(h1:Tryz.prog.funcs[f]?=some fn) (h2:(fn.name== "runtime.NumGoroutine")=false) (h3:fn.body.isSome=true):wP tP f:=λargs w=>by
 obtain⟨c,h3⟩:=mh.1 h3
 have OS:¬fn.name= "runtime.NumGoroutine" :=by simpa using h2
 simp[callFunc,h1,h3,OS]
structure jZ(m:aD):Prop where
 syn:∃tp p T fr,m 2=some (.cells #[.iface tp p] T fr)
 rng:∃tp p T fr,m 3=some (.cells #[.iface tp p] T fr)
 tab:∃T fr,m 0=some (.cells (Lib.pow10Tab.map λz=>Value.int .u64 z).toArray T fr)
theorem jZ.sub{m m':aD}(h:jZ m)(hs:cL m m'):jZ m':=by
 obtain⟨⟨a,b,c,d,h1⟩,⟨a',b',c',d',h2⟩,⟨e,f,h3⟩⟩:=h;exact⟨⟨a,b,c,d,hs _ _ h1⟩,⟨a',b',c',d',hs _ _ h2⟩,⟨e,f,hs _ _ h3⟩⟩
theorem jZ.aj2{m:aD}(h:jZ m){p:Prop}:sZ m W->p:=λs=>by
 obtain⟨tp,q,T,fr,h1⟩:=h.syn;have h2:=s.1;rw[h1]at h2;cases h2
theorem aqV:Tryz.prog.globalNamed "strconv.ErrSyntax" =some 2:=by kernel_rfl
theorem aqW:Tryz.prog.globalNamed "strconv.ErrRange" =some 3:=by kernel_rfl
theorem aqU:Tryz.prog.globalNamed "internal/strconv.uint64pow10" =some 0:=by kernel_rfl
theorem abg{m:aD}(hW:mg m W){name:String}{g:Nat}{cs:Array Value}{T:TypeId}{fr:Nat×Nat}(hg:Tryz.prog.globalNamed name=some g)(h:m g=some (.cells cs T fr)):W.var? tP name=some cs:=by
 unfold World.var?;rw[hg];simp only[Option.bind_some,hW _ _ h]
theorem LI{m:aD}(hg:jZ m){n:Int}(h0: -9223372036854775808<=n)(h1:n<=9223372036854775807):eN tP 153 [.v (.int .i64 n)] m [.v (.string ⟨(Lib.itoa n).toArray⟩)]:=by
 obtain⟨T,fr,ht⟩:=hg.tab;refine⟨rQ Tryz.func153 (by kernel_rfl) (by kernel_rfl),λ_ W hW=>?_⟩;exact(Tryz.strconv_Itoa n h0 h1 W (abg hW aqU ht)).mono λe W' ⟨h2,k,os,h3⟩=>⟨[.v (.string ⟨(Lib.itoa n).toArray⟩)],m,h2,by intro x hx;simp at hx;subst hx;rfl,⟨rfl,rfl⟩,by subst h3;exact VY hW k os⟩
variable{s:ByteArray}
theorem Ep{m:aD}(hg:jZ m){c:Nat}(h:s.size*c<=1000000)(hc:c<=1000000):eN tP 154 [.v (.string s),.v (.int .i64 c)] m [.v (.string ⟨(Lib.repeatL s.data.toList c).toArray⟩)]:=by
 refine⟨rQ Tryz.func154 (by kernel_rfl) (by kernel_rfl),λ_ W hW=>?_⟩;exact(Tryz.strings_Repeat s c W (by omega) (by omega)).mono λe W' ⟨h2,h3⟩=>⟨[.v (.string ⟨(Lib.repeatL s.data.toList c).toArray⟩)],m,h2,by intro x hx;simp at hx;subst hx;rfl,⟨rfl,rfl⟩,ui hW h3 (hg.aj2)⟩
theorem ID{m:aD}{p:ByteArray}:eN tP 311 [.v (.string s),.v (.string p)] m [.v (.string ⟨(Lib.trimPrefix s.data.toList p.data.toList).toArray⟩),.v (.bool (Lib.hasPrefix s.data.toList p.data.toList))]:=by
 refine⟨rQ Tryz.func311 (by kernel_rfl) (by kernel_rfl),λ_ W hW=>?_⟩;exact(Tryz.strings_CutPrefix s p W).mono λe W' ⟨h2,h3⟩=>⟨[.v (.string ⟨(Lib.trimPrefix s.data.toList p.data.toList).toArray⟩),.v (.bool (Lib.hasPrefix s.data.toList p.data.toList))],m,h2,by intro x hx;simp at hx;rcases hx with rfl|rfl<;>rfl,⟨rfl,rfl⟩,Bu hW h3⟩
def S2(s:ByteArray)(r:List CV):Prop:=match Lib.atoiAll s.data.toList with
 | .ok v=>r=[.v (.int .i64 v),.v .nilIface]
 |_=>∃n te pe,r=[.v (.int .i64 n),.v (.iface te pe)]
theorem Ee{m:aD}(hg:jZ m)(hs:s.size<=1000000):bi tP 312 [.v (.string s)] m λr m'=>S2 s r/\m'=m:=by
 obtain⟨tp,p,T,fr,h1⟩:=hg.syn;obtain⟨tp',p',T',fr',h2⟩:=hg.rng;refine⟨rQ Tryz.func312 (by kernel_rfl) (by kernel_rfl),λ_ W hW=>?_⟩;unfold S2
 cases h:Lib.atoiAll s.data.toList with
 |ok v=>
  refine(Tryz.strconv_Atoi_ok s (by omega) v h W).mono λe W' ⟨e1,e2⟩=>⟨[.v (.int .i64 v),.v .nilIface],m,e1,by intro x hx;simp at hx;rcases hx with rfl|rfl<;>rfl,⟨rfl,rfl⟩,?_⟩;rcases e2 with rfl|⟨t,rfl⟩
  ·exact cr.refl hW
  ·exact ui hW (Lib.bytesWorld_below _ _ _) (λ_=>Nat.le_succ _)
 |range=>
  refine(Tryz.strconv_Atoi_range_var s (by omega) h tp' p' W (abg hW aqW h2)).mono λe W' ⟨N,e1,_,_,e2⟩=>⟨[.v (.int .i64 _),.v (.iface _ (.pointer (some ⟨N,0,none⟩)))],m,e1,by intro x hx;simp at hx;rcases hx with rfl|rfl<;>rfl,⟨⟨_,_,_,rfl⟩,rfl⟩,ui hW e2 hg.aj2⟩
 |_=>
  refine(Tryz.strconv_Atoi_syntax_var s (by omega) h tp p W (abg hW aqV h1)).mono λe W' ⟨N,e1,_,_,e2⟩=>⟨[.v (.int .i64 0),.v (.iface _ (.pointer (some ⟨N,0,none⟩)))],m,e1,by intro x hx;simp at hx;rcases hx with rfl|rfl<;>rfl,⟨⟨_,_,_,rfl⟩,rfl⟩,ui hW e2 hg.aj2⟩
end Go.E.Y
