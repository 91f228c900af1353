import Derived.Test.YtikipjbkjcefbaaGreatDoorNodeOwnsZ2
import Derived.Shelf.SlSortCmp.NoneTotal
import Derived.Shelf.Strings.Builder1
import Derived.Shelf.Strings.Builder2
import Derived.Shelf.Small.Bits
import Derived.Shelf.Small.Strs
import Derived.Shelf.Small.Wraps
import Derived.Shelf.Strings.BuilderF
import Derived.Shelf.Strconv.Atoi
import Derived.Shelf.Strconv.Itoa0
import Derived.Shelf.Strconv.Itoa1
import Derived.Shelf.LaysM
import Derived.Shelf.Strconv.Itoa2
import Derived.Shelf.Strconv.Itoa3
import Derived.Shelf.Strconv.AtoiErrFast
import Derived.Shelf.Strconv.ParseIntEmpty
import Derived.Shelf.Strconv.AtoiFail
import Derived.Shelf.Strconv.Clone
import Derived.Shelf.Strconv.SyntaxError
import Derived.Shelf.LaysC
import Derived.Shelf.Strconv.ToError
import Derived.Shelf.Strconv.Lower
import Derived.Shelf.Strconv.ParseUint10
import Derived.Shelf.Strconv.ParseUint10Empty
import Derived.Shelf.Strconv.ParseUint10Any
import Derived.Shelf.Strconv.ParseInt10
import Derived.Shelf.Strconv.AtoiLong
import Derived.Shelf.Strconv.AtoiInnerAll
import Derived.Shelf.Strconv.RangeError
import Derived.Shelf.Strconv.ToErrorRange
import Derived.Shelf.Strconv.AtoiAll
import Derived.Shelf.Strconv.ErrVarAll
import Derived.Shelf.Strings.Prefix
import Derived.Shelf.Bits.Mul64
import Derived.Shelf.Strings.Repeat
import Derived.Shelf.Slices.In.SortNone
import Derived.Lib.AtoiAll
import Derived.Lib.ItoaNum
import Derived.Lib.Repeat
import Derived.Lib.Strings
import Derived.MapKept
import Derived.Laws.NewFold
import Derived.Shelf.Slices.In.SortAlone
set_option maxHeartbeats 40000000
set_option maxRecDepth 100000
set_option linter.unusedVariables false
noncomputable section
namespace Go.E
open Go.Proofs Go.Shelf Go.RowKit Go.Lib Go.Sort
theorem cr.aqS{W W':World}{m':aD}(h:cr iI W m' W')(hd:W.drawn<=W'.drawn):∃q os,W'=grow (W.drewN q) os:=by
 refine⟨W'.drawn-W.drawn,W'.heap.extract W.heap.size W'.heap.size,?_⟩
 have e1:W'.heap=W.heap++W'.heap.extract W.heap.size W'.heap.size:=by
  refine Array.ext_getElem? λi=>?_;by_cases hi:i<W.heap.size
  ·rw[fI hi];exact(h.frame i hi rfl).2
  ·rw[Array.getElem?_append_right (by omega),Array.getElem?_extract]
   have:=h.size;split
   ·congr 1;omega
   ·rw[Array.getElem?_eq_none];omega
 have e2:W'.drawn=W.drawn+(W'.drawn-W.drawn):=by omega
 have h1:=h.tape;have h2:=h.os;have h3:=h.output
 cases W' with
 |mk heap tape drawn os output=>
  simp only at e1 e2 h1 h2 h3;subst h1 h2 h3
  show World.mk _ _ _ _ _=World.mk _ _ _ _ _
  rw[World.mk.injEq];exact⟨e1,rfl,e2,rfl,rfl⟩
theorem J7{m:aD}{W:World}(hW:mg m W){b o k:Nat}{arr:Array Value}{T:TypeId}{fr:Nat×Nat}(hb:m b=some (.cells arr T fr))(d:Array Value)(os:Array Obj):
  cr m W (m.set b (.cells (Sort.putCells id o d arr) T fr)) (Sort.grow (Sort.putRow id (Sort.ahead W k) b o d) os):=by
 have yD:=hW _ _ hb;have bH:=hW.lt hb
 have Bg:∀x,x<W.heap.size->(Sort.grow (Sort.putRow id (Sort.ahead W k) b o d) os).heap[x]?=if b=x then some (.cells (Sort.putCells id o d arr) T fr)else W.heap[x]?:=λx hx=>by
  have e:(Sort.grow (Sort.putRow id (Sort.ahead W k) b o d) os).heap=W.heap.modify b (Sort.onCells (Sort.putCells id o d))++os:=rfl;rw[e,fI (by simpa using hx),vH];by_cases h:b=x
  ·subst h;simp[yD,Sort.onCells]
  ·simp[h]
 refine⟨λx u hx=>?_,?_,rfl,rfl,rfl,λx hx hn=>?_,λ_=>Nat.le_add_right _ _⟩
 ·by_cases h:x=b
  ·subst h;rw[aD.bg]at hx;rw[Bg _ bH,aC rfl];exact hx
  ·rw[aD.eH _ _ h]at hx
   rw[Bg _ (hW.lt hx),if_neg (Ne.symm h)];exact hW _ _ hx
 ·show W.heap.size<=(W.heap.modify b (Sort.onCells (Sort.putCells id o d))++os).size
  simp
 ·have h:x≠b:=λe=>by subst e;rw[hb]at hn;cases hn
  exact⟨by rw[aD.eH _ _ h];exact hn,by rw[Bg _ hx,if_neg (Ne.symm h)]⟩
theorem flatK_at{α:Type}[Inhabited α]{enc:α->List Value}{k:Nat}(h:fp enc k){E:List α}{t:Nat}(ht:t<E.length*k):(E.flatMap enc)[t]?=some (flatK enc k E.toArray)[t]! :=by
 have JL:=h.pos;have hq:t/k<E.length:=lI (by rw[lH];exact ht);have hr:=fo t JL;have hl:t%k<(enc E[t/k]).length:=by rw[h.len];exact hr
 have e1:=h.at hq (az hl);rw[lH,Jh]at e1;rw[e1,get_flatK _ _ _ _ (by simpa using ht)]
 congr 1
 have e2:E.toArray[t/k]! =E[t/k]:=by simp[hq]
 rw[e2];simp[hl]
section
variable {P:Program}{ρ:Ren}{α:Type} [Inhabited α]
theorem PB(L:SlLaysF0.n6 P ρ){k:Nat}(aE:∀w,(isAgg (ρ.t 24)).run P w= .ok true w)(zE:∀w,(Go.sizeOf (ρ.t 24)).run P w= .ok k w){enc:α->List Value}(hk:fp enc k){cf:α->α->Int}(hO:SWO (ltOf cf))(hT:∀x y,(ltOf cf) x y=false->(ltOf cf) y x=false->x=y){g:Nat}
  {parts:α->LB} (hp:∀x,LB.cz (parts x)=enc x) (hpo:∀x,LB.ok (parts x)) (hcf:∀x y,bi P g [.a (parts x),.a (parts y)] iI λr _=>r=[i64 (cf x y)])
  {m:aD}{W:World} (hW:mg m W) (hS:sZ iI W) {e:TypeId}{v:Value}{E:List α} (hv:mf m e k v (E.flatMap enc)) (hl:E.length<=1000000000):
  Calls P (ρ.f 6) ([CV.v v,Aj g].map CV.val).toArray W λed W'=>∃r m',ed= .returned (gm r)/\(∀x∈r,x.ok)/\(r=[]/\mf m' e k v ((E.mergeSort λx y=>!ltOf cf y x).flatMap enc))/\cr m W m' W':=by
 rcases hv with⟨rfl,e0⟩|⟨b,o,c,n,arr,rfl,h1,h2,h3,h4,h5,h6⟩
 ·have hE:E=[]:=cB (hk.count (n:=0) (by rw[e0];simp))
  subst hE;exact(AnyF.slices_SortFunc_none L none 0 _ W).mono λe W' ⟨h1,h2⟩=>⟨[],m,h1,by simp,⟨rfl,.inl ⟨rfl,by simp⟩⟩,by subst h2;exact cr.refl hW⟩
 ·have hn:E.length=n:=hk.count h2
  subst hn;have yD:=hW _ _ h1;have bH:b<W.heap.size:=hW.lt h1
  have hH:HoldsK enc k W b o E.toArray:=λj hj=>by
   have hj':j<E.length*k:=by simpa [size_flatK]using hj
   refine⟨?_,by simp[World.frozen?,yD]⟩;rw[iO yD];exact h5 j _ (flatK_at hk hj')
  have au2:CmpLays P g #[] enc k cf b o E.toArray.size W:=λn1 os1 dk1 _ x y=>by
   have hc:=(hcf x y).2 (by intro z hz;simp at hz;rcases hz with rfl|rfl<;>exact hpo _) (sortWorldK enc k W b o n1 dk1 os1) (λ_ _ h=>by cases h);simp only[aZ,lK,CV.val,hp]at hc;refine Calls.mono hc ?_;rintro e W'⟨r,m',rfl,_,rfl,ha⟩;refine⟨rfl,ha.aqS (ha.drawn (hS.lB ?_ λ_ _=>rfl))⟩
   show W.heap.size<=(W.heap.modify b (Sort.onCells (Sort.putCells id o (flatK enc k dk1)))++os1).size
   simp
  have hc:=AnyQ.slices_SortFunc_total L k aE zE enc hk.len hk.one cf hO g #[] b o c E.toArray W (hcf default default).1 au2 hH bH (by simp;omega) hT
  simp only[dM]at hc;refine hc.mono λe W' ⟨he,q,os,hw⟩=>?_;subst he;subst hw;have Ad:(flatK enc k (E.mergeSort λx y=>!ltOf cf y x).toArray).size=E.length*k:=by rw[size_flatK];simp
  refine⟨[],_,rfl,by simp,⟨rfl,.inr ⟨b,o,c,E.length,_,rfl,aD.bg ..,by rw[hk.wC,eW],h3,?_,λj u hu=>?_,hk.DW⟩⟩,J7 hW h1 _ _⟩
  ·simp only[Sort.putCells,Array.size_mapIdx];exact h4
  ·have EN:j<E.length*k:=by have:=(aQ.1 hu).1;rw[hk.wC,eW]at this;exact this
   have aut:E.length*k<=c*k:=cS _ h3;have JM:o+j<arr.size:=by omega
   rw[Sort.putCells,Array.getElem?_mapIdx,Array.getElem?_eq_getElem JM,dZ,aC ⟨by omega,by omega⟩,show o+j-o=j by omega];rw[flatK_at hk (by rw[eW];exact EN)]at hu;exact hu
theorem xO(es:wP P (ρ.f 6))(L:SlLaysF0.n6 P ρ){k:Nat}(aE:∀w,(isAgg (ρ.t 24)).run P w= .ok true w)(zE:∀w,(Go.sizeOf (ρ.t 24)).run P w= .ok k w){enc:α->List Value}(hk:fp enc k){cf:α->α->Int}(hO:SWO (ltOf cf))(hT:∀x y,(ltOf cf) x y=false->(ltOf cf) y x=false->x=y){g:Nat}
  {parts:α->LB} (hp:∀x,LB.cz (parts x)=enc x) (hpo:∀x,LB.ok (parts x)) (hcf:∀x y,bi P g [.a (parts x),.a (parts y)] iI λr _=>r=[i64 (cf x y)])
  {m p:aD}{l:List aD}{i:Nat} (hS:cK m) (hs:aq m l) (hi:l[i]?=some p) {e:TypeId}{v:Value}{E:List α} (hv:mf p e k v (E.flatMap enc)) (hl:E.length<=1000000000):
  bi P (ρ.f 6) [.v v,Aj g] m λr m'=>∃p',r=[]/\aq m' (l.set i p')/\mf p' e k v ((E.mergeSort λx y=>!ltOf cf y x).flatMap enc):=by
 refine⟨es,λ_ W hW=>?_⟩;have bM:=hs.pick hi;refine(PB L aE zE hk hO hT hp hpo hcf (hW.sub (hs.at hi)) (hS W hW) hv hl).mono ?_;rintro ed W'⟨r,p',h1,h2,⟨h3,h4⟩,h5⟩;obtain⟨m',h6,h7⟩:=h5.Bm bM hW;exact⟨r,m',h1,h2,⟨p',h3,aq.Gb hi h6,h4⟩,h7⟩
end
theorem brs{P:Program}{f:FuncId}{B:Func}(h1:(((P.funcs[f]?.getD B).name)== "runtime.NumGoroutine")=false) (h2:P.funcs[f]?=some {B with name:=(P.funcs[f]?.getD B).name}):Bears P f B:=⟨_,h1,h2⟩
end Go.E
namespace Go.E.Y
open Go.Proofs Go.Shelf Go.Sort Go.Lib
def aoC:Go.Shelf.Ren:=⟨rF [(6,305),(14,358),(15,188),(20,398),(21,399),(22,400),(23,401),(24,402),(25,403),(26,404),(27,405),(28,279),(29,280),(46,444),(47,339),(48,340),(49,445),(50,446),(57,472)],rF [(0,0),(3,3),(4,4),(5,5),(9,9),(22,77),(24,134),(25,316),(39,193),(45,367),(46,368),(50,348),(53,119),(55,31),(66,430),(70,434),(76,475),(77,284)],λn=>n⟩
theorem aji:SlLaysF0.n6 tP aoC:=by repeat' first|kernel_rfl|exact λ_=>rfl|(apply brs<;>kernel_rfl)|decide|constructor
instance:Inhabited En:=⟨(0,0,0,0)⟩
theorem Ol:wP tP 305:=aji.f6.enters rfl
theorem Yy{cf:En->En->Int}(hO:SWO (ltOf cf))(hT:∀x y,(ltOf cf) x y=false->(ltOf cf) y x=false->x=y){g:Nat}(hcf:∀x y,bi tP g [Nv x,Nv y] iI λr _=>r=[i64 (cf x y)])
  {m p:aD}{l:List aD}{i:Nat} (hS:cK m) (hs:aq m l) (hi:l[i]?=some p) {v:Value}{E:List En} (hv:No p v E) (hl:E.length<=1000000000):
  bi tP 305 [.v v,Aj g] m λr m'=>∃p',r=[]/\aq m' (l.set i p')/\No p' v (E.mergeSort λx y=>!ltOf cf y x):=
 xO (ρ:=aoC) Ol aji (k:=4) Tryz.isAgg134 Tryz.sizeOf134 mr hO hT (parts:=λx=>[.one (.int .i64 x.1),.one (.int .i64 x.2.1),.one (.int .u64 x.2.2.1),.one (.int .i64 x.2.2.2)]) (λ_=>rfl) (λ_=>⟨rfl,rfl,rfl,rfl,trivial⟩) hcf hS hs hi hv hl
variable{m:aD}{v:Value}{E:List En}{b:Nat}
theorem B5{F:Nat}{p:En->Bool}(hv:Na m v E)(hF:∀e∈E,eN tP F [Nv e,cx b] m [bR (p e)])(hl:E.length<=100000000):eN tP 304 [.v v,(l5 F b)] m [i64 (sH p E)]:=by
 obtain⟨a,c,rfl⟩:=hv.shape;refine ub Tryz.func304 ?_;refine .mk (ι:=Nat) (λi=>E.length-i) (λi mm=>i<=E.length/\(∀x∈E.take i,p x=false)/\mm=m) (λi=>[(0,.c (.v (.slice a E.length c))),(1,.c (l5 F b)),(7,.c (i64 E.length)),(8,.c (i64 i))]) (λ_=>[]) 0 ⟨by omega,by simp,rfl⟩ ?_ ?_
 ·exact Cr
 rintro i mm⟨hi,cM,he⟩;subst mm;apply bI<;>intro h
 ·have h':=ah h
  have bH:i<E.length:=by omega
  obtain⟨bl,ol,c',hh,hg⟩:=hv.real bH;injection hh with eK _ fN;subst eK;have hg:=hg i bH
  repeat refine xS ?_
  refine⟨[.one (.int .i64 E[i].1),.one (.int .i64 E[i].2.1),.one (.int .u64 E[i].2.2.1),.one (.int .i64 E[i].2.2.2)],⟨rfl,rfl,rfl,rfl,trivial⟩,rfl,by simp only[bK,aA];exact hg,?_⟩;refine bt ((hF E[i] (aO bH))) ?_;have dI:E.take (i+1)=E.take i++[E[i]]:=au bH;apply bI<;>intro h
  ·exact⟨by rw[tW bH cM h],rfl⟩
  ·refine⟨i+1,⟨by omega,λx hx=>?_,rfl⟩,by omega,?_⟩
   ·rw[dI]at hx
    rcases aR.1 hx with hx|hx
    ·exact cM x hx
    ·rw[aL.1 hx];exact h
   ·exact Cr
 ·have h':=aj h
  obtain rfl:i=E.length:=by omega
  rw[aJ]at cM;exact⟨by rw[nL cM],rfl⟩
theorem w9{F:Nat}{p:En->Bool}(hv:Na m v E)(hF:∀e∈E,eN tP F [Nv e,cx b] m [bR (p e)])(hl:E.length<=100000000):eN tP 265 [.v v,(l5 F b)] m [bR (E.any p)]:=by
 obtain⟨a,c,rfl⟩:=hv.shape;refine ub Tryz.func265 ?_;refine bt (B5 hv hF hl) ?_;exact⟨by rw[tV],rfl⟩
theorem aq0(x y:En):rD [.one (.int .i64 x.1),.one (.int .i64 x.2.1),.one (.int .u64 x.2.2.1),.one (.int .i64 x.2.2.2)] [.one (.int .i64 y.1),.one (.int .i64 y.2.1),.one (.int .u64 y.2.2.1),.one (.int .i64 y.2.2.2)]=decide (x=y):=by
 have e:(x=y)↔x.1=y.1/\x.2.1=y.2.1/\x.2.2.1=y.2.2.1/\x.2.2.2=y.2.2.2:=⟨λh=>by subst h;simp,λh=>by obtain⟨a0,a1,a2,a3⟩:=x;obtain⟨b0,b1,b2,b3⟩:=y;simp only at h;simp only[cV];exact h⟩;rw[nV];simp only[rD,ceq,aB,gU,mj,bA,e]
theorem ajO(x y:En):(!rD [.one (.int .i64 x.1),.one (.int .i64 x.2.1),.one (.int .u64 x.2.2.1),.one (.int .i64 x.2.2.2)] [.one (.int .i64 y.1),.one (.int .i64 y.2.1),.one (.int .u64 y.2.2.1),.one (.int .i64 y.2.2.2)])=decide (x≠y):=by rw[aq0];simp
theorem RW{w:Value}{K:List En}(hv:Na m v E)(hw:Na m w K)(hl:E.length<=100000000):eN tP 114 [.v v,.v w] m [bR (decide (E=K))]:=by
 obtain⟨a,c,rfl⟩:=hv.shape;obtain⟨aw,cw,rfl⟩:=hw.shape;refine A4 awS Tryz.func114 ?_;apply bI<;>intro h
 ·have:E≠K:=by rintro rfl;simp at h
  rw[aY this];exact rR
 have DN:E.length=K.length:=by simp at h;omega
 rw[<-DN]at hw⊢;refine .mk (ι:=Nat) (λi=>E.length-i) (λi mm=>i<=E.length/\E.take i=K.take i/\mm=m) (λi=>[(0,.c (.v (.slice a E.length c))),(1,.c (.v (.slice aw E.length cw))),(12,.c (i64 E.length)),(13,.c (i64 i))]) (λ_=>[]) 0 ⟨by omega,by simp,rfl⟩ ?_ ?_
 ·exact Cr
 rintro i mm⟨hi,Ac,he⟩;subst mm;apply bI<;>intro h1
 ·have jc:=ah h1
  have bH:i<E.length:=by omega
  have wv:i<K.length:=by omega
  obtain⟨b,o,c',hh,hg⟩:=hv.real bH;injection hh with eK _ fN;subst eK;have S8:Na m (.slice aw K.length cw) K:=by rw[<-DN];exact hw
  obtain⟨bw,ow,c',hh,LS⟩:=S8.real wv;injection hh with eK _ fN;subst eK;have hg:=hg i bH;have LS:=LS i wv
  repeat refine xS ?_
  refine⟨[.one (.int .i64 E[i].1),.one (.int .i64 E[i].2.1),.one (.int .u64 E[i].2.2.1),.one (.int .i64 E[i].2.2.2)],⟨rfl,rfl,rfl,rfl,trivial⟩,rfl,by simp only[bK,aA];exact hg,?_⟩
  repeat refine xS ?_
  refine⟨[.one (.int .i64 K[i].1),.one (.int .i64 K[i].2.1),.one (.int .u64 K[i].2.2.1),.one (.int .i64 K[i].2.2.2)],⟨rfl,rfl,rfl,rfl,trivial⟩,rfl,by simp only[bK,aA];exact LS,?_⟩;conv=>whnf
  rw[ajO];apply bI<;>intro h2
  ·have:E≠K:=by rintro rfl;exact absurd rfl (ah h2)
   rw[aY this];exact rR
  ·have iD:E[i]=K[i]:=by simpa using h2
   refine⟨i+1,⟨by omega,by rw[au bH,au wv,Ac,iD],rfl⟩,by omega,?_⟩;exact Cr
 ·have jc:=aj h1
  obtain rfl:i=E.length:=by omega
  rw[aJ,DN,aJ]at Ac;conv=>whnf
  rw[bB Ac];exact rR
abbrev Dv(x:Dt):CV:=.a [.one (.int .i64 x.1),.one (.int .u64 x.2)]
theorem hDs:∃ti,tt.get 52=some ti/\ti.k= .slice 51:=⟨_,rfl,rfl⟩
theorem hDn:∃ti,tt.get 51=some ti/\ti.size=2/\ti.bytes=16/\LB.cz ti.zero=tm (0,0):=⟨_,rfl,rfl,rfl,rfl⟩
def Dl(m:aD)(v:Value)(E:List Dt):Prop:=gq m 2 v (E.flatMap tm)
def Do(m:aD)(v:Value)(E:List Dt):Prop:=mf m 51 2 v (E.flatMap tm)
def Da(m:aD)(v:Value)(E:List Dt):Prop:=Dl m v E\/(E=[]/\∃a,v= .slice (some a) 0 0)
variable{E:List Dt}
theorem Dl.sub{m':aD}(h:Dl m v E)(hs:cL m m'):Dl m' v E:=gq.sub h hs
theorem Do.el(h:Do m v E):Dl m v E:=mf.ky h
theorem Dl.ea(h:Dl m v E):Da m v E:=.inl h
theorem Do.ea(h:Do m v E):Da m v E:=h.el.ea
theorem Da.sub{m':aD}(h:Da m v E)(hs:cL m m'):Da m' v E:=h.imp (·.sub hs) id
theorem Do.nil(m:aD):Do m (.slice none 0 0) []:=.inl ⟨rfl,rfl⟩
theorem Da.nil(m:aD):Da m (.slice none 0 0) []:=(Do.nil m).ea
theorem Dl.shape(h:Dl m v E):∃a c,v= .slice a E.length c:=jD.shape h
theorem Da.shape(h:Da m v E):∃a c,v= .slice a E.length c:=by
 rcases h with h|⟨rfl,a,rfl⟩
 ·exact h.shape
 ·exact⟨_,_,rfl⟩
variable{i:Nat}
theorem Da.real(h:Da m v E)(hi:i<E.length):∃b o c,v= .slice (some ⟨b,o,none⟩) E.length c/\∀j (hj:j<E.length),dQ m b (o+j*2) (tm E[j]):=by
 rcases h with h|⟨rfl,_⟩
 ·exact jD.real h hi
 ·simp at hi
theorem Da.fg{m:aD}{v:Value}{E:List Dt}(h:Da m v E):fg v=E.length:=by obtain⟨a,c,rfl⟩:=h.shape;rfl
theorem Da.one(h:Da m v E):v.oneCell'=true:=by obtain⟨a,c,rfl⟩:=h.shape;rfl
theorem Da.vh{e:TypeId}(h:Da m v E):s5 m 2 (.slice e) v (E.flatMap tm):=.inl ⟨e,rfl,h.imp id λ⟨h1,h2⟩=>⟨by rw[h1];rfl,h2⟩⟩
theorem aav{p:aD}{ls:List aD}{x:Value}{news:List Dt}(hs:aq m ls)(hi:ls[i]?=some p) (hv:Do p v E) (hg:Da m x news) (hb:E.length+news.length<=100000000):
  bF tP (.builtin .append [52,52]) [.v v,.v x] m λr m'=>∃v' p',r=[.v v']/\aq m' (ls.set i p')/\Do p' v' (E++news):=by
 obtain⟨ti,h1,h2⟩:=hDs;obtain⟨ei,g1,g2,g3,g4⟩:=hDn;have e1:=hv.el.ea.fg;have e2:=hg.fg;have pY:mf p 51 ei.size v (E.flatMap tm):=by rw[g2];exact hv
 refine(kC (news:=news.flatMap tm) eR h1 h2 g1 h1 (by rw[g4,g2];rfl) hs hi pY (by rw[h2,g2];exact hg.vh) (by rw[e1,e2,g3];omega) (by rw[e1,e2];omega)).mono λr m' ⟨v',p',q1,q2,q3⟩=>⟨v',p',q1,q2,?_⟩;have:=q3.ux;rw[g2,<-dx]at this;exact this
theorem XE{e:Dt}:bF tP (.buildSlice 52 1 [0]) [Dv e] m λr m'=>∃b,m b=none/\r=[.v (.slice (some ⟨b,0,none⟩) 1 1)]/\m'=m.set b (.cells (tm e).toArray 51):=by
 obtain⟨ti,h1,h2⟩:=hDs;obtain⟨ei,g1,g2,g3,g4⟩:=hDn;exact(dm (n:=1) eR h1 h2 g1 rfl rfl (by simp[CV.cs,LB.cz,eB.cells,g2]) (by omega) (by omega)).mono λr m' ⟨b,e1,e2,e3⟩=>⟨b,e1,e2,e3⟩
theorem Do.blk1{e:Dt}(h:m b=some (.cells (tm e).toArray 51)):Do m (.slice (some ⟨b,0,none⟩) 1 1) [e]:=
 .inr ⟨b,0,1,1,_,rfl,h,rfl,aW _,aW _,λj u hu=>by rw[cD,bz];simpa using hu,jD.DW⟩
theorem ai5{p:aD}{ls:List aD}{b':Nat}{x:Dt}{y:Value}(hs:aq m ls)(hi:ls[i]?=some p) (hb:m b'=none) (hy:Do p y E) (hl:E.length<=10000000):
  bF tP (.builtin .append [52,52]) [.v y,.v (.slice (some ⟨b',0,none⟩) 1 1)] (m.set b' (.cells (tm x).toArray 51)) λr m'=>∃y' p',r=[.v y']/\aq m' (ls.set i p')/\Do p' y' (E++[x]):=by
 have bM:=hs.new hb (.cells (tm x).toArray 51);exact(aav (i:=i+1) bM (by simpa using hi) hy (Do.blk1 (aD.bg ..)).el.ea (by simp;omega)).mono λr m' ⟨v',p',h1,h2,h3⟩=>⟨v',p',h1,h2.dV 0,h3⟩
theorem al4(x y:Dt):rD [.one (.int .i64 x.1),.one (.int .u64 x.2)] [.one (.int .i64 y.1),.one (.int .u64 y.2)]=decide (x=y):=by
 have e:(x=y)↔x.1=y.1/\x.2=y.2:=⟨λh=>by subst h;simp,λh=>by obtain⟨a0,a1⟩:=x;obtain⟨b0,b1⟩:=y;simp only at h;simp only[cV];exact h⟩;rw[nV];simp only[rD,ceq,aB,gU,mj,bA,e]
theorem aq1(x y:Dt):(!rD [.one (.int .i64 x.1),.one (.int .u64 x.2)] [.one (.int .i64 y.1),.one (.int .u64 y.2)])=decide (x≠y):=by rw[al4];simp
open Go.Proofs Go.Shelf Go.Sort Go.Lib
def aoD:Go.Shelf.Ren:=⟨rF [(6,394),(14,442),(15,188),(20,464),(21,465),(22,466),(23,467),(24,468),(25,469),(26,470),(27,471),(28,279),(29,280),(46,476),(47,339),(48,340),(49,477),(50,478),(57,479)],rF [(0,0),(3,3),(4,4),(5,5),(9,9),(22,52),(24,51),(25,485),(39,193),(45,367),(46,368),(50,348),(53,119),(55,31),(66,430),(70,434),(76,475),(77,284)],λn=>n⟩
theorem ajj:SlLaysF0.n6 tP aoD:=by repeat' first|kernel_rfl|exact λ_=>rfl|(apply brs<;>kernel_rfl)|decide|constructor
instance:Inhabited Dt:=⟨(0,0)⟩
theorem Om:wP tP 394:=ajj.f6.enters rfl
theorem Yz{cf:Dt->Dt->Int}(hO:SWO (ltOf cf))(hT:∀x y,(ltOf cf) x y=false->(ltOf cf) y x=false->x=y){g:Nat}(hcf:∀x y,bi tP g [Dv x,Dv y] iI λr _=>r=[i64 (cf x y)])
  {m p:aD}{l:List aD}{i:Nat} (hS:cK m) (hs:aq m l) (hi:l[i]?=some p) {v:Value}{E:List Dt} (hv:Do p v E) (hl:E.length<=1000000000):
  bi tP 394 [.v v,Aj g] m λr m'=>∃p',r=[]/\aq m' (l.set i p')/\Do p' v (E.mergeSort λx y=>!ltOf cf y x):=
 xO (ρ:=aoD) Om ajj (k:=2) Tryz.isAgg51 Tryz.sizeOf51 jD hO hT (parts:=λx=>[.one (.int .i64 x.1),.one (.int .u64 x.2)]) (λ_=>rfl) (λ_=>⟨rfl,rfl,trivial⟩) hcf hS hs hi hv hl
theorem agx(a b:Dt):decide (Qb [sP a.1 b.1,sP a.2 b.2]<0)=qY a b:=by
 unfold qY;refine fF.2 ?_;simp only[Qb,sP];omega
theorem Ly{a b:Dt}:bi tP 443 [Dv a,Dv b] m λr m'=>r=[bR (qY a b)]/\cL m m':=by
 refine A4 avR Tryz.func443 ?_;refine fU (qu) ?_;refine bt (wJ) ?_;refine .mk _ (IN) ?_;rintro _ _⟨b1,kW,rfl,rfl⟩;refine bt (adO (Il.Je (aD.bg ..)) (by simp)) ?_;conv=>whnf
 rw[agx];exact⟨rfl,aD.bT _ kW⟩
theorem P9{a b:Dt}:bi tP 395 [Dv a,Dv b] m λr m'=>r=[i64 (VJ a b)]/\cL m m':=by
 refine ub Tryz.func395 ?_;refine aP (Ly (a:=a) (b:=b)) ?_;rintro _ m1⟨rfl,h1⟩;apply bI<;>intro h
 ·exact⟨by rw[VJ,aC h],h1⟩
 have hn:=h;refine aP (Ly (a:=b) (b:=a)) ?_;rintro _ m2⟨rfl,h2⟩;apply bI<;>intro h
 ·exact⟨by rw[VJ,if_neg (by rw[hn];simp),aC h],h1.trans h2⟩
 ·exact⟨by rw[VJ,if_neg (by rw[hn];simp),if_neg (by rw[h];simp)],h1.trans h2⟩
theorem Mv(hv:v.oneCell'=true):bi tP 357 [.v v] m λr m'=>∃b,m b=none/\r=[l5 397 b]/\m'=m.set b (.cells #[v] 52):=by
 refine A4 avZ Tryz.func357 ?_;intro b hb;refine .mk _ (df (cs:=[.pointer (some ⟨b,0,none⟩)]) (by simp[Value.oneCell'])) ?_;rintro _ _⟨rfl,rfl⟩;exact⟨b,hb,rfl,rfl⟩
theorem Jn{I:Nat->aD->Prop}{l b:Nat}{v:Value}{E:List Dt}(hn:E.length<=1000000000)(hI:∀k m,I k m->m b=some (.cells #[v] 52)/\Da m v E)
  (hy:∀k m (hk:k<E.length),I k m->CL tP l [Dv E[k]] m λr m'=>r=[.v (.bool true)]/\I (k+1) m') {m:aD} (h0:I 0 m):
  bi tP 397 [.v (.func (.yield l) #[] #[]),cx b] m λr m'=>r=[]/\I E.length m':=by
 obtain⟨g1,g2⟩:=hI 0 m h0;obtain⟨a,c,rfl⟩:=g2.shape;refine ub Tryz.func397 ?_;refine xM g1 ?_;refine .mk (ι:=Nat) (λk=>E.length-k) (λk mm=>k<=E.length/\I k mm) (λk=>[(0,.c (.v (.func (.yield l) #[] #[]))),(5,.c (.v (.slice a E.length c))),(6,.c (i64 E.length)),(7,.c (i64 k))]) (λ_=>[]) 0 ⟨by omega,h0⟩ ?_ ?_
 ·exact Cr
 rintro k mm⟨hk,hi⟩;apply bI<;>intro h1
 ·have jc:=ah h1
  have bH:k<E.length:=by omega
  obtain⟨bl,ol,c',hh,hg⟩:=(hI k mm hi).2.real bH;injection hh with eK _ fN;subst eK;have hg:=hg k bH;have I7:=hy k mm bH hi;generalize E[k]=x at hg I7
  repeat refine xS ?_
  refine⟨[.one (.int .i64 x.1),.one (.int .u64 x.2)],⟨rfl,rfl,trivial⟩,rfl,by simp only[bK,aA];exact hg,?_⟩;refine .mk _ I7 ?_;rintro _ m'⟨rfl,HR⟩;refine xN ?_;refine⟨k+1,⟨by omega,HR⟩,by omega,?_⟩;exact Cr
 ·have jc:=aj h1
  obtain rfl:k=E.length:=by omega
  exact⟨rfl,hi⟩
end Go.E.Y
namespace Go.E
variable{l:List aD}
theorem aq.aoB{m q:aD}(h:aq m (q::l)):aq m [gY l,q]/\aq (gY l) l:=by
 obtain⟨h1,h2⟩:=h;obtain⟨h3,h4⟩:=bh.1 h2;refine⟨⟨λx o hx=>?_,?_⟩,cL.refl _,h4⟩
 ·obtain⟨a,ha,Be⟩:=eQ hx
  simp only[aU,fG,rH]at ha;rcases ha with rfl|rfl
  ·obtain⟨b,hb,hx3⟩:=eQ Be
   exact h1 _ _ (jE h2 (bO _ hb) hx3)
  ·exact h1 _ _ (jE h2 (dv ..) Be)
 ·simp only[bh,aL,forall_eq,fG,false_implies,implies_true,List.Pairwise.nil,and_true]
  intro x
  cases hq:q x with
  |none=>exact .inr rfl
  |some o=>
   refine .inl (pM.2 λa ha=>?_);rcases h3 a ha x with h'|h'
   ·rw[hq]at h';cases h'
   ·exact h'
theorem aq.aoN{mm p:aD}(h:aq mm (p::l)):∃q,(∀x∈l,cL x q)/\aq mm [p,q]/\∀m' p',aq m' [p',q]->aq m' (p'::l):=by
 obtain⟨h2,h3⟩:=aq.aoB h;exact⟨gY l,λx hx=>h3.sub hx,h2.fm (List.Perm.swap _ _ _),λm' p' h4=>aq.under (a:=[p']) h4 h3⟩
theorem aq.aeR{m mm q:aD}(h:aq m [q,mm])(hs:aq mm l):aq m (q::l):=aq.under (a:=[q]) h hs
end Go.E
namespace Go.E.Y
open Go.Proofs
variable{m:aD}{e:En}
theorem rT:eN tP 207 [Nv e] m [Dv (kz e)]:=by
 refine ub Tryz.func207 ?_;exact rR
theorem ES{a b:En}:bi tP 208 [Nv a,Nv b] m λr m'=>r=[i64 (VC a b)]/\cL m m':=by
 refine A4 awv Tryz.func208 ?_;refine fU (qu) ?_;refine fU (qu) ?_;refine fU (wJ) ?_;refine bt (qu) ?_;refine .mk _ (aeP) ?_;rintro _ _⟨b1,kW,rfl,rfl⟩;refine bt (adO (Il.Je (aD.bg ..)) (by simp)) ?_;exact⟨rfl,aD.bT _ kW⟩
theorem Dz:ltOf VC=aaO:=rfl
theorem D7{a b:En}:aaO a b=false↔¬(a.1<b.1\/(a.1=b.1/\(a.2.1<b.2.1\/(a.2.1=b.2.1/\(a.2.2.1<b.2.2.1\/(a.2.2.1=b.2.2.1/\a.2.2.2<b.2.2.2)))))):=by
 rw[<-L9];simp
theorem Z7:Go.Sort.SWO aaO where
 irrefl x:=by rw[D7];omega
 trans x y z h1 h2:=by rw[L9]at*;omega
 ntrans x y z h1 h2:=by rw[D7]at*;omega
variable{x:En}
theorem Sc{y:En}(h1:aaO x y=false)(h2:aaO y x=false):x=y:=by
 rw[D7]at h1 h2
 grind
variable{p:aD}{i:Nat}{v:Value}{E:List En}
theorem aby{l:List aD}(hS:cK m)(hs:aq m l)(hi:l[i]?=some p)  (hv:No p v E) (hl:E.length<=1000000000):
  bi tP 305 [.v v,Aj 208] m λr m'=>∃p',r=[]/\aq m' (l.set i p')/\No p' v (nY E):=by
 have h:=Yy (cf:=VC) (by rw[Dz];exact Z7) (by rw[Dz];exact λx y=>Sc) (g:=208) (λx y=>ES.mono λr m' h=>h.1) hS hs hi hv hl;rw[Dz]at h;exact h
theorem Mu(hv:v.oneCell'=true):bi tP 227 [.v v] m λr m'=>∃b,m b=none/\r=[l5 306 b]/\m'=m.set b (.cells #[v] 77):=by
 refine A4 awr Tryz.func227 ?_;intro b hb;refine .mk _ (df (cs:=[.pointer (some ⟨b,0,none⟩)]) (by simp[Value.oneCell'])) ?_;rintro _ _⟨rfl,rfl⟩;exact⟨b,hb,rfl,rfl⟩
theorem Jm{I:Nat->aD->Prop}{l b:Nat}{v:Value}{E:List En}(hn:E.length<=1000000000)(hI:∀k m,I k m->m b=some (.cells #[v] 77)/\Na m v E)
  (hy:∀k m (hk:k<E.length),I k m->CL tP l [Nv E[k]] m λr m'=>r=[.v (.bool true)]/\I (k+1) m') {m:aD} (h0:I 0 m):
  bi tP 306 [.v (.func (.yield l) #[] #[]),cx b] m λr m'=>r=[]/\I E.length m':=by
 obtain⟨g1,g2⟩:=hI 0 m h0;obtain⟨a,c,rfl⟩:=g2.shape;refine ub Tryz.func306 ?_;refine xM g1 ?_;refine .mk (ι:=Nat) (λk=>E.length-k) (λk mm=>k<=E.length/\I k mm) (λk=>[(0,.c (.v (.func (.yield l) #[] #[]))),(5,.c (.v (.slice a E.length c))),(6,.c (i64 E.length)),(7,.c (i64 k))]) (λ_=>[]) 0 ⟨by omega,h0⟩ ?_ ?_
 ·exact Cr
 rintro k mm⟨hk,hi⟩;apply bI<;>intro h1
 ·have jc:=ah h1
  have bH:k<E.length:=by omega
  obtain⟨bl,ol,c',hh,hg⟩:=(hI k mm hi).2.real bH;injection hh with eK _ fN;subst eK;have hg:=hg k bH;have I7:=hy k mm bH hi;generalize E[k]=x at hg I7
  repeat refine xS ?_
  refine⟨[.one (.int .i64 x.1),.one (.int .i64 x.2.1),.one (.int .u64 x.2.2.1),.one (.int .i64 x.2.2.2)],⟨rfl,rfl,rfl,rfl,trivial⟩,rfl,by simp only[bK,aA];exact hg,?_⟩;refine .mk _ I7 ?_;rintro _ m'⟨rfl,HR⟩;refine xN ?_;refine⟨k+1,⟨by omega,HR⟩,by omega,?_⟩;exact Cr
 ·have jc:=aj h1
  obtain rfl:k=E.length:=by omega
  exact⟨rfl,hi⟩
variable{b:Nat}
theorem Fm(hb:m b=some (.cells #[v] 77))(hv:Na m v E)(hl:E.length<=1000000):
  bi tP 183 [.v (.slice none 0 0),l5 306 b] m λr m'=>∃v' p,r=[.v v']/\aq m' [p,m]/\No p v' E:=by
 refine A4 arh Tryz.func183 ?_;intro bo Xj
 refine .mk 306 #[.pointer (some ⟨b,0,none⟩)] rfl rfl rfl (ι:=Nat)
  (λk mm=>k<=E.length/\∃vo p,aq mm [p,blk1 bo (.cells #[vo] 77),m]/\No p vo (E.take k)) 0 ⟨by omega,.slice none 0 0,iI,((aq.one m).new Xj _).cA,No.nil _⟩
  (λk x j=>∃h:k<E.length,x=[Nv E[k]]/\j=k+1) (λk x j ⟨_,h1,_⟩=>by subst h1;rfl) ?_
  (λmm=>∃vo p,aq mm [p,blk1 bo (.cells #[vo] 77),m]/\No p vo E) ?_ ?_
 ·rintro k _ _ mm⟨hk,vo,p,hs,hp⟩ ⟨bH,rfl,rfl⟩
  have dI:E.take (k+1)=E.take k++[E[k]]:=au bH;generalize E[k]=x at dI;intro b4 OV;refine⟨_,_,_,aD.bg ..,⟨aW 4,Jz⟩,?_⟩;rw[BM (by rfl)];have eP:=hs.new OV (.cells (qp x).toArray 134)
  change aq (mm.set b4 (.cells (LB.cz [.one (.int .i64 x.1),.one (.int .i64 x.2.1),.one (.int .u64 x.2.2.1),.one (.int .i64 x.2.2.2)]).toArray 134)) _ at eP
  generalize mm.set b4 (.cells (LB.cz [.one (.int .i64 x.1),.one (.int .i64 x.2.1),.one (.int .u64 x.2.2.1),.one (.int .i64 x.2.2.2)]).toArray 134)=m2 at eP⊢;have hr4:dQ m2 b4 0 (qp x):=⟨_,_,_,eP.get (a:=blk1 b4 (.cells (qp x).toArray 134)) (by simp) (aG ..),λj u hu=>by rw[cD,bz];exact hu⟩;refine⟨_,aF (eP.get (a:=blk1 bo (.cells #[vo] 77)) (by simp) (aG ..)) rfl,hp.ea.one,?_⟩;refine⟨[.one (.int .i64 x.1),.one (.int .i64 x.2.1),.one (.int .u64 x.2.2.1),.one (.int .i64 x.2.2.2)],⟨rfl,rfl,rfl,rfl,trivial⟩,rfl,hr4,?_⟩;refine .mk _ (FW (e:=x)) ?_;rintro _ _⟨b5,mo,rfl,rfl⟩;refine .mk _ (Wx (i:=1) eP rfl mo hp (by rw[aK];omega)) ?_;rintro _ m6⟨vo',p',rfl,gC,tZ⟩;refine⟨_,_,_,gC.get (a:=blk1 bo (.cells #[vo] 77)) (by simp) (aG ..),⟨by simp,by simp⟩,?_⟩;have iU:=gC.gu (i:=2) rfl (aG ..) (.cells #[vo'] 77);rw[cJ]at iU;refine⟨by omega,vo',p',iU.drop,?_⟩;rw[dI];exact tZ
 ·intro lb ob _ sI
  refine(Jm (I:=λk mm=>∃m1,(k<=E.length/\∃vo p,aq m1 [p,blk1 bo (.cells #[vo] 77),m]/\No p vo (E.take k))/\m1 lb=none/\mm=m1.set lb ob) (l:=lb) (b:=b) (v:=v) (E:=E) (by omega) ?_ ?_ ⟨_,⟨lF _,.slice none 0 0,iI,((aq.one m).new Xj _).cA,No.nil _⟩,by assumption,rfl⟩).mono ?_
  ·rintro k mm⟨m1,⟨_,vo,p,hs,_⟩,hl,rfl⟩
   have iH:cL m (m1.set lb ob):=(hs.sub).trans (aD.bT _ hl);exact⟨iH _ _ hb,hv.sub iH⟩
  ·rintro k mm hk⟨m1,hi,hl,rfl⟩
   exact sI k _ _ m1 hi ⟨hk,rfl,rfl⟩ hl
  ·rintro r m'⟨rfl,m1,⟨_,vo,p,hs,hp⟩,hl,rfl⟩
   rw[aJ]at hp;exact⟨m1,⟨vo,p,hs,hp⟩,hl,rfl⟩
 ·rintro mm⟨vo,p,hs,hp⟩
  refine⟨vo,aF (hs.get (a:=blk1 bo (.cells #[vo] 77)) (by simp) (aG ..)) rfl,hp.ea.one,?_⟩;exact⟨vo,p,rfl,hs.dV 1,hp⟩
theorem J4(hb:m b=some (.cells #[v] 77))(hv:Na m v E)(hl:E.length<=1000000):
  bi tP 184 [l5 306 b] m λr m'=>∃v' p,r=[.v v']/\aq m' [p,m]/\No p v' E:=by
 refine ub Tryz.func184 ?_;refine aP (Fm hb hv hl) ?_;rintro _ m1⟨v',p,rfl,hs,hp⟩;exact⟨v',p,rfl,hs,hp⟩
theorem MG(hS:cK m)(hb:m b=some (.cells #[v] 77))(hv:Na m v E)(hl:E.length<=1000000):
  bi tP 226 [l5 306 b,Aj 208] m λr m'=>∃v' p,r=[.v v']/\aq m' [p,m]/\No p v' (nY E):=by
 refine ub Tryz.func226 ?_;refine aP (J4 hb hv hl) ?_;rintro _ m1⟨v',p,rfl,hs,hp⟩;refine aP (aby (hS.sub (hs.sub)) hs (i:=0) rfl hp (by omega)) ?_;rintro _ m2⟨p1,rfl,bM,F2⟩;exact⟨v',p1,rfl,bM,F2⟩
theorem yb(hS:cK m)(hv:Na m v E)(hl:E.length<=1000000):
  bi tP 138 [.v v] m λr m'=>∃v' p,r=[.v v']/\aq m' [p,m]/\No p v' (nY E):=by
 obtain⟨a,c,rfl⟩:=hv.shape;refine ub Tryz.func138 ?_;refine aP (Mu (v:=.slice a E.length c) rfl) ?_;rintro _ m1⟨b,hb,rfl,rfl⟩;have hs:=(aq.one m).new hb (.cells #[.slice a E.length c] 77);refine aP (MG (hS.sub (hs.sub)) (aD.bg ..) (hv.sub (hs.sub)) hl) ?_;rintro _ m2⟨v',p,rfl,bZ,hp⟩;exact⟨v',p,rfl,(aq.aeR bZ hs).dV 1,hp⟩
variable{c:Nat}
theorem amd{o n:Nat}{arr:Array Value}{te:TypeId}(hb:m b=some (.cells arr te))(hn:0<n)(jH:o+n*2<=arr.size):
  bF tP (.builtin .clear [52]) [.v (.slice (some ⟨b,o,none⟩) n c)] m λr m'=>r=[]/\∃zs,zs.length=n*2/\(∀u∈zs,u.oneCell'=true)/\m'=m.set b (.cells (arr.toList.take o++zs++arr.toList.drop (o+n*2)).toArray te):=by
 obtain⟨ti,h1,h2⟩:=hDs;obtain⟨ei,g1,g2,g3,g4⟩:=hDn;have:=qw (P:=tP) eR h1 h2 g1 (by rw[g4,g2];rfl) (by rw[g4];exact jD.one _) (c:=c) hb hn (by rw[g2];exact jH);rw[g2]at this;exact this
theorem DA:ltOf VJ=qY:=by
 funext a b
 unfold ltOf VJ
 grind
theorem aae{a b:Dt}:qY a b=true↔a.1<b.1\/(a.1=b.1/\a.2<b.2):=by simp[qY]
theorem D9{a b:Dt}:qY a b=false↔¬(a.1<b.1\/(a.1=b.1/\a.2<b.2)):=by simp[qY]
theorem aad:Go.Sort.SWO qY where
 irrefl x:=by rw[D9];omega
 trans x y z h1 h2:=by rw[aae]at*;omega
 ntrans x y z h1 h2:=by rw[D9]at*;omega
theorem Sj{x y:Dt}(h1:qY x y=false)(h2:qY y x=false):x=y:=by
 rw[D9]at h1 h2
 grind
variable{E:List Dt}
theorem abz{l:List aD}(hS:cK m)(hs:aq m l)(hi:l[i]?=some p)  (hv:Do p v E) (hl:E.length<=1000000000):
  bi tP 394 [.v v,Aj 395] m λr m'=>∃p',r=[]/\aq m' (l.set i p')/\Do p' v (uP E):=by
 have h:=Yz (cf:=VJ) (by rw[DA];exact aad) (by rw[DA];exact λx y=>Sj) (g:=395) (λx y=>P9.mono λr m' h=>h.1) hS hs hi hv hl;rw[DA]at h;exact h
theorem yR(a b:Dt)(r:List Dt):gL (a::b::r)=if a=b then gL (b::r)else a::gL (b::r):=by rw[gL]
theorem Mb(a:Dt):gL [a]=[a]:=rfl
theorem Br:∀(l:List Dt) (y x:Dt),gL (l++[y,x])=if y=x then gL (l++[y])else gL (l++[y])++[x]
 |[],y,x=>by
  show gL [y,x]=if y=x then gL [y]else gL [y]++[x]
  rw[yR,Mb,Mb];by_cases h:y=x
  ·rw[aC h,aC h,h]
  ·rw[if_neg h,if_neg h];rfl
 |[a],y,x=>by
  have ih:gL [y,x]=if y=x then gL [y]else gL [y]++[x]:=Br [] y x
  show gL (a::y::[x])=if y=x then gL (a::y::[])else gL (a::y::[])++[x]
  rw[yR a y [x],yR a y []];by_cases h:a=y
  ·rw[aC h,aC h];exact ih
  ·rw[if_neg h,if_neg h,ih];split<;>rfl
 |a::b::r,y,x=>by
  have ih:gL (b::(r++[y,x]))=if y=x then gL (b::(r++[y]))else gL (b::(r++[y]))++[x]:=Br (b::r) y x
  show gL (a::b::(r++[y,x]))=if y=x then gL (a::b::(r++[y]))else gL (a::b::(r++[y]))++[x]
  rw[yR a b (r++[y,x]),yR a b (r++[y])];by_cases h:a=b
  ·rw[aC h,aC h];exact ih
  ·rw[if_neg h,if_neg h,ih];split<;>rfl
theorem abt(h:i+1<E.length):E.take (i+2)=E.take i++[E[i],E[i+1]]:=by
 rw[au h,au (by omega:i<E.length),aX];rfl
theorem IF(h:i+1<E.length):gL (E.take (i+2))=if E[i]=E[i+1]then gL (E.take (i+1))else gL (E.take (i+1))++[E[i+1]]:=by
 rw[abt h,Br,au (by omega:i<E.length)]
theorem EZ:∀{E:List Dt},E.length<2->gL E=E
 |[],_=>rfl
 |[a],_=>rfl
 |a::b::r,h=>by simp at h;omega
theorem J2{mm:aD}(hs:aq mm [p,m])(hv:Do p v E)(hl:E.length<=10000000):
  bi tP 396 [.v v] mm λr m'=>∃v' p',r=[.v v']/\aq m' [p',m]/\Do p' v' (gL E):=by
 obtain⟨a,c,rfl⟩:=hv.el.shape;refine A4 avU Tryz.func396 ?_;apply bI<;>intro h
 ·have h':=ah h
  exact⟨_,p,rfl,hs,by rw[EZ (by omega)];exact hv⟩
 have h2:2<=E.length:=by have:=aj h;omega
 obtain⟨bl,ol,c',hh,hg⟩:=hv.el.ea.real (i:=0) (by omega);injection hh with eK _ fN;subst eK;have yA:E.length<=c:=(jD.row hv).choose_spec.2.2.1;refine .mk (ι:=Nat) (λk=>E.length-k) (λk mm'=>1<=k/\k<=E.length/\gL (E.take k)=E.take k/\mm'=mm) (λk=>[(0,.c (.v (.slice (some ⟨bl,ol,none⟩) E.length c))),(3,.c (i64 k))]) (λ_=>[]) 1 ⟨by omega,by omega,EZ (by rw[aK];omega),rfl⟩ ?_ ?_
 ·exact Cr
 rintro k mm'⟨U6,hk,hcd,he⟩;subst mm';apply bI<;>intro h;rotate_left
 ·have h':=aj h
  obtain rfl:k=E.length:=by omega
  rw[aJ]at hcd;exact⟨_,p,rfl,hs,by rw[hcd];exact hv⟩
 have h':=ah h;have bH:k<E.length:=by omega
 have iH:cL p mm:=hs.sub (by simp);have Ag:=(hg k bH).sub iH;have wA:=(hg (k-1) (by omega)).sub iH;have ew:IntKind.i64.wrap ((k:Int)-1)=((k-1:Nat):Int):=by rw[wi];omega
 have dI:=IF (E:=E) (i:=k-1) (by omega);have Fb:k-1+1=k:=by omega
 have HQ:k-1+2=k+1:=by omega
 simp only[Fb,HQ]at dI
 repeat refine xS ?_
 refine⟨[.one (.int .i64 E[k].1),.one (.int .u64 E[k].2)],⟨rfl,rfl,trivial⟩,rfl,by simp only[bK,aA];exact Ag,?_⟩;conv=>whnf
 rw[ew]
 repeat refine xS ?_
 refine⟨[.one (.int .i64 (E[k-1]'(by omega)).1),.one (.int .u64 (E[k-1]'(by omega)).2)],⟨rfl,rfl,trivial⟩,rfl,by simp only[bK,aA];exact wA,?_⟩;conv=>whnf
 rw[al4];apply bI<;>intro h;rotate_left
 ·have ga:¬E[k-1]'(by omega)=E[k]:=λe=>by rw[e]at h;simp at h
  rw[if_neg ga,hcd,<-au bH]at dI;refine⟨k+1,⟨by omega,by omega,dI,rfl⟩,by omega,?_⟩;exact Cr
 have NV:E[k]=E[k-1]'(by omega):=ah h;rw[aC NV.symm,hcd]at dI
 repeat refine xS ?_
 intro o' q1 q2;obtain rfl:o'=ol+k*2:=by simpa [bK]using q1 (by omega)
 have ek:(k:Int).toNat=k:=by omega
 conv=>whnf
 rw[ek]
 refine .mk (ι:=Nat×Nat) (λi=>E.length-i.2) (λ⟨i,j⟩ mm'=>∃p Z,aq mm' [p,m]/\Do p (.slice (some ⟨bl,ol,none⟩) E.length c) Z/\Z.take i=gL (E.take (k+j))/\Z.drop (k+j-1)=E.drop (k+j-1)/\i<=k+j-1/\1<=j/\k+j<=E.length)
  (λ⟨i,j⟩=>[(0,.c (.v (.slice (some ⟨bl,ol,none⟩) E.length c))),(3,.c (i64 i)),(4,.c (.v (.slice (some ⟨bl,ol+k*2,none⟩) (E.length-k) (c-k)))),(5,.c (i64 j))]) (λ_=>[]) (k,1) ⟨p,E,hs,hv,dI.symm,rfl,by omega,by omega,by omega⟩ ?_ ?_
 ·exact Cr
 rintro⟨i,j⟩ mm' ⟨p,Z,hs,hZ,ht,hd,ZD,LR,hj⟩;have hZl:Z.length=E.length:=(jD.row hZ).choose_spec.2.1;apply bI<;>intro h
 ·have h':=ah h
  have bH:k+j<E.length:=by omega
  have hZE:∀x (hx:x<E.length),k+j-1<=x->Z[x]'(by omega)=E[x]:=λx hx Be=>by
   have:=be (λl:List Dt=>l[x-(k+j-1)]?) hd;simp only[cT,show k+j-1+(x-(k+j-1))=x by omega]at this;rw[az (by omega),az hx]at this;exact eL this
  obtain⟨OY,ol',c',hh,hg⟩:=hZ.el.ea.real (i:=0) (by omega);injection hh with eK _ fN;injection eK with eK;injection eK with kW I8;subst kW;subst I8;have iH:cL p mm':=hs.sub (by simp);have Ag:=(hg (k+j) (by omega)).sub iH;have wA:=(hg (k+j-1) (by omega)).sub iH;rw[hZE _ bH (by omega)]at Ag;rw[hZE _ (by omega) (by omega)]at wA;have dI:=IF (E:=E) (i:=k+j-1) (by omega);have Fb:k+j-1+1=k+j:=by omega
  have HQ:k+j-1+2=k+(j+1):=by omega
  simp only[Fb,HQ]at dI
  have LW:Z.drop (k+j)=E.drop (k+j):=by
   have:=be (List.drop 1) hd;rw[dU,dU,Fb]at this;exact this
  have ew:IntKind.i64.wrap ((j:Int)-1)=((j-1:Nat):Int):=by rw[wi];omega
  have eo1:ol+k*2+j*2=ol+(k+j)*2:=by omega
  have eo0:ol+k*2+(j-1)*2=ol+(k+j-1)*2:=by omega
  generalize hx:E[k+j]=x at Ag dI;generalize hy:E[k+j-1]'(by omega)=y at wA dI
  repeat refine xS ?_
  refine⟨[.one (.int .i64 x.1),.one (.int .u64 x.2)],⟨rfl,rfl,trivial⟩,rfl,by simp only[bK,aA,eo1];exact Ag,?_⟩;conv=>whnf
  rw[ew]
  repeat refine xS ?_
  refine⟨[.one (.int .i64 y.1),.one (.int .u64 y.2)],⟨rfl,rfl,trivial⟩,rfl,by simp only[bK,aA,eo0];exact wA,?_⟩;conv=>whnf
  rw[aq1];apply bI<;>intro h
  ·have ga:¬y=x:=λe=>by rw[e]at h;simp at h
   rw[if_neg ga]at dI
   repeat refine xS ?_
   refine⟨[.one (.int .i64 x.1),.one (.int .u64 x.2)],⟨rfl,rfl,trivial⟩,rfl,by simp only[bK,aA,eo1];exact Ag,?_⟩
   repeat refine xS ?_
   obtain⟨arr,k1,k2,k3⟩:=jD.set hZ (i:=i) (by omega) x;refine⟨arr,_,_,hs.sub (a:=p) (by simp) _ _ k1,⟨by simp only[bK,aA];exact k2,Jz⟩,?_⟩;have bZ:=hs.set k1 (.cells (arr.toList.take (ol+i*2)++(tm x++arr.toList.drop (ol+i*2+2))).toArray 51);simp only[bK,aA];have U6:IntKind.i64.wrap ((i:Int)+1)=((i+1:Nat):Int):=qJ (by omega);refine⟨(i+1,j+1),⟨_,Z.set i x,bZ,k3,?_,?_,by omega,by omega,by omega⟩,by simp only;omega,?_⟩
   ·rw[dI,<-ht,au (by rw[fc];omega),jq,qQ (by omega)]
   ·rw[show k+(j+1)-1=k+j by omega,km (by omega)];exact LW
   ·exact Cr
  ·have NV:y=x:=by simp at h;exact h.symm
   rw[aC NV]at dI;refine⟨(i,j+1),⟨p,Z,hs,hZ,by rw[dI];exact ht,by rw[show k+(j+1)-1=k+j by omega];exact LW,by omega,by omega,by omega⟩,by simp only;omega,?_⟩;exact Cr
 ·have h':=aj h
  have hje:k+j=E.length:=by omega
  rw[hje,aJ]at ht;obtain⟨arr,k1,k2,k3,k4,k5⟩:=jD.row hZ;have ei:(i:Int).toNat=i:=by omega
  repeat refine xS ?_
  intro o' q1 q2;have ho:o'=ol+i*2:=by simpa [bK]using q1 (by omega)
  subst ho;conv=>whnf
  rw[ei];refine .mk _ (amd (hs.sub (a:=p) (by simp) _ _ k1) (by omega) (by omega)) ?_;rintro _ m'⟨rfl,zs,QY,hz2,rfl⟩;have bZ:=hs.set k1 (.cells (arr.toList.take (ol+i*2)++zs++arr.toList.drop (ol+i*2+(E.length-i)*2)).toArray 51)
  repeat refine xS ?_
  intro o' q1 q2;obtain rfl:o'=ol:=by have:=q1 (by omega);simpa [bK]using this
  conv=>whnf
  rw[ei];refine⟨_,_,rfl,bZ,?_⟩;rw[<-ht];refine jD.mk' (aD.bg ..) (by rw[aK];omega) (by omega) ?_ λj u hu=>?_
  ·simp only[dM,ax,aK,cC,cq,QY];omega
  ·have EN:=(aQ.1 hu).1
   rw[jD.wC,aK]at EN;have Re:o'+j<o'+i*2:=by have:=cS 2 (y8 i Z.length);omega
   rw[<-jD.take,bN]at hu
   split at hu
   ·have:=k5 j u hu
    rw[bz,aX,aT (by rw[aK,cq];omega),bN,aC Re,bU];exact this
   ·cases hu
theorem aeG(l:List Dt):(gL (uP (l.filter ku))).length<=l.length:=by
 have h1:=Mc (uP (l.filter ku))
 have h2:(uP (l.filter ku)).length<=l.length:=by
  unfold uP;rw[eW];exact bC ..
 omega
theorem YB(hS:cK m)(hb:m b=some (.cells #[v] 52))(hv:Da m v E)(hl:E.length<=1000000):
  bi tP 356 [l5 397 b] m λr m'=>∃v' p,r=[.v v']/\aq m' [p,m]/\Do p v' (TW E):=by
 refine A4 av0 Tryz.func356 ?_;intro bo Xj
 refine .mk 397 #[.pointer (some ⟨b,0,none⟩)] rfl rfl rfl (ι:=Nat)
  (λk mm=>k<=E.length/\∃vo p,aq mm [p,blk1 bo (.cells #[vo] 52),m]/\Do p vo ((E.take k).filter ku)) 0 ⟨by omega,.slice none 0 0,iI,((aq.one m).new Xj _).cA,Do.nil _⟩
  (λk x j=>∃h:k<E.length,x=[Dv E[k]]/\j=k+1) (λk x j ⟨_,h1,_⟩=>by subst h1;rfl) ?_
  (λmm=>∃vo p,aq mm [p,blk1 bo (.cells #[vo] 52),m]/\Do p vo (E.filter ku)) ?_ ?_
 ·rintro k _ _ mm⟨hk,vo,p,hs,hp⟩ ⟨bH,rfl,rfl⟩
  have dI:E.take (k+1)=E.take k++[E[k]]:=au bH;generalize E[k]=x at dI;intro b4 OV;refine⟨_,_,_,aD.bg ..,⟨aW 2,Jz⟩,?_⟩;rw[BM (by rfl)];have eP:=hs.new OV (.cells (tm x).toArray 51)
  change aq (mm.set b4 (.cells (LB.cz [.one (.int .i64 x.1),.one (.int .u64 x.2)]).toArray 51)) _ at eP
  generalize mm.set b4 (.cells (LB.cz [.one (.int .i64 x.1),.one (.int .u64 x.2)]).toArray 51)=m2 at eP⊢;have hr4:dQ m2 b4 0 (tm x):=⟨_,_,_,eP.get (a:=blk1 b4 (.cells (tm x).toArray 51)) (by simp) (aG ..),λj u hu=>by rw[cD,bz];exact hu⟩;refine⟨[.one (.int .i64 x.1),.one (.int .u64 x.2)],⟨rfl,rfl,trivial⟩,rfl,hr4,?_⟩;refine bt (Eo (n:=x.1) (k:=x.2)) ?_;apply bI<;>intro h
  ·have hx:ku x=true:=h
   refine⟨_,aF (eP.get (a:=blk1 bo (.cells #[vo] 52)) (by simp) (aG ..)) rfl,hp.ea.one,?_⟩;refine⟨[.one (.int .i64 x.1),.one (.int .u64 x.2)],⟨rfl,rfl,trivial⟩,rfl,hr4,?_⟩;refine .mk _ (XE (e:=x)) ?_;rintro _ _⟨b5,mo,rfl,rfl⟩;have hfl:((E.take k).filter ku).length<=E.length:=by have h1:=bC ku (E.take k);rw[aK]at h1;omega
   refine .mk _ (ai5 (i:=1) eP rfl mo hp (by omega)) ?_;rintro _ m6⟨vo',p',rfl,gC,tZ⟩;refine⟨_,_,_,gC.get (a:=blk1 bo (.cells #[vo] 52)) (by simp) (aG ..),⟨by simp,by simp⟩,?_⟩;have iU:=gC.gu (i:=2) rfl (aG ..) (.cells #[vo'] 52);rw[cJ]at iU;refine⟨by omega,vo',p',iU.drop,?_⟩;rw[dI,aaB,List.filter_cons_of_pos hx];exact tZ
  ·have hx:¬ku x=true:=by have:ku x=false:=h;rw[this];simp
   refine⟨by omega,vo,p,eP.drop,?_⟩;rw[dI,aaB,List.filter_cons_of_neg hx];simpa using hp
 ·intro lb ob _ sI
  refine(Jn (I:=λk mm=>∃m1,(k<=E.length/\∃vo p,aq m1 [p,blk1 bo (.cells #[vo] 52),m]/\Do p vo ((E.take k).filter ku))/\m1 lb=none/\mm=m1.set lb ob) (l:=lb) (b:=b) (v:=v) (E:=E) (by omega) ?_ ?_ ⟨_,⟨lF _,.slice none 0 0,iI,((aq.one m).new Xj _).cA,Do.nil _⟩,by assumption,rfl⟩).mono ?_
  ·rintro k mm⟨m1,⟨_,vo,p,hs,_⟩,hl,rfl⟩
   have iH:cL m (m1.set lb ob):=(hs.sub).trans (aD.bT _ hl);exact⟨iH _ _ hb,hv.sub iH⟩
  ·rintro k mm hk⟨m1,hi,hl,rfl⟩
   exact sI k _ _ m1 hi ⟨hk,rfl,rfl⟩ hl
  ·rintro r m'⟨rfl,m1,⟨_,vo,p,hs,hp⟩,hl,rfl⟩
   rw[aJ]at hp;exact⟨m1,⟨vo,p,hs,hp⟩,hl,rfl⟩
 ·rintro mm⟨vo,p,hs,hp⟩
  have hfl:(E.filter ku).length<=E.length:=bC ..;refine⟨vo,aF (hs.get (a:=blk1 bo (.cells #[vo] 52)) (by simp) (aG ..)) rfl,hp.ea.one,?_⟩;refine aP (abz (hS.sub (hs.sub)) hs (i:=0) rfl hp (by omega)) ?_;rintro _ m1⟨p1,rfl,bM,F2⟩;refine⟨vo,aF (bM.get (a:=blk1 bo (.cells #[vo] 52)) (by simp) (aG ..)) rfl,hp.ea.one,?_⟩;have W9:(uP (E.filter ku)).length=(E.filter ku).length:=by unfold uP;exact eW _
  obtain⟨J,hJ,hsJ,oF⟩:=aq.aoN bM;refine aP (J2 hsJ F2 (by omega)) ?_;rintro _ m2⟨v2,p2,rfl,atY,lE⟩;have bZ:aq m2 [p2,blk1 bo (.cells #[vo] 52),m]:=oF _ _ atY;refine⟨_,_,_,bZ.get (a:=blk1 bo (.cells #[vo] 52)) (by simp) (aG ..),⟨by simp,by simp⟩,?_⟩;have dy:=bZ.gu (i:=1) rfl (aG ..) (.cells #[v2] 52);rw[cJ]at dy;have dy:aq (m2.set bo (.cells #[v2] 52)) [p2,blk1 bo (.cells #[v2] 52),m]:=dy;have ebo:(m2.set bo (.cells #[v2] 52)) bo=some (.cells #[v2] 52):=aD.bg ..;have hle:=aeG E;have jG:TW E=(gL (uP (E.filter ku))).take 2000:=rfl;rw[jG];generalize gL (uP (E.filter ku))=L at lE hle;obtain⟨a2,c2,rfl⟩:=lE.el.shape;refine xM ebo ?_;refine xM ebo ?_;conv=>whnf
  have ah5:min (L.length:Int) 2000=((min L.length 2000:Nat):Int):=by omega
  rw[ah5]
  cases a2 with
  |none=>
   have hL:L=[]:=by
    rcases lE with⟨e,h⟩|⟨b',o',c',n',arr,e,_⟩
    ·exact cB (jD.count (n:=0) (by rw[h];rfl))
    ·cases e
   subst hL
   have hc2:c2=0:=by
    rcases lE with⟨e,h⟩|⟨b',o',c',n',arr,e,_⟩
    ·injection e
    ·cases e
   subst hc2;rw[show((min ([]:List Dt).length 2000:Nat):Int)=0 from rfl]
   repeat refine xS ?_
   exact⟨_,p2,rfl,dy.dV 1,.inl ⟨rfl,rfl⟩⟩
  |some a2=>
   obtain⟨b9,o9,e9⟩:=(show ∃b o,a2=⟨b,o,none⟩ by
    rcases lE with⟨e,h⟩|⟨b',o',c',n',arr,e,_⟩
    ·cases e
    ·injection e with e;injection e with e;exact⟨_,_,e⟩)
   subst e9;obtain⟨arr,r1,r2,r3,r4,r5⟩:=jD.row lE
   repeat refine xS ?_
   intro o' q1 q2
   obtain rfl:o'=o9:=by
    by_cases h0:c2=0
    ·exact q2 h0
    ·have:=q1 h0;simpa using this
   have aqn:=jD.cut lE (i:=min L.length 2000) (by omega)
   have et:L.take (min L.length 2000)=L.take 2000:=by
    by_cases h0:L.length<=2000
    ·rw[bP (by omega),bP h0]
    ·rw[Nat.min_eq_right (by omega)]
   rw[et]at aqn;refine⟨_,p2,rfl,dy.dV 1,?_⟩;simp only[aA,Nat.sub_zero];exact aqn
theorem acu(hS:cK m)(hv:Da m v E)(hl:E.length<=1000000):
  bi tP 301 [.v v] m λr m'=>∃v' p,r=[.v v']/\aq m' [p,m]/\Do p v' (TW E):=by
 obtain⟨a,c,rfl⟩:=hv.shape;refine ub Tryz.func301 ?_;refine aP (Mv (v:=.slice a E.length c) rfl) ?_;rintro _ m1⟨b,hb,rfl,rfl⟩;have hs:=(aq.one m).new hb (.cells #[.slice a E.length c] 52);refine aP (YB (hS.sub (hs.sub)) (aD.bg ..) (hv.sub (hs.sub)) hl) ?_;rintro _ m2⟨v',p,rfl,bZ,hp⟩;exact⟨v',p,rfl,(aq.aeR bZ hs).dV 1,hp⟩
abbrev iY(v:List Int)(a:Option Addr)(n c:Nat):CV:=.a [.bG .u64 8 v,.one (.slice a n c)]
theorem awV(u w:List Int):rD [.bG .u64 8 u] [.bG .u64 8 w]=decide (u=w):=by
 rw[nV];simp[rD]
variable{a a':Option Addr}{E K:List En}{u w:List Int}{c':Nat}
theorem vQ(hv:Na m (.slice a E.length c) E)(hw:Na m (.slice a' K.length c') K)(hl:E.length<=100000000):
  eN tP 57 [iY u a E.length c,iY w a' K.length c'] m [bR (decide (u=w)&&decide (E=K))]:=by
 refine ub Tryz.func57 ?_;conv=>whnf
 rw[awV];apply bI<;>intro h
 ·refine bt (RW hv hw hl) ?_
  exact⟨by rw[h];rfl,rfl⟩
 ·exact⟨by rw[h];rfl,rfl⟩
theorem xD{n x y:Int}:eN tP 129 [i64 n,i64 x,i64 y] m [bR (decide (x<=n)&&decide (n<=y))]:=by
 refine ub Tryz.func129 ?_;apply bI<;>intro h
 ·exact⟨by rw[h];rfl,rfl⟩
 ·exact⟨by rw[h];rfl,rfl⟩
abbrev opV(k i q:Int):CV:=.a [.one (.int .i64 k),.one (.int .i64 i),.one (.int .i64 q)]
theorem Hp{k i q:Int}:eN tP 70 [opV k i q] m [bR (E8 k i q)]:=by
 refine ub Tryz.func70 ?_;apply bI<;>intro h
 ·have h4:k=4:=by simpa using h
  refine⟨?_,rfl⟩;subst h4;simp[E8,rD,ceq,qO]
 have h4:¬k=4:=by simpa using h
 have hm:E8 k i q=if ¬(1<=i/\i<=60)then false
   else if k=1 then !decide (q=0)&&decide (-1000<=q/\q<=1000)
   else if k=2 then decide (0<=q/\q<=1000)
   else decide (k=3)&&decide (q=0):=by unfold E8;rw[if_neg h4]
 rw[hm];refine bt (xD) ?_;apply bI<;>intro h
 ·have hi:¬(1<=i/\i<=60):=by simp at h;omega
  exact⟨by rw[aC hi],rfl⟩
 have hi:1<=i/\i<=60:=by simp at h;omega
 rw[if_neg (by simpa using hi)];apply bI<;>intro h
 ·have h1:k=1:=by simpa using h
  rw[aC h1];apply bI<;>intro h
  ·have hq:¬q=0:=by simpa using h
   refine bt (xD) ?_;refine⟨?_,rfl⟩;rw[aY hq];simp
  ·have hq:q=0:=by simpa using h
   exact⟨by rw[bB hq];rfl,rfl⟩
 have h1:¬k=1:=by simpa using h
 rw[if_neg h1];apply bI<;>intro h
 ·have h2:k=2:=by simpa using h
  rw[aC h2];refine bt (xD) ?_;exact⟨by simp,rfl⟩
 have h2:¬k=2:=by simpa using h
 rw[if_neg h2];apply bI<;>intro h
 ·have h3:k=3:=by simpa using h
  exact⟨by rw[bB h3,qO];rfl,rfl⟩
 ·have h3:¬k=3:=by simpa using h
  exact⟨by rw[aY h3];rfl,rfl⟩
theorem NI:eN tP 205 [Nv e] m [bR (UR e)]:=by
 refine ub Tryz.func205 ?_;conv=>whnf
 repeat' (first|(refine⟨λh=>?_,λh=>?_⟩<;>conv=>whnf)|fail)
 all_goals (refine⟨?_,rfl⟩;simp[UR]at*;try omega)
theorem aab(h:i<E.length):(E.take (i+1)).map kz=(E.take i).map kz++[kz E[i]]:=by
 rw[au h,bD];rfl
theorem Lv(hS:cK m)(hv:Na m (.slice a E.length c) E)(hl:E.length<=1000000):
  bi tP 209 [iY u a E.length c] m λr m'=>∃v p,r=[.v v]/\aq m' [p,m]/\Do p v (AD E):=by
 refine ub Tryz.func209 ?_;refine .mk (ι:=Nat×Value) (λi=>E.length-i.1) (λ⟨i,vo⟩ mm=>i<=E.length/\∃p,aq mm [p,m]/\Do p vo ((E.take i).map kz)) (λ⟨i,vo⟩=>[(3,.c (.v vo)),(7,.c (.v (.slice a E.length c))),(8,.c (i64 E.length)),(9,.c (i64 i))]) (λ_=>[]) (0,.slice none 0 0) ⟨by omega,iI,(aq.one m).cA,Do.nil _⟩ ?_ ?_
 ·exact Cr
 rintro⟨i,vo⟩ mm ⟨hi,p,hs,hp⟩;apply bI<;>intro h
 ·have h':=ah h
  have bH:i<E.length:=by omega
  obtain⟨bl,ol,c',hh,hg⟩:=(hv.sub (hs.sub)).real bH;injection hh with eK _ fN;subst eK;have hg:=hg i bH;have dI:=aab bH;generalize E[i]=x at hg dI
  repeat refine xS ?_
  refine⟨[.one (.int .i64 x.1),.one (.int .i64 x.2.1),.one (.int .u64 x.2.2.1),.one (.int .i64 x.2.2.2)],⟨rfl,rfl,rfl,rfl,trivial⟩,rfl,by simp only[bK,aA];exact hg,?_⟩;refine bt (rT (e:=x)) ?_;refine .mk _ (XE (e:=kz x)) ?_;rintro _ _⟨b5,mo,rfl,rfl⟩;refine .mk _ (ai5 (i:=0) hs rfl mo hp (by rw[aH,aK];omega)) ?_;rintro _ m6⟨vo',p',rfl,gC,tZ⟩;refine⟨(i+1,vo'),⟨by omega,p',gC,by rw[dI];exact tZ⟩,by simp only;omega,?_⟩;exact Cr
 ·have h':=aj h
  obtain rfl:i=E.length:=by omega
  rw[aJ]at hp;have hS2:cK mm:=hS.sub (hs.sub);refine aP (acu hS2 (hp.ea.sub (hs.sub (a:=p))) (by rw[aH];omega)) ?_;rintro _ m2⟨v',p',rfl,bZ,lE⟩;exact⟨v',p',rfl,(aq.under (a:=[p']) bZ hs).dV 1,lE⟩
theorem PO(hS:cK m)(hv:Na m (.slice a E.length c) E)(hI:∀e∈E,CS e)(hl:E.length<=1000000):
  bi tP 125 [iY u a E.length c] m λr m'=>r=[bR (dA u E)]/\cL m m':=by
 have NX:∀i,i<E.length->Up u E i=false->dA u E=false:=λi hi e=>by
  have:(List.range E.length).all (Up u E)=false:=by
   rw[uI];exact⟨i,dS.2 hi,by rw[e];decide⟩
  rw[dA,this];simp
 refine A4 awP Tryz.func125 ?_;apply bI<;>intro h
 ·have h':400<E.length:=by have:=ah h;omega
  exact⟨by rw[dA,aY (by omega)];rfl,cL.refl _⟩
 have h4:E.length<=400:=by have:=aj h;omega
 refine .mk (ι:=Nat) (λi=>E.length-i) (λi mm=>i<=E.length/\(∀j,j<i->Up u E j=true)/\cL m mm) (λi=>[(1,.p 0 0),(10,.c (.v (.slice a E.length c))),(11,.c (i64 E.length)),(12,.c (i64 i))]) (λ_=>[(79,[.bG .u64 8 u,.one (.slice a E.length c)])]) 0 ⟨by omega,by omega,cL.refl _⟩ ?_ ?_
 ·exact Cr
 rintro i mm⟨hi,cM,hs⟩;apply bI<;>intro h
 ·have h':=ah h
  have bH:i<E.length:=by omega
  obtain⟨bl,ol,c',hh,hg⟩:=hv.real bH;injection hh with eK _ fN;subst eK;have js:=hg i bH;rw[On bH]at js;have ez:Up u E i=(UR (Z8 E i)&&Bi u (kz (Z8 E i))&&(decide (i=0)||aaO (Z8 E (i-1)) (Z8 E i))):=rfl;have ox:=hg (i-1) (by omega);rw[On (by omega)]at ox;have Xk:=NX i bH;have hIx:=hI _ (ah6 bH);generalize Z8 E i=x at js ez hIx
  repeat refine xS ?_
  refine⟨[.one (.int .i64 x.1),.one (.int .i64 x.2.1),.one (.int .u64 x.2.2.1),.one (.int .i64 x.2.2.2)],⟨rfl,rfl,rfl,rfl,trivial⟩,rfl,by simp only[bK,aA];exact js.sub hs,?_⟩;refine bt (NI (e:=x)) ?_;by_cases hx:UR x=true;rotate_left
  ·have hx0:UR x=false:=by simpa using hx
   rw[hx0]at ez⊢;refine xY ?_;exact⟨by rw[Xk ez],hs⟩
  rw[hx]at ez⊢;refine xN ?_;refine fU (rT (e:=x)) ?_;refine bt (HX (v:=u) (n:=x.2.1) (k:=x.2.2.1) hIx.2.1) ?_;have hhv:(uw x.2.1 x.2.2.1&&decide (x.2.2.1<=tk u x.2.1))=Bi u (kz x):=rfl;rw[hhv];by_cases hh:Bi u (kz x)=true;rotate_left
  ·have hh0:Bi u (kz x)=false:=by simpa using hh
   rw[hh0]at ez⊢;refine xY ?_;exact⟨by rw[Xk ez],hs⟩
  rw[hh]at ez⊢;refine xN ?_;apply bI<;>intro h1
  ·have jc:=ah h1
   have ew:IntKind.i64.wrap ((i:Int)-1)=((i-1:Nat):Int):=by rw[wi];omega
   rw[aY (show ¬i=0 by omega),nW,bj,bj]at ez;conv=>whnf
   rw[ew]
   repeat refine xS ?_
   generalize Z8 E (i-1)=y at ox ez;refine⟨[.one (.int .i64 y.1),.one (.int .i64 y.2.1),.one (.int .u64 y.2.2.1),.one (.int .i64 y.2.2.2)],⟨rfl,rfl,rfl,rfl,trivial⟩,rfl,by simp only[bK,aA];exact ox.sub hs,?_⟩;refine aP (ES (a:=y) (b:=x)) ?_;rintro _ m3⟨rfl,dy⟩
   try refine⟨λ_ h=>(by cases h),?_⟩
   conv=>whnf
   have hm3:cL m m3:=hs.trans dy
   have HS:decide (0<=VC y x)= !aaO y x:=by
    unfold aaO;by_cases adL:VC y x<0
    ·rw[bB adL,aY (by omega)];rfl
    ·rw[aY adL,bB (by omega)];rfl
   rw[HS];apply bI<;>intro h2
   ·have iD:aaO y x=false:=by simpa using h2
    rw[iD]at ez;exact⟨by rw[Xk ez],hm3⟩
   ·have iD:aaO y x=true:=by simpa using h2
    rw[iD]at ez;refine⟨i+1,⟨by omega,λj hj=>?_,hm3⟩,by omega,?_⟩
    ·by_cases e:j=i
     ·subst e;exact ez
     ·exact cM j (by omega)
    ·exact Cr
  ·have jc:=aj h1
   rw[bB (show i=0 by omega)]at ez;refine⟨i+1,⟨by omega,λj hj=>?_,hs⟩,by omega,?_⟩
   ·by_cases e:j=i
    ·subst e;rw[ez];rfl
    ·exact cM j (by omega)
   ·exact Cr
 ·have h':=aj h
  obtain rfl:i=E.length:=by omega
  have lD:=hv.sub hs;refine aP (Lv (u:=u) (hS.sub hs) lD hl) ?_;rintro _ m2⟨v',p',rfl,bZ,lE⟩
  try refine⟨λ_ h=>(by cases h),?_⟩
  obtain⟨a',c',rfl⟩:=lE.el.shape;refine⟨?_,hs.trans (bZ.sub)⟩;have aqD:(List.range E.length).all (Up u E)=true:=bL.2 λj hj=>cM j (dS.1 hj);rw[dA,aqD,bB h4];simp only[bj];rw[qO];have e:decide (((AD E).length:Int)=(E.length:Int))=decide ((AD E).length=E.length):=fF.2 (by omega);rw[e]
theorem pV(hS:cK m)(hv:Na m (.slice a E.length c) E)(hI:∀e∈E,CS e)(hl:E.length<=1000000):
  eN tP 125 [iY u a E.length c] m [bR (dA u E)]:=(PO hS hv hI hl).ret λ_ _ h=>h
theorem Su{f:En}(hb:m b=some (.cells (qp e).toArray 134)):eN tP 267 [Nv f,cx b] m [bR (!decide (e=f)&&decide (kz e=kz f))]:=by
 have hr:dQ m b 0 (qp e):=⟨_,_,_,hb,λj u hu=>by rw[cD,bz];exact hu⟩;refine A4 awi Tryz.func267 ?_;refine⟨[.one (.int .i64 e.1),.one (.int .i64 e.2.1),.one (.int .u64 e.2.2.1),.one (.int .i64 e.2.2.2)],⟨rfl,rfl,rfl,rfl,trivial⟩,rfl,hr,?_⟩;conv=>whnf
 rw[ajO];apply bI<;>intro h
 ·have h':=ah h
  refine⟨[.one (.int .i64 e.1),.one (.int .i64 e.2.1),.one (.int .u64 e.2.2.1),.one (.int .i64 e.2.2.2)],⟨rfl,rfl,rfl,rfl,trivial⟩,rfl,hr,?_⟩;refine fU (rT (e:=e)) ?_;refine bt (rT (e:=f)) ?_;refine⟨?_,rfl⟩;rw[al4,aY h'];rfl
 ·have h':=aj h
  refine⟨?_,rfl⟩;have:e=f:=by simpa using h'
  rw[bB this];rfl
theorem Sv(hw:w.length=8)(hb:m b=some (.cells (LB.cz [.bG .u64 8 w,.one (.slice a K.length c)]).toArray 79))(hv:Na m (.slice a K.length c) K)(hl:K.length<=100000000):
  eN tP 266 [Nv e,cx b] m [bR (OA K e)]:=by
 refine bi.ret (R:=λr m'=>r=[bR (OA K e)]/\cL m m') ?_ λ_ _ h=>h;refine A4 awj Tryz.func266 ?_;intro b2 oM;have hs:=aD.bT (.cells (qp e).toArray 134) oM
 have oY:gR (m.set b2 (.cells (qp e).toArray 134)) b 8=some (.slice a K.length c):=aF (hs _ _ hb) (by
  rw[bz]
  simp[LB.cz,eB.cells,hw])
 refine⟨_,oY,rfl,?_⟩;refine .mk _ (df (cs:=[.pointer (some ⟨b2,0,none⟩)]) (by simp[Value.oneCell'])) ?_;rintro _ _⟨rfl,rfl⟩;refine bt (w9 (p:=λf=>!decide (e=f)&&decide (kz e=kz f)) (hv.sub hs) (λf _=>Su (aD.bg ..)) hl) ?_;exact⟨rfl,hs⟩
theorem VM(hw8:w.length=8)(hv:Na m (.slice a E.length c) E)(hw:Na m (.slice a' K.length c') K)(hl:E.length<=100000000)(Xc:K.length<=100000000):
  eN tP 182 [iY u a E.length c,iY w a' K.length c'] m [bR (yS E K)]:=by
 refine bi.ret (R:=λr m'=>r=[bR (yS E K)]/\cL m m') ?_ λ_ _ h=>h;refine A4 awB Tryz.func182 ?_;intro b3 Ah;have hs:=aD.bT (.cells (LB.cz [.bG .u64 8 w,.one (.slice a' K.length c')]).toArray 79) Ah;refine .mk _ (df (cs:=[.pointer (some ⟨b3,0,none⟩)]) (by simp[Value.oneCell'])) ?_;rintro _ _⟨rfl,rfl⟩;refine bt (w9 (p:=OA K) (hv.sub hs) (λf _=>Sv hw8 (aD.bg ..) (hw.sub hs) Xc) hl) ?_;exact⟨rfl,hs⟩
theorem JH(hv:Na m v E)(hl:E.length<=100000000):eN tP 337 [.v v,Nv x] m [i64 (sH (λy=>decide (x=y)) E)]:=by
 obtain⟨a,c,rfl⟩:=hv.shape;refine A4 av3 Tryz.func337 ?_;refine .mk (ι:=Nat) (λi=>E.length-i) (λi mm=>i<=E.length/\(∀y∈E.take i,decide (x=y)=false)/\mm=m) (λi=>[(0,.c (.v (.slice a E.length c))),(3,.p 0 0),(7,.c (i64 E.length)),(8,.c (i64 i))]) (λ_=>[(134,[.one (.int .i64 x.1),.one (.int .i64 x.2.1),.one (.int .u64 x.2.2.1),.one (.int .i64 x.2.2.2)])]) 0 ⟨by omega,by simp,rfl⟩ ?_ ?_
 ·exact Cr
 rintro i mm⟨hi,cM,he⟩;subst mm;apply bI<;>intro h
 ·have h':=ah h
  have bH:i<E.length:=by omega
  obtain⟨bl,ol,c',hh,hg⟩:=hv.real bH;injection hh with eK _ fN;subst eK;have hg:=hg i bH;have dI:E.take (i+1)=E.take i++[E[i]]:=au bH
  repeat refine xS ?_
  refine⟨[.one (.int .i64 E[i].1),.one (.int .i64 E[i].2.1),.one (.int .u64 E[i].2.2.1),.one (.int .i64 E[i].2.2.2)],⟨rfl,rfl,rfl,rfl,trivial⟩,rfl,by simp only[bK,aA];exact hg,?_⟩;conv=>whnf
  rw[aq0];apply bI<;>intro h
  ·exact⟨by rw[tW bH cM h],rfl⟩
  ·refine⟨i+1,⟨by omega,λy hy=>?_,rfl⟩,by omega,?_⟩
   ·rw[dI]at hy
    rcases aR.1 hy with hy|hy
    ·exact cM y hy
    ·rw[aL.1 hy];exact h
   ·exact Cr
 ·have h':=aj h
  obtain rfl:i=E.length:=by omega
  rw[aJ]at cM;exact⟨by rw[nL cM],rfl⟩
theorem J0(x:En)(E:List En):(E.any λy=>decide (x=y))=E.contains x:=by
 rw[nV,dh,Kc];exact⟨λ⟨y,h1,h2⟩=>by rw[ah h2];exact h1,λh=>⟨x,h,by simp⟩⟩
theorem Eb(hv:Na m v E)(hl:E.length<=100000000):eN tP 269 [.v v,Nv x] m [bR (E.contains x)]:=by
 obtain⟨a,c,rfl⟩:=hv.shape;refine ub Tryz.func269 ?_;refine bt (JH hv hl) ?_;exact⟨by rw[tV,J0],rfl⟩
abbrev aea(F b b2 b3:Nat):CV:=.v (.func (.func F) #[] #[.pointer (some ⟨b,0,none⟩),.pointer (some ⟨b2,0,none⟩),.pointer (some ⟨b3,0,none⟩)])
abbrev mE(u:List Int)(a:Option Addr)(n c:Nat):Obj:=.cells (LB.cz [.bG .u64 8 u,.one (.slice a n c)]).toArray 79
abbrev yW(x:Bool):Obj:=.cells #[.bool x] 4
theorem ZT{α:Type}{p:α->Bool}{E:List α}(hi:i<E.length)(h:p E[i]=true):∃hk:((E.take i).filter p).length<(E.filter p).length,(E.filter p)[((E.take i).filter p).length]=E[i]:=by
 have e:E.filter p=(E.take i).filter p++E[i]::(E.drop (i+1)).filter p:=by
  conv=>lhs;rw[<-dL i E,aaB,qD hi,mO,aC h]
 refine⟨by rw[e,ax,bd];omega,?_⟩;simp only[e];rw[qC (aW _)];simp
theorem RB{α:Type}{p:α->Bool}{E:List α}(hi:i<E.length):((E.take (i+1)).filter p).length=((E.take i).filter p).length+if p E[i]then 1 else 0:=by
 rw[au hi,aaB,ax]
 cases h:p E[i]<;>simp[h]
theorem Gq{n n':Nat}{both:Bool}:bi tP 185 [iY u a n c,iY w a' n' c',bR both] m λr m'=>∃b3 b4 b5,r=[aea 268 b3 b5 b4]/\aq m' [blk1 b5 (yW both),blk1 b4 (mE w a' n' c'),blk1 b3 (mE u a n c),m]:=by
 refine A4 awA Tryz.func185 ?_;intro b3 Ah;intro b4 OV;intro b5 mo;refine .mk _ (df (cs:=[.pointer (some ⟨b3,0,none⟩),.pointer (some ⟨b5,0,none⟩),.pointer (some ⟨b4,0,none⟩)]) (by simp[Value.oneCell'])) ?_;rintro _ _⟨rfl,rfl⟩;exact⟨b3,b4,b5,rfl,(((aq.one m).new Ah _).new OV _).new mo _⟩
theorem Ys{I:Nat->aD->Prop}{l b3 b4 b5:Nat}{u w:List Int}{a a':Option Addr}{c c':Nat}{E K:List En}{both:Bool}(hw:w.length=8)(hn:E.length<=1000000)(hnk:K.length<=1000000)(hIE:∀e∈E,CS e)
  (hI:∀k m,I k m->m b3=some (mE u a E.length c)/\m b4=some (mE w a' K.length c')/\m b5=some (yW both)/\Na m (.slice a E.length c) E/\Na m (.slice a' K.length c') K)
  (hu:u.length=8)
  (hy:∀k m (hk:k<(jO E w K both).length),I k m->CL tP l [Nv (jO E w K both)[k]] m λr m'=>r=[.v (.bool true)]/\I (k+1) m') {m:aD} (h0:I 0 m):
  bi tP 268 [.v (.func (.yield l) #[] #[]),cx b3,cx b5,cx b4] m λr m'=>r=[]/\I (jO E w K both).length m':=by
 obtain⟨g3,_,_,_,_⟩:=hI 0 m h0;have hc8:∀(u:List Int) (v:Value),u.length=8->(LB.cz [.bG .u64 8 u,.one v])[8]?=some v:=λu v hu=>by simp[LB.cz,eB.cells,hu]
 refine A4 awh Tryz.func268 ?_;refine⟨_,aF g3 (by rw[bz];exact hc8 u _ hu),rfl,?_⟩;refine .mk (ι:=Nat) (λi=>E.length-i) (λi mm=>i<=E.length/\I ((E.take i).filter (qH w K both)).length mm) (λi=>[(0,.c (.v (.func (.yield l) #[] #[]))),(2,.c (cx b5)),(3,.c (cx b4)),(9,.c (.v (.slice a E.length c))),(10,.c (i64 E.length)),(11,.c (i64 i))]) (λ_=>[]) 0 ⟨by omega,h0⟩ ?_ ?_
 ·exact Cr
 rintro i mm⟨hi,hii⟩;apply bI<;>intro h1
 ·have jc:=ah h1
  have bH:i<E.length:=by omega
  obtain⟨q3,q4,q5,qE,qK⟩:=hI _ mm hii;obtain⟨bl,ol,c2,hh,hg⟩:=qE.real bH;injection hh with eK _ fN;subst eK;have hg:=hg i bH;have LP:=RB (p:=qH w K both) bH
  have hyk:∀(hp:qH w K both E[i]=true),CL tP l [Nv E[i]] mm λr m'=>r=[.v (.bool true)]/\I (((E.take i).filter (qH w K both)).length+1) m':=λhp=>by
   obtain⟨hk,e⟩:=ZT bH hp;have:=hy _ mm hk hii;simp only[jO]at this;rw[e]at this;exact this
  have hx:=hIE _ (aO bH);generalize E[i]=x at hg LP hyk hx;have hpx:qH w K both x=((both&&K.contains x)|| !Bi w (kz x)):=rfl;have hv5:gR mm b5 0=some (.bool both):=aF q5 rfl;have qX:∀(p:Bool),qH w K both x=p->True:=λ_ _=>trivial;have hw4:dQ mm b4 0 []:=⟨_,_,_,q4,by simp⟩
  have hwr:dQ mm b4 0 (LB.cz [.bG .u64 8 w]):=⟨_,_,_,q4,λj y hj=>by
   rw[cD,bz];have e:LB.cz [.bG .u64 8 w,.one (.slice a' K.length c')]=LB.cz [.bG .u64 8 w]++[.slice a' K.length c']:=by simp[LB.cz,eB.cells]
   rw[e,aT (aQ.1 hj).1]
   exact hj⟩
  repeat refine xS ?_
  refine⟨[.one (.int .i64 x.1),.one (.int .i64 x.2.1),.one (.int .u64 x.2.2.1),.one (.int .i64 x.2.2.2)],⟨rfl,rfl,rfl,rfl,trivial⟩,rfl,by simp only[bK,aA];exact hg,?_⟩;refine⟨_,hv5,rfl,?_⟩
  cases both with
  |true=>
   refine xY ?_;refine⟨_,aF q4 (by rw[bz];exact hc8 w _ hw),rfl,?_⟩;refine bt (Eb (x:=x) qK (by omega)) ?_;by_cases hk:K.contains x=true
   ·rw[hk]at hpx⊢
    have hp:qH w K true x=true:=by rw[hpx];rfl
    refine xY ?_;refine .mk _ (hyk hp) ?_;rintro _ m'⟨rfl,HR⟩;refine xN ?_;refine⟨i+1,⟨by omega,by rw[LP,aC hp];exact HR⟩,by omega,?_⟩;exact Cr
   ·have hk:K.contains x=false:=by simpa using hk
    rw[hk]at hpx⊢;refine xN ?_;refine⟨[.bG .u64 8 w],⟨hw,trivial⟩,rfl,hwr,?_⟩;refine fU (rT (e:=x)) ?_;refine bt (HX (v:=w) (n:=x.2.1) (k:=x.2.2.1) hx.2.1) ?_;have hhv:(uw x.2.1 x.2.2.1&&decide (x.2.2.1<=tk w x.2.1))=Bi w (kz x):=rfl;rw[hhv];by_cases hh:Bi w (kz x)=true
    ·rw[hh]at hpx⊢
     have hp:qH w K true x=false:=by rw[hpx];simp
     refine xN ?_;refine⟨i+1,⟨by omega,by rw[LP,if_neg (by rw[hp];decide)];exact hii⟩,by omega,?_⟩;exact Cr
    ·have hh:Bi w (kz x)=false:=by simpa using hh
     rw[hh]at hpx⊢;have hp:qH w K true x=true:=by rw[hpx];simp
     refine xY ?_;refine .mk _ (hyk hp) ?_;rintro _ m'⟨rfl,HR⟩;refine xN ?_;refine⟨i+1,⟨by omega,by rw[LP,aC hp];exact HR⟩,by omega,?_⟩;exact Cr
  |false=>
   refine xN ?_;refine⟨[.bG .u64 8 w],⟨hw,trivial⟩,rfl,hwr,?_⟩;refine fU (rT (e:=x)) ?_;refine bt (HX (v:=w) (n:=x.2.1) (k:=x.2.2.1) hx.2.1) ?_;have hhv:(uw x.2.1 x.2.2.1&&decide (x.2.2.1<=tk w x.2.1))=Bi w (kz x):=rfl;rw[hhv];by_cases hh:Bi w (kz x)=true
   ·rw[hh]at hpx⊢
    have hp:qH w K false x=false:=by rw[hpx];simp
    refine xN ?_;refine⟨i+1,⟨by omega,by rw[LP,if_neg (by rw[hp];decide)];exact hii⟩,by omega,?_⟩;exact Cr
   ·have hh:Bi w (kz x)=false:=by simpa using hh
    rw[hh]at hpx⊢;have hp:qH w K false x=true:=by rw[hpx];simp
    refine xY ?_;refine .mk _ (hyk hp) ?_;rintro _ m'⟨rfl,HR⟩;refine xN ?_;refine⟨i+1,⟨by omega,by rw[LP,aC hp];exact HR⟩,by omega,?_⟩;exact Cr
 ·have jc:=aj h1
  obtain rfl:i=E.length:=by omega
  rw[aJ]at hii;exact⟨rfl,hii⟩
end Go.E.Y
namespace Go.E
section
variable {α:Type}{enc:α->List Value}{s:Nat}
theorem ab4{arr:Array Value}{a j:Nat}{old cs:List Value}(jH:a+old.length<=arr.size)(Bg:∀k u,old[k]?=some u->arr[a+k]?=some u) (hj:j+cs.length<=old.length):
  arr.toList.take a++((old.take j++cs++old.drop (j+cs.length))++arr.toList.drop (a+old.length))=arr.toList.take (a+j)++(cs++arr.toList.drop (a+j+cs.length)):=by
 have hlen:(old.take j++cs++old.drop (j+cs.length)).length=old.length:=by
  simp only[ax,aK,cC];omega
 have h1:=λk u=>uU (arr:=arr) (cs:=old.take j++cs++old.drop (j+cs.length)) (a:=a) (j:=k) (u:=u) (by rw[hlen];exact jH);have h2:=λk u=>uU (arr:=arr) (cs:=cs) (a:=a+j) (j:=k) (u:=u) (by omega);rw[hlen]at h1;refine List.ext_getElem? λk=>Option.ext λu=>?_;have h1:=h1 k u;have h2:=h2 k u;rw[bz]at h1 h2;rw[h1,h2];by_cases k1:k<a
 ·rw[aC k1,aC (by omega)]
 rw[if_neg k1];by_cases k2:k<a+old.length
 ·rw[aC k2]
  have zw:∃w,old[k-a]?=some w:=⟨_,az (by omega)⟩;obtain⟨w,hw⟩:=zw;have S8:=Bg _ _ hw;rw[show a+(k-a)=k by omega]at S8;by_cases k3:k<a+j
  ·rw[aC k3,aX,aT (by rw[aK];omega),bN,aC (by omega),hw,S8]
  ·rw[if_neg k3]
   by_cases k4:k<a+j+cs.length
   ·rw[aC k4,aX,bJ (by rw[aK];omega),aK,aT (by omega),show k-a-min j old.length=k-(a+j) by omega]
   ·rw[if_neg k4,bJ (by rw[ax,aK];omega),ax,aK,cT,show j+cs.length+(k-a-(min j old.length+cs.length))=k-a by omega,hw,S8]
 ·rw[if_neg k2,if_neg (by omega),if_neg (by omega)]
theorem fp.Wu(h:fp enc s){p:aD}{T:TypeId}{b o n c:Nat}{E:List α}(hl:mf p T s (.slice (some ⟨b,o,none⟩) n c) (E.flatMap enc)){i j:Nat}(hi:i<E.length){cs:List Value}{x:α}(hj:j+cs.length<=s)(hx:enc x=(enc E[i]).take j++cs++(enc E[i]).drop (j+cs.length)):
  ∃arr,p b=some (.cells arr T (0,0))/\o+i*s+j+cs.length<=arr.size/\mf (p.set b (.cells (arr.toList.take (o+i*s+j)++(cs++arr.toList.drop (o+i*s+j+cs.length))).toArray T (0,0))) T s (.slice (some ⟨b,o,none⟩) n c) ((E.set i x).flatMap enc):=by
 obtain⟨arr,h1,h2,h3⟩:=h.set hl hi x;obtain⟨CH,g1,_,_,_,g5⟩:=h.row hl;rw[h1]at g1;cases g1;refine⟨arr,h1,by omega,?_⟩
 have Bg:∀k u,(enc E[i])[k]?=some u->arr[o+i*s+k]?=some u:=λk u hu=>by
  rw[gi];exact g5 _ _ (h.at hi hu)
 rw[hx]at h3;have:=ab4 (arr:=arr) (a:=o+i*s) (j:=j) (old:=enc E[i]) (cs:=cs) (by rw[h.len];exact h2) Bg (by rw[h.len];exact hj);rw[h.len]at this;rw[this]at h3;exact h3
theorem abI{arr:Array Value}{a:Nat}{u:Value}(h:a<arr.size):(arr.toList.take a++([u]++arr.toList.drop (a+1))).toArray=arr.setIfInBounds a u:=by
 grind
theorem fp.setCell(h:fp enc s){p:aD}{T:TypeId}{b o n c:Nat}{E:List α}(hl:mf p T s (.slice (some ⟨b,o,none⟩) n c) (E.flatMap enc)){i j:Nat}(hi:i<E.length){u:Value}{x:α}(hj:j<s)(hx:enc x=(enc E[i]).take j++[u]++(enc E[i]).drop (j+1)):
  ∃arr,p b=some (.cells arr T (0,0))/\o+i*s+j<arr.size/\mf (p.set b (.cells (arr.setIfInBounds (o+i*s+j) u) T (0,0))) T s (.slice (some ⟨b,o,none⟩) n c) ((E.set i x).flatMap enc):=by
 obtain⟨arr,h1,h2,h3⟩:=h.Wu (cs:=[u]) hl hi (by simp only[bd,cW];omega) hx;simp only[bd,cW]at h2 h3;rw[abI (by omega)]at h3;exact⟨arr,h1,by omega,h3⟩
end
variable{m:aD}{l:List aD}
theorem aq.jN{m':aD}{a:List aD}(h:aq m' (a++[m]))(hs:aq m l):aq m' (a++l):=by
 obtain⟨h1,h2⟩:=h;obtain⟨h3,h4⟩:=hs;obtain⟨h5,_,h6⟩:=cm.1 h2;have key:∀b∈l,∀x o,b x=some o->m x=some o:=λb hb x o hx=>h3 _ _ (jE h4 hb hx)
 have hp:(a++l).Pairwise Dj:=cm.2 ⟨h5,h4,λx hx y hy z=>by
  rcases h6 x hx m (by simp) z with h|h
  ·exact .inl h
  ·refine .inr ?_
   cases hyz:y z with
   |none=>rfl
   |some o=>rw[key y hy z o hyz]at h;cases h⟩
 refine⟨λx o hx=>?_,hp⟩;obtain⟨b,hb,HW⟩:=eQ hx;rcases aR.1 hb with hb|hb
 ·exact h1 _ _ (jE h2 (by simp[hb]) HW)
 ·exact h1 _ _ (jE h2 (by simp) (key b hb _ _ HW))
theorem aq.all(h:aq m l):aq (gY l) l:=⟨cL.refl _,h.2⟩
theorem aq.k9(a:List aD)(h:aq m (a++l)):aq m (gY a::l)/\aq (gY a) a:=by
 obtain⟨h1,h2⟩:=h;obtain⟨h3,h4,h5⟩:=cm.1 h2;refine⟨⟨λx o hx=>?_,bh.2 ⟨λb hb x=>?_,h4⟩⟩,cL.refl _,h3⟩
 ·obtain⟨b,hb,HW⟩:=eQ hx
  rcases aU.1 hb with rfl|hb
  ·obtain⟨d,hd,hdx⟩:=eQ HW
   exact h1 _ _ (jE h2 (by simp[hd]) hdx)
  ·exact h1 _ _ (jE h2 (by simp[hb]) HW)
 ·cases hx:gY a x with
  |none=>exact .inl rfl
  |some o=>
   obtain⟨d,hd,hdx⟩:=eQ hx;rcases h5 d hd b hb x with h|h
   ·rw[hdx]at h;cases h
   ·exact .inr h
variable{mm:aD}
theorem aq.part{p:aD}(h:aq mm (p::l)):∃q,(∀x∈l,cL x q)/\aq mm [p,q]/\∀m' p',aq m' [p',q]->aq m' (p'::l):=by
 have h0:aq mm (l++[p]):=h.fm (dY (l₁:=[p]) (l₂:=l));obtain⟨h2,h3⟩:=aq.k9 l h0;exact⟨gY l,λx hx=>h3.sub hx,h2.fm (List.Perm.swap _ _ _),λm' p' h4=>aq.jN (a:=[p']) h4 h3⟩
theorem aq.ai6{p p2:aD}(h:aq mm (p::p2::l)):∃q,(∀x∈l,cL x q)/\aq mm [p,p2,q]/\∀m' p' p2',aq m' [p',p2',q]->aq m' (p'::p2'::l):=by
 have h0:aq mm (l++[p,p2]):=h.fm (dY (l₁:=[p,p2]) (l₂:=l));obtain⟨h2,h3⟩:=aq.k9 l h0;refine⟨gY l,λx hx=>h3.sub hx,h2.fm ?_,λm' p' p2' h4=>aq.jN (a:=[p',p2']) h4 h3⟩;exact(List.Perm.swap _ _ _).trans (List.Perm.cons _ (List.Perm.swap _ _ _))
theorem aq.Ci{q:aD}(h:aq mm (q::l))(hs:cL m q):aq mm (m::l):=by
 obtain⟨h1,h2⟩:=h;obtain⟨h3,h4⟩:=bh.1 h2;refine⟨λx o hx=>?_,bh.2 ⟨λb hb x=>?_,h4⟩⟩
 ·obtain⟨b,hb,HW⟩:=eQ hx
  rcases aU.1 hb with rfl|hb
  ·exact h1 _ _ (jE h2 (by simp) (hs _ _ HW))
  ·exact h1 _ _ (jE h2 (by simp[hb]) HW)
 ·cases hm:m x with
  |none=>exact .inl rfl
  |some o=>
   rcases h3 b hb x with h|h
   ·rw[hs _ _ hm]at h;cases h
   ·exact .inr h
end Go.E
namespace Go.E.Y
open Go.Proofs
variable{m:aD}{b:Nat}{l:List Value}
theorem dQ.tail{o k:Nat}(h:dQ m b o l):dQ m b (o+k) (l.drop k):=by
 obtain⟨arr,t,fr,h1,h2⟩:=h;refine⟨arr,t,fr,h1,λj u hu=>?_⟩;rw[cT]at hu;rw[gi];exact h2 _ _ hu
theorem dQ.ajD{o:Nat}{y:Value}(h:dQ m b o l)(hy:l[0]?=some y):gR m b o=some y:=by
 obtain⟨arr,t,fr,h1,h2⟩:=h;exact aF h1 (by have:=h2 0 y hy;simpa using this)
abbrev ur(k:ByteArray):Obj:=.cells #[.string k] 9
def lu(m:aD)(v:Value)(L:List Kd):Prop:=∃R,Ka m v R/\dC m R L
variable{m':aD}{v:Value}
theorem lu.sub{L:List Kd}(h:lu m v L)(hs:cL m m'):lu m' v L:=by
 obtain⟨R,h1,h2⟩:=h;exact⟨R,h1.sub hs,h2.sub hs⟩
theorem lu.nil(m:aD):lu m (.slice none 0 0) []:=⟨[],Ka.nil m,dC.nil m⟩
theorem lu.shape{L:List Kd}(h:lu m v L):∃a c,v= .slice a L.length c:=by
 obtain⟨R,h1,h2⟩:=h;rw[<-h2.len];exact h1.shape
variable{k:ByteArray}{r:Rk}
theorem Vr(hb:m b=some (ur k)):eN tP 112 [Kv r,cx b] m [bR (decide (r.1=k))]:=by
 refine ub Tryz.func112 ?_;refine xM hb ?_;exact⟨by rw[KG],rfl⟩
theorem sGt(a b:ByteArray):(!(Op.bytesLess a.toList b.toList||a.toList==b.toList))=eZ b a:=by
 rw[KG]
 show(!(eZ a b||decide (a=b)))=eZ b a
 by_cases h:a=b
 ·subst h;simp[oa]
 ·rw[aY h,Bool.or_false]
  cases h1:eZ a b with
  |true=>rw[tL h1];rfl
  |false=>
   cases h2:eZ b a with
   |true=>rfl
   |false=>exact absurd (qi h1 h2) h
theorem Tu(hb:m b=some (ur k)):eN tP 202 [Kv r,cx b] m [bR (eZ k r.1)]:=by
 refine ub Tryz.func202 ?_;refine xM hb ?_;exact⟨by rw[sGt],rfl⟩
variable{i:Nat}
theorem aee{L:List Kd}(hi:i<L.length)(h:L[i].1=k)(cM:∀x∈L.take i,x.1≠k):vj L k=some L[i].2:=by
 have:L.find? (λx=>decide (x.1=k))=some L[i]:=by
  rw[List.find?_eq_some_iff_getElem];refine⟨by simp[h],i,hi,rfl,λj hj=>?_⟩;have:=cM L[j] (lw.2 ⟨j,by omega,rfl⟩);simp[this]
 unfold vj;rw[this];rfl
theorem aed{L:List Kd}(cM:∀x∈L,x.1≠k):vj L k=none:=by
 unfold vj;rw[Option.map_eq_none_iff,kT];intro x hx;simp[cM x hx]
theorem dC.ajd{R:List Rk}{L:List Kd}(h:dC m R L)(cM:∀r∈R.take i,decide (r.1=k)=false):∀x∈L.take i,x.1≠k:=by
 intro x hx e;have h1:=(h.take i).any λy=>decide (y=k);have h2:((L.take i).any λx=>decide (x.1=k))=true:=dh.2 ⟨x,hx,by simp[e]⟩;rw[h2,dh]at h1;obtain⟨r,hr,e'⟩:=h1;rw[cM r hr]at e'
 cases e'
theorem G3{L:List Kd}(hv:lu m v L)(hl:L.length<=1000000):
  bi tP 55 [.v v,.v (.string k)] m λr m'=>∃a c,r=[iY (gh L k).1 a (gh L k).2.length c,bR (vj L k).isSome]/\cL m m'/\Na m (.slice a (gh L k).2.length c) (gh L k).2:=by
 obtain⟨R,hR,hK⟩:=hv;obtain⟨av,cv,rfl⟩:=hR.shape;have hlen:=hK.len;refine A4 c55 Tryz.func55 ?_;intro b hb;have hs:=aD.bT (ur k) hb;refine .mk _ (df (cs:=[.pointer (some ⟨b,0,none⟩)]) (by simp[Value.oneCell'])) ?_;rintro _ _⟨rfl,rfl⟩;refine bt (wm (p:=λr=>decide (r.1=k)) (hR.sub hs) (λr _=>Vr (aD.bg ..)) (by omega)) ?_;rcases lY (λr:Rk=>decide (r.1=k)) R with⟨e1,e2⟩|⟨i0,Ja,e1,e2,e3⟩
 ·rw[e1]
  refine xY ?_
  have xr:vj L k=none:=aed λx hx=>by
   have:=hK.ajd (k:=k) (i:=R.length) (by rw[aJ];exact e2) x;rw[hlen,aJ]at this;exact this hx
  have hg:gh L k=(fx,[]):=by rw[gh,xr];rfl
  rw[hg,xr];exact⟨none,0,rfl,hs,Na.nil _⟩
 ·rw[e1]
  refine⟨λh=>absurd h (by(simp<;>omega)),λ_=>?_⟩;obtain⟨bl,ol,c',hh,hg⟩:=hR.real Ja;injection hh with eK _ fN;subst eK;have hg:=hg i0 Ja;have hx:=hK.je i0 Ja (by omega);have hf:vj L k=some L[i0].2:=aee (by omega) (by rw[<-hx.k];exact ah e2) (hK.ajd e3);have JR:gh L k=L[i0].2:=by rw[gh,hf];rfl
  rw[JR,hf];generalize L[i0]=x at hx⊢;generalize R[i0]=r at hg hx;obtain⟨xk,xu,xE⟩:=x;obtain⟨rk,ru,ra,rn,rc⟩:=r;obtain⟨h1,h2,h3,h4⟩:=hx;have zu:=pP.len ⟨h1,h2,h3,h4⟩;simp only at h1 h2 h3 h4 zu;subst h1 h2 zu
  repeat refine xS ?_
  have hr:dQ (m.set b (ur k)) bl (ol+i0*10+1) (LB.cz [.bG .u64 8 ru,.one (.slice ra xE.length rc)]):=by
   have:=dQ.tail (k:=1) (hg.sub hs);simp only[fj,yn h3,List.singleton_append]at this;simpa [LB.cz,eB.cells]using this
  refine⟨[.bG .u64 8 ru,.one (.slice ra xE.length rc)],⟨h3,rfl,trivial⟩,rfl,by simp only[bK,aA];exact hr,?_⟩;exact⟨ra,rc,by simp,hs,h4⟩
variable{w:Value}
theorem yK{E K:List Int}(hv:Ia m v E)(hw:Ia m w K)(hl:E.length<=100000000):eN tP 217 [.v v,.v w] m [bR (decide (E=K))]:=by
 obtain⟨a,c,rfl⟩:=hv.shape;obtain⟨aw,cw,rfl⟩:=hw.shape;refine A4 awt Tryz.func217 ?_;apply bI<;>intro h
 ·have:E≠K:=by rintro rfl;simp at h
  rw[aY this];exact rR
 have DN:E.length=K.length:=by simp at h;omega
 rw[<-DN]at hw⊢;refine .mk (ι:=Nat) (λi=>E.length-i) (λi mm=>i<=E.length/\E.take i=K.take i/\mm=m) (λi=>[(0,.c (.v (.slice a E.length c))),(1,.c (.v (.slice aw E.length cw))),(12,.c (i64 E.length)),(13,.c (i64 i))]) (λ_=>[]) 0 ⟨by omega,by simp,rfl⟩ ?_ ?_
 ·exact Cr
 rintro i mm⟨hi,Ac,he⟩;subst mm;apply bI<;>intro h1
 ·have jc:=ah h1
  have bH:i<E.length:=by omega
  have wv:i<K.length:=by omega
  obtain⟨b,o,c',hh,hg⟩:=hv.real bH;injection hh with eK _ fN;subst eK;have S8:Ia m (.slice aw K.length cw) K:=by rw[<-DN];exact hw
  obtain⟨bw,ow,c',hh,LS⟩:=S8.real wv;injection hh with eK _ fN;subst eK;have hg:=hg i bH;have LS:=LS i wv
  repeat refine xS ?_
  refine⟨_,hg,rfl,?_⟩
  repeat refine xS ?_
  refine⟨_,LS,rfl,?_⟩;conv=>whnf
  rw[show((E[i]!=K[i]):Bool)=decide (E[i]≠K[i]) by rw[bne,qO];simp];apply bI<;>intro h2
  ·have:E≠K:=by rintro rfl;exact absurd rfl (ah h2)
   rw[aY this];exact rR
  ·have iD:E[i]=K[i]:=by simpa using h2
   refine⟨i+1,⟨by omega,by rw[au bH,au wv,Ac,iD],rfl⟩,by omega,?_⟩;exact Cr
 ·have jc:=aj h1
  obtain rfl:i=E.length:=by omega
  rw[aJ,DN,aJ]at Ac;conv=>whnf
  rw[bB Ac];exact rR
theorem Oj{E K:List (List Nat)}(hv:OO m v E)(hw:OO m w K)(hl:E.length<=100000000):eN tP 218 [.v v,.v w] m [bR (decide (E=K))]:=by
 obtain⟨a,c,rfl⟩:=hv.shape;obtain⟨aw,cw,rfl⟩:=hw.shape;refine A4 aws Tryz.func218 ?_;apply bI<;>intro h
 ·have:E≠K:=by rintro rfl;simp at h
  rw[aY this];exact rR
 have DN:E.length=K.length:=by simp at h;omega
 rw[<-DN]at hw⊢;refine .mk (ι:=Nat) (λi=>E.length-i) (λi mm=>i<=E.length/\E.take i=K.take i/\mm=m) (λi=>[(0,.c (.v (.slice a E.length c))),(1,.c (.v (.slice aw E.length cw))),(12,.c (i64 E.length)),(13,.c (i64 i))]) (λ_=>[]) 0 ⟨by omega,by simp,rfl⟩ ?_ ?_
 ·exact Cr
 rintro i mm⟨hi,Ac,he⟩;subst mm;apply bI<;>intro h1
 ·have jc:=ah h1
  have bH:i<E.length:=by omega
  have wv:i<K.length:=by omega
  obtain⟨b,o,c',hh,hg⟩:=hv.real bH;injection hh with eK _ fN;subst eK;have S8:OO m (.slice aw K.length cw) K:=by rw[<-DN];exact hw
  obtain⟨bw,ow,c',hh,LS⟩:=S8.real wv;injection hh with eK _ fN;subst eK;have hg:=hg i bH;have LS:=LS i wv
  repeat refine xS ?_
  refine⟨[.bG .u8 32 (nc E[i])],⟨(by show(nc E[i]).length=32;rw[mH];exact hv.ok _ (aO bH)),trivial⟩,rfl,by simp only[bK,aA];exact hg,?_⟩
  repeat refine xS ?_
  refine⟨[.bG .u8 32 (nc K[i])],⟨(by show(nc K[i]).length=32;rw[mH];exact S8.ok _ (aO wv)),trivial⟩,rfl,by simp only[bK,aA];exact LS,?_⟩;conv=>whnf
  rw[show(!rD [.bG .u8 32 (nc E[i])] [.bG .u8 32 (nc K[i])])=decide (E[i]≠K[i]) by rw[Ck];simp];apply bI<;>intro h2
  ·have:E≠K:=by rintro rfl;exact absurd rfl (ah h2)
   rw[aY this];exact rR
  ·have iD:E[i]=K[i]:=by simpa using h2
   refine⟨i+1,⟨by omega,by rw[au bH,au wv,Ac,iD],rfl⟩,by omega,?_⟩;exact Cr
 ·have jc:=aj h1
  obtain rfl:i=E.length:=by omega
  rw[aJ,DN,aJ]at Ac;conv=>whnf
  rw[bB Ac];exact rR
variable{x:Kd}
theorem PX{r':Rk}{x':Kd}(h:pP m r x)(h':pP m r' x')(hl:x.2.2.length<=1000000):eN tP 216 [Kv r,Kv r'] m [bR (decide (x=x'))]:=by
 have e1:n8 r.2.1=x.2.1:=by rw[h.u,yn h.u8]
 have e2:n8 r'.2.1=x'.2.1:=by rw[h'.u,yn h'.u8]
 have hx:x=x'↔x.1=x'.1/\x.2.1=x'.2.1/\x.2.2=x'.2.2:=by
  obtain⟨k,u,E⟩:=x;obtain⟨k',u',E'⟩:=x';simp
 obtain⟨rk,ru,ra,rn,rc⟩:=r;obtain⟨rk',ru',ra',rn',rc'⟩:=r';have hn:=h.len;have OS:=h'.len;have hk:=h.k;have ve:=h'.k;have he:=h.e;have he':=h'.e;simp only at e1 e2 hn OS hk ve he he';subst hn OS hk ve;have eS:(x.1.toList==x'.1.toList)=decide (x.1=x'.1):=KG _ _;refine ub Tryz.func216 ?_;apply bI<;>intro h1
 ·conv=>whnf
  rw[e1,e2];refine bt (vQ he he' (by omega)) ?_;refine⟨?_,rfl⟩;have jc:x.1=x'.1:=ah (by rw[<-eS];exact h1);rw[<-Bool.decide_and,fF.2 (hx.trans ⟨λh=>h.2,λh=>⟨jc,h⟩⟩)]
 ·refine⟨?_,rfl⟩
  have jc:¬x.1=x'.1:=aj (by rw[<-eS];exact h1);rw[aY (λh=>jc (hx.1 h).1)]
instance:DecidableEq Kd:=λa b=>if h:a.1=b.1/\a.2=b.2 then .isTrue (Prod.ext h.1 h.2)else .isFalse λe=>h ⟨be _ e,be _ e⟩
theorem Oi{L L':List Kd}(hv:lu m v L)(hw:lu m w L')(hl:L.length<=1000000)(hL:∀x∈L,x.2.2.length<=1000000):
  eN tP 219 [.v v,.v w,Aj 216] m [bR (decide (L=L'))]:=by
 obtain⟨E,hv,hE⟩:=hv;obtain⟨K,hw,hK⟩:=hw;obtain⟨a,c,rfl⟩:=hv.shape;obtain⟨aw,cw,rfl⟩:=hw.shape;have l1:=hE.len;have l2:=hK.len;refine ub Tryz.func219 ?_;apply bI<;>intro h
 ·have:L≠L':=by rintro rfl;simp at h;omega
  rw[aY this];exact rR
 have DN:E.length=K.length:=by simp at h;omega
 rw[<-DN]at hw⊢;refine .mk (ι:=Nat) (λi=>E.length-i) (λi mm=>i<=E.length/\L.take i=L'.take i/\mm=m) (λi=>[(1,.c (.v (.slice aw E.length cw))),(2,.c (Aj 216)),(15,.c (.v (.slice a E.length c))),(16,.c (i64 E.length)),(17,.c (i64 i))]) (λ_=>[]) 0 ⟨by omega,by simp,rfl⟩ ?_ ?_
 ·exact Cr
 rintro i mm⟨hi,Ac,he⟩;subst mm;apply bI<;>intro h1
 ·have jc:=ah h1
  have bH:i<E.length:=by omega
  have wv:i<K.length:=by omega
  obtain⟨b,o,c',hh,hg⟩:=hv.real bH;injection hh with eK _ fN;subst eK;have S8:Ka m (.slice aw K.length cw) K:=by rw[<-DN];exact hw
  obtain⟨bw,ow,c',hh,LS⟩:=S8.real wv;injection hh with eK _ fN;subst eK;have hg:=hg i bH;have LS:=LS i wv;have hx:=hE.je i bH (by omega);have hy:=hK.je i wv (by omega)
  repeat refine xS ?_
  refine⟨[.one (.string E[i].1),.bG .u64 8 (n8 E[i].2.1),.one (.slice E[i].2.2.1 E[i].2.2.2.1 E[i].2.2.2.2)],⟨rfl,rfl,rfl,trivial⟩,rfl,by simp only[bK,aA];exact hg,?_⟩
  repeat refine xS ?_
  refine⟨[.one (.string K[i].1),.bG .u64 8 (n8 K[i].2.1),.one (.slice K[i].2.2.1 K[i].2.2.2.1 K[i].2.2.2.2)],⟨rfl,rfl,rfl,trivial⟩,rfl,by simp only[bK,aA];exact LS,?_⟩;refine bt (PX hx hy (hL _ (aO _))) ?_;apply bI<;>intro h2
  ·have:L≠L':=by rintro rfl;simp at h2
   rw[aY this];exact rR
  ·have iD:L[i]'(by omega)=L'[i]'(by omega):=by simpa using h2
   refine⟨i+1,⟨by omega,by rw[au (by omega),au (by omega),Ac,iD],rfl⟩,by omega,?_⟩;exact Cr
 ·have jc:=aj h1
  obtain rfl:i=E.length:=by omega
  rw[l1,aJ,<-l1,DN,l2,aJ]at Ac;conv=>whnf
  rw[bB Ac];exact rR
variable{s:ByteArray}
theorem GZ(hs:s.size<=1000000):bi tP 256 [.v (.string s)] m λr m'=>r=[u64 ((ua.uW (jR s):Nat):Int)]/\cL m m':=by
 refine ub Tryz.func256 ?_;refine .mk _ (ara) ?_;rintro _ m1⟨v,rfl,bM,hv⟩;refine aP (GY hv (by rw[ue];omega) (amf s)) ?_;rintro _ m2⟨rfl,bZ⟩;exact⟨rfl,bM.trans bZ⟩
theorem acf(l:List Nat):∀i,pt l (i+1)/256^i=(ua.sum l).getD 0 0
 |0=>by simp[pt]
 |i+1=>by
  have:=MA l (i+1);rw[M4 l (i+1),gN,lH (256^i) 256,<-uF,show(pt l (i+1)*256+(ua.sum l).getD (i+1) 0)/256=pt l (i+1) by omega,acf l i]
theorem YW(l:List Nat):ua.uW l/72057594037927936=(ua.sum l).getD 0 0:=acf l 7
theorem aci(l:List Nat):ua.uW l<18446744073709551616:=ace l 8
def qI(s:ByteArray):Nat:=ua.uW (jR s)/2305843009213693952
def gF(s:ByteArray):Nat:=ua.uW (jR s)/144115188075855872%16
theorem YY(s:ByteArray):qI s=(ua.sum (jR s)).getD 0 0/32:=by rw[<-YW,qI];omega
theorem K7(s:ByteArray):qI s<8:=by have:=MA (jR s) 0;rw[YY];omega
theorem Zl(s:ByteArray):gF s<16:=by rw[gF];omega
theorem OG(hs:s.size<=1000000):bi tP 178 [.v (.string s)] m λr m'=>r=[i64 (qI s:Nat),i64 (gF s:Nat)]/\cL m m':=by
 refine ub Tryz.func178 ?_;refine aP (GZ hs) ?_;rintro _ m1⟨rfl,bM⟩;have hp:=aci (jR s);refine⟨?_,bM⟩;have e1:=nZ (k:=.u64) (x:=ua.uW (jR s)) (n:=61) (by decide);have e2:=nZ (k:=.u64) (x:=ua.uW (jR s)) (n:=57) (by decide);rw[show(61:Int)=((61:Nat):Int) from rfl,e1,show(57:Int)=((57:Nat):Int) from rfl,e2];have e3:=OK (a:=ua.uW (jR s)/2^57) (b:=15) (ny (za ..) hp) (by decide);have e4:ua.uW (jR s)/2^57&&& 15=ua.uW (jR s)/2^57%16:=Nat.and_two_pow_sub_one_eq_mod (ua.uW (jR s)/2^57) 4;rw[show(15:Int)=((15:Nat):Int) from rfl,e3,e4];have q1:(2:Nat)^61=2305843009213693952:=rfl;have q2:(2:Nat)^57=144115188075855872:=rfl;rw[q1,q2,wi,wi];rfl
variable{n:Int}
theorem aas(hn: -9223372036854775808<=n/\n<=9223372036854775807):eN tP 106 [i64 n] m (if n<0\/7<n then[u64 0,i64 1]else[u64 (n*2305843009213693952),i64 0]):=by
 refine ub Tryz.func106 ?_;conv=>whnf
 repeat' (first|(refine⟨λh=>?_,λh=>?_⟩<;>conv=>whnf)|fail)
 all_goals refine⟨?_,rfl⟩
 ·rw[aC (.inl (ah h))]
 ·rw[aC (.inr (by have:=ah h;omega))]
 ·rename_i h1
  have jc:=aj h1;have iD:=aj h;rw[if_neg (by omega)];obtain⟨k,rfl⟩:∃k:Nat,n=k:=⟨n.toNat,by omega⟩;rw[wu,show(61:Int)=((61:Nat):Int) from rfl,agd (by decide) (by rw[show(2:Nat)^61=2305843009213693952 from rfl];omega)];rw[show(2:Nat)^61=2305843009213693952 from rfl];simp
theorem K6(hs:s.size<=1000000):bi tP 104 [.v (.string s)] m λr m'=>r=[i64 (qI s:Nat)]/\cL m m':=by
 refine ub Tryz.func104 ?_;refine aP (OG hs) ?_;rintro _ m1⟨rfl,bM⟩;exact⟨rfl,bM⟩
theorem Zk(hs:s.size<=1000000):bi tP 214 [.v (.string s)] m λr m'=>r=[i64 (gF s:Nat)]/\cL m m':=by
 refine ub Tryz.func214 ?_;refine aP (OG hs) ?_;rintro _ m1⟨rfl,bM⟩;exact⟨rfl,bM⟩
def Rd(m:aD)(bp:Nat)(s:RS):Prop:=∃v,m bp=some (.cells #[.bool true,v,.int .i64 s.2] 391)/\Lb m v s.1/\lp v≠some bp/\jl s.1/\s.1.length<=100000000
def Lx(m:aD)(bp:Nat)(v:Value)(l:List Int):Prop:=Lb m v l/\lp v≠some bp
theorem gq.BO{size:Nat}{o:Obj}(h:gq m size v l)(hn:lp v≠some b):gq (m.set b o) size v l:=
 h.cR λx hx=>aD.eH _ _ λe=>hn (by rw[hx,e])
variable{l:List Int}
theorem zy(hv:La m v l)(hb:jl l)(hl:l.length<=100000000):
  bi tP 198 [.v v] m λr m'=>∃bp p,r=[cx bp]/\aq m' [p,m]/\Rd p bp (l,0):=by
 refine A4 awy Tryz.func198 ?_;refine aP (sQ hv hl) ?_;rintro _ m1⟨v1,p1,rfl,bM,lZ⟩;intro b kW;have hp:p1 b=none:=bM.none kW p1 (by simp);have bZ:=(bM.new kW (.cells (LB.cz [.one (.bool true),.one v1,.one (.int .i64 0)]).toArray 391)).jo;refine⟨b,_,rfl,bZ,v1,?_,?_,?_,hb,hl⟩
 ·rw[pB,aD.bg];rfl
 ·rw[pB];exact lZ.lb.sub (aD.bT _ hp)
 ·intro e
  rcases lZ with⟨rfl,_⟩|⟨b',o,c,n,arr,rfl,h1,_⟩
  ·simp[lp]at e
  ·simp[lp]at e;subst e;rw[h1]at hp;cases hp
variable{s:RS}{bp:Nat}
theorem iX(h:Rd m bp s):eN tP 295 [cx bp] m [i64 s.2]:=by
 obtain⟨v,hb,hv,hn,_⟩:=h;refine ub Tryz.func295 ?_;refine xN ?_;refine xM hb ?_;refine xN ?_;refine xM hb ?_;exact rR
def qP(m m':aD)(bp:Nat):Prop:=∀b,b≠bp->m' b=m b
theorem qP.refl(m:aD)(bp:Nat):qP m m bp:=λ_ _=>rfl
theorem qP.trans{m'':aD}(h:qP m m' bp)(k:qP m' m'' bp):qP m m'' bp:=λb hb=>(k b hb).trans (h b hb)
theorem qP.set(m:aD)(bp:Nat)(o:Obj):qP m (m.set bp o) bp:=λ_ hb=>aD.eH _ _ hb
theorem Lx.only(h:Lx m bp v l)(k:qP m m' bp):Lx m' bp v l:=⟨h.1.cR λb hb=>k b λe=>h.2 (by rw[hb,e]),h.2⟩
theorem lh{is:Bool}(h:Rd m bp s):
  bi tP 297 [cx bp,bR is] m λr m'=>r=[]/\Rd m' bp (ef is s)/\qP m m' bp:=by
 have h0:=h;obtain⟨v,hb,hv,hn,OU,hl⟩:=h;refine ub Tryz.func297 ?_;refine bt (iX h0) ?_;apply bI<;>intro h1
 ·have jc:s.2=0:=by simpa using h1
  apply bI<;>intro h2
  ·have iD:is=false:=by simpa using h2
   refine⟨_,_,_,hb,⟨by simp,by omega⟩,?_⟩;refine⟨rfl,?_,qP.set _ _ _⟩;rw[ef,aC ⟨jc,iD⟩];exact⟨v,aD.bg ..,gq.BO hv hn,hn,OU,hl⟩
  ·have iD:is=true:=by simpa using h2
   refine⟨rfl,?_,qP.refl _ _⟩;rw[ef,if_neg (by simp[iD])];exact h0
 ·have jc:s.2≠0:=by simpa using h1
  refine⟨rfl,?_,qP.refl _ _⟩;rw[ef,if_neg (by simp[jc])];exact h0
variable{n:Nat}
theorem jT(h:Rd m bp s)(ml:n<9223372036854775808):
  bi tP 292 [cx bp,i64 n] m λr m'=>∃v',r=[.v v']/\Lx m' bp v' (fL n s).1/\Rd m' bp (fL n s).2/\qP m m' bp:=by
 have h0:=h;obtain⟨l,e⟩:=s;obtain⟨v,hb,hv,hn,OU,hl⟩:=h;simp only at hb hv OU hl;refine ub Tryz.func292 ?_;refine bt (iX h0) ?_;apply bI<;>intro h1
 ·have jc:e≠0:=by simpa using h1
  conv=>whnf
  rw[fL,aC jc];exact⟨_,rfl,⟨Lb.nil ..,by simp[lp]⟩,h0,qP.refl _ _⟩
 ·have jc:e=0:=by simpa using h1
  subst jc;refine⟨v,aF hb rfl,hv.one,?_⟩;obtain⟨a,c,rfl⟩:=hv.shape;apply bI<;>intro h2
  ·have iD:=ah h2
   refine⟨_,_,_,hb,⟨by simp,by omega⟩,?_⟩;conv=>whnf
   rw[fL,if_neg (by simp),aC (by show l.length<n;omega)];exact⟨_,rfl,⟨Lb.nil ..,by simp[lp]⟩,⟨_,aD.bg ..,gq.BO hv hn,hn,OU,hl⟩,qP.set _ _ _⟩
  ·have iD:=aj h2
   have ZA:n<=l.length:=by omega
   refine⟨.slice a l.length c,aF hb rfl,hv.one,?_⟩;rw[fL,if_neg (by simp),if_neg (by show ¬(l.length<n);omega)];rcases hv.cases with⟨c',e1,e2⟩|⟨b,o,c',arr,t,fr,e1,g1,g2,g3⟩
   ·subst e2
    cases e1;obtain rfl:n=0:=by simpa using ZA
    repeat refine xS ?_
    refine⟨.slice none 0 c,aF hb rfl,hv.one,?_⟩
    repeat refine xS ?_
    refine⟨_,_,_,hb,⟨by simp,by omega⟩,?_⟩;exact⟨_,rfl,⟨Lb.nil ..,by simp[lp]⟩,⟨_,aD.bg ..,Lb.nil ..,by simp[lp],jl.nil,by simp⟩,qP.set _ _ _⟩
   ·cases e1
    have hbn:b≠bp:=λe=>hn (by rw[e];rfl)
    repeat refine xS ?_
    intro o1 I8 aun
    obtain rfl:o1=o:=by
     rcases Nat.eq_zero_or_pos n with h|h
     ·exact aun (by omega)
     ·have:=I8 (by omega);simpa using this
    refine⟨.slice (some ⟨b,o1,none⟩) l.length c,aF hb rfl,hv.one,?_⟩
    repeat refine xS ?_
    intro o2 ho2 aAE;refine⟨_,_,_,hb,⟨by simp,by omega⟩,?_⟩;refine⟨_,rfl,⟨Lb.mk (arr:=arr) (t:=t) (fr:=fr) ?_ (by simp;omega) (by simp) ?_,?_⟩,⟨_,aD.bg ..,Lb.mk (arr:=arr) (t:=t) (fr:=fr) ?_ (by simp) (by omega) ?_,?_,OU.drop n,by simp;omega⟩,qP.set _ _ _⟩
    ·rw[aD.eH _ _ hbn];exact g1
    ·intro j u hu
     have:=(aQ.1 hu).1;simp only[aK]at this;rw[bN,aC (by omega)]at hu;exact g3 j u hu
    ·intro e;simp[lp]at e;exact hbn e
    ·rw[aD.eH _ _ hbn];exact g1
    ·intro j u hu
     rw[cT]at hu;have:n+j<l.length:=(aQ.1 hu).1;have e2:=ho2 (by omega);simp only[eG]at e2;have:=g3 _ u hu;rw[show o2+j=o1+(n+j) by simp at e2;omega];exact this
    ·intro e;simp[lp]at e;exact hbn e
theorem Lx.head(h:Lx m bp v l)(hl:l≠[]):∃b o c arr t fr,v= .slice (some ⟨b,o,none⟩) l.length c/\b≠bp/\m b=some (.cells arr t fr)/\(∀j n,l[j]?=some n->arr[o+j]?=some (.int .u8 n)):=by
 rcases h.1.cases with⟨c,rfl,h'⟩|⟨b,o,c,arr,t,fr,rfl,g1,g2,g3⟩
 ·grind
 ·exact⟨b,o,c,arr,t,fr,rfl,λe=>h.2 (by rw[e];rfl),g1,g3⟩
theorem akj{a c:Int}(ha:0<=a)(ha':a<72057594037927936)(hc:0<=c/\c<256):cp .or .u64 (nC .u64 a 8) (IntKind.u64.wrap c)=256*a+c:=by
 obtain⟨a,rfl⟩:=Fw ha;obtain⟨c,rfl⟩:=Fw hc.1;rw[wu]
 have e1:nC .u64 (a:Int) 8=((a*2^8:Nat):Int):=by
  show IntKind.u64.wrap ((a:Int)*256)=_
  rw[wu];omega
 rw[e1,Uo (by omega) (by omega),Dp 8 (by omega)];omega
theorem BV(h:Rd m bp s):
  bi tP 353 [cx bp] m λr m'=>r=[u64 (og s).1]/\Rd m' bp (og s).2/\qP m m' bp:=by
 have yB:jl s.1:=by obtain⟨v,_,_,_,h,_⟩:=h;exact h
 have Fa:=nF (n:=1) yB;have wz:=rK (n:=1) (s:=s);rcases qn:fL 1 s with⟨hd,s1⟩;rw[qn]at Fa wz;simp only at Fa wz;rcases hd with _|⟨c,_|⟨c',uA⟩⟩
 ·have e:og s=(0,s1):=by simp[og,qn]
  refine ub Tryz.func353 ?_;refine aP (jT (n:=1) h (by omega)) ?_;rintro _ m1⟨v1,rfl,lZ,h1,o1⟩;conv=>whnf
  rw[qn]at lZ h1;simp only at lZ h1;obtain⟨a1,c1,rfl⟩:=lZ.1.shape;refine xY ?_;conv=>whnf
  rw[e];exact⟨rfl,h1,o1⟩
 ·have hc:=Fa.1 c (by simp)
  have hcw:IntKind.i64.wrap c=(c.toNat:Int):=by rw[wi];omega
  have JI:=nF (n:=c.toNat) (zj (b:=decide (c<=8)) Fa.2);have Td:=rK (n:=c.toNat) (s:=ef (decide (c<=8)) s1)
  have hc8:c.toNat<=8\/(fL c.toNat (ef (decide (c<=8)) s1)).1=[]:=by
   by_cases h8:c<=8
   ·exact .inl (by omega)
   ·refine .inr ?_
    have:(ef (decide (c<=8)) s1).2≠0:=by
     unfold ef;split
     ·simp
     ·rename_i h;simp[h8]at h;exact h
    rw[fL,aC this]
  rcases jK:fL c.toNat (ef (decide (c<=8)) s1)with⟨l,s3⟩;rw[jK]at JI Td hc8;simp only at JI Td hc8
  have hl8:l.length<=8:=by
   rcases hc8 with h|h
   ·omega
   ·rw[h];simp
  have e:og s=(if (ef (l.isEmpty||decide (0<FQ l)) s3).2≠0 then 0 else VU l,ef (l.isEmpty||decide (0<FQ l)) s3):=by
   unfold og;rw[qn];dsimp only;rw[if_neg (by simp),show FQ [c]=c from rfl,jK]
  rcases l with _|⟨x,l'⟩
  ·refine ub Tryz.func353 ?_
   refine aP (jT (n:=1) h (by omega)) ?_;rintro _ m1⟨v1,rfl,lZ,h1,o1⟩;conv=>whnf
   rw[qn]at lZ h1;simp only at lZ h1;obtain⟨b,o,cc,arr,t,fr,rfl,hbn,kW,nT⟩:=lZ.head (by simp);refine⟨λh=>absurd h (by simp),λ_=>?_⟩;refine⟨⟨by simp,by simp⟩,?_⟩;refine⟨.int .u8 c,aF kW (nT 0 c rfl),rfl,?_⟩;refine aP (lh (is:=decide (c<=8)) h1) ?_;rintro _ m2⟨rfl,h2,o2⟩;have oM:m2 b=some (.cells arr t fr):=by rw[o2 b hbn];exact kW
   refine⟨⟨by simp,by simp⟩,?_⟩;refine⟨.int .u8 c,aF oM (nT 0 c rfl),rfl,?_⟩;conv=>whnf
   rw[hcw];refine aP (jT (n:=c.toNat) h2 (by omega)) ?_;rintro _ m3⟨v3,rfl,tX,h3,o3⟩;conv=>whnf
   rw[jK]at tX h3;simp only at tX h3;obtain⟨a3,c3,rfl⟩:=tX.1.shape;refine xY ?_;refine aP (lh (is:=true) h3) ?_;rintro _ m4⟨rfl,h4,o4⟩;refine .mk (ι:=Unit) (λ_=>0) (λ_ mm=>mm=m4) (λ_=>[(0,.c (cx bp)),(5,.c (u64 0)),(36,.c (.v (.slice a3 0 c3))),(37,.c (i64 0)),(38,.c (i64 0))]) (λ_=>[]) () rfl ?_ ?_
   ·exact Cr
   rintro _ _ rfl;refine xN ?_;have Ai:=h4;obtain⟨v4,OV,_⟩:=Ai;refine xM OV ?_;have qX:og s=(0,ef true s3):=by rw[e];simp[VU]
   rw[qX];apply bI<;>intro h5
   ·exact⟨rfl,h4,((o1.trans o2).trans o3).trans o4⟩
   ·exact⟨rfl,h4,((o1.trans o2).trans o3).trans o4⟩
  ·refine ub Tryz.func353 ?_
   refine aP (jT (n:=1) h (by omega)) ?_;rintro _ m1⟨v1,rfl,lZ,h1,o1⟩;conv=>whnf
   rw[qn]at lZ h1;simp only at lZ h1;obtain⟨b,o,cc,arr,t,fr,rfl,hbn,kW,nT⟩:=lZ.head (by simp);refine⟨λh=>absurd h (by simp),λ_=>?_⟩;refine⟨⟨by simp,by simp⟩,?_⟩;refine⟨.int .u8 c,aF kW (nT 0 c rfl),rfl,?_⟩;refine aP (lh (is:=decide (c<=8)) h1) ?_;rintro _ m2⟨rfl,h2,o2⟩;have oM:m2 b=some (.cells arr t fr):=by rw[o2 b hbn];exact kW
   refine⟨⟨by simp,by simp⟩,?_⟩;refine⟨.int .u8 c,aF oM (nT 0 c rfl),rfl,?_⟩;conv=>whnf
   rw[hcw];refine aP (jT (n:=c.toNat) h2 (by omega)) ?_;rintro _ m3⟨v3,rfl,tX,h3,o3⟩;conv=>whnf
   rw[jK]at tX h3;simp only at tX h3;obtain⟨b3,o3',cc3,ae9,t3,fr3,rfl,au5,Ah,ZK⟩:=tX.head (by simp);refine⟨λh=>absurd h (by simp;omega),λ_=>?_⟩;refine⟨⟨by simp,by simp⟩,?_⟩;refine⟨.int .u8 x,aF Ah (ZK 0 x rfl),rfl,?_⟩;refine aP (lh (is:=decide (0<x)) h3) ?_;rintro _ m4⟨rfl,h4,o4⟩;have e4:ef ((x::l').isEmpty||decide (0<FQ (x::l'))) s3=ef (decide (0<x)) s3:=rfl;rw[e4]at e;have QZ:=tX.only o4;refine .mk (ι:=Nat) (λi=>(x::l').length-i) (λi mm=>m4=mm/\i<=(x::l').length) (λi=>[(0,.c (cx bp)),(5,.c (u64 (VU ((x::l').take i)))),(36,.c (.v (.slice (some ⟨b3,o3',none⟩) (x::l').length cc3))),(37,.c (i64 (x::l').length)),(38,.c (i64 i))]) (λ_=>[]) 0 ⟨rfl,by simp⟩ ?_ ?_
   ·exact Cr
   rintro i _⟨rfl,hi⟩;apply bI<;>intro h5
   ·have h5':=ah h5
    have bH:i<(x::l').length:=by omega
    repeat refine xS ?_
    have avc:m4 b3=some (.cells ae9 t3 fr3):=by rw[o4 b3 au5];exact Ah
    refine⟨.int .u8 (x::l')[i],aF avc (ZK i _ (by simp)),rfl,?_⟩;refine⟨i+1,⟨rfl,by omega⟩,by omega,?_⟩;have hbt:=Mg (JI.1.take i);have hpw:(256:Nat)^((x::l').take i).length<=256^7:=pQ (by decide) (by rw[aK];omega);have hpe:((256^((x::l').take i).length:Nat):Int)=(256:Int)^((x::l').take i).length:=by simp
    have hx:=JI.1 (x::l')[i] (by simp)
    have dI:cp .or .u64 (nC .u64 (VU ((x::l').take i)) 8) (IntKind.u64.wrap (x::l')[i])=VU ((x::l').take (i+1)):=by
     rw[akj hbt.1 (by omega) hx,au bH,aeT]
    conv=>whnf
    repeat (refine And.intro (by first|with_reducible rfl|(first|exact cI (qJ (by omega))|exact cI dI)|exact cI (wi)|exact wi|rfl) ?_;conv=>whnf)
    exact xT
   ·have h5':=aj h5
    obtain rfl:i=(x::l').length:=by omega
    have Ai:=h4;obtain⟨v4,OV,_⟩:=Ai;refine xM OV ?_;conv=>whnf
    rw[e];apply bI<;>intro h6
    ·have h6':(ef (decide (0<x)) s3).2≠0:=by simpa using h6
     conv=>whnf
     rw[aC h6'];exact⟨rfl,h4,((o1.trans o2).trans o3).trans o4⟩
    ·have h6':(ef (decide (0<x)) s3).2=0:=by simpa using h6
     conv=>whnf
     rw[if_neg (by simp[h6']),aJ];exact⟨rfl,h4,((o1.trans o2).trans o3).trans o4⟩
 ·simp at wz
theorem Dg(h:jl s.1):BC (og s).1:=by
 have z:BC 0:=⟨by decide,by decide⟩;unfold og;rcases hr:fL 1 s with⟨hd,s1⟩;have b1:=nF (n:=1) h;rw[hr]at b1;dsimp only;split
 ·exact z
 ·rcases jK:fL (FQ hd).toNat (ef (decide (FQ hd<=8)) s1)with⟨l,s3⟩
  have b2:=nF (n:=(FQ hd).toNat) (zj (b:=decide (FQ hd<=8)) b1.2);have l2:=rK (n:=(FQ hd).toNat) (s:=ef (decide (FQ hd<=8)) s1);rw[jK]at b2 l2;dsimp only;split
  ·exact z
  ·refine arj b2.1 ?_
   by_cases h8:FQ hd<=8
   ·grind
   ·have:(ef (decide (FQ hd<=8)) s1).2≠0:=by
     unfold ef;split
     ·simp
     grind
    rw[fL,aC this]at jK
    grind
theorem Rd.xA(h:Rd m bp s):jl s.1:=by obtain⟨v,_,_,_,h,_⟩:=h;exact h
variable{dG:Int}
theorem j9(h:Rd m bp s)(hm:I64 dG):
  bi tP 293 [cx bp,i64 dG] m λr m'=>r=[i64 (cZ dG s).1]/\Rd m' bp (cZ dG s).2/\qP m m' bp:=by
 have hU:=Dg h.xA;have hU0:=hU.1;have hU1:=hU.2;have hm0:=hm.1;have NT:=hm.2;rcases hr:og s with⟨n,s1⟩;rw[hr]at hU0 hU1;simp only at hU0 hU1
 have key:∀is:Bool,is=(decide (0<=dG)&&decide (n<=max dG 0))->cZ dG s=(if (ef is s1).2≠0 then 0 else n,ef is s1):=by
  rintro is rfl;simp only[cZ,hr]
 refine ub Tryz.func293 ?_;refine aP (BV h) ?_;rintro _ m1⟨rfl,h1,o1⟩;conv=>whnf
 rw[hr]at h1;simp only[]at h1;apply bI<;>intro h2
 ·have iD:=ah h2
  conv=>whnf
  have k:=key (decide (n<=max dG 0)) (by simp[iD]);rw[hr];have ew:IntKind.u64.wrap (max dG 0)=max dG 0:=wu;rw[ew];refine aP (lh (is:=decide (n<=max dG 0)) h1) ?_;rintro _ m3⟨rfl,h3,o3⟩;refine bt (iX h3) ?_;conv=>whnf
  rw[k];apply bI<;>intro h4
  ·have Ai:(ef (decide (n<=max dG 0)) s1).2≠0:=by simpa using h4
   conv=>whnf
   rw[aC Ai];exact⟨rfl,h3,o1.trans o3⟩
  ·have Ai:(ef (decide (n<=max dG 0)) s1).2=0:=by simpa using h4
   conv=>whnf
   have hle:n<=max dG 0:=by
    unfold ef at Ai
    split at Ai
    ·simp at Ai
    ·rename_i hh;simp[Ai]at hh;omega
   rw[if_neg (by simp[Ai]),wi];exact⟨rfl,h3,o1.trans o3⟩
 ·have iD:=aj h2
  have k:=key false (by simp[iD]);refine aP (lh (is:=false) h1) ?_;rintro _ m3⟨rfl,h3,o3⟩;refine bt (iX h3) ?_;conv=>whnf
  rw[k]
  have ga:(ef false s1).2≠0:=by
   unfold ef;split
   ·simp
   ·rename_i hh;simpa using hh
  apply bI<;>intro h4
  ·conv=>whnf
   rw[aC ga];exact⟨rfl,h3,o1.trans o3⟩
  ·exact absurd h4 (by simpa using ga)
theorem yM(h:Rd m bp s):eN tP 201 [cx bp] m [i64 (if s.2≠0 then s.2 else if s.1=[]then 0 else 2)]:=by
 have h0:=h;obtain⟨v,hb,hv,hn,OU,hl⟩:=h;refine ub Tryz.func201 ?_;refine bt (iX h0) ?_;apply bI<;>intro h1
 ·have jc:s.2≠0:=by simpa using h1
  conv=>whnf
  rw[aC jc];exact rR
 ·have jc:s.2=0:=by simpa using h1
  obtain⟨a,c,rfl⟩:=hv.shape;refine⟨.slice a s.1.length c,aF hb rfl,rfl,?_⟩;conv=>whnf
  rw[if_neg (by simp[jc])];apply bI<;>intro h2
  ·have iD:=ah h2
   conv=>whnf
   rw[if_neg (by intro e;simp[e]at iD)];exact rR
  ·have iD:=aj h2
   conv=>whnf
   rw[aC (by apply cB;omega)];exact rR
theorem asW{n:Int}(h:BC n):oV .u64 n 1=n/2:=by
 show n.fdiv 2=_
 grind
theorem amo{n:Int}(h:BC n):cp .and .u64 n 1=n%2:=by
 obtain⟨k,rfl⟩:=Fw h.1;have:=h.2;have e:=OK (a:=k) (b:=1) (by omega) (by omega)
 grind
theorem AW{b:Bool}(h:(ef b s).2=0):s.2=0/\b=true:=by
 unfold ef at h
 grind
theorem adg(h:Rd m bp s):
  bi tP 354 [cx bp] m λr m'=>r=[i64 (Jt s).1]/\Rd m' bp (Jt s).2/\qP m m' bp:=by
 have hU:=Dg h.xA;rcases hr:og s with⟨n,s1⟩;rw[hr]at hU;simp only at hU;have hU0:=hU.1;have hU1:=hU.2
 have hI:Jt s=(let s2:=if n%2=0 then ef (decide (n/2<=4611686018427387904)) s1 else ef (decide (n/2<4611686018427387904)) s1;(if s2.2≠0 then 0 else if n%2=1 then-(n/2)-1 else n/2,s2)):=by
  simp only[Jt,hr]
 refine ub Tryz.func354 ?_;refine aP (BV h) ?_;rintro _ m1⟨rfl,h1,o1⟩;conv=>whnf
 simp only[hr]at h1;rw[hr];simp only[asW hU,amo hU];apply bI<;>intro h2
 ·have iD:n%2=0:=by simpa using h2
  refine aP (lh (is:=decide (n/2<=4611686018427387904)) h1) ?_;rintro _ m3⟨rfl,h3,o3⟩;refine bt (iX h3) ?_;conv=>whnf
  rw[hI];simp only[iD,oN];apply bI<;>intro h4
  ·have Ai:(ef (decide (n/2<=4611686018427387904)) s1).2≠0:=by simpa using h4
   conv=>whnf
   rw[aC Ai];exact⟨rfl,h3,o1.trans o3⟩
  ·have Ai:(ef (decide (n/2<=4611686018427387904)) s1).2=0:=by simpa using h4
   refine⟨λh=>absurd h (by rw[amo hU,iD];decide),λ_=>?_⟩;conv=>whnf
   have:=ah (AW Ai).2;rw[if_neg (by simp[Ai]),if_neg (by decide),wi];exact⟨rfl,h3,o1.trans o3⟩
 ·have iD:n%2=1:=by have:n%2≠0:=(by simpa using h2);omega
  refine aP (lh (is:=decide (n/2<4611686018427387904)) h1) ?_;rintro _ m3⟨rfl,h3,o3⟩;refine bt (iX h3) ?_;conv=>whnf
  rw[hI];simp only[iD,if_neg (show ¬(1:Int)=0 by decide),oN];apply bI<;>intro h4
  ·have Ai:(ef (decide (n/2<4611686018427387904)) s1).2≠0:=by simpa using h4
   conv=>whnf
   rw[aC Ai];exact⟨rfl,h3,o1.trans o3⟩
  ·have Ai:(ef (decide (n/2<4611686018427387904)) s1).2=0:=by simpa using h4
   refine⟨λ_=>?_,λh=>absurd h (by rw[amo hU,iD];decide)⟩;conv=>whnf
   have:=ah (AW Ai).2;rw[wi,WD (by omega) (by omega),if_neg (by simp[Ai])];exact⟨rfl,h3,o1.trans o3⟩
theorem ij(h:jl s.1)(hm:I64 dG):0<=(cZ dG s).1/\(cZ dG s).1<=max dG 0:=by
 have hU:=Dg h;rcases hr:og s with⟨n,s1⟩;rw[hr]at hU;have hU0:0<=n:=hU.1;simp only[cZ,hr];split
 ·omega
 ·rename_i hh
  have:=(AW (by simpa using hh)).2
  grind
theorem KD(h:Rd m bp s)(hm:I64 dG):
  bi tP 199 [cx bp,i64 dG] m λr m'=>∃v p q,r=[.v v]/\aq m' [p,q]/\Bs p v (kM dG s).1/\Rd q bp (kM dG s).2:=by
 have hn:=ij (dG:=dG) h.xA hm;have NT:=hm.2;rcases hr:cZ dG s with⟨k,s1⟩;rw[hr]at hn;simp only at hn;have ht:kM dG s=fL k.toNat s1:=by simp only[kM,hr]
 refine ub Tryz.func199 ?_;refine aP (j9 h hm) ?_;rintro _ m1⟨rfl,h1,o1⟩;conv=>whnf
 simp only[hr]at h1;rw[hr];have hk:(i64 k)=i64 (k.toNat:Int):=by rw[Int.toNat_of_nonneg hn.1]
 simp only[hk];refine aP (jT h1 (by omega)) ?_;rintro _ m2⟨v2,rfl,lD,h2,o2⟩;have OU:=nF (n:=k.toNat) h1.xA
 have hlen:(fL k.toNat s1).1.length<=100000000:=by
  obtain⟨v,_,_,_,_,hl⟩:=h1;unfold fL;split
  ·simp
  ·split
   ·simp
   ·simp;omega
 refine aP (sQ lD.1.la hlen) ?_;rintro _ m3⟨v3,p3,rfl,dy,tX⟩;conv=>whnf
 rw[ht];exact⟨v3,p3,m2,rfl,dy,tX,h2⟩
theorem Rd.mono(h:Rd m bp s)(hs:cL m m'):Rd m' bp s:=by
 obtain⟨v,h1,h2,h3⟩:=h;exact⟨v,hs _ _ h1,h2.sub hs,h3⟩
theorem ab1:(fL 32 s).1=[]\/(fL 32 s).1.length=32:=by
 unfold fL;split
 ·grind
 grind
theorem GM(h:Rd m bp s):
  bi tP 308 [cx bp] m λr m'=>r=[aq7 (gZ s).1]/\Rd m' bp (gZ s).2:=by
 have h32:=ab1 (s:=s)
 have NW:(gZ s).1.length=32:=by
  simp only[gZ];rcases h32 with e|e
  ·rw[e];rfl
  ·simp[e]
 refine A4 awe Tryz.func308 ?_;intro b hb;intro o' ho _;obtain rfl:o'=0:=ho (by decide);have LK:=(aq.one m).new hb (Obj.cells (LB.cz [eB.bG IntKind.u8 32 (List.replicate 32 0)]).toArray 33);refine aP ((jT (n:=32) h (by decide)).at (i:=1) LK rfl) ?_;rintro _ m2⟨p2,⟨v2,rfl,lD,h2,o2⟩,bZ⟩;have oM:=bZ.at (i:=0) rfl _ _ (aG b _);refine .mk _ (VL eR hBs rfl hU8 rfl oM (by simp[LB.cz,eB.cells]) (lD.1.sub (bZ.at (i:=1) rfl))) ?_;rintro _ _⟨rfl,rfl⟩;have dy:=bZ.gu (i:=0) rfl (aG b _) (Obj.cells (LB.cz [eB.bG IntKind.u8 32 (gZ s).1]).toArray 33)
 have HV:(List.take 0 (LB.cz [eB.bG IntKind.u8 32 (List.replicate 32 0)]).toArray.toList++List.take 32 (bc (fL 32 s).1)++List.drop (0+(List.take 32 (bc (fL 32 s).1)).length) (LB.cz [eB.bG IntKind.u8 32 (List.replicate 32 0)]).toArray.toList)=LB.cz [eB.bG IntKind.u8 32 (gZ s).1]:=by
  simp only[gZ];rcases h32 with e|e
  ·rw[e];rfl
  ·simp[e,bc,LB.cz,eB.cells,bP]
 rw[HV];refine⟨[.bG .u8 32 (gZ s).1],⟨NW,trivial⟩,rfl,dQ.Wl [] [] (aD.bg ..) rfl,?_⟩;exact⟨rfl,h2.mono (dy.at (i:=1) rfl)⟩
theorem Df:∀(k:Nat) (s:RS),(mz k s).1.length=k
 |0,_=>rfl
 |k+1,s=>by simp[mz,Df k s]
theorem YP{k:Nat}(h:k<8):((mz k s).1++List.replicate (8-k) 0).set k (og (mz k s).2).1=(mz (k+1) s).1++List.replicate (8-(k+1)) 0:=by
 have hl:=Df k s;rw[fA _ _ (by omega),hl,kF];obtain⟨j,hj⟩:∃j,8-k=j+1:=⟨8-k-1,by omega⟩;rw[hj,List.replicate_succ,s7,show 8-(k+1)=j by omega];simp[mz]
theorem abf(h:Rd m bp s):
  bi tP 294 [cx bp] m λr m'=>r=[aa4 (uS s).1]/\Rd m' bp (uS s).2/\qP m m' bp:=by
 refine ub Tryz.func294 ?_
 refine .mk (ι:=Nat) (λi=>8-i) (λi mm=>i<=8/\Rd mm bp (mz i s).2/\qP m mm bp)
  (λi=>[(0,.c (cx bp)),(2,.p 0 0),(3,.p 1 0),(5,.c (i64 i))]) (λi=>[(76,[.bG .u64 8 (List.replicate 8 0)]),(76,[.bG .u64 8 ((mz i s).1++List.replicate (8-i) 0)])]) 0 ⟨by omega,h,qP.refl _ _⟩ ?_ ?_
 ·exact Cr
 rintro i mm⟨hi,h1,o1⟩;apply bI<;>intro h2
 ·have iD:=ah h2
  refine aP (BV h1) ?_;rintro _ m3⟨rfl,h3,o3⟩
  repeat refine xS ?_
  refine⟨i+1,⟨by omega,h3,o1.trans o3⟩,by omega,?_⟩;conv=>whnf
  repeat (refine And.intro (by first|with_reducible rfl|(first|exact cI (qJ (by omega))|exact YP (by omega))|exact cI (wi)|exact wi|rfl) ?_;conv=>whnf)
  exact xT
 ·have iD:=aj h2
  obtain rfl:i=8:=by omega
  refine bt (iX h1) ?_;have hv:uS s=(if (mz 8 s).2.2≠0 then List.replicate 8 0 else(mz 8 s).1,(mz 8 s).2):=rfl;rw[hv];apply bI<;>intro h3
  ·have yF:(mz 8 s).2.2≠0:=by simpa using h3
   conv=>whnf
   rw[aC yF];exact⟨rfl,h1,o1⟩
  ·have yF:(mz 8 s).2.2=0:=by simpa using h3
   conv=>whnf
   rw[if_neg (by simp[yF])];refine⟨?_,h1,o1⟩;simp
theorem IZ.ok{e:En}(h:IZ e):CS e:=by
 have h1:=h.i1;have h2:=h.i2;have h3:=h.n1;have h4:=h.n2;have h5:=h.k1;have h6:=h.k2;have h7:=h.q1;have h8:=h.q2;unfold CS I U;omega
variable{E:List En}
theorem Vz(h:i<E.length):oB (E.take (i+1))=oB (E.take i)++JW E[i]:=by
 rw[au h,oB,bD,gk];simp[oB]
variable{c:Nat}
theorem K1{mm p:aD}(hS:cK m){u:List Int}{a:Option Addr}(hs:aq mm [p,m])(hw:Wr p bp l)(hv:Na m (.slice a E.length c) E)(hu:yZ u)(hI:∀e∈E,CS e)(hl:l.length<=10000000-100000)(hlE:E.length<=1000000):
  bi tP 67 [cx bp,iY u a E.length c] mm λr m'=>r=[]/\∃p',aq m' [p',m]/\Wr p' bp (l++AY (u,E)):=by
 have B8:cL m mm:=hs.sub (by simp);refine ub Tryz.func67 ?_;refine bt (pV (u:=u) (hS.sub B8) (hv.sub B8) hI hlE) ?_;by_cases hr:dA u E=true;rotate_left
 ·have hr:dA u E=false:=by simpa using hr
  rw[hr];refine xY ?_;refine⟨rfl,p,hs,?_⟩;simp only[AY];rw[if_neg (by rw[hr];decide),cO];exact hw
 have ajB:=tM hu hr;have aBT:=pj hr;have hvl:=qd u;rw[hu.1]at hvl;rw[hr];refine xN ?_;refine aP (bi.frame hs (XX (v:=u) hw hu (by omega))) ?_;rintro _ m1⟨p1,⟨rfl,Zs⟩,bM⟩;conv=>whnf
 rw[wu];refine aP (bi.frame bM (iK (n:=(E.length:Int)) Zs (yf (by omega)) (by rw[ax];omega))) ?_;rintro _ m2⟨p2,⟨rfl,hw2⟩,bZ⟩;have Tc:=eI (E.length:Int);have aqv:(l++kH u++fe (E.length:Int)).length<=10000000-90000:=by simp only[ax];omega
 have u9:l++AY (u,E)=l++kH u++fe (E.length:Int)++oB E:=by
  simp only[AY];rw[aC hr,yV];simp only[aX]
 rw[u9];generalize l++kH u++fe (E.length:Int)=l0 at hw2 aqv;refine .mk (ι:=Nat) (λi=>E.length-i) (λi mm=>i<=E.length/\∃p,aq mm [p,m]/\Wr p bp (l0++oB (E.take i))) (λi=>[(0,.c (cx bp)),(20,.c (.v (.slice a E.length c))),(21,.c (i64 E.length)),(22,.c (i64 i))]) (λ_=>[]) 0 ⟨by omega,p2,bZ,by simpa [oB]using hw2⟩ ?_ ?_
 ·exact Cr
 rintro i mm⟨hi,p,hs,hw⟩;apply bI<;>intro h
 ·have h':=ah h
  have bH:i<E.length:=by omega
  obtain⟨bl,ol,c',hh,hg⟩:=(hv.sub (hs.sub (a:=m))).real bH;injection hh with eK _ fN;subst eK;have hg:=hg i bH;have dI:=Vz bH;have JS:=ajB _ (aO bH);have xz:=D6 (E:=E.take i) λe he=>ajB e (bX he);rw[aK]at xz;generalize E[i]=x at hg dI JS;have e1:=JS.i1;have e2:=JS.i2;have e3:=JS.n1;have e4:=JS.n2;have e5:=JS.k1;have e6:=JS.k2;have e7:=JS.q1;have e8:=JS.q2;have el:=RZ JS
  repeat refine xS ?_
  refine⟨[.one (.int .i64 x.1),.one (.int .i64 x.2.1),.one (.int .u64 x.2.2.1),.one (.int .i64 x.2.2.2)],⟨rfl,rfl,rfl,rfl,trivial⟩,rfl,by simp only[bK,aA];exact hg,?_⟩;conv=>whnf
  rw[wu];have n1:=eI x.1;have n2:=eI x.2.1;have n3:=eI x.2.2.1;refine aP (bi.frame hs (iK (n:=x.1) hw ⟨by omega,by omega⟩ (by simp only[ax];omega))) ?_;rintro _ k1⟨q1,⟨rfl,mQ⟩,Fa⟩;conv=>whnf
  rw[wu];refine aP (bi.frame Fa (iK (n:=x.2.1) mQ ⟨by omega,by omega⟩ (by simp only[ax];omega))) ?_;rintro _ k2⟨q2,⟨rfl,rO⟩,JI⟩;refine aP (bi.frame JI (iK (n:=x.2.2.1) rO ⟨by omega,by omega⟩ (by simp only[ax];omega))) ?_;rintro _ k3⟨q3,⟨rfl,EK⟩,W5⟩;refine aP (bi.frame W5 (X3 (n:=x.2.2.2) EK ⟨by omega,by omega⟩ (by simp only[ax];omega))) ?_;rintro _ k4⟨q4,⟨rfl,Zx⟩,W4⟩;refine⟨i+1,⟨by omega,q4,W4,?_⟩,by omega,?_⟩
  ·rw[dI,JW]
   simpa only[aX]using Zx
  ·exact Cr
 ·have h':=aj h
  obtain rfl:i=E.length:=by omega
  rw[aJ]at hw;exact⟨rfl,p,hs,hw⟩
theorem aoG(h:jl s.1):I64 (Jt s).1:=by
 have hU:=Dg h;rcases hr:og s with⟨n,s1⟩;rw[hr]at hU;have h0:0<=n:=hU.1;have h1:n<18446744073709551616:=hU.2;unfold Jt I64;rw[hr];dsimp only;split
 ·omega
 ·split<;>omega
theorem agm(h:jl s.1):jl (og s).2.1:=by
 unfold og;rcases hr:fL 1 s with⟨hd,s1⟩;have b1:=nF (n:=1) h;rw[hr]at b1;dsimp only;split
 ·exact b1.2
 ·exact zj (nF (zj b1.2)).2
theorem aoF(h:jl s.1):yZ (uS s).1:=by
 have hn:∀k,jl (mz k s).2.1/\∀x∈(mz k s).1,BC x:=by
  intro k
  induction k with
  |zero=>exact⟨h,by simp[mz]⟩
  |succ k ih=>
   refine⟨agm ih.1,?_⟩;intro x hx;simp only[mz,aR,aL]at hx;rcases hx with hx|rfl
   ·exact ih.2 x hx
   ·exact Dg ih.1
 refine⟨?_,?_⟩
 ·unfold uS;simp only;split
  ·simp
  ·exact Df 8 s
 ·unfold uS;simp only;split
  ·intro x hx
   have:=rI hx;subst this;exact⟨by decide,by decide⟩
  ·exact(hn 8).2
theorem VA(h:Rd m bp s):
  bi tP 296 [cx bp] m λr m'=>r=[Nv (Iq s).1]/\Rd m' bp (Iq s).2/\CS (Iq s).1:=by
 refine ub Tryz.func296 ?_;have k1:=ij (dG:=60) h.xA ⟨by decide,by decide⟩;refine aP (j9 (dG:=60) h ⟨by decide,by decide⟩) ?_;rintro _ m1⟨rfl,h1,o1⟩;have k2:=ij (dG:=8) h1.xA ⟨by decide,by decide⟩;refine aP (j9 (dG:=8) h1 ⟨by decide,by decide⟩) ?_;rintro _ m2⟨rfl,h2,o2⟩;have k3:=Dg h2.xA;refine aP (BV h2) ?_;rintro _ m3⟨rfl,h3,o3⟩;have k4:=aoG h3.xA;refine aP (adg h3) ?_;rintro _ m4⟨rfl,h4,o4⟩;refine⟨rfl,h4,?_⟩;unfold Iq CS I U;unfold BC at k3;unfold I64 at k4;simp only;omega
theorem pg:yZ fx:=⟨rfl,λx hx=>by have:=rI hx;subst this;exact⟨by decide,by decide⟩⟩
theorem Vx(h:s.2≠0):w8 n E s=(E,s):=by
 cases n with
 |zero=>rfl
 |succ n=>rw[w8,aC h]
theorem Vy(h:s.2=0):w8 (n+1) E s=w8 n (E++[(Iq s).1]) (Iq s).2:=by rw[w8,if_neg (by rw[h];decide)]
theorem AZ{mm q:aD}(hS:cK m)(hs:aq mm [q,m])(hr:Rd q bp s):
  bi tP 200 [cx bp] mm λr m'=>∃x a c q' p,x=(oU s).1/\r=[iY x.1 a x.2.length c]/\aq m' [p,q',m]/\Rd q' bp (oU s).2/\Na p (.slice a x.2.length c) x.2/\yZ x.1/\∀e∈x.2,CS e:=by
 refine A4 awx Tryz.func200 ?_;have hu:=aoF hr.xA;refine aP (bi.frame hs (abf hr)) ?_;rintro _ m1⟨q1,⟨rfl,qn,_⟩,bM⟩;have hn:=ij (dG:=400) qn.xA ⟨by decide,by decide⟩;refine aP (bi.frame bM (j9 (dG:=400) qn ⟨by decide,by decide⟩)) ?_;rintro _ m2⟨q2,⟨rfl,jK,_⟩,bZ⟩;have hD:wS s=w8 (cZ 400 (uS s).2).1.toNat [] (cZ 400 (uS s).2).2:=rfl;have hx1:Av s=ef (dA (uS s).1 (wS s).1) (wS s).2:=rfl;have Be:oU s=(if (Av s).2≠0 then(fx,[])else((uS s).1,(wS s).1),Av s):=rfl;generalize uS s=us at*;generalize cZ 400 us.2=ns at*;obtain⟨u,us2⟩:=us;obtain⟨n,ns2⟩:=ns;simp only at hu qn jK hn hD hx1 Be⊢;have hz:List.take 0 (List.replicate 8 (0:Int))++(u++List.drop (0+8) (List.replicate 8 0))=u:=by simp
 obtain⟨k,rfl⟩:∃k:Nat,n=(k:Int):=⟨n.toNat,by omega⟩;rw[aA]at hD;have hk:k<=400:=by omega
 generalize wS s=dd at*;generalize Av s=ss at*;generalize oU s=cc at*;refine .mk (ι:=Nat×Value×Nat×Nat) (λi=>k-i.1) (λ⟨i,a,nE,c⟩ mm=>i<=k/\∃p q E si,nE=List.length E/\E.length<=i/\aq mm [p,q,m]/\No p a E/\(∃aa,a= .slice aa nE c)/\Rd q bp si/\dd=w8 (k-i) E si/\∀e∈E,CS e) (λ⟨i,a,nE,c⟩=>[(0,.c (cx bp)),(2,.p 0 0),(3,.p 1 0),(8,.c (i64 k)),(9,.c (i64 i))]) (λ⟨i,a,nE,c⟩=>[(79,[.bG .u64 8 (List.replicate 8 0),.one (.slice none 0 0)]),(79,[.bG .u64 8 u,.one a])]) (0,.slice none 0 0,0,0) ⟨by omega,iI,q2,[],ns2,rfl,by simp,bZ.cA,No.nil _,⟨none,rfl⟩,jK,hD,by simp⟩ ?_ ?_
 ·conv=>whnf
  repeat (refine And.intro (by first|with_reducible rfl|(exact hz)|exact cI (wi)|exact wi|rfl) ?_;conv=>whnf)
  exact xT
 rintro⟨i,a,nE,c⟩ mm ⟨hi,p,q,E,si,hE,hEi,hs,hp,⟨aa,ha⟩,hr,Rj,ez⟩;subst hE ha;apply bI<;>intro h
 ·have h':=ah h
  have bH:i<k:=by omega
  refine bt (iX (hr.mono (hs.sub))) ?_;apply bI<;>intro h
  ·have ga:si.2≠0:=by simpa using h
   have adP:dd=(E,si):=by rw[Rj,Vx ga]
   have e1:dd.1=E:=by rw[adP]
   have e2:dd.2=si:=by rw[adP]
   rw[e1,e2]at hx1;rw[e1]at Be;refine bt (pV (u:=u) (hS.sub (hs.sub)) (hp.ea.sub (hs.sub)) ez (by omega)) ?_;refine aP (bi.at (i:=1) hs rfl (lh (is:=dA u E) hr)) ?_;rintro _ m5⟨q5,⟨rfl,hr5,_⟩,eD⟩;have eD:aq m5 [p,q5,m]:=eD;rw[<-hx1]at hr5;refine bt (iX (hr5.mono (eD.sub))) ?_;apply bI<;>intro h
   ·have h':ss.2≠0:=by simpa using h
    rw[aC h']at Be;exact⟨(fx,[]),none,0,q5,iI,by rw[Be],rfl,eD.drop.cA,by rw[Be];exact hr5,Na.nil _,pg,by simp⟩
   ·have h':¬ss.2≠0:=by simpa using h
    rw[if_neg h']at Be;exact⟨(u,E),aa,c,q5,p,by rw[Be],by simp,eD,by rw[Be];exact hr5,hp.ea,hu,ez⟩
  ·have ga:si.2=0:=by simpa using h
   have hkk:k-i=(k-(i+1))+1:=by omega
   rw[hkk,Vy ga]at Rj;refine aP (bi.at (i:=1) hs rfl (VA hr)) ?_;rintro _ m3⟨q3,⟨rfl,wo,alg⟩,dy⟩
   try refine⟨λ_ h=>(by cases h),?_⟩
   have dy:aq m3 [p,q3,m]:=dy;generalize Iq si=ee at Rj wo alg⊢;obtain⟨x,si'⟩:=ee;simp only at Rj wo alg;refine .mk _ (FW (e:=x)) ?_;rintro _ _⟨b5,mo,rfl,rfl⟩
   try refine⟨λ_ h=>(by cases h),?_⟩
   refine .mk _ (Wx (i:=0) dy rfl mo hp (by omega)) ?_;rintro _ m6⟨v',p',rfl,gC,tZ⟩
   try refine⟨λ_ h=>(by cases h),?_⟩
   have gC:aq m6 [p',q3,m]:=gC;obtain⟨a',c',rfl⟩:=tZ.el.shape;refine⟨(i+1,.slice a' (E++[x]).length c',(E++[x]).length,c'),⟨by omega,p',q3,E++[x],si',rfl,by rw[ax];simp;omega,gC,tZ,⟨a',rfl⟩,wo,Rj,λe he=>?_⟩,by simp only;omega,?_⟩
   ·rcases aR.1 he with he|he
    ·exact ez e he
    ·rw[aL.1 he];exact alg
   ·exact Cr
 ·have h':=aj h
  obtain rfl:i=k:=by omega
  rw[kF]at Rj;have adP:dd=(E,si):=Rj;have e1:dd.1=E:=by rw[adP]
  have e2:dd.2=si:=by rw[adP]
  rw[e1,e2]at hx1;rw[e1]at Be;refine bt (pV (u:=u) (hS.sub (hs.sub)) (hp.ea.sub (hs.sub)) ez (by omega)) ?_;refine aP (bi.at (i:=1) hs rfl (lh (is:=dA u E) hr)) ?_;rintro _ m5⟨q5,⟨rfl,hr5,_⟩,eD⟩;have eD:aq m5 [p,q5,m]:=eD;rw[<-hx1]at hr5;refine bt (iX (hr5.mono (eD.sub))) ?_;apply bI<;>intro h
  ·have h':ss.2≠0:=by simpa using h
   rw[aC h']at Be;exact⟨(fx,[]),none,0,q5,iI,by rw[Be],rfl,eD.drop.cA,by rw[Be];exact hr5,Na.nil _,pg,by simp⟩
  ·have h':¬ss.2≠0:=by simpa using h
   rw[if_neg h']at Be;exact⟨(u,E),aa,c,q5,p,by rw[Be],by simp,eD,by rw[Be];exact hr5,hp.ea,hu,ez⟩
def QK(L:List Kd)(i:Nat):Kd:=L.getD i (ByteArray.empty,[],[])
theorem wk{L:List Kd}(h:i<L.length):L[i]=QK L i:=by rw[QK,aI,az h];rfl
theorem ahc{L:List Kd}(h:i<L.length):QK L i∈L:=by rw[<-wk h];exact aO h
def Jx(L:List Kd)(i:Nat):Bool:=decide ((QK L i).1.size<=20)&&(decide (i=0)||eZ (QK L (i-1)).1 (QK L i).1)&&dA (QK L i).2.1 (QK L i).2.2
def cX(L:List Kd):Bool:=(List.range L.length).all (Jx L)&&decide (L.length<=2000)
structure jg(x:Kd):Prop where
 u:yZ x.2.1
 e:∀e∈x.2.2,CS e
 n:x.2.2.length<=1000
theorem ki.arg(h:ki x):jg x:=⟨h.u,λe he=>(tM h.u h.r e he).ok,by have:=pj h.r;omega⟩
theorem el8(h:pP m r x):LB.cz [.one (.string x.1),.bG .u64 8 x.2.1,.one (.slice r.2.2.1 x.2.2.length r.2.2.2.2)]=fj r:=by
 rw[fj,h.u,yn h.u8,h.k,<-h.len];simp[LB.cz,eB.cells]
theorem iC(hS:cK m){L:List Kd}(hv:lu m v L)(hA:∀x∈L,jg x)(hl:L.length<=1000000):
  bi tP 64 [.v v] m λr m'=>r=[bR (cX L)]/\cL m m':=by
 obtain⟨R,hR,hK⟩:=hv;obtain⟨av,cv,rfl⟩:=hR.shape;have hlen:=hK.len
 have NX:∀i,i<L.length->Jx L i=false->cX L=false:=λi hi e=>by
  have:(List.range L.length).all (Jx L)=false:=by
   rw[uI];exact⟨i,dS.2 hi,by rw[e];decide⟩
  rw[cX,this];rfl
 refine A4 c64 Tryz.func64 ?_;refine .mk (ι:=Nat) (λi=>R.length-i) (λi mm=>i<=R.length/\(∀j,j<i->Jx L j=true)/\cL m mm) (λi=>[(0,.c (.v (.slice av R.length cv))),(5,.c (.v (.slice av R.length cv))),(6,.c (i64 R.length)),(7,.c (i64 i))]) (λ_=>[]) 0 ⟨by omega,by omega,cL.refl _⟩ ?_ ?_
 ·exact Cr
 rintro i mm⟨hi,cM,hs⟩;apply bI<;>intro h
 ·have h':=ah h
  have bH:i<R.length:=by omega
  obtain⟨bl,ol,c',hh,hg⟩:=hR.real bH;injection hh with eK _ fN;subst eK;have Xk:=NX i (by omega);have js:=hg i bH;have Ag:=hg (i-1) (by omega);have hx:=hK.je i bH (by omega);have hx1:=hK.je (i-1) (by omega) (by omega);have LX:=hA _ (aO (show i<L.length by omega));have ez:Jx L i=(decide ((QK L i).1.size<=20)&&(decide (i=0)||eZ (QK L (i-1)).1 (QK L i).1)&&dA (QK L i).2.1 (QK L i).2.2):=rfl;rw[<-wk (show i<L.length by omega),<-wk (show i-1<L.length by omega)]at ez;rw[<-el8 hx]at js;have U6:(fj R[i-1])[0]?=some (.string L[i-1].1):=by rw[<-hx1.k];rfl
  have oY:=dQ.ajD Ag U6;have zu:=hx.len;have FO:=hx.e;have OQ:=hx.u8;generalize L[i]=x at*;generalize R[i]=r at*;generalize L[i-1]=y at*;rw[zu]at FO;obtain⟨xk,xu,xE⟩:=x;obtain⟨rk,ru,ra,rn,rc⟩:=r;simp only at js ez LX FO OQ
  repeat refine xS ?_
  refine⟨[.one (.string xk),.bG .u64 8 xu,.one (.slice ra xE.length rc)],⟨rfl,OQ,rfl,trivial⟩,rfl,by simp only[bK,aA];exact js.sub hs,?_⟩;apply bI<;>intro h
  ·have h2:20<xk.size:=by have:=ah h;omega
   rw[aY (by omega)]at ez;exact⟨by rw[Xk (by rw[ez];rfl)],hs⟩
  have h2:¬ 20<xk.size:=by have:=aj h;omega
  rw[bB (by omega),bj]at ez;apply bI<;>intro h
  ·have h3:0<i:=by have:=ah h;omega
   rw[aY (show ¬i=0 by omega),nW]at ez;have ew:IntKind.i64.wrap ((i:Int)-1)=((i-1:Nat):Int):=by rw[wi];omega
   conv=>whnf
   rw[ew]
   repeat refine xS ?_
   refine xL (nH oY hs) ?_;conv=>whnf
   have HS:(!Op.bytesLess y.1.toList xk.toList)= !eZ y.1 xk:=rfl;rw[HS];by_cases hls:eZ y.1 xk=true;rotate_left
   ·have hls:eZ y.1 xk=false:=by simpa using hls
    rw[hls]at ez⊢;refine xY ?_;exact⟨by rw[Xk (by rw[ez];rfl)],hs⟩
   rw[hls]at ez⊢;refine xN ?_;refine bt (pV (u:=xu) (hS.sub hs) (FO.sub hs) LX.e (by have:=LX.n;simp only at this;omega)) ?_;by_cases hr:dA xu xE=true;rotate_left
   ·have hr:dA xu xE=false:=by simpa using hr
    rw[hr]at ez⊢;refine xY ?_;exact⟨by rw[Xk (by rw[ez];simp)],hs⟩
   rw[hr]at ez⊢;refine xN ?_;refine⟨i+1,⟨by omega,λj hj=>?_,hs⟩,by omega,?_⟩
   ·by_cases e:j=i
    ·subst e;rw[ez];rfl
    ·exact cM j (by omega)
   ·exact Cr
  ·have h3:i=0:=by have:=aj h;omega
   rw[bB h3,Bool.true_or]at ez;refine bt (pV (u:=xu) (hS.sub hs) (FO.sub hs) LX.e (by have:=LX.n;simp only at this;omega)) ?_;by_cases hr:dA xu xE=true;rotate_left
   ·have hr:dA xu xE=false:=by simpa using hr
    rw[hr]at ez⊢;refine xY ?_;exact⟨by rw[Xk (by rw[ez];simp)],hs⟩
   rw[hr]at ez⊢;refine xN ?_;refine⟨i+1,⟨by omega,λj hj=>?_,hs⟩,by omega,?_⟩
   ·by_cases e:j=i
    ·subst e;rw[ez];rfl
    ·exact cM j (by omega)
   ·exact Cr
 ·have h':=aj h
  obtain rfl:i=R.length:=by omega
  refine⟨?_,hs⟩;have:(List.range L.length).all (Jx L)=true:=bL.2 λj hj=>cM j (by rw[hlen];exact dS.1 hj);rw[cX,this,bj,hlen];simp;omega
abbrev al2(F b:Nat):CV:=.v (.func (.func F) #[] #[.pointer (some ⟨b,0,none⟩)])
def QX(p:Int->Bool)(l:List Int):Int:=if l.any p then(l.findIdx p:Nat)else-1
variable{p:Int->Bool}
theorem WY(hi:i<l.length)(cM:∀x∈l.take i,p x=false)(h:p l[i]=true):QX p l=i:=by
 unfold QX;rw[aC (dh.2 ⟨_,aO hi,h⟩)]
 congr 1
 refine(List.findIdx_eq hi).2 ⟨h,λj hj=>cM _ ?_⟩;exact lw.2 ⟨j,by omega,rfl⟩
theorem LN(cM:∀x∈l,p x=false):QX p l= -1:=by
 unfold QX
 grind
theorem EI(p:Int->Bool)(l:List Int):decide (0<=QX p l)=l.any p:=by
 unfold QX
 grind
theorem QW{F:Nat}(hv:Ia m v l)(hF:∀x,eN tP F [i64 x,cx b] m [bR (p x)])(hl:l.length<=100000000):eN tP 229 [.v v,al2 F b] m [i64 (QX p l)]:=by
 obtain⟨a,c,rfl⟩:=hv.shape;refine ub Tryz.func229 ?_;refine .mk (ι:=Nat) (λi=>l.length-i) (λi mm=>i<=l.length/\(∀x∈l.take i,p x=false)/\mm=m) (λi=>[(0,.c (.v (.slice a l.length c))),(1,.c (al2 F b)),(7,.c (i64 l.length)),(8,.c (i64 i))]) (λ_=>[]) 0 ⟨by omega,by simp,rfl⟩ ?_ ?_
 ·exact Cr
 rintro i mm⟨hi,cM,he⟩;subst mm;apply bI<;>intro h
 ·have h':=ah h
  have bH:i<l.length:=by omega
  obtain⟨bl,ol,c',hh,hg⟩:=hv.real bH;injection hh with eK _ fN;subst eK;have hg:=hg i bH
  repeat refine xS ?_
  refine⟨_,hg,rfl,?_⟩;refine bt ((hF l[i])) ?_;have dI:l.take (i+1)=l.take i++[l[i]]:=au bH;apply bI<;>intro h
  ·exact⟨by rw[WY bH cM h],rfl⟩
  ·refine⟨i+1,⟨by omega,λx hx=>?_,rfl⟩,by omega,?_⟩
   ·rw[dI]at hx
    rcases aR.1 hx with hx|hx
    ·exact cM x hx
    ·rw[aL.1 hx];exact h
   ·exact Cr
 ·have h':=aj h
  obtain rfl:i=l.length:=by omega
  rw[aJ]at cM;exact⟨by rw[LN cM],rfl⟩
theorem yP{F:Nat}(hv:Ia m v l)(hF:∀x,eN tP F [i64 x,cx b] m [bR (p x)])(hl:l.length<=100000000):eN tP 172 [.v v,al2 F b] m [bR (l.any p)]:=by
 obtain⟨a,c,rfl⟩:=hv.shape;refine ub Tryz.func172 ?_;refine bt (QW hv hF hl) ?_;exact⟨by rw[EI],rfl⟩
structure gX where
 kind:Int
 (fr:Int)
 (qe:Int)
 (qA:Int)
 (part:Int)
 (jI:List Nat)
 (pl:List Int)
 (dg:List (List Nat))
 (ca:List Kd)
structure iS where
 p:Option Addr×Nat
 (d:Option Addr×Nat)
 (c:Option Addr×Nat)
abbrev gX.L(x:gX)(s:iS):LB:=[.one (.int .i64 x.kind),.one (.int .i64 x.fr),.one (.int .i64 x.qe),.one (.int .i64 x.qA),.one (.int .i64 x.part),.bG .u8 32 (nc x.jI),.one (.slice s.p.1 x.pl.length s.p.2),.one (.slice s.d.1 x.dg.length s.d.2),.one (.slice s.c.1 x.ca.length s.c.2)]
abbrev mT(x:gX)(s:iS):CV:=.a (x.L s)
structure gy(m:aD)(x:gX)(s:iS):Prop where
 Th:x.jI.length=32
 (pl:Ia m (.slice s.p.1 x.pl.length s.p.2) x.pl)
 (dg:OO m (.slice s.d.1 x.dg.length s.d.2) x.dg)
 (ca:lu m (.slice s.c.1 x.ca.length s.c.2) x.ca)
variable{x:gX}{s:iS}
theorem gy.sub(h:gy m x s)(hs:cL m m'):gy m' x s:=⟨h.Th,h.pl.sub hs,h.dg.sub hs,h.ca.sub hs⟩
structure qx(x:gX):Prop where
 k:∀c∈x.ca,jg c
 (s:∀c∈x.ca,c.1.size<=1000000)
 (e:∀c∈x.ca,c.2.2.length<=1000)
 (n:x.ca.length<=10000)
 (pn:x.pl.length<=10000)
 (dn:x.dg.length<=10000)
abbrev px(x:gX)(s:iS):Obj:=.cells (LB.cz (x.L s)).toArray 38
abbrev ac7(r:Rk):Obj:=.cells (LB.cz [.one (.string r.1),.bG .u64 8 (n8 r.2.1),.one (.slice r.2.2.1 r.2.2.2.1 r.2.2.2.2)]).toArray 81
theorem Hk(h:x.jI.length=32):(LB.cz (x.L s)).toArray[37]?=some (.slice s.p.1 x.pl.length s.p.2)/\(LB.cz (x.L s)).toArray[38]?=some (.slice s.d.1 x.dg.length s.d.2)/\(LB.cz (x.L s)).toArray[39]?=some (.slice s.c.1 x.ca.length s.c.2):=by
 simp[LB.cz,eB.cells,h]
theorem Jk{p:Int}(hb:m b=some (ac7 r))(hk:r.1.size<=1000000):bi tP 212 [i64 p,cx b] m λr' m'=>r'=[bR (decide (Tr.gF p=(gF r.1:Nat)))]/\cL m m':=by
 refine A4 aAk Tryz.func212 ?_;refine xM hb ?_;refine fU (wX) ?_;refine aP (Zk hk) ?_;rintro _ m1⟨rfl,bM⟩;exact⟨by rw[qO],bM⟩
def rY(x:gX)(k:ByteArray):Bool:=!kZ (jR k)||(!decide ((qI k:Int)=x.part)|| !x.pl.any λp=>decide (Tr.gF p=(gF k:Nat)))
def pT(x:gX):Bool:=cX x.ca&& !x.ca.any λc=>rY x c.1
theorem Mt(hb:m b=some (px x s))(hx:gy m x s)(hn:x.pl.length<=10000)(hk:r.1.size<=1000000):eN tP 211 [Kv r,cx b] m [bR (rY x r.1)]:=by
 refine bi.ret (R:=λr' m'=>r'=[bR (rY x r.1)]/\cL m m') ?_ λr' m' h=>h;refine A4 awu Tryz.func211 ?_;intro b2 oM;refine .mk _ (df (cs:=[.pointer (some ⟨b2,0,none⟩)]) (by simp[Value.oneCell'])) ?_;rintro _ _⟨rfl,rfl⟩;conv=>whnf
 unfold rY;refine xM (aD.bg ..) ?_;refine bt (iB hk) ?_;apply bI<;>intro h
 ·exact⟨by rw[h];rfl,aD.bT _ oM⟩
 ·rw[h,nW]
  refine xM (aD.bg ..) ?_;refine xM (aD.bT _ oM _ _ hb) ?_;have aqy:=aD.bT (ac7 r) oM _ _ hb;have Ah:(m.set b2 (ac7 r)) b2=some (ac7 r):=aD.bg ..;have CU:=(hx.pl.sub (aD.bT (ac7 r) oM));refine aP (K6 hk) ?_;rintro _ m1⟨rfl,bM⟩;refine⟨akV aqy Ah bM,?_⟩;apply bI<;>intro h2
  ·have iD:¬((qI r.1:Int)=x.part):=by simpa using h2
   exact⟨by rw[aY iD];rfl,(aD.bT _ oM).trans bM⟩
  ·have iD:(qI r.1:Int)=x.part:=by simpa using h2
   refine⟨_,aF (bM _ _ aqy) (Hk hx.Th).1,rfl,?_⟩;refine bt (yP (p:=λp=>decide (Tr.gF p=(gF r.1:Nat))) (CU.sub bM) (λp=>(Jk (bM _ _ Ah) hk).ret λ_ _ h=>h) (by omega)) ?_;exact⟨by rw[bB iD];rfl,(aD.bT _ oM).trans bM⟩
theorem BD(hS:cK m)(hx:gy m x s)(ho:qx x):eN tP 131 [mT x s] m [bR (pT x)]:=by
 refine bi.ret (R:=λr' m'=>r'=[bR (pT x)]/\cL m m') ?_ λr' m' h=>h;obtain⟨R,hR,hK⟩:=hx.ca;refine A4 awO Tryz.func131 ?_;intro b hb;refine .mk _ (df (cs:=[.pointer (some ⟨b,0,none⟩)]) (by simp[Value.oneCell'])) ?_;rintro _ _⟨rfl,rfl⟩;have hm:(m.set b (px x s)) b=some (px x s):=aD.bg ..;refine⟨_,aF hm (Hk hx.Th).2.2,rfl,?_⟩;refine aP (iC (hS.sub (aD.bT _ hb)) (hx.ca.sub (aD.bT _ hb)) ho.k (by have:=ho.n;omega)) ?_;rintro _ m1⟨rfl,bM⟩;conv=>whnf
 unfold pT;apply bI<;>intro h
 ·refine⟨_,aF (bM _ _ hm) (Hk hx.Th).2.2,rfl,?_⟩
  have hl:=hK.len
  have hf:∀e∈R,eN tP 211 [Kv e,cx b] m1 [bR (rY x e.1)]:=λe he=>by
   refine Mt (bM _ _ hm) (hx.sub ((aD.bT _ hb).trans bM)) ho.pn ?_;obtain⟨i,hi,rfl⟩:=dc he;have:=hK.je i hi (by omega);rw[this.k];exact ho.s _ (aO _)
  refine bt (Fj (p:=λr=>rY x r.1) (hR.sub ((aD.bT _ hb).trans bM)) hf (by have:=ho.n;omega)) ?_;refine⟨?_,(aD.bT _ hb).trans bM⟩;rw[h,bj,hK.any (λk=>rY x k)]
 ·exact⟨by rw[h];rfl,(aD.bT _ hb).trans bM⟩
theorem Jv:eN tP 132 [mT x s] m [bR (rB x.qA 1 1099511627776&&rB x.part 0 7)]:=by
 refine ub Tryz.func132 ?_;conv=>whnf
 unfold rB
 repeat' (first|(refine⟨λh=>?_,λh=>?_⟩<;>conv=>whnf)|fail)
 all_goals exact⟨by simp_all<;>omega,rfl⟩
theorem Mi:eN tP 91 [mT x s] m [bR (rB x.kind 1 3)]:=by
 refine ub Tryz.func91 ?_;refine⟨λh=>?_,λh=>?_⟩<;>conv=>whnf
 all_goals exact⟨by rw[rB,h];rfl,rfl⟩
def fX:List Nat:=List.replicate 32 0
def uY(x:gX):gX:=
 if x.kind=1 then⟨x.kind,x.fr,x.qe,x.qA,x.part,x.jI,[],[],[]⟩
 else if x.kind=2 then⟨x.kind,x.fr,x.qe,x.qA,x.part,fX,x.pl,[],[]⟩
 else if x.kind=3\/x.kind=6 then⟨x.kind,x.fr,x.qe,x.qA,x.part,fX,x.pl,[],x.ca⟩
 else if x.kind=5 then⟨x.kind,x.fr,x.qe,x.qA,x.part,fX,x.pl,x.dg,[]⟩
 else if x.kind=7 then⟨x.kind,x.fr,x.qe,0,0,fX,[],[],x.ca⟩
 else⟨x.kind,x.fr,x.qe,x.qA,x.part,fX,[],[],[]⟩
def agu(x:gX)(s:iS):iS:=
 if x.kind=1 then⟨(none,0),(none,0),(none,0)⟩
 else if x.kind=2 then⟨s.p,(none,0),(none,0)⟩
 else if x.kind=3\/x.kind=6 then⟨s.p,(none,0),s.c⟩
 else if x.kind=5 then⟨s.p,s.d,(none,0)⟩
 else if x.kind=7 then⟨(none,0),(none,0),s.c⟩
 else⟨(none,0),(none,0),(none,0)⟩
theorem P6(hd:x.jI.length=32):eN tP 135 [mT x s] m [mT (uY x) (agu x s)]:=by
 refine A4 awN Tryz.func135 ?_;conv=>whnf
 unfold uY agu;have hz:List.take 0 (List.replicate 32 (0:Int))++(nc x.jI++List.drop (0+32) (List.replicate 32 0))=nc x.jI:=by simp
 apply bI<;>intro h
 ·have h1:x.kind=1:=by simpa using h
  conv=>whnf
  rw[aC h1,aC h1,hz];exact rR
 have h1:¬x.kind=1:=by simpa using h
 rw[if_neg h1,if_neg h1];apply bI<;>intro h
 ·have h2:x.kind=2:=by simpa using h
  conv=>whnf
  rw[aC h2,aC h2];exact rR
 have h2:¬x.kind=2:=by simpa using h
 rw[if_neg h2,if_neg h2];apply bI<;>intro h
 ·have h3:x.kind=3:=by simpa using h
  conv=>whnf
  rw[aC (.inl h3),aC (.inl h3)];exact rR
 have h3:¬x.kind=3:=by simpa using h
 apply bI<;>intro h
 ·have h6:x.kind=6:=by simpa using h
  conv=>whnf
  rw[aC (.inr h6),aC (.inr h6)];exact rR
 have h6:¬x.kind=6:=by simpa using h
 have h36:¬(x.kind=3\/x.kind=6):=by omega
 rw[if_neg h36,if_neg h36];apply bI<;>intro h
 ·have h5:x.kind=5:=by simpa using h
  conv=>whnf
  rw[aC h5,aC h5];exact rR
 have h5:¬x.kind=5:=by simpa using h
 rw[if_neg h5,if_neg h5];apply bI<;>intro h
 ·have h7:x.kind=7:=by simpa using h
  conv=>whnf
  rw[aC h7,aC h7];exact rR
 have h7:¬x.kind=7:=by simpa using h
 rw[if_neg h7,if_neg h7];exact rR
theorem Wz(h:gy m x s):gy m (uY x) (agu x s):=by
 have hz:fX.length=32:=rfl;have e1:Ia m (.slice none 0 0) []:=(Io.nil m).il.ia;have e2:OO m (.slice none 0 0) []:=(I0.nil m).dl.da;have e3:lu m (.slice none 0 0) []:=lu.nil m;unfold uY agu
 repeat' split
 all_goals first|exact⟨h.Th,e1,e2,e3⟩|exact⟨hz,h.pl,e2,e3⟩|exact⟨hz,h.pl,e2,h.ca⟩|exact⟨hz,h.pl,h.dg,e3⟩|exact⟨hz,e1,e2,h.ca⟩|exact⟨hz,e1,e2,e3⟩
def GF(x y:gX):Bool:=(x.kind==y.kind)&&((x.fr==y.fr)&&((x.qe==y.qe)&&((x.qA==y.qA)&&((x.part==y.part)&&(decide (x.jI=y.jI)&&(decide (x.pl=y.pl)&&(decide (x.dg=y.dg)&&decide (x.ca=y.ca))))))))
theorem A2{y:gX}{t:iS}(hx:gy m x s)(hy:gy m y t)(ho:qx x):eN tP 134 [mT x s,mT y t] m [bR (GF x y)]:=by
 have n1:=ho.n;have n2:=ho.pn;have n3:=ho.dn;have hd:rD [.bG .u8 32 (nc x.jI)] [.bG .u8 32 (nc y.jI)]=decide (x.jI=y.jI):=Ck ..;refine ub Tryz.func134 ?_;conv=>whnf
 unfold GF;apply bI<;>intro h;rotate_left
 ·exact⟨by rw[h];rfl,rfl⟩
 rw[h,bj];apply bI<;>intro h;rotate_left
 ·exact⟨by rw[h];rfl,rfl⟩
 rw[h,bj];apply bI<;>intro h;rotate_left
 ·exact⟨by rw[h];rfl,rfl⟩
 rw[h,bj];apply bI<;>intro h;rotate_left
 ·exact⟨by rw[h];rfl,rfl⟩
 rw[h,bj];apply bI<;>intro h;rotate_left
 ·exact⟨by rw[h];rfl,rfl⟩
 rw[h,bj];conv=>whnf
 rw[hd];apply bI<;>intro h;rotate_left
 ·exact⟨by rw[h];rfl,rfl⟩
 rw[h,bj];refine bt (yK hx.pl hy.pl (by omega)) ?_;apply bI<;>intro h;rotate_left
 ·exact⟨by rw[h];rfl,rfl⟩
 rw[h,bj];refine bt (Oj hx.dg hy.dg (by omega)) ?_;apply bI<;>intro h;rotate_left
 ·exact⟨by rw[h];rfl,rfl⟩
 rw[h,bj];refine bt (Oi hx.ca hy.ca (by omega) (λc hc=>by have:=ho.e c hc;omega)) ?_;exact rR
def NF(L:List Kd):ByteArray:=(L.map (·.1)).headD ByteArray.empty
def Vo(x:gX):Bool:=
 if x.kind=1\/x.kind=4 then true
 else if x.kind=2 then iR x.pl 1
 else if x.kind=3\/x.kind=6 then iR x.pl 2&&pT x
 else if x.kind=5 then(iR x.pl 0||iR x.pl 1)&&decide (x.dg.length=4*x.pl.length)
 else if x.kind=7 then(decide (x.ca.length=1)&&cX x.ca)&&kZ (jR (NF x.ca))
 else false
def Xh(x:gX):Bool:=((x.kind==7)||(rB x.qA 1 1099511627776&&rB x.part 0 7))&&(rB x.fr 1 8&&(rB x.qe 1 8&&((x.fr !=x.qe)&&GF x (uY x))))
def dR(x:gX):Bool:=Vo x&&Xh x
theorem gv{ok:Bool}(hx:gy m x s)(ho:qx x):
  Tl c71 (AU 15 (yX Tryz.f71)) (Mm tt.get Tryz.f71.results.toList λr m'=>r=[bR (ok&&Xh x)]/\m'=m)
   [(1,.p 0 0),(3,.c (bR ok))] [(38,x.L s)] m []:=by
 refine .at ?_;conv=>whnf
 unfold Xh;apply bI<;>intro h;rotate_left
 ·exact⟨by rw[h];rfl,rfl⟩
 rw[h,bj];apply bI<;>intro h1
 ·rw[h1,Bool.true_or,bj]
  refine bt (vZ) ?_;apply bI<;>intro h2;rotate_left
  ·exact⟨by rw[h2];rfl,rfl⟩
  rw[h2,bj];refine bt (vZ) ?_;apply bI<;>intro h2;rotate_left
  ·exact⟨by rw[h2];rfl,rfl⟩
  rw[h2,bj];apply bI<;>intro h2;rotate_left
  ·exact⟨by rw[h2];rfl,rfl⟩
  rw[h2,bj];refine fU (P6 hx.Th) ?_;refine bt (A2 hx (Wz hx) ho) ?_;exact rR
 ·rw[h1,nW]
  refine bt (Jv) ?_;apply bI<;>intro h2;rotate_left
  ·exact⟨by rw[h2];rfl,rfl⟩
  rw[h2,bj];refine bt (vZ) ?_;apply bI<;>intro h2;rotate_left
  ·exact⟨by rw[h2];rfl,rfl⟩
  rw[h2,bj];refine bt (vZ) ?_;apply bI<;>intro h2;rotate_left
  ·exact⟨by rw[h2];rfl,rfl⟩
  rw[h2,bj];apply bI<;>intro h2;rotate_left
  ·exact⟨by rw[h2];rfl,rfl⟩
  rw[h2,bj];refine fU (P6 hx.Th) ?_;refine bt (A2 hx (Wz hx) ho) ?_;exact rR
theorem nG(hS:cK m)(hx:gy m x s)(ho:qx x):eN tP 71 [mT x s] m [bR (dR x)]:=by
 have n1:=ho.n;have n2:=ho.pn;have n3:=ho.dn;refine A4 c71 Tryz.func71 ?_;conv=>whnf
 unfold dR Vo;apply bI<;>intro h
 ·have h1:x.kind=1:=by simpa using h
  rw[aC (.inl h1)];have tl:=gv (m:=m) (s:=s) (ok:=true) hx ho
  conv at tl=>whnf
  refine .via _ _ ?_ tl;exact Cr
 have h1:¬x.kind=1:=by simpa using h
 apply bI<;>intro h
 ·have h4:x.kind=4:=by simpa using h
  rw[aC (.inr h4)];have tl:=gv (m:=m) (s:=s) (ok:=true) hx ho
  conv at tl=>whnf
  refine .via _ _ ?_ tl;exact Cr
 have h4:¬x.kind=4:=by simpa using h
 have h14:¬(x.kind=1\/x.kind=4):=by omega
 rw[if_neg h14];apply bI<;>intro h
 ·have h2:x.kind=2:=by simpa using h
  rw[aC h2];refine bt (sC hx.pl (by omega)) ?_;have tl:=gv (m:=m) (s:=s) (ok:=iR x.pl 1) hx ho
  conv at tl=>whnf
  refine .via _ _ ?_ tl;exact Cr
 have h2:¬x.kind=2:=by simpa using h
 rw[if_neg h2];apply bI<;>intro h
 ·have h3:x.kind=3:=by simpa using h
  rw[aC (.inl h3)];refine bt (sC hx.pl (by omega)) ?_;apply bI<;>intro h5
  ·rw[h5,bj]
   refine bt (BD hS hx ho) ?_;have tl:=gv (m:=m) (s:=s) (ok:=pT x) hx ho
   conv at tl=>whnf
   refine .via _ _ ?_ tl;exact Cr
  ·rw[h5,fH]
   have tl:=gv (m:=m) (s:=s) (ok:=false) hx ho
   conv at tl=>whnf
   refine .via _ _ ?_ tl;exact Cr
 have h3:¬x.kind=3:=by simpa using h
 apply bI<;>intro h
 ·have h6:x.kind=6:=by simpa using h
  rw[aC (.inr h6)];refine bt (sC hx.pl (by omega)) ?_;apply bI<;>intro h5
  ·rw[h5,bj]
   refine bt (BD hS hx ho) ?_;have tl:=gv (m:=m) (s:=s) (ok:=pT x) hx ho
   conv at tl=>whnf
   refine .via _ _ ?_ tl;exact Cr
  ·rw[h5,fH]
   have tl:=gv (m:=m) (s:=s) (ok:=false) hx ho
   conv at tl=>whnf
   refine .via _ _ ?_ tl;exact Cr
 have h6:¬x.kind=6:=by simpa using h
 have h36:¬(x.kind=3\/x.kind=6):=by omega
 rw[if_neg h36];apply bI<;>intro h
 ·have h5:x.kind=5:=by simpa using h
  rw[aC h5];refine bt (sC hx.pl (by omega)) ?_;have e4:IntKind.i64.wrap (4*(x.pl.length:Int))=((4*x.pl.length:Nat):Int):=by rw[wi];omega
  have e5:(((x.dg.length:Nat):Int)==((4*x.pl.length:Nat):Int))=decide (x.dg.length=4*x.pl.length):=by rw[qO];exact fF.2 (by omega)
  apply bI<;>intro h8
  ·rw[h8,Bool.true_or,bj]
   conv=>whnf
   rw[e4,e5];have tl:=gv (m:=m) (s:=s) (ok:=decide (x.dg.length=4*x.pl.length)) hx ho
   conv at tl=>whnf
   refine .via _ _ ?_ tl;exact Cr
  ·rw[h8,nW]
   refine bt (sC hx.pl (by omega)) ?_;apply bI<;>intro h9
   ·rw[h9,bj]
    conv=>whnf
    rw[e4,e5];have tl:=gv (m:=m) (s:=s) (ok:=decide (x.dg.length=4*x.pl.length)) hx ho
    conv at tl=>whnf
    refine .via _ _ ?_ tl;exact Cr
   ·rw[h9,fH]
    have tl:=gv (m:=m) (s:=s) (ok:=false) hx ho
    conv at tl=>whnf
    refine .via _ _ ?_ tl;exact Cr
 have h5:¬x.kind=5:=by simpa using h
 rw[if_neg h5];apply bI<;>intro h
 ·have h7:x.kind=7:=by simpa using h
  rw[aC h7];conv=>whnf
  have e1:(((x.ca.length:Nat):Int)==1)=decide (x.ca.length=1):=by rw[qO];exact fF.2 (by omega)
  rw[e1];apply bI<;>intro h8
  ·have h8':x.ca.length=1:=ah h8
   rw[h8,bj];refine bt ((iC hS hx.ca ho.k (by omega)).ret λ_ _ h=>h) ?_;apply bI<;>intro h9
   ·rw[h9,bj]
    obtain⟨R,hR,hK⟩:=hx.ca;have hl:=hK.len;have bH:0<R.length:=by omega
    obtain⟨b,o,c',hh,hg⟩:=hR.real bH;injection hh with eK _ fN;have hg:=hg 0 bH
    have ek:(R[0]'bH).1=NF x.ca:=by
     have:=(hK.je 0 bH (by omega)).k;rw[this];unfold NF;rw[List.headD_eq_head?_getD,List.head?_map,List.head?_eq_getElem?,az (by omega)];rfl
    have EM:(NF x.ca).size<=1000000:=by
     rw[<-ek,(hK.je 0 bH (by omega)).k];exact ho.s _ (aO _)
    conv=>whnf
    simp only[eK];refine⟨⟨by omega,by omega⟩,?_⟩;refine⟨.string (R[0]'bH).1,by have:=fZ (j:=0) hg rfl;simpa [bK]using this,rfl,?_⟩;conv=>whnf
    rw[ek];refine bt (iB EM) ?_;have tl:=gv (m:=m) (s:=s) (ok:=kZ (jR (NF x.ca))) hx ho
    conv at tl=>whnf
    refine .via _ _ ?_ tl;exact Cr
   ·rw[h9,fH]
    have tl:=gv (m:=m) (s:=s) (ok:=false) hx ho
    conv at tl=>whnf
    refine .via _ _ ?_ tl;exact Cr
  ·rw[h8,fH,fH]
   have tl:=gv (m:=m) (s:=s) (ok:=false) hx ho
   conv at tl=>whnf
   refine .via _ _ ?_ tl;exact Cr
 have h7:¬x.kind=7:=by simpa using h
 rw[if_neg h7];have tl:=gv (m:=m) (s:=s) (ok:=false) hx ho
 conv at tl=>whnf
 refine .via _ _ ?_ tl;exact Cr
theorem Wp(l:List Int):tH l=AR l:=by
 have h1:=Gn l
 have:(tH l).data=(AR l).data:=by
  apply nA
  rw[h1];simp[AR,by8]
 cases h:tH l
 cases h2:AR l
 rw[h,h2]at this;exact be _ this
theorem gq.Je{o:Obj}{s off:Nat}{l:List Value}(h:gq (m.set b o) s (.slice (some ⟨b,off,none⟩) n c) l):gq (blk1 b o) s (.slice (some ⟨b,off,none⟩) n c) l:=
 gq.cR (m:=m.set b o) h λx hx=>by
  injection hx with hx;subst hx;rw[aG,aD.bg]
theorem ajR{s:ByteArray}:bF tP (.conv 9 100) [.v (.string s)] m λr m'=>∃v p,r=[.v v]/\aq m' [p,m]/\La p v (chI s):=
 (Cy eR (t':=9) (t:=100) (e:=5) (by rfl) (by rfl) rfl (by rfl) rfl).mono λr m' ⟨b,c,o,h1,h2,h3,h4⟩=>⟨_,blk1 b o,h2,by rw[h3];exact(aq.one m).new h1 o,by
  subst h3
  exact .inl (gq.Je h4)⟩
theorem To(b:Nat):Wr (blk1 b (.cells (LB.cz [.one (.slice none 0 0)]).toArray 162)) b []:=⟨_,aG ..,Bs.nil _,by simp[lp]⟩
abbrev kyV(x:Kd)(a:Option Addr)(c:Nat):CV:=.a [.one (.string x.1),.bG .u64 8 x.2.1,.one (.slice a x.2.2.length c)]
theorem Er(hS:cK m){x:Kd}{a:Option Addr}(hv:Na m (.slice a x.2.2.length c) x.2.2)(hA:jg x)(hk:x.1.size<=1000000):
  bi tP 97 [kyV x a c] m λr m'=>∃v p,r=[.v v]/\aq m' [p,m]/\Bs p v (nJ x):=by
 obtain⟨k,u,E⟩:=x;have hn:E.length<=1000:=hA.n;simp only at hv hk;have DN:=zH k;have hnk:=eI ((chI k).length:Int);refine A4 c97 Tryz.func97 ?_;intro b hb;have LK:=(aq.one m).new hb (.cells (LB.cz [.one (.slice none 0 0)]).toArray 162);refine .mk _ (ajR (s:=k)) ?_;rintro _ m1⟨vk,pk,rfl,bM,hvk⟩;have bM:aq m1 [pk,blk1 b (.cells (LB.cz [.one (.slice none 0 0)]).toArray 162),m]:=aq.jN (a:=[pk]) bM LK;refine aP (F5 (i:=1) (j:=0) bM rfl rfl (by decide) (To b) hvk (by simp) (by omega)) ?_;rintro _ m2⟨rfl,p1,bZ,Zs⟩;have bZ:aq m2 [p1,m]:=bZ.drop;rw[bV]at Zs;refine aP (K1 hS bZ Zs hv hA.u hA.e (by simp only[BJ,ax];omega) (by show E.length<=_;omega)) ?_;rintro _ m3⟨rfl,p2,dy,hw2⟩
 have hpb:(AY (u,E)).length<=10000:=by
  unfold AY;split
  ·rename_i hr
   have:=Ec (c:=(u,E)) hA.u hr;omega
  ·simp
 refine aP ((tF hw2 (by simp only[BJ,ax];omega)).at dy (i:=0) rfl) ?_;rintro _ m4⟨p3,⟨v3,q,rfl,eP,tX⟩,eD⟩;have gC:=(eD.Vn (i:=0) rfl eP).dV 1;exact⟨v3,q,rfl,gC,tX⟩
theorem Js(hS:cK m){b:List Int}(hv:La m v b)(hb:jl b)(hl:b.length<=1000000):
  bi tP 120 [.v v] m λr m'=>∃x a c p,x=(PV b).1/\r=[kyV x a c,bR (PV b).2]/\aq m' [p,m]/\Na p (.slice a x.2.2.length c) x.2.2/\yZ x.2.1/\∀e∈x.2.2,CS e:=by
 have hR:PV b=((AR (kM 20 (b,0)).1,(oU (kM 20 (b,0)).2).1),decide (Ir (oU (kM 20 (b,0)).2).2=0)&&kZ (jR (AR (kM 20 (b,0)).1))):=rfl;rw[hR];refine A4 awR Tryz.func120 ?_;refine aP (zy hv hb (by omega)) ?_;rintro _ m1⟨bp,p,rfl,bM,qn⟩;refine aP ((KD (dG:=20) qn ⟨by decide,by decide⟩).at bM (i:=0) rfl) ?_;rintro _ m2⟨p2,⟨vt,pt,q,rfl,bZ,hbt,jK⟩,dy⟩
 try refine⟨λ_ h=>(by cases h),?_⟩
 have dy:aq m2 [pt,q,m]:=dy.Vn (i:=0) rfl bZ
 have htl:(kM 20 (b,0)).1.length<=20:=by
  have:=ij (dG:=20) (s:=(b,0)) hb ⟨by decide,by decide⟩;have e:kM 20 (b,0)=fL (cZ 20 (b,0)).1.toNat (cZ 20 (b,0)).2:=rfl;rw[e];exact bq rK (by omega)
 generalize kM 20 (b,0)=t at*;obtain⟨tb,ts⟩:=t;simp only at hbt jK htl⊢;rw[<-Wp]
 have Ad:(tH tb).size<=1000000:=by
  have:(tH tb).size=tb.length:=by
   rw[<-ByteArray.size_data,<-cq,Gn,by8,aH]
  omega
 rcases hbt with⟨rfl,Bh⟩|⟨b',o',c',n',CH,rfl,g1,g2,g3,g4,g5,g6⟩
 ·have Bh:tb=[]:=zW.1 Bh
  subst Bh;obtain⟨fb,yy,eP,oF⟩:=aq.part (dy.fm (List.Perm.swap _ _ _));have adu:cL m fb:=yy m (by simp);refine aP (AZ (hS.sub adu) eP jK) ?_;rintro _ m3⟨x,a,c,q3,p3,hx,rfl,eD,wo,hE,hu,ez⟩
  try refine⟨λ_ h=>(by cases h),?_⟩
  conv=>whnf
  rw[<-hx];generalize oU ts=tc at*;obtain⟨tx,te⟩:=tc;simp only at hx wo⊢;subst hx;obtain⟨xu,xE⟩:=x;simp only at hE hu ez⊢;have hz:List.take 0 (List.replicate 8 (0:Int))++(xu++List.drop (0+8) (List.replicate 8 0))=xu:=by simp
  have gC:aq m3 [p3,m]:=by
   have h1:aq m3 [p3,fb]:=eD.dV 1;exact(aq.Ci (h1.fm (List.Perm.swap _ _ _)) adu).fm (List.Perm.swap _ _ _)
  have hen:(if te.2≠0 then te.2 else if te.1=[]then 0 else 2)=Ir te:=rfl
  first|(refine fU (yM (wo.mono (eD.sub))) ?_)|(refine bt (yM (wo.mono (eD.sub))) ?_)
  conv=>whnf
  rw[hen,qO];apply bI<;>intro h
  ·have h':=ah h
   refine fU (iB (s:=ByteArray.empty) (by decide)) ?_;exact⟨_,a,c,p3,rfl,by simp[h',show tH []=ByteArray.empty from rfl],gC,hE,hu,ez⟩
  ·have h':=aj h
   exact⟨_,a,c,p3,rfl,by simp[h',show tH []=ByteArray.empty from rfl],gC,hE,hu,ez⟩
 ·have OS:tb.length=n':=by
   have hbc:(bc tb).length=tb.length:=aH _;omega
  subst OS;refine .inr ⟨tb,rfl,_,_,rfl,⟨_,_,_,dy.sub (a:=pt) (by simp) _ _ g1,g5⟩,?_⟩;obtain⟨fb,yy,eP,oF⟩:=aq.part (dy.fm (List.Perm.swap _ _ _));have adu:cL m fb:=yy m (by simp);refine aP (AZ (hS.sub adu) eP jK) ?_;rintro _ m3⟨x,a,c,q3,p3,hx,rfl,eD,wo,hE,hu,ez⟩;refine⟨HG ((eD.sub (a:=fb) (by simp) _ _ (yy pt (by simp) _ _ g1)).trans (dy.sub (a:=pt) (by simp) _ _ g1).symm),?_⟩;conv=>whnf
  rw[<-hx];generalize oU ts=tc at*;obtain⟨tx,te⟩:=tc;simp only at hx wo⊢;subst hx;obtain⟨xu,xE⟩:=x;simp only at hE hu ez⊢;have hz:List.take 0 (List.replicate 8 (0:Int))++(xu++List.drop (0+8) (List.replicate 8 0))=xu:=by simp
  have gC:aq m3 [p3,m]:=by
   have h1:aq m3 [p3,fb]:=eD.dV 1;exact(aq.Ci (h1.fm (List.Perm.swap _ _ _)) adu).fm (List.Perm.swap _ _ _)
  have hen:(if te.2≠0 then te.2 else if te.1=[]then 0 else 2)=Ir te:=rfl
  first|(refine fU (yM (wo.mono (eD.sub))) ?_)|(refine bt (yM (wo.mono (eD.sub))) ?_)
  conv=>whnf
  rw[hen,qO];apply bI<;>intro h
  ·have h':=ah h
   refine fU (iB (s:=tH tb) Ad) ?_;exact⟨_,a,c,p3,rfl,by simp[h'],gC,hE,hu,ez⟩
  ·have h':=aj h
   exact⟨_,a,c,p3,rfl,by simp[h'],gC,hE,hu,ez⟩
theorem lQ{L:List Kd}(h:cX L=true):∀x∈L,x.1.size<=20:=by
 intro x hx;obtain⟨i,hi,rfl⟩:=dc hx;simp only[cX,aB,bL,dS]at h;have:=h.1 i hi;simp only[Jx,aB,bA]at this;rw[wk hi];exact this.1.1
theorem WU{x:Kd}(hu:yZ x.2.1)(hk:x.1.size<=20):(nJ x).length<=6600:=by
 have h1:=zH x.1;have h2:=eI ((chI x.1).length:Int)
 have h3:(AY x.2).length<=6500:=by
  unfold AY;split
  ·rename_i hr;exact Ec hu hr
  ·simp
 simp only[nJ,BJ,ax];omega
theorem B2:∀{L:List Kd},(∀x∈L,(nJ x).length<=6600)->(L.map nJ).flatten.length<=6600*L.length
 |[],_=>by simp
 |x::L,h=>by
  have h1:=h x (by simp);have h2:=B2 (L:=L) λy hy=>h y (by simp[hy]);rw[aZ,dX,ax,bd];omega
theorem ac9(L:List Kd)(i:Nat):((L.take i).map nJ).flatten.length<=(L.map nJ).flatten.length:=by
 have e:=be (λX=>(X.map nJ).flatten.length) (dL i L);simp only[bD,gk,ax]at e;omega
theorem xC(hS:cK m){L:List Kd}(hv:lu m v L)(hA:∀x∈L,jg x)(hr:cX L=true)(hl:(L.map nJ).flatten.length<=9000000):
  bi tP 31 [.v v] m λr m'=>∃v' p,r=[.v v',i64 0]/\aq m' [p,m]/\Bs p v' (B3 L):=by
 have kV:L.length<=2000:=by
  simp only[cX,aB,bA]at hr;exact hr.2
 have hrs:=iC hS hv hA (by omega);rw[hr]at hrs;obtain⟨R,hR,hK⟩:=hv;obtain⟨av,cv,rfl⟩:=hR.shape;have hlen:=hK.len;refine A4 c31 Tryz.func31 ?_;refine bt (bi.ret hrs λ_ _ h=>h) ?_;refine xN ?_;intro b hb;conv=>whnf
 have LK:=(aq.one m).new hb (.cells (LB.cz [.one (.slice none 0 0)]).toArray 162);rw[wu];refine aP ((iK (To b) (n:=(R.length:Int)) ⟨by omega,by omega⟩ (by simp)).at LK (i:=0) rfl) ?_;rintro _ m1⟨p1,⟨rfl,Zs⟩,bM⟩;have bM:aq m1 [p1,m]:=bM;rw[bV]at Zs;have Tc:=eI (R.length:Int);refine .mk (ι:=Nat) (λi=>R.length-i) (λi mm=>i<=R.length/\∃p,aq mm [p,m]/\Wr p b (fe R.length++((L.take i).map nJ).flatten)) (λi=>[(4,.c (cx b)),(17,.c (.v (.slice av R.length cv))),(18,.c (i64 R.length)),(19,.c (i64 i))]) (λ_=>[]) 0 ⟨by omega,p1,bM,by simpa using Zs⟩ ?_ ?_
 ·exact Cr
 rintro i mm⟨hi,p,hs,hw⟩;have Ac:=bq (ac9 L i) hl;apply bI<;>intro h
 ·have h':=ah h
  have bH:i<R.length:=by omega
  have B8:cL m mm:=hs.sub (by simp);obtain⟨bl,ol,c',hh,hg⟩:=(hR.sub B8).real bH;injection hh with eK _ fN;subst eK;have js:=hg i bH;have hx:=hK.je i bH (by omega);have LX:=hA _ (aO (show i<L.length by omega));have EM:=lQ hr _ (aO (show i<L.length by omega))
  have dI:((L.take (i+1)).map nJ).flatten=((L.take i).map nJ).flatten++nJ L[i]:=by
   rw[au (by omega),bD,gk];simp
  rw[<-el8 hx]at js;have zu:=hx.len;have FO:=hx.e;have OQ:=hx.u8;generalize L[i]=x at*;generalize R[i]=r at*;rw[zu]at FO;obtain⟨xk,xu,xE⟩:=x;obtain⟨rk,ru,ra,rn,rc⟩:=r;simp only at js LX EM FO OQ;have ml:xE.length<=1000:=LX.n;have ZI:=zH xk;have hnk:=eI ((chI xk).length:Int)
  repeat refine xS ?_
  refine⟨[.one (.string xk),.bG .u64 8 xu,.one (.slice ra xE.length rc)],⟨rfl,OQ,rfl,trivial⟩,rfl,by simp only[bK,aA];exact js,?_⟩;refine .mk _ (ajR (s:=xk)) ?_;rintro _ k1⟨vk,pk,rfl,Fa,hvk⟩;have Fa:aq k1 [pk,p,m]:=aq.jN (a:=[pk]) Fa hs;refine aP (F5 (i:=1) (j:=0) Fa rfl rfl (by decide) hw hvk (by simp only[ax];omega) (by omega)) ?_;rintro _ k2⟨rfl,p2,JI,hw2⟩;have JI:aq k2 [p2,m]:=JI.drop;refine aP (K1 hS JI hw2 FO LX.u LX.e (by simp only[BJ,ax];omega) (by show xE.length<=_;omega)) ?_;rintro _ k3⟨rfl,p3,W5,hw3⟩;refine⟨i+1,⟨by omega,p3,W5,?_⟩,by omega,?_⟩
  ·rw[dI,nJ]
   simpa only[aX]using hw3
  ·exact Cr
 ·have h':=aj h
  obtain rfl:i=R.length:=by omega
  rw[hlen,aJ]at hw;rw[hlen,aJ]at*;refine aP ((tF hw (by simp only[ax];omega)).at hs (i:=0) rfl) ?_;rintro _ k4⟨p4,⟨v4,q,rfl,W4,QZ⟩,W3⟩;exact⟨v4,q,rfl,(W3.Vn (i:=0) rfl W4).dV 1,QZ⟩
def FB(l:List Int):List Nat:=l.map Int.toNat
def xw(D:List (List Nat)):List Int:=D.flatMap nc
namespace Wm
def t9(x:gX):List Int:=xw x.dg++B3 x.ca
def t8(x:gX):List Int:=fe x.dg.length++t9 x
def t7(x:gX):List Int:=kH x.pl++t8 x
def t6(x:gX):List Int:=fe x.pl.length++t7 x
def t5(x:gX):List Int:=(if x.kind=1 then nc x.jI else[])++t6 x
def t4(x:gX):List Int:=fe x.part++t5 x
def t3(x:gX):List Int:=fe x.qA++t4 x
def t2(x:gX):List Int:=fe x.qe++t3 x
def t1(x:gX):List Int:=fe x.fr++t2 x
end Wm
def we(x:gX):List Int:=fe x.kind++Wm.t1 x
def sj(dG:Int):Nat->List Int->RS->List Int×RS
 |0,l,s=>(l,s)
 |n+1,l,s=>sj dG n (l++[(cZ dG s).1]) (cZ dG s).2
def so:Nat->List (List Nat)->RS->List (List Nat)×RS
 |0,l,s=>(l,s)
 |n+1,l,s=>so n (l++[FB (gZ s).1]) (gZ s).2
def HJ(s:RS):Kd×RS:=((AR (kM 20 s).1,(oU (kM 20 s).2).1),(oU (kM 20 s).2).2)
def JC:Nat->List Kd->RS->List Kd×RS
 |0,L,s=>(L,s)
 |n+1,L,s=>if s.2≠0 then(L,s)else JC n (L++[(HJ s).1]) (HJ s).2
def E9(b:List Int):List Kd×RS:=JC (cZ 2000 (b,0)).1.toNat [] (cZ 2000 (b,0)).2
def lT(b:List Int):List Kd×Int:=if Ir (E9 b).2≠0\/cX (E9 b).1=false then([],3)else((E9 b).1,0)
namespace Rm
def m1(b:List Int):Int×RS:=cZ 7 (b,0)
def m2(b:List Int):Int×RS:=cZ 8 (m1 b).2
def m3(b:List Int):Int×RS:=cZ 8 (m2 b).2
def m4(b:List Int):Int×RS:=cZ 1099511627776 (m3 b).2
def m5(b:List Int):Int×RS:=cZ 7 (m4 b).2
def m6(b:List Int):List Int×RS:=if (m1 b).1=1 then gZ (m5 b).2 else(List.replicate 32 0,(m5 b).2)
def m7(b:List Int):Int×RS:=cZ 16 (m6 b).2
def m8(b:List Int):List Int×RS:=sj 20 (m7 b).1.toNat [] (m7 b).2
def m9(b:List Int):Int×RS:=cZ 16 (m8 b).2
def mA(b:List Int):List (List Nat)×RS:=so (m9 b).1.toNat [] (m9 b).2
def mC(b:List Int):List Kd×Int:=lT (if (mA b).2.2≠0 then[]else(mA b).2.1)
def mX(b:List Int):gX:=⟨(m1 b).1,(m2 b).1,(m3 b).1,(m4 b).1,(m5 b).1,FB (m6 b).1,(m8 b).1,(mA b).1,(mC b).1⟩
end Rm
def fP:gX:=⟨0,0,0,0,0,fX,[],[],[]⟩
def sg(b:List Int):gX×Int:=if (Rm.mA b).2.2≠0\/(Rm.mC b).2≠0\/dR (Rm.mX b)=false then(fP,3)else(Rm.mX b,0)
variable{x:gX}
theorem abM{y:gX}(h:GF x y=true):x=y:=by
 obtain⟨a1,a2,a3,a4,a5,a6,a7,a8,a9⟩:=x;obtain⟨b1,b2,b3,b4,b5,b6,b7,b8,b9⟩:=y;simp only[GF,aB,gU,bA]at h
 grind
theorem Nz{p n:Int}(h:mV p=n)(hn:0<=n):0<=p/\p<=20/\(n=2->5<=p)/\(n=1->1<=p/\p<=4)/\(n=0->p=0):=by
 unfold mV at h;omega
theorem rM{l:List Int}{n:Int}(h:iR l n=true)(hn:0<=n):(∀p∈l,mV p=n)/\(∀p∈l,0<=p/\p<=20)/\l.length<=16/\(n<=1->l.length<=4)/\0<l.length:=by
 simp only[iR,aB,bL,dS,bA]at h;obtain⟨ha,h0⟩:=h
 have hl:∀i,i<l.length->mV (l.getD i 0)=n/\(i=0\/l.getD (i-1) 0<l.getD i 0):=λi hi=>by
  have:=ha i hi;simpa only[BY,aB,eM,bA]using this
 have hup:∀i,i<l.length->l.getD 0 0+i<=l.getD i 0:=λi=>by
  induction i with
  |zero=>intro _;omega
  |succ i ih=>
   intro hi;have h1:=ih (by omega);have h2:=(hl (i+1) hi).2;rw[Nat.add_sub_cancel]at h2;omega
 have Q9:=hup (l.length-1) (by omega);have e0:=Nz (hl 0 h0).1 hn;have e1:=Nz (hl (l.length-1) (by omega)).1 hn
 have n2:n<=2:=by
  have:=FK (l.getD 0 0)
  grind
 refine⟨?_,?_,by omega,λh1=>by omega,h0⟩
 ·intro p hp
  obtain⟨i,hi,rfl⟩:=dc hp
  grind
 ·intro p hp
  obtain⟨i,hi,rfl⟩:=dc hp;rw[ly hi];have:=Nz (hl i hi).1 hn;omega
structure arx(x:gX):Prop where
 k:1<=x.kind/\x.kind<=7
 (f:1<=x.fr/\x.fr<=8)
 (t:1<=x.qe/\x.qe<=8)
 (ft:x.fr≠x.qe)
 (s:0<=x.qA/\x.qA<=1099511627776)
 (p:0<=x.part/\x.part<=7)
 (d:x.kind≠1->x.jI=fX)
 (pl:∀p∈x.pl,0<=p/\p<=20)
 (pn:x.pl.length<=16)
 (dn:x.dg.length<=16)
 (ca:cX x.ca=true)
 (ok:Vo x=true)
 (ux:uY x=x)
 (hd:x.kind≠7->1<=x.qA)
theorem vU:cX []=true:=rfl
theorem nD(h:dR x=true):arx x:=by
 simp only[dR,aB]at h;obtain⟨hk,hh⟩:=h;have ZB:=hk;simp only[Xh,aB,eM,gU,bne_iff_ne,rB,bA]at hh;obtain⟨h1,h2,h3,h4,h5⟩:=hh;have e:=(abM h5).symm
 have ajE:(x.kind=1\/x.kind=4)\/x.kind=2\/(x.kind=3\/x.kind=6)\/x.kind=5\/x.kind=7:=by
  unfold Vo at hk
  grind
 have z:fX=fX:=rfl;obtain⟨kind,fr,qe,qA,part,jI,pl,dg,ca⟩:=x;simp only at h1 h2 h3 h4 ajE;rcases ajE with(rfl|rfl)|rfl|(rfl|rfl)|rfl|rfl
 ·simp[uY]at e
  obtain⟨rfl,rfl,rfl⟩:=e;exact⟨by simp,h2,h3,h4,by simp;omega,by simp;omega,λh=>absurd rfl h,by simp,by simp,by simp,vU,ZB,by simp[uY],by simp;omega⟩
 ·simp[uY]at e
  obtain⟨rfl,rfl,rfl,rfl⟩:=e;exact⟨by simp,h2,h3,h4,by simp;omega,by simp;omega,λh=>rfl,by simp,by simp,by simp,vU,ZB,by simp[uY],by simp;omega⟩
 ·simp[uY]at e
  obtain⟨rfl,rfl,rfl⟩:=e;have hl:iR pl 1=true:=by simpa [Vo]using hk
  have:=rM hl (by omega);exact⟨by simp,h2,h3,h4,by simp;omega,by simp;omega,λh=>rfl,this.2.1,this.2.2.1,by simp,vU,ZB,by simp[uY],by simp;omega⟩
 ·simp[uY]at e
  obtain⟨rfl,rfl⟩:=e;have hl:iR pl 2=true/\pT ⟨3,fr,qe,qA,part,fX,pl,[],ca⟩=true:=by simpa [Vo]using hk
  have:=rM hl.1 (by omega);have hr:=hl.2;simp only[pT,aB]at hr;exact⟨by simp,h2,h3,h4,by simp;omega,by simp;omega,λh=>rfl,this.2.1,this.2.2.1,by simp,hr.1,ZB,by simp[uY],by simp;omega⟩
 ·simp[uY]at e
  obtain⟨rfl,rfl⟩:=e;have hl:iR pl 2=true/\pT ⟨6,fr,qe,qA,part,fX,pl,[],ca⟩=true:=by simpa [Vo]using hk
  have:=rM hl.1 (by omega);have hr:=hl.2;simp only[pT,aB]at hr;exact⟨by simp,h2,h3,h4,by simp;omega,by simp;omega,λh=>rfl,this.2.1,this.2.2.1,by simp,hr.1,ZB,by simp[uY],by simp;omega⟩
 ·simp[uY]at e
  obtain⟨rfl,rfl⟩:=e;have hl:(iR pl 0=true\/iR pl 1=true)/\dg.length=4*pl.length:=by simpa [Vo]using hk
  have Ai:(∀p∈pl,0<=p/\p<=20)/\pl.length<=4:=by
   rcases hl.1 with h|h
   ·have:=rM h (by omega)
    grind
   ·have:=rM h (by omega)
    grind
  exact⟨by simp,h2,h3,h4,by simp;omega,by simp;omega,λh=>rfl,Ai.1,by have:=Ai.2;simp only;omega,by have:=Ai.2;have:=hl.2;simp only;omega,vU,ZB,by simp[uY],by simp;omega⟩
 ·simp[uY]at e
  obtain⟨rfl,rfl,rfl,rfl,rfl⟩:=e;have hl:(ca.length=1/\cX ca=true)/\kZ (jR (NF ca))=true:=by simpa [Vo]using hk
  exact⟨by simp,h2,h3,h4,by simp,by simp,λh=>rfl,by simp,by simp,by simp,hl.1.2,ZB,by simp[uY],by simp⟩
theorem abq(l:List Nat):FB (nc l)=l:=by
 simp[FB,Function.comp_def]
theorem GP{dG:Int}:∀(l Jf t:List Int),(∀x∈l,0<=x/\x<=dG)->dG<18446744073709551616->sj dG l.length Jf (kH l++t,0)=(Jf++l,(t,0))
 |[],Jf,t,_,_=>by simp[sj,kH]
 |x::l,Jf,t,h,hm=>by
  have hx:=h x (by simp);have e:=gJ (n:=x) (dG:=dG) ⟨hx.1,by omega⟩ hx.2 (kH l++t);have ih:=GP l (Jf++[x]) t (λy hy=>h y (by simp[hy])) hm;rw[Kw,aX,bd,sj,e];simp only;rw[ih];simp
theorem GQ:∀(l Jf:List (List Nat)) (t:List Int),D32 l->so l.length Jf (xw l++t,0)=(Jf++l,(t,0))
 |[],Jf,t,_=>by simp[so,xw]
 |d::l,Jf,t,h=>by
  have hd:(nc d).length=32:=by rw[aH];exact h d (by simp)
  have e:=BT hd (xw l++t);have ih:=GQ l (Jf++[d]) t λy hy=>h y (by simp[hy]);have e2:xw (d::l)=nc d++xw l:=by simp[xw]
  rw[e2,aX,bd,so,e];simp only;rw[abq,ih];simp
theorem UM{x:Kd}(hk:x.1.size<=20)(hu:yZ x.2.1)(h:dA x.2.1 x.2.2=true)(t:List Int):HJ (nJ x++t,0)=(x,(t,0)):=by
 have hl:=zH x.1;have e1:=GN (b:=chI x.1) (dG:=20) (by omega) (by omega) (AY x.2++t);have e2:=Gi (c:=x.2) hu h t;have e3:AY x.2=yV x.2:=aC h;unfold HJ;rw[nJ,aX,e1];simp only;rw[e3,e2,Ps]
theorem LH:∀(L Jf:List Kd) (t:List Int),(∀x∈L,x.1.size<=20/\yZ x.2.1/\dA x.2.1 x.2.2=true)->JC L.length Jf ((L.map nJ).flatten++t,0)=(Jf++L,(t,0))
 |[],Jf,t,_=>by simp[JC]
 |x::L,Jf,t,h=>by
  obtain⟨h1,h2,h3⟩:=h x (by simp);have e:=UM h1 h2 h3 ((L.map nJ).flatten++t);have ih:=LH L (Jf++[x]) t λy hy=>h y (by simp[hy]);rw[aZ,dX,aX,bd,JC,if_neg (by simp),e];simp only;rw[ih];simp
theorem PL{L:List Kd}(h:cX L=true):∀x∈L,dA x.2.1 x.2.2=true:=by
 intro x hx;obtain⟨i,hi,rfl⟩:=dc hx;simp only[cX,aB,bL,dS]at h;have:=h.1 i hi;simp only[Jx,aB,bA]at this;rw[wk hi];exact this.2
theorem aaV{L:List Kd}(h:cX L=true):L.length<=2000:=by
 simp only[cX,aB,bA]at h;exact h.2
theorem MY{L:List Kd}(h:cX L=true)(hu:∀x∈L,yZ x.2.1):lT (B3 L)=(L,0):=by
 have hn:=aaV h;have e1:=gJ (n:=(L.length:Int)) (dG:=2000) (yf (by omega)) (by omega) ((L.map nJ).flatten);have e2:=LH L [] [] λx hx=>⟨lQ h x hx,hu x hx,PL h x hx⟩
 have e3:E9 (B3 L)=(L,([],0)):=by
  unfold E9;rw[B3,e1]
  grind
 unfold lT;rw[e3];rw[if_neg (by simp[Ir,h])]
theorem T7(h:dR x=true)(hd:x.jI.length=32)(hD:D32 x.dg)(hu:∀c∈x.ca,yZ c.2.1):sg (we x)=(x,0):=by
 have r:=nD h;obtain⟨k1,k2⟩:=r.k;obtain⟨f1,f2⟩:=r.f;obtain⟨t1,t2⟩:=r.t;obtain⟨s1,s2⟩:=r.s;obtain⟨p1,p2⟩:=r.p;have pn:=r.pn;have dn:=r.dn;have e1:Rm.m1 (we x)=(x.kind,(Wm.t1 x,0)):=gJ ⟨by omega,by omega⟩ k2 _
 have e2:Rm.m2 (we x)=(x.fr,(Wm.t2 x,0)):=by
  unfold Rm.m2;rw[e1];exact gJ ⟨by omega,by omega⟩ f2 _
 have e3:Rm.m3 (we x)=(x.qe,(Wm.t3 x,0)):=by
  unfold Rm.m3;rw[e2];exact gJ ⟨by omega,by omega⟩ t2 _
 have e4:Rm.m4 (we x)=(x.qA,(Wm.t4 x,0)):=by
  unfold Rm.m4;rw[e3];exact gJ ⟨by omega,by omega⟩ s2 _
 have e5:Rm.m5 (we x)=(x.part,(Wm.t5 x,0)):=by
  unfold Rm.m5;rw[e4];exact gJ ⟨by omega,by omega⟩ p2 _
 have hz:nc fX=List.replicate 32 (0:Int):=rfl
 have e6:Rm.m6 (we x)=(nc x.jI,(Wm.t6 x,0)):=by
  unfold Rm.m6;rw[e1,e5];unfold Wm.t5;simp only;by_cases hk:x.kind=1
  ·rw[aC hk,aC hk]
   exact BT (by rw[aH];exact hd) _
  ·rw[if_neg hk,if_neg hk,r.d hk,hz]
   rfl
 have e7:Rm.m7 (we x)=((x.pl.length:Int),(Wm.t7 x,0)):=by
  unfold Rm.m7;rw[e6];exact gJ (yf (by omega)) (by omega) _
 have e8:Rm.m8 (we x)=(x.pl,(Wm.t8 x,0)):=by
  unfold Rm.m8;rw[e7];unfold Wm.t7;simp only;rw[aA,GP x.pl [] _ r.pl (by omega)];rfl
 have e9:Rm.m9 (we x)=((x.dg.length:Int),(Wm.t9 x,0)):=by
  unfold Rm.m9;rw[e8];exact gJ (yf (by omega)) (by omega) _
 have eA:Rm.mA (we x)=(x.dg,(B3 x.ca,0)):=by
  unfold Rm.mA;rw[e9];unfold Wm.t9;simp only;rw[aA,GQ x.dg [] _ hD];rfl
 have eC:Rm.mC (we x)=(x.ca,0):=by
  unfold Rm.mC;rw[eA];simp only;rw[if_neg (by simp),MY r.ca hu]
 have eX:Rm.mX (we x)=x:=by
  unfold Rm.mX;rw[e1,e2,e3,e4,e5,e6,e8,eA,eC];simp only[abq]
 unfold sg
 grind
variable{m:aD}{v:Value}
theorem NK{E:List Rk}{F:Nat}{p:Rk->Bool}(hv:Ka m v E)(hF:∀e∈E,eN tP F [Kv e] m [bR (p e)])(hl:E.length<=100000000):eN tP 111 [.v v,(Aj F)] m [i64 (sH p E)]:=by
 obtain⟨a,c,rfl⟩:=hv.shape;refine ub Tryz.func111 ?_;refine .mk (ι:=Nat) (λi=>E.length-i) (λi mm=>i<=E.length/\(∀x∈E.take i,p x=false)/\mm=m) (λi=>[(0,.c (.v (.slice a E.length c))),(1,.c (Aj F)),(7,.c (i64 E.length)),(8,.c (i64 i))]) (λ_=>[]) 0 ⟨by omega,by simp,rfl⟩ ?_ ?_
 ·exact Cr
 rintro i mm⟨hi,cM,he⟩;subst mm;apply bI<;>intro h
 ·have h':=ah h
  have bH:i<E.length:=by omega
  obtain⟨bl,ol,c',hh,hg⟩:=hv.real bH;injection hh with eK _ fN;subst eK;have hg:=hg i bH
  repeat refine xS ?_
  refine⟨[.one (.string E[i].1),.bG .u64 8 (n8 E[i].2.1),.one (.slice E[i].2.2.1 E[i].2.2.2.1 E[i].2.2.2.2)],⟨rfl,rfl,rfl,trivial⟩,rfl,by simp only[bK,aA];exact hg,?_⟩;refine bt ((hF E[i] (aO bH))) ?_;have dI:E.take (i+1)=E.take i++[E[i]]:=au bH;apply bI<;>intro h
  ·exact⟨by rw[tW bH cM h],rfl⟩
  ·refine⟨i+1,⟨by omega,λx hx=>?_,rfl⟩,by omega,?_⟩
   ·rw[dI]at hx
    rcases aR.1 hx with hx|hx
    ·exact cM x hx
    ·rw[aL.1 hx];exact h
   ·exact Cr
 ·have h':=aj h
  obtain rfl:i=E.length:=by omega
  rw[aJ]at cM;exact⟨by rw[nL cM],rfl⟩
variable{o:Nat}
theorem amc{b n c:Nat}{arr:Array Value}{te:TypeId}(hb:m b=some (.cells arr te))(hn:0<n)(jH:o+n*10<=arr.size):
  bF tP (.builtin .clear [36]) [.v (.slice (some ⟨b,o,none⟩) n c)] m λr m'=>r=[]/\∃zs,zs.length=n*10/\(∀u∈zs,u.oneCell'=true)/\m'=m.set b (.cells (arr.toList.take o++zs++arr.toList.drop (o+n*10)).toArray te):=by
 obtain⟨ti,h1,h2⟩:=hKs;obtain⟨ei,g1,g2,g3,g4⟩:=hKn;have:=qw (P:=tP) eR h1 h2 g1 (by rw[g4,g2];rfl) (by rw[g4];exact dW.one _) (c:=c) hb hn (by rw[g2];exact jH);rw[g2]at this;exact this
theorem JY{mm p:aD}{E:List Rk}{F:Nat}{pr:Rk->Bool}(hs:aq mm [p,m])(hv:Ko p v E)(hF:∀m',cL m m'->∀e∈E,eN tP F [Kv e] m' [bR (pr e)])(hl:E.length<=10000000):
  bi tP 406 [.v v,(Aj F)] mm λr m'=>∃v' p',r=[.v v']/\aq m' [p',m]/\Ko p' v' (E.filter λe=>!pr e):=by
 obtain⟨a,c,rfl⟩:=hv.el.shape;refine ub Tryz.func406 ?_;refine bt (NK (p:=pr) (hv.el.ea.sub (hs.sub)) (hF _ (hs.sub)) (by omega)) ?_;rcases lY pr E with⟨e1,e2⟩|⟨i0,Ja,e1,e2,e3⟩
 ·rw[e1]
  refine xY ?_;refine⟨_,p,rfl,hs,?_⟩;have:E.filter (λe=>!pr e)=E:=bY.2 λx hx=>by rw[e2 x hx];rfl
  rw[this];exact hv
 rw[e1];obtain⟨bl,ol,c',hh,hg⟩:=hv.el.ea.real Ja;injection hh with eK _ fN;subst eK;have ga:((i0:Int)== -1)=false:=by rw[qO];exact aY (by omega)
 refine⟨λh=>absurd h (by rw[ga];decide),λ_=>?_⟩;have ew:IntKind.i64.wrap ((i0:Int)+1)=((i0+1:Nat):Int):=qJ (by omega);conv=>whnf
 rw[ew]
 refine .mk (ι:=Nat×Nat) (λi=>E.length-i.2) (λ⟨i,j⟩ mm=>∃p Z,aq mm [p,m]/\Ko p (.slice (some ⟨bl,ol,none⟩) E.length c) Z/\Z.take i=(E.take j).filter (λe=>!pr e)/\Z.drop j=E.drop j/\i<j/\j<=E.length)
  (λ⟨i,j⟩=>[(0,.c (.v (.slice (some ⟨bl,ol,none⟩) E.length c))),(1,.c (Aj F)),(5,.c (i64 i)),(6,.c (i64 j))]) (λ_=>[]) (i0,i0+1) ⟨p,E,hs,hv,?_,rfl,by omega,by omega⟩ ?_ ?_
 ·rw[au Ja,aaB]
  have:(E.take i0).filter (λe=>!pr e)=E.take i0:=bY.2 λx hx=>by rw[e3 x hx];rfl
  rw[this];simp[e2]
 ·exact Cr
 rintro⟨i,j⟩ mm ⟨p,Z,hs,hZ,ht,hd,ZD,hj⟩;have hZl:Z.length=E.length:=(dW.row hZ).choose_spec.2.1;apply bI<;>intro h
 ·have h':=ah h
  have bH:j<E.length:=by omega
  have hZE:Z[j]'(by omega)=E[j]:=by
   have:=be (λl:List Rk=>l[0]?) hd;simp only[cT,gO]at this;rw[az (by omega),az bH]at this;exact eL this
  obtain⟨OY,ol',c',hh,hg⟩:=hZ.el.ea.real (i:=j) (by omega);injection hh with eK _ fN;injection eK with eK;injection eK with kW I8;subst kW;subst I8;have js:=hg j (by omega);have dI:E.take (j+1)=E.take j++[E[j]]:=au bH
  have LW:Z.drop (j+1)=E.drop (j+1):=by
   rw[<-dU,<-dU,hd]
  rw[hZE]at js;have hxm:E[j]∈E:=aO bH;generalize E[j]=x at js dI hxm
  repeat refine xS ?_
  refine⟨[.one (.string x.1),.bG .u64 8 (n8 x.2.1),.one (.slice x.2.2.1 x.2.2.2.1 x.2.2.2.2)],⟨rfl,rfl,rfl,trivial⟩,rfl,by simp only[bK,aA];exact js.sub (hs.sub),?_⟩;refine bt ((hF _ (hs.sub) x hxm)) ?_
  cases hp:pr x with
  |true=>
   refine xN ?_;refine⟨(i,j+1),⟨p,Z,hs,hZ,by rw[dI,aaB,ht];simp[hp],LW,by omega,by omega⟩,by simp only;omega,?_⟩;exact Cr
  |false=>
   refine xY ?_
   repeat refine xS ?_
   obtain⟨arr,k1,k2,k3⟩:=dW.set hZ (i:=i) (by omega) x;refine⟨arr,_,_,hs.sub (a:=p) (by simp) _ _ k1,⟨by simp only[bK,aA];exact k2,Jz⟩,?_⟩;have bZ:=hs.set k1 (.cells (arr.toList.take (ol+i*10)++(fj x++arr.toList.drop (ol+i*10+10))).toArray 81);simp only[bK,aA];have U6:IntKind.i64.wrap ((i:Int)+1)=((i+1:Nat):Int):=qJ (by omega);refine⟨(i+1,j+1),⟨_,Z.set i x,bZ,k3,?_,?_,by omega,by omega⟩,by simp only;omega,?_⟩
   ·rw[dI,aaB,<-ht,au (by rw[fc];omega),jq,qQ (by omega)]
    simp[hp]
   ·rw[km (by omega)];exact LW
   ·exact Cr
 ·have h':=aj h
  obtain rfl:j=E.length:=by omega
  rw[aJ]at ht;obtain⟨arr,k1,k2,k3,k4,k5⟩:=dW.row hZ
  repeat refine xS ?_
  intro o' q1 q2;have ho:o'=ol+i*10:=by simpa using q1 (by omega)
  have ei:(i:Int).toNat=i:=by omega
  subst ho;conv=>whnf
  rw[ei];refine .mk _ (amc (hs.sub (a:=p) (by simp) _ _ k1) (by omega) (by omega)) ?_;rintro _ m'⟨rfl,zs,QY,hz2,rfl⟩;have bZ:=hs.set k1 (.cells (arr.toList.take (ol+i*10)++zs++arr.toList.drop (ol+i*10+(E.length-i)*10)).toArray 81)
  repeat refine xS ?_
  intro o' q1 q2;obtain rfl:o'=ol:=by have:=q1 (by omega);simpa [bK]using this
  conv=>whnf
  rw[ei];refine⟨_,_,rfl,bZ,?_⟩;rw[<-ht];refine dW.mk' (aD.bg ..) (by rw[aK];omega) (by omega) ?_ λj u hu=>?_
  ·simp only[dM,ax,aK,cC,cq,QY];omega
  ·have EN:=(aQ.1 hu).1
   rw[dW.wC,aK]at EN;have Re:o'+j<o'+i*10:=by have:=cS 10 (y8 i Z.length);omega
   rw[<-dW.take,bN]at hu
   split at hu
   ·have:=k5 j u hu
    rw[bz,aX,aT (by rw[aK,cq];omega),bN,aC Re,bU];exact this
   ·cases hu
def oz(x:Kd):Bool:=!((decide (x.2.1=fx)&&decide (x.2.2.length=0))|| !kZ (jR x.1))
def DI(part leaf:Int)(k:ByteArray):Bool:=decide ((qI k:Int)=part)&&decide ((gF k:Int)=leaf)
def qb(L:List Kd)(part leaf:Int):List Kd:=if cX L then(L.filter oz).filter λx=>DI part leaf x.1 else[]
def w7(r:Rk):Bool:=!((decide (r.2.1=fx)&&decide (r.2.2.2.1=0))|| !kZ (jR r.1))
theorem dC.tail{r:Rk}{x:Kd}{R:List Rk}{L:List Kd}(h:dC m (r::R) (x::L)):pP m r x/\dC m R L:=
 ⟨h.je 0 (by simp) (by simp),by simpa using h.len,λi h1 h2=>h.je (i+1) (by simp;omega) (by simp;omega)⟩
theorem dC.filter{f:Rk->Bool}{g:Kd->Bool}(hf:∀r x,pP m r x->f r=g x):∀{R:List Rk}{L:List Kd},dC m R L->dC m (R.filter f) (L.filter g)
 |[],[],_=>dC.nil m
 |[],_::_,h=>by cases h.len
 |_::_,[],h=>by cases h.len
 |r::R,x::L,h=>by
  obtain⟨h1,h2⟩:=h.tail;have ih:=dC.filter hf h2;have e:=hf r x h1;rw[mO,mO,e];split
  ·exact(dC.one h1).append ih
  ·exact ih
theorem ad2(r:Rk)(x:Kd)(h:pP m r x):w7 r=oz x:=by
 unfold w7 oz;rw[h.len,h.u,h.k]
section
variable {m:aD}
theorem SG{u:List Int}{a:Option Addr}{c:Nat}{E:List En}(hu:u.length=8)(hv:Na m (.slice a E.length c) E)(hl:E.length<=1000000):eN tP 408 [iY u a E.length c] m [bR (decide (u=fx)&&decide (E.length=0))]:=by
 refine ub Tryz.func408 ?_;refine bt (vQ (w:=fx) (a':=none) (c':=0) (K:=[]) hv (Na.nil m) (by omega)) ?_;exact⟨by cases E<;>simp,rfl⟩
theorem J5{r:Rk}{x:Kd}(h:pP m r x)(hk:x.1.size<=1000000)(hl:x.2.2.length<=1000000):eN tP 407 [Kv r] m [bR (!w7 r)]:=by
 have hn:=h.len;have he:=h.e;have ve:=h.k;have hu:=h.u;have h8:=h.u8;obtain⟨k,u,a,n,c⟩:=r;obtain⟨xk,xu,E⟩:=x;simp only at hn he ve hu h8 hk hl;subst hn ve hu;unfold w7;refine ub Tryz.func407 ?_;conv=>whnf
 rw[yn h8];refine bt (SG h8 he hl) ?_;apply bI<;>intro h
 ·exact⟨by simp only[h];rfl,rfl⟩
 ·refine bt (iB hk) ?_
  exact⟨by simp only[h];simp,rfl⟩
theorem aq.aq2{m:aD}{l:List aD}(h:aq m l):∀n,aq m (List.replicate n iI++l)
 |0=>h
 |n+1=>(aq.aq2 h n).cA
structure arF(m:aD)(vs:List Value)(ps:List aD)(R:List Rk)(part:Int):Prop where
 n1:vs.length=16
 (n2:ps.length=16)
 (ux:∀i (h1:i<vs.length) (h2:i<ps.length),Ko ps[i] vs[i] (R.filter λr=>DI part i r.1))
theorem CD(hS:cK m){v:Value}{L:List Kd}{part:Int}(hv:lu m v L)(hA:∀x∈L,jg x)(hk:∀x∈L,x.1.size<=1000000)(hl:L.length<=1000000):
  bi tP 362 [.v v,i64 part] m λr m'=>∃vs,r=[.a [.fq 16 vs]]/\vs.length=16/\(∀i (h:i<vs.length),lu m' vs[i] (qb L part i))/\cL m m':=by
 have hv0:=hv;obtain⟨R,hR,hK⟩:=hv;obtain⟨av,cv,rfl⟩:=hR.shape;have hlen:=hK.len;refine A4 avX Tryz.func362 ?_;refine aP (iC hS hv0 hA hl) ?_;rintro _ m1⟨rfl,bM⟩;conv=>whnf
 unfold qb;by_cases hr:cX L=true;rotate_left
 ·have hr:cX L=false:=by simpa using hr
  rw[hr];refine xY ?_;refine⟨List.replicate 16 (.slice none 0 0),rfl,rfl,λi h=>?_,bM⟩;rw[List.getElem_replicate];exact lu.nil _
 rw[hr];refine xN ?_;refine aP (nO (hR.sub bM) (by omega)) ?_;rintro _ m2⟨v2,p2,rfl,bZ,lE⟩;have B8:cL m m2:=bM.trans (bZ.sub)
 have hF:∀m',cL m1 m'->∀e∈R,eN tP 407 [Kv e] m' [bR (!w7 e)]:=λm' hm e he=>by
  obtain⟨i,hi,rfl⟩:=dc he;have hx:=hK.je i hi (by omega);have DM:L[i]'(by omega)∈L:=aO _;exact J5 (hx.sub (bM.trans hm)) (hk _ DM) (by have:=(hA _ DM).n;omega)
 refine aP (JY (pr:=λr=>!w7 r) bZ lE hF (by omega)) ?_;rintro _ m3⟨v3,p3,rfl,dy,UZ⟩;have e0:(R.filter λe=>!(λr=>!w7 r) e)=R.filter w7:=by simp
 rw[e0]at UZ;have hK3:dC m (R.filter w7) (L.filter oz):=hK.filter λr x h=>ad2 r x h
 have hkR:∀r∈R.filter w7,r.1.size<=1000000:=λr hr=>by
  obtain⟨i,hi,rfl⟩:=dc (cH.1 hr).1;rw[(hK.je i hi (by omega)).k];exact hk _ (aO _)
 have hRl:(R.filter w7).length<=1000000:=bq (bC _ _) (by omega);generalize R.filter w7=S at UZ hK3 hkR hRl;obtain⟨a3,c3,rfl⟩:=UZ.el.shape
 have eP:aq m3 [p3,m]:=by
  have h:=dy;exact(aq.Ci (h.ir [1,0]) bM).ir [1,0]
 have ox:∀vs ps S,arF m vs ps S part->∀v∈vs,v.oneCell'=true:=λvs ps S h v hv=>by
  obtain⟨i,hi,rfl⟩:=dc hv;exact(h.ux i hi (by have:=h.n1;have:=h.n2;omega)).ea.one
 refine .mk (ι:=Nat×List Value) (λi=>S.length-i.1) (λ⟨i,vs⟩ mm=>i<=S.length/\∃ps,aq mm (ps++[p3,m])/\arF m vs ps (S.take i) part) (λ⟨i,vs⟩=>[(1,.c (i64 part)),(4,.p 0 0),(5,.p 1 0),(18,.c (.v (.slice a3 S.length c3))),(19,.c (i64 S.length)),(20,.c (i64 i))]) (λ⟨i,vs⟩=>[(455,[.fq 16 (List.replicate 16 (.slice none 0 0))]),(455,[.fq 16 vs])]) (0,List.replicate 16 (.slice none 0 0)) ⟨by omega,List.replicate 16 iI,?_,?_⟩ ?_ ?_
 ·exact aq.aq2 eP 16
 ·refine⟨rfl,rfl,λi h1 h2=>?_⟩
  simp only[List.getElem_replicate];exact Ko.nil _
 ·exact Cr
 rintro⟨i,vs⟩ mm ⟨hi,ps,hs,hb⟩;have B8:cL m mm:=hs.sub (by simp);apply bI<;>intro h
 ·have h':=ah h
  have bH:i<S.length:=by omega
  obtain⟨bl,ol,c',hh,hg⟩:=(UZ.el.ea.sub (hs.sub (a:=p3))).real bH;injection hh with eK _ fN;have js:=hg i bH;have hkr:=hkR _ (aO bH)
  have Ac:∀f:Rk->Bool,(S.take (i+1)).filter f=if f S[i]then(S.take i).filter f++[S[i]]else(S.take i).filter f:=λf=>by
   rw[au bH,aaB]
   cases h:f S[i]<;>simp[h]
  generalize S[i]=r at*;conv=>whnf
  simp only[eK]
  repeat refine xS ?_
  refine⟨[.one (.string r.1),.bG .u64 8 (n8 r.2.1),.one (.slice r.2.2.1 r.2.2.2.1 r.2.2.2.2)],⟨rfl,rfl,rfl,trivial⟩,rfl,by simp only[bK,aA];exact js,?_⟩;refine aP (OG hkr) ?_;rintro _ m5⟨rfl,eD⟩;apply bI<;>intro h2
  ·have iD:(qI r.1:Int)=part:=by simpa using h2
   have hlf:=Zl r.1;refine⟨⟨by omega,by omega⟩,?_⟩;refine⟨by simpa [bK]using hlf,?_⟩;refine .mk _ (OC (e:=r)) ?_;rintro _ _⟨b5,mo,rfl,rfl⟩;refine⟨λ_ h=>(by cases h),?_⟩;have hvl:gF r.1<vs.length:=by have:=hb.n1;omega
   have CU:gF r.1<ps.length:=by have:=hb.n2;omega
   have et:bK ((gF r.1:Nat):Int) 1=gF r.1:=by simp[bK]
   have eg:vs.getD (bK ((gF r.1:Nat):Int) 1) undef=vs[gF r.1]:=by
    rw[et,aI,az hvl];rfl
   rw[eg];have Fc:((S.take i).filter λr'=>DI part (gF r.1:Nat) r'.1).length<=1000000:=bq (bC _ _) (by rw[aK];omega);refine .mk _ (aca (i:=gF r.1) (hs.grow eD) (by rw[aT CU];exact az CU) mo (hb.ux _ hvl CU) (by omega)) ?_;rintro _ m6⟨y',p',rfl,gC,tZ⟩
   have iU:aq m6 (ps.set (gF r.1) p'++[p3,m]):=by
    rw[pR _ _ CU]at gC;exact gC
   have hy1:=tZ.el.ea.one;refine⟨⟨by omega,by omega⟩,?_⟩;refine⟨by simpa [bK]using hlf,?_⟩;conv=>whnf
   try rw[et]
   refine⟨(i+1,vs.set (gF r.1) y'),⟨by omega,_,iU,⟨by rw[fc];exact hb.n1,by rw[fc];exact hb.n2,λj h1 h2=>?_⟩⟩,by simp only;omega,?_⟩
   ·rw[Ac]
    simp only[qy];by_cases hj:gF r.1=j
    ·subst hj
     rw[aC rfl,aC rfl,aC (by simp[DI,iD])];exact tZ
    ·rw[if_neg hj,if_neg hj,if_neg (by simp[DI];omega)]
     exact hb.ux j (by simpa using h1) (by simpa using h2)
   ·exact Cr
  ·have iD:¬(qI r.1:Int)=part:=by simpa using h2
   refine⟨(i+1,vs),⟨by omega,ps,hs.grow eD,⟨hb.n1,hb.n2,λj h1 h2=>?_⟩⟩,by simp only;omega,?_⟩
   ·rw[Ac,if_neg (by simp[DI,iD])]
    exact hb.ux j h1 h2
   ·exact Cr
 have h':=aj h;obtain rfl:i=S.length:=by omega
 rw[aJ]at hb;refine⟨vs,rfl,hb.n1,λi h=>?_,B8⟩;have h2:i<ps.length:=by have:=hb.n1;have:=hb.n2;omega
 rw[aC rfl];exact⟨_,((hb.ux i h h2).el.sub (hs.sub)).ea,(hK3.filter λr x h=>by simp only[h.k]).sub B8⟩
end
theorem asY{c d:LB}{x:Value}{t:TypeId}(hc:LB.ok c)(hx:x.oneCell'=true)(h:LB.set c o x=some d):o<(LB.cz c).toArray.size/\Obj.cells ((LB.cz c).toArray.setIfInBounds o x) t= .cells (LB.cz d).toArray t:=by
 obtain⟨_,h2,h3⟩:=LB.uQ hc hx h;refine⟨by simpa using h3,?_⟩;rw[h2,<-List.setIfInBounds_toArray]
theorem wb{s:iS}(h:x.jI.length=32):LB.ok (x.L s):=⟨rfl,rfl,rfl,rfl,rfl,by rw[eB.ok,aH];exact h,rfl,rfl,rfl,trivial⟩
theorem Nq{y:gX}{s s':iS}(h:x.jI.length=32)(hv:v.oneCell'=true)(hs:LB.set (x.L s) o v=some (y.L s')):o<(LB.cz (x.L s)).toArray.size/\Obj.cells ((LB.cz (x.L s)).toArray.setIfInBounds o v) 38=px y s':=asY (wb h) hv hs
theorem Uz{l:List Int}(h:jl l):nc (FB l)=l:=by
 rw[FB,nc,fS];refine(eu λx hx=>?_).trans (lL l);have:=h x hx;simp only[Function.comp,id];omega
variable{s:RS}
theorem GR(h:jl s.1):(gZ s).1.length=32/\jl (gZ s).1:=by
 have h1:=(nF (n:=32) h).1;have h2:=rK (n:=32) (s:=s);unfold gZ;generalize fL 32 s=e at*;obtain⟨b,s1⟩:=e;simp only at h1 h2⊢;refine⟨by simp;omega,h1.append λx hx=>?_⟩;have:=rI (fk hx);omega
theorem Zi{bp:Nat}(h:Rd m bp s):eN tP 311 [cx bp] m [i64 (if s.2≠0 then 0 else s.1.length)]:=by
 have h0:=h;obtain⟨v,hb,hv,hn,_⟩:=h;obtain⟨a,c,rfl⟩:=hv.shape;refine ub Tryz.func311 ?_;refine bt (iX h0) ?_;apply bI<;>intro h
 ·have h':s.2≠0:=by simpa using h
  exact⟨by rw[aC h'],rfl⟩
 ·have h':¬s.2≠0:=by simpa using h
  refine xM hb ?_;exact⟨by rw[if_neg h'],rfl⟩
theorem UE{mm q:aD}{bp bm:Nat}(hs:aq mm [q,blk1 bm (px x ⟨(none,0),(none,0),(none,0)⟩),m])(hr:Rd q bp s)(hp:x.pl=[])(hd:x.dg=[])(DT:x.jI.length=32):
  bi tP 309 [cx bp,cx bm] mm λr m'=>r=[]/\∃P D q' pp pd sp sd,P=sj 20 (cZ 16 s).1.toNat [] (cZ 16 s).2/\D=so (cZ 16 P.2).1.toNat [] (cZ 16 P.2).2/\aq m' [pp,pd,q',blk1 bm (px {x with pl:=P.1,dg:=D.1} ⟨sp,sd,(none,0)⟩),m]/\Rd q' bp D.2/\Io pp (.slice sp.1 P.1.length sp.2) P.1/\I0 pd (.slice sd.1 D.1.length sd.2) D.1:=by
 refine A4 awd Tryz.func309 ?_;have hn:=ij (dG:=16) hr.xA ⟨by decide,by decide⟩;refine aP (bi.frame hs (j9 (dG:=16) hr ⟨by decide,by decide⟩)) ?_;rintro _ mm⟨q1,⟨rfl,qn,_⟩,bM⟩;have e0:x={x with pl:=[]}:=by rw[<-hp]
 generalize cZ 16 s=ns at*;obtain⟨n,s1⟩:=ns;simp only at hn qn;obtain⟨k,rfl⟩:∃k:Nat,n=(k:Int):=⟨n.toNat,by omega⟩;rw[aA];have hk:k<=16:=by omega
 refine .mk (ι:=Nat×Option Addr×Nat×List Int) (λi=>k-i.1) (λ⟨i,a,c,P⟩ mm=>i<=k/\∃q pp si,aq mm [pp,q,blk1 bm (px {x with pl:=P} ⟨(a,c),(none,0),(none,0)⟩),m]/\Io pp (.slice a P.length c) P/\Rd q bp si/\P.length=i/\sj 20 k [] s1=sj 20 (k-i) P si) (λ⟨i,a,c,P⟩=>[(0,.c (cx bp)),(1,.c (cx bm)),(5,.c (i64 k)),(6,.c (i64 i))]) (λ_=>[]) (0,none,0,[]) ⟨by omega,q1,iI,s1,by rw[e0]at bM;exact bM.cA,Io.nil _,qn,rfl,rfl⟩ ?_ ?_
 ·exact Cr
 rintro⟨i,a,c,P⟩ mm ⟨hi,q,pp,si,hs,hpp,hr,hPl,hP⟩;apply bI<;>intro h
 ·have h':=ah h
  have bH:i<k:=by omega
  have EO:mm bm=some (px {x with pl:=P} ⟨(a,c),(none,0),(none,0)⟩):=hs.get (a:=blk1 bm _) (by simp) (aG ..);have hw:=ij (dG:=20) hr.xA ⟨by decide,by decide⟩
  have hP':sj 20 (k-i) P si=sj 20 (k-(i+1)) (P++[(cZ 20 si).1]) (cZ 20 si).2:=by
   rw[show k-i=(k-(i+1))+1 by omega];rfl
  refine⟨_,aF EO (Hk (x:={x with pl:=P}) DT).1,rfl,?_⟩;refine aP (bi.at (i:=1) hs rfl (j9 (dG:=20) hr ⟨by decide,by decide⟩)) ?_;rintro _ m2⟨q2,⟨rfl,jK,_⟩,bZ⟩;generalize cZ 20 si=e at*;obtain⟨v,si'⟩:=e;simp only at jK hP' hw;have DU:m2 bm=some (px {x with pl:=P} ⟨(a,c),(none,0),(none,0)⟩):=bZ.get (a:=blk1 bm _) (by simp) (aG ..);refine⟨HG (DU.trans EO.symm),?_⟩;refine .mk _ (qa) ?_;rintro _ _⟨b5,mo,rfl,rfl⟩;refine⟨yt DU (aD.bT _ mo),?_⟩;refine .mk _ (Es bZ mo hpp (by omega)) ?_;rintro _ m3⟨y',pp',rfl,dy,apH⟩;obtain⟨ya,yc,rfl⟩:=apH.il.ia.shape;have ahW:m3 bm=some (px {x with pl:=P} ⟨(a,c),(none,0),(none,0)⟩):=dy.get (a:=blk1 bm _) (by simp) (aG ..);have dI:=Nq (x:={x with pl:=P}) (y:={x with pl:=P++[v]}) (s:=⟨(a,c),(none,0),(none,0)⟩) (s':=⟨(ya,yc),(none,0),(none,0)⟩) (o:=37) (v:=.slice ya (P++[v]).length yc) DT rfl rfl;refine⟨_,_,_,ahW,⟨dI.1,by simp⟩,?_⟩;have eP:=dy.gu (i:=2) rfl (aG ..) (Obj.cells ((LB.cz (gX.L {x with pl:=P} ⟨(a,c),(none,0),(none,0)⟩)).toArray.setIfInBounds 37 (.slice ya (P++[v]).length yc)) 38);rw[cJ,dI.2]at eP;refine⟨(i+1,ya,yc,P++[v]),⟨by omega,q2,pp',si',?_,apH,jK,by simp[hPl],by rw[hP,hP']⟩,by simp only;omega,?_⟩
  ·rw[dI.2]
   exact eP
  ·exact Cr
 have h':=aj h;obtain rfl:i=k:=by omega
 have hPe:sj 20 i [] s1=(P,si):=by rw[hP,kF];rfl
 rw[hPe];have hn:=ij (dG:=16) hr.xA ⟨by decide,by decide⟩;refine aP (bi.at (i:=1) hs rfl (j9 (dG:=16) hr ⟨by decide,by decide⟩)) ?_;rintro _ m2⟨q2,⟨rfl,jK,_⟩,bZ⟩;have e0:({x with pl:=P}:gX)={x with pl:=P,dg:=[]}:=by rw[<-hd]
 generalize NQ:cZ 16 si=ns at*;obtain⟨n,s2⟩:=ns;simp only at hn jK;obtain⟨j,rfl⟩:∃k:Nat,n=(k:Int):=⟨n.toNat,by omega⟩;have hj:j<=16:=by omega
 refine .mk (ι:=Nat×Option Addr×Nat×List (List Nat)) (λi=>j-i.1) (λ⟨i,ad,cd,D⟩ mm=>i<=j/\∃q pd si,aq mm [pd,pp,q,blk1 bm (px {x with pl:=P,dg:=D} ⟨(a,c),(ad,cd),(none,0)⟩),m]/\I0 pd (.slice ad D.length cd) D/\Rd q bp si/\D.length=i/\so j [] s2=so (j-i) D si) (λ⟨i,ad,cd,D⟩=>[(0,.c (cx bp)),(1,.c (cx bm)),(21,.c (i64 j)),(22,.c (i64 i))]) (λ_=>[]) (0,none,0,[]) ⟨by omega,q2,iI,s2,by rw[e0]at bZ;exact bZ.cA,I0.nil _,jK,rfl,rfl⟩ ?_ ?_
 ·exact Cr
 rintro⟨k,ad,cd,D⟩ mm ⟨hk,q,pd,sk,hs,hpd,hr,hDl,hD⟩;apply bI<;>intro h
 ·have h':=ah h
  have bH:k<j:=by omega
  have EO:mm bm=some (px {x with pl:=P,dg:=D} ⟨(a,c),(ad,cd),(none,0)⟩):=hs.get (a:=blk1 bm _) (by simp) (aG ..)
  have hD':so (j-k) D sk=so (j-(k+1)) (D++[FB (gZ sk).1]) (gZ sk).2:=by
   rw[show j-k=(j-(k+1))+1 by omega];rfl
  have OU:=hr.xA;refine⟨_,aF EO (Hk (x:={x with pl:=P,dg:=D}) DT).2.1,rfl,?_⟩;refine aP (bi.at (i:=2) hs rfl (GM hr)) ?_;rintro _ m3⟨q3,⟨rfl,wo⟩,dy⟩;have ahW:m3 bm=some (px {x with pl:=P,dg:=D} ⟨(a,c),(ad,cd),(none,0)⟩):=dy.get (a:=blk1 bm _) (by simp) (aG ..);obtain⟨NW,hdb⟩:=GR OU;have hdn:=Uz hdb;generalize gZ sk=e at*;obtain⟨v,sk'⟩:=e;simp only at wo hD' NW hdb hdn;rw[<-hdn];have hvl:(FB v).length=32:=by rw[FB,aH];exact NW
  generalize FB v=v' at*;refine⟨HG (ahW.trans EO.symm),?_⟩;refine .mk _ (SA (d:=v') hvl) ?_;rintro _ _⟨b5,mo,rfl,rfl⟩;refine⟨yt ahW (aD.bT _ mo),?_⟩;refine .mk _ (acb dy mo hvl hpd (by omega)) ?_;rintro _ m4⟨y',pd',rfl,eP,apI⟩;obtain⟨ya,yc,rfl⟩:=apI.dl.shape;have au7:m4 bm=some (px {x with pl:=P,dg:=D} ⟨(a,c),(ad,cd),(none,0)⟩):=eP.get (a:=blk1 bm _) (by simp) (aG ..);have dI:=Nq (x:={x with pl:=P,dg:=D}) (y:={x with pl:=P,dg:=D++[v']}) (s:=⟨(a,c),(ad,cd),(none,0)⟩) (s':=⟨(a,c),(ya,yc),(none,0)⟩) (o:=38) (v:=.slice ya (D++[v']).length yc) DT rfl rfl;refine⟨_,_,_,au7,⟨dI.1,by simp⟩,?_⟩;have eD:=eP.gu (i:=3) rfl (aG ..) (Obj.cells ((LB.cz (gX.L {x with pl:=P,dg:=D} ⟨(a,c),(ad,cd),(none,0)⟩)).toArray.setIfInBounds 38 (.slice ya (D++[v']).length yc)) 38);rw[cJ,dI.2]at eD;refine⟨(k+1,ya,yc,D++[v']),⟨by omega,q3,pd',sk',?_,apI,wo,by simp[hDl],by rw[hD,hD']⟩,by simp only;omega,?_⟩
  ·rw[dI.2]
   exact eD
  ·exact Cr
 have h':=aj h;obtain rfl:k=j:=by omega
 have hDe:so k [] s2=(D,sk):=by rw[hD,kF];rfl
 exact⟨rfl,(P,si),(D,sk),q,pp,pd,(a,c),(ad,cd),rfl,by simp only[NQ,aA,hDe],hs.ir [1,0,2,3,4],hr,hpp,hpd⟩
namespace Tr
def acY(l:List Nat):List Nat:=ua.sum (0::l)
def lv(ls:List (List Nat)):Nat->List Nat
 |0=>List.replicate 672 0
 |i+1=>put (lv ls i) (5+i) (acY (ls.getD i []))
def inn(t:List Nat):Nat->List Nat
 |0=>t
 |j+1=>put (inn t j) (4-j) (ua.sum (below (inn t j) (4-j)))
def ofT(ls:List (List Nat)):List Nat:=inn (lv ls 16) 5
theorem FD(l:List Nat):(ua.sum l).length=32:=by simp[ua.sum,ua.mJ]
theorem Wn(l:List Nat):∀x∈ua.sum l,x<256:=by
 intro x hx;simp only[ua.sum,ua.mJ,aV]at hx;omega
theorem adk(t:List Nat)(j:Nat):inn t (j+1)=put (inn t j) (4-j) (ua.sum (below (inn t j) (4-j))):=rfl
theorem acR(ls:List (List Nat)):∀{i:Nat},i<=16->Ok (lv ls i)
 |0,_=>⟨by simp[lv],by simp[lv]⟩
 |i+1,h=>ab5 (acR ls (by omega)) (FD _) (Wn _) (by omega)
theorem UW{t:List Nat}(h:Ok t):∀(j:Nat),Ok (inn t j)
 |0=>h
 |j+1=>ab5 (UW h j) (FD _) (Wn _) (by omega)
theorem akC(ls:List (List Nat)):Ok (ofT ls):=UW (acR ls (aW _)) 5
end Tr
theorem akE(t d:List Nat)(p:Nat)(hd:d.length=32):(nc t).take (32*p)++(nc d++(nc t).drop (32*p+32))=nc (Tr.put t p d):=by
 simp only[nc,Tr.put,bD,jJ,List.map_drop,aX]
theorem ab6(t:List Nat){d:List Nat}{k:Nat}(hd:d.length=32):(nc t).take (bK (k:Int) 32)++(nc d++(nc t).drop (bK (k:Int) 32+32))=nc (Tr.put t k d):=by
 have:bK (k:Int) 32=32*k:=by simp[bK];omega
 rw[this];exact akE t d k hd
variable{m:aD}{v:Value}
theorem UI{l:List Nat}(hv:La m v (nc l))(hb:l.length<=8900000)(xt:∀x∈l,x<256):bi tP 360 [.v v] m λr m'=>r=[ajP (Tr.acY l)]/\cL m m':=by
 refine ub Tryz.func360 ?_;refine .mk _ (Bt) ?_;rintro _ _⟨b,hb,rfl,rfl⟩;refine .mk _ (aiq) ?_;rintro _ _⟨b2,oM,rfl,rfl⟩;have h1:=aD.bT (.cells (bc [0]).toArray 5) hb;have h2:=aD.bT (.cells #[.slice (some ⟨b,0,none⟩) 1 1,v] 100) oM;refine aP (Gk (l:=0::l) (jL.Yf (l:=nc [0]) (k:=nc l) (aD.bg ..) ((Lb.Je (l:=[0]) (aD.bg ..) rfl).la.sub h2) (hv.sub (h1.trans h2))) (by simp[oT]) (by simp;omega) (by simp) (by intro x hx;rcases aU.1 hx with rfl|hx;decide;exact xt x hx)) ?_;rintro _ m1⟨rfl,hs⟩;exact⟨rfl,(h1.trans h2).trans hs⟩
theorem Pm{vs:List Value}{ls:List (List Nat)}(UX:vs.length=16)(hls:ls.length=16)(ox:∀v∈vs,v.oneCell'=true)(hv:∀i (h1:i<vs.length) (h2:i<ls.length),La m vs[i] (nc ls[i]))(hb:∀l∈ls,l.length<=8900000/\∀x∈l,x<256):bi tP 315 [.a [.fq 16 vs]] m λr m'=>r=[Gf (Tr.ofT ls)]/\cL m m':=by
 refine ub Tryz.func315 ?_;refine .mk (ι:=Nat) (λi=>16-i) (λi mm=>i<=16/\cL m mm) (λi=>[(2,.p 1 0),(3,.p 2 0),(7,.c (.a [.fq 16 vs])),(8,.c (i64 i))]) (λi=>[(411,[.fq 16 vs]),(340,[.bG .u8 672 (List.replicate 672 0)]),(340,[.bG .u8 672 (nc (Tr.lv ls i))])]) 0 ⟨by omega,cL.refl _⟩ ?_ ?_
 ·conv=>whnf
  repeat (refine And.intro (by first|with_reducible rfl|(first|(simp[Tr.lv];done))|exact cI (wi)|exact wi|rfl) ?_;conv=>whnf)
  exact xT
 rintro i mm⟨hi,hs⟩;have ez:=Tr.acR ls hi;apply bI<;>intro h1
 ·have jc:=ah h1
  have bH:i<16:=by omega
  have hvi:=hv i (by omega) (by omega);have HP:=hb _ (aO (show i<ls.length by omega));have hlg:ls.getD i []=ls[i]:=by rw[aI,az (by omega)];rfl
  have hvg:vs.getD i undef=vs[i]:=by rw[aI,az (by omega)];rfl
  have e5:IntKind.i64.wrap (5+(i:Int))=((5+i:Nat):Int):=by rw[wi];omega
  repeat refine xS ?_
  simp only[bK,aA,hvg];refine aP (UI (hvi.sub hs) HP.1 HP.2) ?_;rintro _ m2⟨rfl,bZ⟩;conv=>whnf
  rw[e5]
  repeat refine xS ?_
  refine⟨i+1,⟨by omega,hs.trans bZ⟩,by omega,?_⟩;rw[show Tr.lv ls (i+1)=Tr.put (Tr.lv ls i) (5+i) (Tr.acY ls[i]) by rw[Tr.lv,hlg]];conv=>whnf
  repeat (refine And.intro (by first|with_reducible rfl|(first|exact cI (qJ (by omega))|exact ab6 _ (Tr.FD _))|exact cI (wi)|exact wi|rfl) ?_;conv=>whnf)
  exact xT
 ·have jc:=aj h1
  obtain rfl:i=16:=by omega
  have hof:Tr.ofT ls=Tr.inn (Tr.lv ls 16) 5:=rfl;rw[hof];generalize Tr.lv ls 16=t0 at ez⊢;refine .mk (ι:=Nat) (λj=>5-j) (λj mm=>j<=5/\cL m mm) (λj=>[(2,.p 1 0),(3,.p 2 0),(6,.c (i64 (4-(j:Int))))]) (λj=>[(411,[.fq 16 vs]),(340,[.bG .u8 672 (List.replicate 672 0)]),(340,[.bG .u8 672 (nc (Tr.inn t0 j))])]) 0 ⟨by omega,hs⟩ ?_ ?_
  ·exact Cr
  rintro j mm⟨hj,hs⟩;have adE:=Tr.UW ez j;apply bI<;>intro h2
  ·have iD:=ah h2
   have e4:(4-(j:Int))=((4-j:Nat):Int):=by omega
   conv=>whnf
   rw[e4];refine aP (VS adE.len (p:=4-j) (by omega)) ?_;rintro _ m1⟨v1,q1,rfl,bM,lZ⟩;refine .mk _ (CC) ?_;rintro _ _⟨b2,oM,rfl,rfl⟩;have bZ:=bM.new oM (.cells #[v1] 100);have Fc:=Tr.Mf adE.len (p:=4-j);refine aP (Gk (l:=Tr.below (Tr.inn t0 j) (4-j)) (jL.one (aD.bg ..) (lZ.lb.la.sub (bZ.sub))) ajS (by omega) (by simp) (Tr.aaq adE)) ?_;rintro _ m3⟨rfl,dy⟩
   repeat refine xS ?_
   refine⟨j+1,⟨by omega,hs.trans ((bZ.sub (a:=mm)).trans dy)⟩,by omega,?_⟩;rw[Tr.adk];generalize Tr.inn t0 j=t1;conv=>whnf
   repeat (refine And.intro (by first|with_reducible rfl|(first|exact cI (by rw[wi];omega)|exact ab6 _ (Tr.FD _))|exact cI (wi)|exact wi|rfl) ?_;conv=>whnf)
   exact xT
  ·have iD:=aj h2
   obtain rfl:j=5:=by omega
   exact⟨rfl,hs⟩
theorem vV{L:List Kd}:cX L=true↔(∀x∈L,x.1.size<=20/\dA x.2.1 x.2.2=true)/\s6 L/\L.length<=2000:=by
 constructor
 ·intro h
  refine⟨λx hx=>⟨lQ h x hx,PL h x hx⟩,?_,aaV h⟩;simp only[cX,aB,bL,dS]at h
  have aqE:∀i,i+1<L.length->eZ (QK L i).1 (QK L (i+1)).1=true:=λi hi=>by
   have:=h.1 (i+1) hi;simp only[Jx,aB,eM,bA]at this
   grind
  have key:∀d i,i+d+1<L.length->eZ (QK L i).1 (QK L (i+d+1)).1=true:=λd=>by
   induction d with
   |zero=>intro i hi;exact aqE i hi
   |succ d ih=>intro i hi;exact qh (ih i (by omega)) (aqE (i+d+1) hi)
  refine dz.2 λi j hi hj ZD=>?_;have:=key (j-i-1) i (by omega);rw[show i+(j-i-1)+1=j by omega]at this;rw[wk hi,wk hj];exact this
 ·rintro⟨h1,h2,h3⟩
  unfold cX;rw[bB h3,mj,bL];intro i hi;have hi:=dS.1 hi;have h4:=h1 _ (ahc hi);unfold Jx;rw[h4.2,bB h4.1,mj,bj,eM];by_cases h0:i=0
  ·grind
  ·refine .inr ?_
   have:=dz.1 h2 (i-1) i (by omega) hi (by omega);rw[wk hi,wk (by omega)]at this;exact this
theorem T0{L M:List Kd}(h:cX L=true)(hs:M.Sublist L):cX M=true:=by
 obtain⟨h1,h2,h3⟩:=vV.1 h;exact vV.2 ⟨λx hx=>h1 x (hs.subset hx),h2.sublist hs,bq hs.length_le h3⟩
theorem uf(L:List Kd)(part leaf:Int):(qb L part leaf).Sublist L:=by
 unfold qb;split
 ·simp_all
 grind
theorem J6(L:List Kd)(part leaf:Int):cX (qb L part leaf)=true:=by
 by_cases h:cX L=true
 ·exact T0 h (uf L part leaf)
 ·unfold qb
  rw[if_neg h];rfl
theorem WT{L M:List Kd}(hs:M.Sublist L):(M.map nJ).flatten.length<=(L.map nJ).flatten.length:=by
 induction hs with
 |slnil=>simp
 |cons _ _ ih=>simp only[aZ,dX,ax];omega
 |cons_cons _ _ ih=>simp only[aZ,dX,ax];omega
theorem HI(L:List Kd):jl (B3 L):=by
 unfold B3;refine(ju _).append λx hx=>?_;obtain⟨l,hl,hx⟩:=List.mem_flatten.1 hx;obtain⟨k,_,rfl⟩:=aV.1 hl;exact FL k x hx
structure Bz(m:aD)(v:Value)(L:List Kd):Prop where
 v:lu m v L
 (a:∀x∈L,jg x)
 (k:∀x∈L,x.1.size<=1000000)
 (l:L.length<=100000)
 (b:(L.map nJ).flatten.length<=8800000)
theorem Bz.sub{m':aD}{L:List Kd}(h:Bz m v L)(hs:cL m m'):Bz m' v L:=⟨h.v.sub hs,h.a,h.k,h.l,h.b⟩
def K9(L:List Kd)(part leaf:Int):List Kd:=if leaf<0\/16<=leaf then[]else qb L part leaf
def Gh(L:List Kd)(part:Int)(i:Nat):List Nat:=FB (B3 (qb L part i))
def Mz(L:List Kd)(part:Int):List (List Nat):=(List.range 16).map (Gh L part)
def lN(L:List Kd)(part:Int):List Nat:=Tr.ofT (Mz L part)
section
variable {m:aD}{v:Value}{L:List Kd}{part:Int}
theorem SF{leaf:Int}(hS:cK m)(h:Bz m v L):bi tP 318 [.v v,i64 part,i64 leaf] m λr m'=>∃v',r=[.v v']/\lu m' v' (K9 L part leaf)/\cL m m':=by
 have hl:=h.l;refine ub Tryz.func318 ?_;conv=>whnf
 unfold K9;apply bI<;>intro h1
 ·have jc:leaf<0:=by simpa using h1
  exact⟨_,rfl,by rw[aC (.inl jc)];exact lu.nil _,cL.refl _⟩
 have jc:¬leaf<0:=by simpa using h1
 apply bI<;>intro h2
 ·have iD:16<=leaf:=by simpa using h2
  exact⟨_,rfl,by rw[aC (.inr iD)];exact lu.nil _,cL.refl _⟩
 have iD:¬ 16<=leaf:=by simpa using h2
 obtain⟨n,rfl⟩:∃n:Nat,leaf=n:=⟨leaf.toNat,by omega⟩;refine aP (CD hS (part:=part) h.v h.a h.k (by omega)) ?_;rintro _ m1⟨vs,rfl,UX,hk,hs⟩;have hn:n<vs.length:=by omega
 refine⟨⟨by omega,by omega⟩,?_⟩;have et:bK ((n:Nat):Int) 1=n:=by simp[bK]
 have eg:vs.getD (bK ((n:Nat):Int) 1) undef=vs[n]:=by
  rw[et,aI,az hn];rfl
 refine⟨by simpa [bK]using by omega,?_⟩;conv=>whnf
 rw[eg];refine⟨_,rfl,by rw[if_neg (by omega)];exact hk n hn,hs⟩
theorem SC(hS:cK m)(h_:Bz m v L):bi tP 316 [.v v,i64 part] m λr m'=>∃vs,r=[.a [.fq 16 vs]]/\vs.length=16/\(∀i (h:i<vs.length),La m' vs[i] (nc (Gh L part i)))/\cL m m':=by
 have hl:=h_.l;refine ub Tryz.func316 ?_;refine aP (CD hS (part:=part) h_.v h_.a h_.k (by omega)) ?_;rintro _ m1⟨vs,rfl,UX,hk,hs⟩;refine .mk (ι:=Nat×List Value) (λi=>16-i.1) (λ⟨i,ws⟩ mm=>i<=16/\ws.length=16/\(∀v∈ws,v.oneCell'=true)/\(∀j (h:j<ws.length),j<i->La mm ws[j] (nc (Gh L part j)))/\cL m1 mm) (λ⟨i,ws⟩=>[(4,.p 0 0),(5,.p 1 0),(10,.c (.a [.fq 16 vs])),(11,.c (i64 i))]) (λ⟨i,ws⟩=>[(411,[.fq 16 (List.replicate 16 (.slice none 0 0))]),(411,[.fq 16 ws])]) (0,List.replicate 16 (.slice none 0 0)) ⟨by omega,rfl,λv hv=>by rw[rI hv];rfl,λj _ h=>by omega,cL.refl _⟩ ?_ ?_
 ·exact Cr
 rintro⟨i,ws⟩ mm ⟨hi,hws,h1,AG,bZ⟩;apply bI<;>intro h
 ·have h':=ah h
  have bH:i<16:=by omega
  have hn:i<vs.length:=by omega
  have et:bK ((i:Nat):Int) 1=i:=by simp[bK]
  have eg:vs.getD (bK ((i:Nat):Int) 1) undef=vs[i]:=by
   rw[et,aI,az hn];rfl
  refine⟨⟨by omega,by omega⟩,?_⟩;refine⟨by simpa [bK]using bH,?_⟩;conv=>whnf
  rw[eg];have iH:=uf L part i;refine aP (xC (hS.sub (hs.trans bZ)) ((hk i hn).sub bZ) (λx hx=>h_.a x (iH.subset hx)) (J6 L part i) (by have:=WT iH;have:=h_.b;omega)) ?_;rintro _ m3⟨v2,p2,rfl,dy,Ah⟩;have ahH:=(Ah.lb.sub (dy.sub (a:=p2))).la;rw[<-Uz (HI (qb L part i))]at ahH
  change La m3 v2 (nc (Gh L part i))at ahH
  refine⟨⟨by omega,by omega⟩,?_⟩;refine⟨by simpa [bK]using bH,?_⟩;conv=>whnf
  try rw[et]
  refine⟨(i+1,ws.set i v2),⟨by omega,by rw[fc];exact hws,λv hv=>?_,λj h1 h2=>?_,bZ.trans (dy.sub)⟩,by simp only;omega,?_⟩
  ·rcases fa hv with h|rfl
   ·exact h1 v h
   ·exact ahH.one
  ·simp only[qy]
   split
   ·rename_i hj
    subst hj;exact ahH
   ·exact(AG j (by simpa using h1) (by omega)).sub (dy.sub)
  ·exact Cr
 ·have h':=aj h
  obtain rfl:i=16:=by omega
  exact⟨ws,rfl,hws,λi h=>(AG i h (by omega)),hs.trans bZ⟩
theorem Ym{i:Nat}(h_:Bz m v L):(Gh L part i).length<=8900000/\∀x∈Gh L part i,x<256:=by
 have h1:=WT (uf L part i);have h2:=h_.b;have h3:=eI ((qb L part i).length:Int);refine⟨?_,λx hx=>?_⟩
 ·rw[Gh,FB,aH,B3,ax]
  omega
 ·obtain⟨y,hy,rfl⟩:=aV.1 hx
  have:=HI _ y hy;omega
theorem AQ(hS:cK m)(h_:Bz m v L):bi tP 237 [.v v,i64 part] m λr m'=>r=[Gf (lN L part)]/\cL m m':=by
 refine ub Tryz.func237 ?_;refine aP (SC (part:=part) hS h_) ?_;rintro _ m1⟨vs,rfl,UX,AG,hs⟩;refine aP (Pm (ls:=Mz L part) UX (by simp[Mz]) (λv hv=>by obtain⟨i,hi,rfl⟩:=dc hv;exact(AG i hi).one) (λi h1 h2=>by simp only[Mz,qz,List.getElem_range];exact AG i h1) (λl hl=>by obtain⟨i,_,rfl⟩:=aV.1 hl;exact Ym h_)) ?_;rintro _ m2⟨rfl,bZ⟩;exact⟨rfl,hs.trans bZ⟩
end
structure kl where
 id:Int
 (tg:Int)
 (jV:Int)
 (part:Int)
 (round:Int)
 (pl:List Int)
 (gD:Bk)
 (Oo:Int)
abbrev CN:=Option Addr×Nat
abbrev kl.L(x:kl)(s:CN):LB:=[.one (.int .i64 x.id),.one (.int .i64 x.tg),.one (.int .i64 x.jV),.one (.int .i64 x.part),.one (.int .i64 x.round),.one (.slice s.1 x.pl.length s.2),.one (.int .i64 x.gD.gM),.one (.int .i64 x.gD.cap),.one (.int .i64 x.gD.dG),.one (.int .i64 x.gD.gI),.one (.int .i64 x.Oo)]
abbrev uR(x:kl)(s:CN):CV:=.a (x.L s)
structure qZ(m:aD)(x:kl)(s:CN):Prop where
 pl:Ia m (.slice s.1 x.pl.length s.2) x.pl
 (n:x.pl.length<=100000)
theorem qZ.sub{m':aD}{x:kl}{s:CN}(h:qZ m x s)(hs:cL m m'):qZ m' x s:=⟨h.pl.sub hs,h.n⟩
def pW(round:Int)(l:List Int):Bool:=if round=0\/round=1 then decide (l.length=0)else iR l (round-1)
def gx(x:kl):Bool:=(rB x.tg 1 8&&(rB x.jV 1 8&&(x.tg !=x.jV)))&&(rB x.id 1 1099511627776&&(rB x.part 0 7&&(rB x.round 0 3&&(pW x.round x.pl&&(x.gD.ok&&rB x.Oo 0 2199023255552)))))
def ql(n:Int):Bool:=rB n 0 1099511627776
def vT(x:kl)(n:Int)(l:List Int)(bQ:Int):kl:={x with round:=n,pl:=l,gD:=x.gD.lR,Oo:=bQ+x.gD.lR.H6}
def Bp(x:kl):kl:={x with round:=0,pl:=[]}
def oW:kl:=⟨0,0,0,0,0,[],⟨0,0,0,0⟩,0⟩
def uD(id tg jV part:Int)(w:Bk)(bQ:Int):kl×Int:=if ql bQ&&gx ⟨id,tg,jV,part,1,[],w,0⟩then(vT ⟨id,tg,jV,part,1,[],w,0⟩ 1 [] bQ,0)else(oW,1)
def kX(x:kl)(bQ:Int):kl×Bool:=
 if gx x=false\/x.round=0\/ql bQ=false\/bQ<x.Oo then(x,false)
 else if x.gD.PA then(Bp x,false)
 else({x with gD:=x.gD.next,Oo:=bQ+x.gD.next.H6},true)
theorem aeA:∀(n:Nat) (b c:Int),0<=b->b<=dbl n b c
 |0,b,c,_=>C0 _
 |n+1,b,c,h=>by
  rw[dbl];split
  ·have:=aeA n (b*2) c (by omega)
   omega
  ·omega
theorem DV(w:Bk):0<=w.H6/\w.H6<=1048576:=by
 unfold Bk.H6;split
 ·rename_i h
  have:=Bk.lj.1 h;have:=aeA w.gI.toNat w.gM w.cap (by omega);omega
 ·omega
section
variable {m:aD}{x:kl}{s:CN}
theorem kQ{n x y:Int}:eN tP 235 [i64 n,i64 x,i64 y] m [bR (rB n x y)]:=by
 refine ub Tryz.func235 ?_;refine⟨λh=>?_,λh=>?_⟩<;>conv=>whnf
 all_goals exact⟨by rw[rB,h];rfl,rfl⟩
theorem Bc{n:Int}:eN tP 148 [i64 n] m [bR (ql n)]:=by
 refine ub Tryz.func148 ?_;refine bt (kQ) ?_;exact rR
theorem P0{v:Value}{l:List Int}{n:Int}(hv:Ia m v l)(hl:l.length<=1000000)(hn:0<=n/\n<=3):eN tP 236 [i64 n,.v v] m [bR (pW n l)]:=by
 obtain⟨a,c,rfl⟩:=hv.shape;have el:(((l.length:Nat):Int)==0)=decide (l.length=0):=by rw[qO];exact fF.2 (by omega)
 refine ub Tryz.func236 ?_;conv=>whnf
 unfold pW;apply bI<;>intro h
 ·have h':n=0:=by simpa using h
  rw[aC (.inl h')];exact⟨by rw[el],rfl⟩
 have h1:¬n=0:=by simpa using h
 apply bI<;>intro h
 ·have h':n=1:=by simpa using h
  rw[aC (.inr h')];exact⟨by rw[el],rfl⟩
 have h2:¬n=1:=by simpa using h
 rw[if_neg (by omega)];have en:IntKind.i64.wrap (n-1)=n-1:=wi;refine .mk (ι:=Nat) (λi=>l.length-i) (λi mm=>i<=l.length/\(∀k,k<i->BY l (n-1) k=true)/\mm=m) (λi=>[(0,.c (i64 n)),(1,.c (.v (.slice a l.length c))),(16,.c (.v (.slice a l.length c))),(17,.c (i64 l.length)),(18,.c (i64 i))]) (λ_=>[]) 0 ⟨by omega,by omega,rfl⟩ ?_ ?_
 ·exact Cr
 rintro i mm⟨hi,cM,he⟩;subst mm;apply bI<;>intro h
 ·have h':=ah h
  have bH:i<l.length:=by omega
  obtain⟨bl,ol,c',hh,hg⟩:=hv.real bH;injection hh with eK _ fN;subst eK;have wA:=hg i bH;rw[ly bH]at wA
  repeat refine xS ?_
  refine⟨_,wA,rfl,?_⟩;refine bt (u3) ?_;conv=>whnf
  have uK:BY l (n-1) i=false->iR l (n-1)=false:=λhb=>by rw[iR,Ay bH hb];rfl
  have Oe:BY l (n-1) i=true->∀k,k<i+1->BY l (n-1) k=true:=λhb k hk=>by
   rcases Nat.lt_or_ge k i with q|q
   ·exact cM k q
   ·rw[show k=i by omega];exact hb
  unfold BY at uK Oe;rw[en];have e1:(mV (l.getD i 0)!=(n-1))= !decide (mV (l.getD i 0)=n-1):=by rw[bne,qO]
  apply bI<;>intro h2
  ·rw[e1]at h2
   refine⟨by rw[uK (by simp at h2;simp[h2])],rfl⟩
  ·rw[e1]at h2
   have iD:decide (mV (l.getD i 0)=n-1)=true:=by cases hd:decide (mV (l.getD i 0)=n-1)<;>rw[hd]at h2<;>first|rfl|cases h2
   rw[iD,bj]at uK Oe;apply bI<;>intro h3
   ·have yF:=ah h3
    obtain⟨j,rfl⟩:∃j,i=j+1:=⟨i-1,by omega⟩;have Ag:=hg j (by omega);rw[ly (show j<l.length by omega)]at Ag;have ej:IntKind.i64.wrap (((j+1:Nat):Int)-1)=(j:Int):=by rw[wi];omega
    conv=>whnf
    rw[ej]
    repeat refine xS ?_
    refine⟨_,Ag,rfl,?_⟩;apply bI<;>intro h4
    ·have Ai:=ah h4
     refine⟨by rw[uK (by rw[show j+1-1=j from rfl,aY (show ¬l.getD j 0<l.getD (j+1) 0 by omega)];simp)],rfl⟩
    ·have Ai:=aj h4
     refine⟨j+1+1,⟨by omega,Oe (by rw[show j+1-1=j from rfl,bB (show l.getD j 0<l.getD (j+1) 0 by omega)];simp),rfl⟩,by omega,?_⟩;exact Cr
   ·have yF:=aj h3
    obtain rfl:i=0:=by omega
    refine⟨0+1,⟨by omega,Oe (by simp),rfl⟩,by omega,?_⟩;exact Cr
 ·have h':=aj h
  obtain rfl:i=l.length:=by omega
  refine⟨?_,rfl⟩;rw[iR,xZ cM];simp
theorem tJ(h_:qZ m x s):eN tP 147 [uR x s] m [bR (gx x)]:=by
 have hn:=h_.n;refine ub Tryz.func147 ?_;conv=>whnf
 unfold gx;refine bt (kQ) ?_;apply bI<;>intro h;rotate_left
 ·exact⟨by rw[h];rfl,rfl⟩
 rw[h,bj];refine bt (kQ) ?_;apply bI<;>intro h;rotate_left
 ·exact⟨by rw[h];rfl,rfl⟩
 rw[h,bj];apply bI<;>intro h;rotate_left
 ·exact⟨by rw[h];rfl,rfl⟩
 rw[h,bj];refine bt (kQ) ?_;apply bI<;>intro h;rotate_left
 ·exact⟨by rw[h];rfl,rfl⟩
 rw[h,bj];refine bt (kQ) ?_;apply bI<;>intro h;rotate_left
 ·exact⟨by rw[h];rfl,rfl⟩
 rw[h,bj];refine bt (kQ) ?_;apply bI<;>intro h;rotate_left
 ·exact⟨by rw[h];rfl,rfl⟩
 rw[h,bj];have hrd:0<=x.round/\x.round<=3:=by simpa [rB]using h
 refine bt (P0 h_.pl (by omega) hrd) ?_;apply bI<;>intro h;rotate_left
 ·exact⟨by rw[h];rfl,rfl⟩
 rw[h,bj];refine bt (nP) ?_;apply bI<;>intro h;rotate_left
 ·exact⟨by rw[h];rfl,rfl⟩
 rw[h,bj];refine bt (kQ) ?_;exact rR
theorem GH{n bQ:Int}{a:Option Addr}{l:List Int}{c:Nat}(hd:0<=bQ/\bQ<=1099511627776):eN tP 159 [uR x s,i64 n,.v (.slice a l.length c),i64 bQ] m [uR (vT x n l bQ) (a,c)]:=by
 refine ub Tryz.func159 ?_;refine bt (SE) ?_;refine bt (Me) ?_;conv=>whnf
 have hg:IntKind.i64.wrap (bQ+x.gD.lR.H6)=bQ+x.gD.lR.H6:=by
  have:=DV x.gD.lR;exact wi
 rw[hg];exact rR
theorem rE:eN tP 150 [uR x s] m [uR (Bp x) (none,0)]:=by
 refine ub Tryz.func150 ?_;exact rR
theorem VT{i a b p bQ:Int}{w:Bk}:eN tP 89 [i64 i,i64 a,i64 b,i64 p,.a w.L,i64 bQ] m [uR (uD i a b p w bQ).1 (none,0),i64 (uD i a b p w bQ).2]:=by
 refine ub Tryz.func89 ?_;refine bt (Bc) ?_;conv=>whnf
 unfold uD;by_cases h1:ql bQ=true;rotate_left
 ·have h1:ql bQ=false:=by simpa using h1
  rw[h1];refine xY ?_;exact rR
 rw[h1];refine xN ?_;refine bt (tJ (x:=⟨i,a,b,p,1,[],w,0⟩) (s:=(none,0)) ⟨(Io.nil _).il.ia,by simp⟩) ?_;by_cases h2:gx ⟨i,a,b,p,1,[],w,0⟩=true;rotate_left
 ·have h2:gx ⟨i,a,b,p,1,[],w,0⟩=false:=by simpa using h2
  rw[h2];refine xY ?_;exact rR
 rw[h2];refine xN ?_;refine bt (GH (x:=⟨i,a,b,p,1,[],w,0⟩) (s:=(none,0)) (n:=1) (l:=[]) (a:=none) (c:=0) (by simpa [ql,rB]using h1)) ?_;exact rR
theorem Yk{bQ:Int}(h_:qZ m x s):bi tP 82 [uR x s,i64 bQ] m λr m'=>∃s',r=[uR (kX x bQ).1 s',bR (kX x bQ).2]/\qZ m (kX x bQ).1 s'/\m'=m:=by
 have hT:kX x bQ=if gx x=false\/x.round=0\/ql bQ=false\/bQ<x.Oo then(x,false)else if x.gD.PA then(Bp x,false)else({x with gD:=x.gD.next,Oo:=bQ+x.gD.next.H6},true):=rfl
 generalize kX x bQ=y at*;refine ub Tryz.func82 ?_;refine bt (tJ h_) ?_;by_cases h1:gx x=true;rotate_left
 ·have h1:gx x=false:=by simpa using h1
  rw[aC (.inl h1)]at hT;rw[h1];refine xY ?_;exact⟨s,by rw[hT],by rw[hT];exact h_,rfl⟩
 rw[h1];refine xN ?_;apply bI<;>intro h
 ·have h2:x.round=0:=by simpa using h
  rw[aC (.inr (.inl h2))]at hT;exact⟨s,by rw[hT],by rw[hT];exact h_,rfl⟩
 have h2:¬x.round=0:=by simpa using h
 refine bt (Bc) ?_;by_cases h3:ql bQ=true;rotate_left
 ·have h3:ql bQ=false:=by simpa using h3
  rw[aC (.inr (.inr (.inl h3)))]at hT;rw[h3];refine xY ?_;exact⟨s,by rw[hT],by rw[hT];exact h_,rfl⟩
 rw[h3];refine xN ?_;apply bI<;>intro h
 ·have h4:bQ<x.Oo:=by simpa using h
  rw[aC (.inr (.inr (.inr h4)))]at hT;exact⟨s,by rw[hT],by rw[hT];exact h_,rfl⟩
 have h4:¬bQ<x.Oo:=by simpa using h
 rw[if_neg (by simp[h1,h2,h3,h4])]at hT;refine bt (SD) ?_;apply bI<;>intro h
 ·rw[aC h]at hT
  refine bt (rE) ?_;exact⟨(none,0),by rw[hT],by rw[hT];exact⟨(Io.nil _).il.ia,by simp[Bp]⟩,rfl⟩
 rw[if_neg (by simp[h])]at hT;refine bt (VQ) ?_;refine bt (Me) ?_;conv=>whnf
 have hn:0<=bQ/\bQ<=1099511627776:=by simpa [ql,rB]using h3
 have hg:=DV x.gD.next;rw[wi];exact⟨s,by rw[hT],by rw[hT];exact⟨h_.pl,h_.n⟩,rfl⟩
end
abbrev AM:=kl×CN
def ET(r:AM):List Value:=LB.cz (r.1.L r.2)
theorem l6:fp ET 11:=⟨λ_=>rfl,λx u hu=>by simp[ET,LB.cz,eB.cells]at hu;rcases hu with rfl|rfl|rfl|rfl|rfl|rfl|rfl|rfl|rfl|rfl|rfl<;>rfl,by decide⟩
def zSe:AM:=(oW,(none,0))
abbrev xj:Ty AM:={enc:=ET,s:=11,sl:=47,el:=63,by':=104,ts:=_,ti:=_,ok:=l6,h1:=rfl,h2:=rfl,h3:=rfl,h4:=rfl,h5:=rfl,h6:=rfl,h7:=by decide,h8:=by decide}
abbrev Seo:=Gw xj
abbrev Sea:=Ga xj
abbrev Sev(r:AM):CV:=uR r.1 r.2
theorem AE{E:List AM}{F b:Nat}{p:AM->Bool}(hv:Sea m v E)(hF:∀e∈E,eN tP F [Sev e,cx b] m [bR (p e)])(hl:E.length<=100000000):eN tP 156 [.v v,(l5 F b)] m [i64 (sH p E)]:=by
 obtain⟨a,c,rfl⟩:=hv.shape;refine ub Tryz.func156 ?_;refine .mk (ι:=Nat) (λi=>E.length-i) (λi mm=>i<=E.length/\(∀x∈E.take i,p x=false)/\mm=m) (λi=>[(0,.c (.v (.slice a E.length c))),(1,.c (l5 F b)),(7,.c (i64 E.length)),(8,.c (i64 i))]) (λ_=>[]) 0 ⟨by omega,by simp,rfl⟩ ?_ ?_
 ·exact Cr
 rintro i mm⟨hi,cM,he⟩;subst mm;apply bI<;>intro h
 ·have h':=ah h
  have bH:i<E.length:=by omega
  obtain⟨bl,ol,c',hh,hg⟩:=hv.real bH;injection hh with eK _ fN;subst eK;have hg:=hg i bH
  repeat refine xS ?_
  refine⟨[.one (.int .i64 E[i].1.id),.one (.int .i64 E[i].1.tg),.one (.int .i64 E[i].1.jV),.one (.int .i64 E[i].1.part),.one (.int .i64 E[i].1.round),.one (.slice E[i].2.1 E[i].1.pl.length E[i].2.2),.one (.int .i64 E[i].1.gD.gM),.one (.int .i64 E[i].1.gD.cap),.one (.int .i64 E[i].1.gD.dG),.one (.int .i64 E[i].1.gD.gI),.one (.int .i64 E[i].1.Oo)],⟨rfl,rfl,rfl,rfl,rfl,rfl,rfl,rfl,rfl,rfl,rfl,trivial⟩,rfl,by simp only[bK,aA];exact hg,?_⟩;refine bt ((hF E[i] (aO bH))) ?_;have dI:E.take (i+1)=E.take i++[E[i]]:=au bH;apply bI<;>intro h
  ·exact⟨by rw[tW bH cM h],rfl⟩
  ·refine⟨i+1,⟨by omega,λx hx=>?_,rfl⟩,by omega,?_⟩
   ·rw[dI]at hx
    rcases aR.1 hx with hx|hx
    ·exact cM x hx
    ·rw[aL.1 hx];exact h
   ·exact Cr
 ·have h':=aj h
  obtain rfl:i=E.length:=by omega
  rw[aJ]at cM;exact⟨by rw[nL cM],rfl⟩
theorem Ea{E:List AM}{F b:Nat}{p:AM->Bool}(hv:Sea m v E)(hF:∀e∈E,eN tP F [Sev e,cx b] m [bR (p e)])(hl:E.length<=100000000):eN tP 86 [.v v,(l5 F b)] m [bR (E.any p)]:=by
 obtain⟨a,c,rfl⟩:=hv.shape;refine ub Tryz.func86 ?_;refine bt (AE hv hF hl) ?_;exact⟨by rw[tV],rfl⟩
end Go.E.Y
namespace Go.E
open Go.Proofs
section
variable {P:Program}{T:lz}
theorem SK(hT:fW P T){t e tx:TypeId}{ti ei xi:TI}(ht:T t=some ti)(hk:ti.k= .slice e)(he:T e=some ei)(hx:T tx=some xi){x:Value}{news:List Value}{m:aD}{b o n c:Nat}{arr:Array Value}
  (hb:m b=some (.cells arr e (0,0))) (hg:s5 m ei.size xi.k x news) (EJ:n+fg x<=c) (g4:o+c*ei.size<=arr.size):
  bF P (.builtin .append [t,tx]) [.v (.slice (some ⟨b,o,none⟩) n c),.v x] m λr m'=>r=[.v (.slice (some ⟨b,o,none⟩) (n+fg x) c)]/\∃A,A.size=arr.size/\(∀i,i<o+n*ei.size->A[i]?=arr[i]?)/\(∀i u,news[i]?=some u->A[o+n*ei.size+i]?=some u)/\m'=m.set b (.cells A e (0,0)):=by
 intro _ ty W hW;obtain⟨j,hj,JP,hjb,z,hjz,hzc⟩:=(hT e ei he).WX;have W9:=(hT t ti ht).slice hk;have src:=hg.src hT hx hW;have len:∀w',(Builtin.lenOf x).run P w'= .ok (fg x) w':=src.len;have hW1:=hW _ _ hb;have Tc:=src.newsLen
 have hle:o+n*ei.size+news.length<=arr.size:=by
  have:n*ei.size+fg x*ei.size<=c*ei.size:=by rw[<-fM];exact cS _ EJ
  omega
 have dI:=kR (P:=P) b (o+n*ei.size) e (0,0) news 0 arr W hW1 (by simpa using hle) src.one (by intro j _ h;omega);simp only[gO]at dI;generalize hA:(arr.toList.take (o+n*ei.size)++(news++arr.toList.drop (o+n*ei.size+news.length))).toArray=A at dI;have hAs:A.size=arr.size:=by rw[<-hA];simp;omega
 have alY:∀i,i<o+n*ei.size->A[i]?=arr[i]?:=by
  intro i hi;rw[<-hA];simp only[bz];rw[aT (by simp;omega),bN,aC hi];simp
 have adZ:∀i u,news[i]?=some u->A[o+n*ei.size+i]?=some u:=by
  intro i u hu;have hi:=(aQ.1 hu).1;rw[<-hA];simp only[bz];have wz:(arr.toList.take (o+n*ei.size)).length=o+n*ei.size:=by simp;omega
  rw[bJ (by omega),wz,Nat.add_sub_cancel_left,aT hi];exact hu
 refine⟨[.v (.slice (some ⟨b,o,none⟩) (n+fg x) c)],m.set b (.cells A e (0,0)),W.setRow b A,?_,?_,⟨rfl,A,hAs,alY,adZ,rfl⟩,(cr.refl hW).setRow hb A⟩
 ·have hc:=src.cells
  rcases src.kind with⟨e',ve⟩|ve<;>
   simp[dF.run,dF.dE,dF.Fz,cond_false,CV.val,gm,Builtin.append_,run_underlying W9,run_underlying ve,sizeOf,typeInfo,hj,len,JP,EJ,hc,ii,dI]
 ·intro y hy;simp at hy;subst hy;rfl
end
end Go.E
namespace Go.E.Y
open Go.Proofs
variable{m:aD}{v:Value}
theorem CA{E:List AM}(hv:Sea m v E)(hl:E.length<=1000):bi tP 33 [.v v] m λr m'=>∃v' p,r=[.v v']/\aq m' [p,m]/\Seo p v' E:=by
 obtain⟨a,c,rfl⟩:=hv.shape
 cases a with
 |none=>
  have hE:=hv.none;subst hE;refine ub Tryz.func33 ?_;refine xY ?_;exact⟨_,iI,rfl,(aq.one m).cA,Gw.nil _⟩
 |some a=>
  refine ub Tryz.func33 ?_;refine xN ?_;refine .mk _ (ajT (t:=xj)) ?_;rintro _ _⟨b,hb,rfl,rfl⟩;refine .mk _ (amn (t:=xj) (i:=0) ((aq.one m).new hb _) rfl (Gw.blk0 (t:=xj) (aG ..)) (hv.sub (aD.bT _ hb)) (by simp;omega)) ?_;rintro _ m'⟨v',p,rfl,hs,pY⟩;exact⟨v',p,rfl,hs,pY⟩
variable{b c:Nat}{arr:Array Value}
theorem aii{o n:Nat}{te:TypeId}(hb:m b=some (.cells arr te))(hn:0<n)(jH:o+n*11<=arr.size):
  bF tP (.builtin .clear [47]) [.v (.slice (some ⟨b,o,none⟩) n c)] m λr m'=>r=[]/\∃zs,zs.length=n*11/\(∀u∈zs,u.oneCell'=true)/\m'=m.set b (.cells (arr.toList.take o++zs++arr.toList.drop (o+n*11)).toArray te):=by
 obtain⟨ti,h1,h2⟩:∃ti,tt.get 47=some ti/\ti.k= .slice 63:=⟨_,rfl,rfl⟩;obtain⟨ei,g1,g2,g3,g4⟩:∃ti,tt.get 63=some ti/\ti.size=11/\ti.bytes=104/\LB.cz ti.zero=ET zSe:=⟨_,rfl,rfl,rfl,rfl⟩;have:=qw (P:=tP) eR h1 h2 g1 (by rw[g4,g2];rfl) (by rw[g4];exact l6.one _) (c:=c) hb hn (by rw[g2];exact jH);rw[g2]at this;exact this
theorem akn{x:Value}{news:List AM}{o n:Nat}(hb:m b=some (.cells arr 63 (0,0)))(hg:Sea m x news)(EJ:n+news.length<=c)(g4:o+c*11<=arr.size):
  bF tP (.builtin .append [47,47]) [.v (.slice (some ⟨b,o,none⟩) n c),.v x] m λr m'=>r=[.v (.slice (some ⟨b,o,none⟩) (n+news.length) c)]/\∃A,A.size=arr.size/\(∀i,i<o+n*11->A[i]?=arr[i]?)/\(∀i u,(news.flatMap ET)[i]?=some u->A[o+n*11+i]?=some u)/\m'=m.set b (.cells A 63 (0,0)):=by
 have h:=SK (P:=tP) (n:=n) eR xj.h1 xj.h2 xj.h3 xj.h1 hb (by rw[xj.h2,xj.h4];exact hg.vh) (by rw[hg.fg];exact EJ) (by rw[xj.h4];exact g4);rw[hg.fg,xj.h4]at h;exact h
variable{mm:aD}{i:Nat}
theorem JX{p:aD}{E:List AM}(hs:aq mm [p,m])(hv:Seo p v E)(hi:i<E.length)(hl:E.length<=1000):
  bi tP 165 [.v v,i64 i,i64 ((i+1:Nat):Int)] mm λr m'=>∃v' p',r=[.v v']/\aq m' [p',m]/\Seo p' v' (E.take i++E.drop (i+1)):=by
 rcases hv with⟨rfl,hE⟩|⟨b,o,c,n,arr,rfl,h1,h2,h3,h4,h5,h6⟩
 ·have hE0:E.length=0:=l6.count (n:=0) (by rw[hE];rfl)
  omega
 have hn:E.length=n:=l6.count h2;subst hn;have hv:Seo p (.slice (some ⟨b,o,none⟩) E.length c) E:=.inr ⟨b,o,c,E.length,arr,rfl,h1,h2,h3,h4,h5,h6⟩;have h4:o+c*11<=arr.size:=h4;have yF:E.length*11<=c*11:=cS 11 h3;have jc:mm b=some (.cells arr 63):=hs.sub (a:=p) (by simp) _ _ h1;have ek:(i:Int).toNat=i:=by omega
 have ek1:((i+1:Nat):Int).toNat=i+1:=by omega
 refine A4 awE Tryz.func165 ?_
 repeat refine xS ?_
 intro o1 _ _;apply bI<;>intro h
 ·exfalso;simp at h;omega
 repeat refine xS ?_
 intro o2 q1 q2;obtain rfl:o2=o:=by have:=q1 (by omega);simpa [bK]using this
 repeat refine xS ?_
 intro o3 q1 q2;rw[ek1]at q1;have EL:gq mm 11 (.slice (some ⟨b,o3,none⟩) (E.length-(i+1)) (c-(i+1))) ((E.drop (i+1)).flatMap ET):=l6.post (hv.el.sub (hs.sub)) (by omega) (λhh=>by have:=q1 (by omega);simpa [bK]using this);have NW:(E.drop (i+1)).length=E.length-(i+1):=cC;rw[ek,ek1];refine .mk _ (akn (n:=i) (news:=E.drop (i+1)) jc (Gl.ea (t:=xj) EL) (by omega) h4) ?_;rintro _ m4⟨rfl,A,Tg,Rr,hA3,rfl⟩
 try refine⟨λ_ h=>(by cases h),?_⟩
 conv=>whnf
 rw[NW,show i+(E.length-(i+1))=E.length-1 by omega];have ekm:((E.length-1:Nat):Int).toNat=E.length-1:=by omega
 repeat refine xS ?_
 intro o5 q1 q2;rw[ekm]at q1;obtain rfl:o5=o2+(E.length-1)*11:=by have:=q1 (by omega);simpa [bK]using this
 conv=>whnf
 rw[ekm,show((E.length:Int)).toNat-(E.length-1)=1 by omega];refine .mk _ (aii (aD.bg ..) (by omega) (by rw[Tg];omega)) ?_;rintro _ m'⟨rfl,zs,QY,hz2,rfl⟩;conv=>whnf
 rw[aD.set_set];have qW:=hs.set h1 (.cells (A.toList.take (o2+(E.length-1)*11)++zs++A.toList.drop (o2+(E.length-1)*11+1*11)).toArray 63);refine⟨_,_,rfl,qW,?_⟩;have hlen:(E.take i++E.drop (i+1)).length=E.length-1:=by rw[ax,aK,NW];omega
 have hAl:A.toList.length=arr.size:=by rw[cq,Tg]
 have hle:o2+E.length*11<=arr.size:=by omega
 refine l6.mk' (aD.bg ..) hlen (by omega) ?_ λj u hu=>?_
 ·simp only[dM,ax,aK,cC,hAl,QY];omega
 ·have hj:=(aQ.1 hu).1
  rw[l6.wC,hlen]at hj;rw[bz,aX,aT (by rw[aK,hAl];omega),bN,aC (by omega),bU];rw[dx]at hu;have hfl:((E.take i).flatMap ET).length=i*11:=by rw[l6.wC,aK];omega
  by_cases JQ:j<i*11
  ·rw[aT (by omega)]at hu
   rw[Rr _ (by omega)];refine h5 j u ?_;rw[<-l6.take,bN,aC JQ]at hu;exact hu
  ·rw[bJ (by omega),hfl]at hu
   have:=hA3 _ _ hu;rw[show o2+i*11+(j-i*11)=o2+j by omega]at this;exact this
theorem WV{k:ByteArray}{c:Ct}:∀{L:List Kd}{j:Nat},j<=L.length->(∀x∈L.take j,eZ k x.1=false)->(∀(h:j<L.length),eZ k L[j].1=true)->sG k c L=L.take j++((k,c)::L.drop j)
 |[],j,hj,_,_=>by
  have:j=0:=by simpa using hj
  subst this;rfl
 |x::L,0,_,_,h=>by
  have this:eZ k x.1=true:=h (by simp);unfold sG;rw[aC this];rfl
 |x::L,j+1,hj,h1,h2=>by
  have hx:eZ k x.1=false:=h1 x (by simp);unfold sG;rw[if_neg (by rw[hx];decide),WV (L:=L) (j:=j) (by simpa using hj) (λy hy=>h1 y (by simp[hy])) (λh=>h2 (by simpa using h))];rfl
def BS(k:ByteArray)(u:List Int)(s:Option Addr×Nat×Nat)(r:Rk):Rk:=if r.1=k then(r.1,u,s)else r
def akp(k:ByteArray)(c:Ct)(x:Kd):Kd:=if x.1=k then(k,c)else x
variable{k:ByteArray}
theorem Pd{L:List Kd}{c:Ct}(h:(L.any λx=>decide (x.1=k))=true):iz L k c=L.map (akp k c):=by unfold iz;rw[aC h];rfl
theorem X1{L:List Kd}{c:Ct}(h:(L.any λx=>decide (x.1=k))=false):iz L k c=sG k c L:=by unfold iz;rw[if_neg (by rw[h];decide)]
variable{E:List En}{u:List Int}{s:Option Addr×Nat×Nat}
theorem dC.xm{R:List Rk}{L:List Kd}(h:dC m R L)(hu:u.length=8)(hE:Na m (.slice s.1 s.2.1 s.2.2) E):dC m (R.map (BS k u s)) (L.map (akp k (u,E))):=by
 refine⟨by rw[aH,aH,h.len],λi h1 h2=>?_⟩;rw[qz,qz];have hx:=h.je i (by simpa using h1) (by simpa using h2);unfold BS akp;by_cases hk:(R[i]'(by simpa using h1)).1=k
 ·rw[aC hk,aC (by rw[<-hx.k];exact hk)]
  exact⟨hk,rfl,hu,hE⟩
 ·rw[if_neg hk,if_neg (by rw[<-hx.k];exact hk)]
  exact hx
def tf{α:Type}(f:α->α)(R:List α)(i:Nat):List α:=(R.take i).map f++R.drop i
variable{α:Type}
theorem BG(f:α->α)(R:List α)(i:Nat):(tf f R i).length=R.length:=by simp[tf];omega
theorem Fy(f:α->α)(R:List α)(hi:i<R.length):(tf f R i)[i]'(by rw[BG];exact hi)=R[i]:=by
 unfold tf;rw[qC (by simp;omega)];simp[List.getElem_drop,gH (I2 hi)]
theorem ze(f:α->α)(R:List α)(hi:i<R.length):tf f R (i+1)=(tf f R i).set i (f R[i]):=by
 unfold tf;rw[au hi,List.set_append,if_neg (by simp;omega),bD];simp[gH (I2 hi)];rw[qD hi];rfl
theorem F9(f:α->α)(R:List α):tf f R R.length=R.map f:=by simp[tf]
theorem C7(f:α->α)(R:List α):tf f R 0=R:=by simp[tf]
theorem X9(f:α->α)(R:List α)(hi:i<R.length)(h:f R[i]=R[i]):tf f R (i+1)=tf f R i:=by
 rw[ze f R hi,h];have:=Fy f R hi
 conv=>lhs;rw[<-this]
 exact vG _
theorem FX(hu:u.length=8):bF tP (.buildSlice 36 1 [0]) [.a [.one (.string k),.bG .u64 8 u,.one (.slice s.1 s.2.1 s.2.2)]] m λr m'=>∃b,m b=none/\r=[.v (.slice (some ⟨b,0,none⟩) 1 1)]/\m'=m.set b (.cells (fj (k,u,s)).toArray 81):=by
 have:=OC (m:=m) (e:=(k,u,s));dsimp only[Kv]at this;rw[yn hu]at this;exact this
variable{a:Option Addr}
theorem x4{g:aD}{L:List Kd}(hs:aq mm [g,m])(hv:lu g v L)(hc:Na mm (.slice a E.length c) E)(hu:u.length=8)(hl:L.length<=100000)(hlE:E.length<=100000):
  bi tP 121 [.v v,.v (.string k),iY u a E.length c] mm λr m'=>∃v' p,r=[.v v']/\aq m' [p,m]/\lu p v' (iz L k (u,E))/\cL g p:=by
 obtain⟨R,hR,hK⟩:=hv;obtain⟨av,cv,rfl⟩:=hR.shape;have hlen:=hK.len;refine A4 awQ Tryz.func121 ?_;intro b hb;have LK:=hs.new hb (ur k);refine aP (l7 (hc.sub (aD.bT _ hb)) (by omega)) ?_;rintro _ m1⟨vc,pc,rfl,bM,hpc⟩;have bM:aq m1 [pc,blk1 b (ur k),g,m]:=aq.jN (a:=[pc]) bM LK;obtain⟨ac,cc,rfl⟩:=hpc.el.shape;refine aP (nO (hR.sub (bM.sub)) (by omega)) ?_;rintro _ m2⟨vk,pk,rfl,bZ,hpk⟩;have bZ:aq m2 [pk,pc,blk1 b (ur k),g,m]:=aq.jN (a:=[pk]) bZ bM;obtain⟨ak,ck,rfl⟩:=hpk.el.shape;refine .mk (ι:=Nat) (λi=>R.length-i) (λi mm=>i<=R.length/\∃p,aq mm [p,pc,blk1 b (ur k),g,m]/\Ko p (.slice ak R.length ck) (tf (BS k u (ac,E.length,cc)) R i)) (λi=>[(4,.c (cx b)),(5,.p 0 0),(7,.c (.v (.slice ak R.length ck))),(8,.c (bR ((R.take i).any λr=>decide (r.1=k)))),(18,.c (i64 R.length)),(19,.c (i64 i))]) (λ_=>[(79,[.bG .u64 8 u,.one (.slice ac E.length cc)])]) 0 ⟨by omega,pk,bZ,by rw[C7];exact hpk⟩ ?_ ?_
 ·exact Cr
 rintro i mm⟨hi,p,dy,hp⟩;apply bI<;>intro h
 ·have h':=ah h
  have bH:i<R.length:=by omega
  have hzl:=BG (BS k u (ac,E.length,cc)) R i;have hza:(tf (BS k u (ac,E.length,cc)) R i)[i]?=some R[i]:=by rw[az (by omega),Fy _ _ bH]
  have hzn:=ze (BS k u (ac,E.length,cc)) R bH;have hzs:=X9 (BS k u (ac,E.length,cc)) R bH;have dI:R.take (i+1)=R.take i++[R[i]]:=au bH;generalize tf (BS k u (ac,E.length,cc)) R i=Z at hp hzl hza hzn hzs;have DP:i<Z.length:=by omega
  rw[az DP,aM]at hza;obtain⟨bl,ol,c2,hh,hg⟩:=hp.el.ea.real DP;injection hh with eK _ fN;subst eK;have hg:=hg i DP;have adC:=λx hj hx=>dW.Wu (cs:=LB.cz [.bG .u64 8 u,.one (.slice ac E.length cc)]) (x:=x) hp DP (j:=1) hj hx;rw[hza]at hg adC;generalize R[i]=r at hg dI hzn hzs adC;have Ah:mm b=some (ur k):=dy.get (a:=blk1 b (ur k)) (by simp) (aG ..)
  repeat refine xS ?_
  refine⟨_,by simp only[bK,aA];exact(dQ.ajD (hg.sub (dy.sub)) rfl),rfl,?_⟩;refine xM Ah ?_;conv=>whnf
  rw[KG];apply bI<;>intro h
  ·have hk:=ah h
   have ak9:BS k u (ac,E.length,cc) r=(r.1,u,(ac,E.length,cc)):=by unfold BS;rw[aC hk]
   rw[ak9]at hzn;have ZH:∀y,(LB.cz [.bG .u64 8 u,.one y]).length=9:=λy=>by simp[LB.cz,eB.cells,hu]
   obtain⟨arr,ZM,ZL,ha3⟩:=adC (r.1,u,(ac,E.length,cc)) (by rw[ZH];omega) (by
    rw[ZH];simp only[fj,yn hu]
    simp[LB.cz,eB.cells,kG,n8])
   rw[ZH]at ZL ha3;rw[<-hzn]at ha3
   repeat refine xS ?_
   have hmb:mm bl=some (.cells arr 81):=dy.sub (a:=p) (by simp) _ _ ZM;refine⟨_,_,_,hmb,⟨?_,Jz⟩,?_⟩
   ·simp only[bK,aA]
    exact ZL
   simp only[bK,aA];have eP:=dy.set ZM (.cells (arr.toList.take (ol+i*10+1)++(LB.cz [.bG .u64 8 u,.one (.slice ac E.length cc)]++arr.toList.drop (ol+i*10+1+9))).toArray 81);refine⟨i+1,⟨by omega,_,eP,ha3⟩,by omega,?_⟩;conv=>whnf
   repeat (refine And.intro (by first|with_reducible rfl|(first|exact cI (qJ (by omega))|(rw[dI,List.any_append];simp[hk]))|exact cI (wi)|exact wi|rfl) ?_;conv=>whnf)
   exact xT
  ·have hk:=aj h
   have ak9:BS k u (ac,E.length,cc) r=r:=by unfold BS;rw[if_neg hk]
   refine⟨i+1,⟨by omega,p,dy,by rw[hzs ak9];exact hp⟩,by omega,?_⟩;conv=>whnf
   repeat (refine And.intro (by first|with_reducible rfl|(first|exact cI (qJ (by omega))|(rw[dI,List.any_append];simp[hk]))|exact cI (wi)|exact wi|rfl) ?_;conv=>whnf)
   exact xT
 ·have h':=aj h
  obtain rfl:i=R.length:=by omega
  rw[F9]at hp;rw[aJ];have H3:=hK.any λy=>decide (y=k);have hcE:∀{m'},cL pc m'->Na m' (.slice ac E.length cc) E:=λhx=>hpc.ea.sub hx;apply bI<;>intro h
  ·have hth:(L.any λx=>decide (x.1=k))=true:=by rw[<-H3];exact h
   conv=>whnf
   rw[Pd hth];have eD:aq mm ([p,pc,blk1 b (ur k),g]++[m]):=dy;obtain⟨gC,iU⟩:=aq.k9 _ eD;refine⟨_,_,rfl,gC,⟨_,hp.ea.sub (iU.sub),?_⟩,iU.sub⟩;exact(hK.sub (iU.sub)).xm hu (hpc.ea.sub (iU.sub))
  ·have hth:(L.any λx=>decide (x.1=k))=false:=by rw[<-H3];exact h
   rw[X1 hth]
   have aux:R.map (BS k u (ac,E.length,cc))=R:=by
    refine(eu λr hr=>?_).trans (lL R);have:(R.any λr=>decide (r.1=k))=false:=h;have:=oP.1 this r hr;unfold BS;rw[if_neg (by simpa using this)];rfl
   rw[aux]at hp;have mo:mm b=some (ur k):=dy.get (a:=blk1 b (ur k)) (by simp) (aG ..);refine .mk _ (df (cs:=[.pointer (some ⟨b,0,none⟩)]) (by simp[Value.oneCell'])) ?_;rintro _ _⟨rfl,rfl⟩;refine bt (wm (p:=λr=>eZ k r.1) (hp.ea.sub (dy.sub)) (λr _=>Tu mo) (by omega)) ?_
   have qX:∀j,j<=L.length->(∀r∈R.take j,eZ k r.1=false)->(∀h:j<R.length,eZ k R[j].1=true)->sG k (u,E) L=L.take j++((k,(u,E))::L.drop j):=λj hj h1 h2=>by
    refine WV hj (λx hx=>?_) λbH=>?_
    ·have e1:=(hK.take j).any λy=>eZ k y
     have e2:((R.take j).any λr=>eZ k r.1)=false:=oP.2 λr hr=>by rw[h1 r hr];decide
     rw[e2]at e1;simpa using oP.1 e1.symm x hx
    ·rw[<-(hK.je j (by omega) bH).k];exact h2 (by omega)
   have aef:∀(m2 p':aD) (v':Value) (j:Nat),aq m2 [p',gY [pc,blk1 b (ur k),g,m]]->Ko p' v' (yx R j (k,u,(ac,E.length,cc)))->j<=L.length->(∀r∈R.take j,eZ k r.1=false)->(∀h:j<R.length,eZ k R[j].1=true)->∃v'' p,[CV.v v']=[.v v'']/\aq m2 [p,m]/\lu p v'' (sG k (u,E) L)/\cL g p:=λm2 p' v' j h1 h2 h3 h4 h5=>by
    have zv:aq m2 ([p',pc,blk1 b (ur k),g]++[m]):=aq.jN (a:=[p']) h1 (dy.drop.all);obtain⟨nr,u7⟩:=aq.k9 _ zv;refine⟨_,_,rfl,nr,⟨_,h2.ea.sub (u7.sub),?_⟩,u7.sub⟩;rw[qX j h3 h4 h5];have hKx:=hK.sub (u7.sub (a:=g));have ox:pP _ (k,u,(ac,E.length,cc)) (k,(u,E)):=⟨rfl,rfl,hu,hpc.ea.sub (u7.sub (a:=pc))⟩;exact(hKx.take j).append ((dC.one ox).append (hKx.drop j))
   rcases lY (λr:Rk=>eZ k r.1) R with⟨e1,e2⟩|⟨i0,Ja,e1,e2,e3⟩
   ·rw[e1]
    refine xY ?_;refine xM mo ?_;refine .mk _ (FX (k:=k) (s:=(ac,E.length,cc)) hu) ?_;rintro _ _⟨b6,Xl,rfl,rfl⟩;have eD:=dy.new Xl (.cells (fj (k,u,(ac,E.length,cc))).toArray 81)
    have gC:aq _ ([pc,blk1 b (ur k),g,m]++[p,blk1 b6 (.cells (fj (k,u,(ac,E.length,cc))).toArray 81)]):=eD.fm (by
     refine(List.Perm.swap _ _ _).trans ?_
     exact dY (l₁:=[p,blk1 b6 _]) (l₂:=[pc,blk1 b (ur k),g,m]))
    have iU:=(aq.k9 _ gC).1
    have iU:aq _ [p,blk1 b6 (.cells (fj (k,u,(ac,E.length,cc))).toArray 81),gY [pc,blk1 b (ur k),g,m]]:=iU.fm (by
     refine(List.Perm.swap _ _ _).trans ?_
     exact List.Perm.cons _ (List.Perm.swap _ _ _))
    refine aP (B4 iU hp (k:=R.length) (by omega) (by omega)) ?_;rintro _ m8⟨v',p',rfl,k8,tZ⟩;exact aef _ _ _ _ k8 tZ (by omega) (by rw[aJ];exact e2) (λh=>absurd h (by omega))
   ·rw[e1]
    refine⟨λh=>absurd h (by(simp<;>omega)),λ_=>?_⟩;refine xM mo ?_;refine .mk _ (FX (k:=k) (s:=(ac,E.length,cc)) hu) ?_;rintro _ _⟨b6,Xl,rfl,rfl⟩;have eD:=dy.new Xl (.cells (fj (k,u,(ac,E.length,cc))).toArray 81)
    have gC:aq _ ([pc,blk1 b (ur k),g,m]++[p,blk1 b6 (.cells (fj (k,u,(ac,E.length,cc))).toArray 81)]):=eD.fm (by
     refine(List.Perm.swap _ _ _).trans ?_
     exact dY (l₁:=[p,blk1 b6 _]) (l₂:=[pc,blk1 b (ur k),g,m]))
    have iU:=(aq.k9 _ gC).1
    have iU:aq _ [p,blk1 b6 (.cells (fj (k,u,(ac,E.length,cc))).toArray 81),gY [pc,blk1 b (ur k),g,m]]:=iU.fm (by
     refine(List.Perm.swap _ _ _).trans ?_
     exact List.Perm.cons _ (List.Perm.swap _ _ _))
    refine aP (B4 iU hp (k:=i0) (by omega) (by omega)) ?_;rintro _ m8⟨v',p',rfl,k8,tZ⟩;exact aef _ _ _ _ k8 tZ (by omega) e3 (λ_=>e2)
theorem GS{g:aD}{L:List Kd}(hs:aq mm [g,m])(hv:lu g v L)(hc:Na mm (.slice a E.length c) E)(hu:u.length=8)(hl:L.length<=100000)(hlE:E.length<=100000):
  bi tP 121 [.v v,.v (.string k),iY u a E.length c] mm λr m'=>∃v' p,r=[.v v']/\aq m' [p,m]/\lu p v' (iz L k (u,E)):=
 (x4 hs hv hc hu hl hlE).mono λ_ _ ⟨v',p,h1,h2,h3,_⟩=>⟨v',p,h1,h2,h3⟩
theorem xb{mm m p0:aD}{b3 b4 b5:Nat}{v0:Value}{u w:List Int}{a a':Option Addr}{c c':Nat}{E0 E K:List En}{both:Bool}(LK:aq mm [p0,m])(hp0:No p0 v0 E0)(hu:u.length=8)(hw:w.length=8)(hl0:E0.length<=1000000)(hn:E.length<=1000000)(hnk:K.length<=1000000)(hIE:∀e∈E,CS e)
  (h3:m b3=some (mE u a E.length c)) (h4:m b4=some (mE w a' K.length c')) (h5:m b5=some (yW both)) (hE:Na m (.slice a E.length c) E) (hK:Na m (.slice a' K.length c') K):
  bi tP 183 [.v v0,aea 268 b3 b5 b4] mm λr m'=>∃v' p,r=[.v v']/\aq m' [p,m]/\No p v' (E0++jO E w K both):=by
 have hSl:(jO E w K both).length<=1000000:=bq (bC _ _) hn;obtain⟨av,cv,rfl⟩:=hp0.el.shape;refine A4 arh Tryz.func183 ?_;intro bo Xj;have bM:=LK.new Xj (.cells #[.slice av E0.length cv] 77);have bM:aq (mm.set bo (.cells #[.slice av E0.length cv] 77)) [p0,blk1 bo (.cells #[.slice av E0.length cv] 77),m]:=bM.fm (List.Perm.swap _ _ _)
 refine .mk 268 #[.pointer (some ⟨b3,0,none⟩),.pointer (some ⟨b5,0,none⟩),.pointer (some ⟨b4,0,none⟩)] rfl rfl rfl (ι:=Nat)
  (λk mm=>k<=(jO E w K both).length/\∃vo p,aq mm [p,blk1 bo (.cells #[vo] 77),m]/\No p vo (E0++(jO E w K both).take k)) 0 ⟨by omega,_,p0,bM,by simpa using hp0⟩
  (λk x j=>∃h:k<(jO E w K both).length,x=[Nv (jO E w K both)[k]]/\j=k+1) (λk x j ⟨_,h1,_⟩=>by subst h1;rfl) ?_
  (λmm=>∃vo p,aq mm [p,blk1 bo (.cells #[vo] 77),m]/\No p vo (E0++jO E w K both)) ?_ ?_
 ·rintro k _ _ mm⟨hk,vo,p,hs,hp⟩ ⟨bH,rfl,rfl⟩
  have dI:(jO E w K both).take (k+1)=(jO E w K both).take k++[(jO E w K both)[k]]:=au bH;generalize (jO E w K both)[k]=x at dI;intro b4 OV;refine⟨_,_,_,aD.bg ..,⟨aW 4,Jz⟩,?_⟩;rw[BM (by rfl)];have eP:=hs.new OV (.cells (qp x).toArray 134)
  change aq (mm.set b4 (.cells (LB.cz [.one (.int .i64 x.1),.one (.int .i64 x.2.1),.one (.int .u64 x.2.2.1),.one (.int .i64 x.2.2.2)]).toArray 134)) _ at eP
  generalize mm.set b4 (.cells (LB.cz [.one (.int .i64 x.1),.one (.int .i64 x.2.1),.one (.int .u64 x.2.2.1),.one (.int .i64 x.2.2.2)]).toArray 134)=m2 at eP⊢;have hr4:dQ m2 b4 0 (qp x):=⟨_,_,_,eP.get (a:=blk1 b4 (.cells (qp x).toArray 134)) (by simp) (aG ..),λj u hu=>by rw[cD,bz];exact hu⟩;refine⟨_,aF (eP.get (a:=blk1 bo (.cells #[vo] 77)) (by simp) (aG ..)) rfl,hp.ea.one,?_⟩;refine⟨[.one (.int .i64 x.1),.one (.int .i64 x.2.1),.one (.int .u64 x.2.2.1),.one (.int .i64 x.2.2.2)],⟨rfl,rfl,rfl,rfl,trivial⟩,rfl,hr4,?_⟩;refine .mk _ (FW (e:=x)) ?_;rintro _ _⟨b5,mo,rfl,rfl⟩;refine .mk _ (Wx (i:=1) eP rfl mo hp (by rw[ax,aK];omega)) ?_;rintro _ m6⟨vo',p',rfl,gC,tZ⟩;refine⟨_,_,_,gC.get (a:=blk1 bo (.cells #[vo] 77)) (by simp) (aG ..),⟨by simp,by simp⟩,?_⟩;have iU:=gC.gu (i:=2) rfl (aG ..) (.cells #[vo'] 77);rw[cJ]at iU;refine⟨by omega,vo',p',iU.drop,?_⟩;rw[dI,<-aX];exact tZ
 ·intro lb ob _ sI
  refine(Ys (I:=λk mm=>∃m1,(k<=(jO E w K both).length/\∃vo p,aq m1 [p,blk1 bo (.cells #[vo] 77),m]/\No p vo (E0++(jO E w K both).take k))/\m1 lb=none/\mm=m1.set lb ob) (l:=lb) (b3:=b3) (b4:=b4) (b5:=b5) (u:=u) (w:=w) (a:=a) (a':=a') (c:=c) (c':=c') (E:=E) (K:=K) (both:=both) hw hn hnk hIE ?_ hu ?_ ⟨_,⟨lF _,_,p0,bM,by simpa using hp0⟩,by assumption,rfl⟩).mono ?_
  ·rintro k mm⟨m1,⟨_,vo,p,hs,_⟩,hl,rfl⟩
   have iH:cL m (m1.set lb ob):=(hs.sub).trans (aD.bT _ hl);exact⟨iH _ _ h3,iH _ _ h4,iH _ _ h5,hE.sub iH,hK.sub iH⟩
  ·rintro k mm hk⟨m1,hi,hl,rfl⟩
   exact sI k _ _ m1 hi ⟨hk,rfl,rfl⟩ hl
  ·rintro r m'⟨rfl,m1,⟨_,vo,p,hs,hp⟩,hl,rfl⟩
   rw[aJ]at hp;exact⟨m1,⟨vo,p,hs,hp⟩,hl,rfl⟩
 ·rintro mm⟨vo,p,hs,hp⟩
  refine⟨vo,aF (hs.get (a:=blk1 bo (.cells #[vo] 77)) (by simp) (aG ..)) rfl,hp.ea.one,?_⟩;exact⟨vo,p,rfl,hs.dV 1,hp⟩
theorem J3{m:aD}{b3 b4 b5:Nat}{u w:List Int}{a a':Option Addr}{c c':Nat}{E K:List En}{both:Bool}(hu:u.length=8)(hw:w.length=8)(hn:E.length<=1000000)(hnk:K.length<=1000000)(hIE:∀e∈E,CS e)
  (h3:m b3=some (mE u a E.length c)) (h4:m b4=some (mE w a' K.length c')) (h5:m b5=some (yW both)) (hE:Na m (.slice a E.length c) E) (hK:Na m (.slice a' K.length c') K):
  bi tP 184 [aea 268 b3 b5 b4] m λr m'=>∃v' p,r=[.v v']/\aq m' [p,m]/\No p v' (jO E w K both):=by
 refine ub Tryz.func184 ?_;refine aP (xb (E0:=[]) (aq.one m).cA (No.nil _) hu hw (by simp) hn hnk hIE h3 h4 h5 hE hK) ?_;rintro _ m1⟨v',p,rfl,hs,hp⟩;exact⟨v',p,rfl,hs,hp⟩
theorem Cg{α:Type}{size:Nat}:∀(ls:List (List α)),(∀a∈ls,a.length=size)->∀(i:Nat) (a:List α),ls[i]?=some a->∀(j:Nat) (u:α),a[j]?=some u->ls.flatten[i*size+j]?=some u
 |[],_,i,a,hi,_,_,_=>by simp at hi
 |b::ls,h,0,a,hi,j,u,hu=>by
  simp at hi;subst hi
  simp only[dX,nw,cD];rw[aT (aQ.1 hu).1];exact hu
 |b::ls,h,i+1,a,hi,j,u,hu=>by
  have hb:=h b (by simp);have ih:=Cg ls (λa ha=>h a (by simp[ha])) i a (by simpa using hi) j u hu;simp only[dX];rw[bJ (by rw[hb,fM];omega),hb];rw[show(i+1)*size+j-size=i*size+j by rw[fM];omega];exact ih
abbrev TA(a:List Int):List Value:=a.map (Value.int .u64)
def ars(m:aD)(v:Value)(ls:List (List Int)):Prop:=gq m 8 v (ls.map TA).flatten/\fg v=ls.length/\∀a∈ls,V8 a
def uy(i:Nat)(ls:List (List Int)):List Int:=(ls.take i).foldl (List.zipWith max) (List.replicate 8 0)
theorem afY:V8 (List.replicate 8 0):=V8.of rfl rfl
theorem Rx:∀(ls:List (List Int)) (z:List Int),V8 z->(∀a∈ls,V8 a)->V8 (ls.foldl (List.zipWith max) z)
 |[],z,hz,_=>hz
 |a::ls,z,hz,h=>Rx ls _ (hz.zip (h a (by simp))) (λb hb=>h b (by simp[hb]))
variable{ls:List (List Int)}
theorem Zm(h:∀a∈ls,V8 a)(i:Nat):V8 (uy i ls):=Rx _ _ afY (λa ha=>h a (bX ha))
theorem QM{a:List Int}(h:ls[i]?=some a):uy (i+1) ls=List.zipWith max (uy i ls) a:=by
 unfold uy;have hi:=(aQ.1 h).1;have:ls[i]=a:=(aQ.1 h).2;rw[au hi,iT,this];rfl
theorem UO:uy ls.length ls=ls.foldl (List.zipWith max) (List.replicate 8 0):=by rw[uy,aJ]
theorem UN(hv:ars m v ls)(hn:ls.length<9223372036854775808):eN tP 186 [.v v] m [AP (ls.foldl (List.zipWith max) (List.replicate 8 0))]:=by
 obtain⟨hl,hlen,h8⟩:=hv;have qX:∀i,i=ls.length->uy i ls=ls.foldl (List.zipWith max) (List.replicate 8 0):=by rintro i rfl;exact UO
 rcases hl with⟨c,rfl,Bh⟩|⟨b,o,c,n,arr,t,fr,rfl,g1,g2,_,g3,g4⟩
 ·have h0:ls=[]:=td.1 hlen.symm
  subst h0;refine bW (c:=du) Tryz.func186 rfl ?_
  refine .mk (ι:=Unit) (λi=>0) (λi=>True) (λi=>[(2,.p 0 0),(3,.p 1 0),(8,.c (.v (.slice none 0 c))),(9,.c (i64 0)),(10,.c (i64 0))])
   (λi=>[(76,[.bG .u64 8 (List.replicate 8 0)]),(76,[.bG .u64 8 (List.replicate 8 0)])]) (λ_=>m) () trivial ?_ ?_
  ·exact Cr
  intro i hi;refine xN ?_;exact rR
 ·have OS:n=ls.length:=hlen
  subst OS;refine bW (c:=du) Tryz.func186 rfl ?_
  refine .mk (ι:=Nat) (λi=>ls.length-i) (λi=>i<=ls.length) (λi=>[(2,.p 0 0),(3,.p 1 0),(8,.c (.v (.slice (some ⟨b,o,none⟩) ls.length c))),(9,.c (i64 ls.length)),(10,.c (i64 i))])
   (λi=>[(76,[.bG .u64 8 (List.replicate 8 0)]),(76,[.bG .u64 8 (uy i ls)])]) (λ_=>m) 0 (by omega) ?_ ?_
  ·exact Cr
  intro i hi;apply bI<;>intro h
  ·have h':=ah h
   have HR:i<ls.length:=by omega
   have ha:ls[i]?=some ls[i]:=by simp[HR]
   have h8a:=h8 _ (aO HR);have h8j:=Zm h8 i;have hs:=QM ha;have LR:=h8j.1;have ZM:=h8a.1;generalize ls[i]=a at ha h8a hs ZM
   repeat refine xS ?_
   refine⟨[.bG .u64 8 a],⟨ZM,trivial⟩,rfl,?_,?_⟩
   ·refine⟨arr,t,fr,g1,λj u hu=>?_⟩
    have:=Cg (size:=8) (ls.map TA) (by simpa using λx hx=>(h8 x hx).1) i (TA a) (by simp[ha]) j u (by simpa [LB.cz,eB.cells]using hu);have:=g3 _ _ this;simp only[bK];rw[show o+(Int.toNat (i:Int))*8+j=o+(i*8+j) by simp;omega];exact this
   refine .mk (ι:=Nat) (λk=>8-k) (λk=>k<=8) (λk=>[(2,.p 0 0),(3,.p 1 0),(8,.c (.v (.slice (some ⟨b,o,none⟩) ls.length c))),(9,.c (i64 ls.length)),(10,.c (i64 i)),(14,.c (AP a)),(15,.c (i64 k))])
    (λk=>[(76,[.bG .u64 8 (List.replicate 8 0)]),(76,[.bG .u64 8 (Aq max k (uy i ls) a)])]) (λ_=>m) 0 (by omega) ?_ ?_
   ·conv=>whnf
    repeat (refine And.intro (by first|with_reducible rfl|(exact(Tj _ _ _).symm)|exact cI (wi)|exact wi|rfl) ?_;conv=>whnf)
    exact xT
   intro k hk;apply bI<;>intro h
   ·have h':=ah h
    repeat refine xS ?_
    refine⟨k+1,by omega,by omega,?_⟩;conv=>whnf
    repeat (refine And.intro (by first|with_reducible rfl|(exact Kf _ _ _ _ (by omega) (by omega))|exact cI (wi)|exact wi|rfl) ?_;conv=>whnf)
    exact xT
   ·have h':=aj h
    have:k=8:=by omega
    subst this;have e8:=Kg max 8 (uy i ls) a (by omega) (by omega);refine⟨i+1,by omega,by omega,?_⟩;conv=>whnf
    repeat (refine And.intro (by first|with_reducible rfl|(exact e8.trans hs.symm)|exact cI (wi)|exact wi|rfl) ?_;conv=>whnf)
    exact xT
  ·have h':=aj h
   have HR:i=ls.length:=by omega
   have e:=qX i HR;refine⟨?_,rfl⟩;rw[e]
theorem aor{v:List Int}(hu:V8 u)(hv:V8 v):ars (m.set b (.cells (fl [AP u,AP v]).toArray 76)) (.slice (some ⟨b,0,none⟩) 2 2) [u,v]:=by
 refine⟨.inr ⟨b,0,2,2,_,_,_,rfl,aD.bg ..,?_,aW _,?_,?_⟩,rfl,?_⟩
 ·simp[hu.1,hv.1]
 ·intro j x hx
  simpa [fl,CV.cs,LB.cz,eB.cells]using hx
 ·intro x hx
  simp at hx;rcases hx with⟨a,_,rfl⟩|⟨a,_,rfl⟩<;>rfl
 ·intro a ha
  simp at ha;rcases ha with rfl|rfl
  ·exact hu
  ·exact hv
theorem IM{v:List Int}(hu:V8 u)(hv:V8 v):bF tP (.buildSlice 365 2 [0,1]) [AP u,AP v] m λr m'=>∃b,m b=none/\r=[.v (.slice (some ⟨b,0,none⟩) 2 2)]/\m'=m.set b (.cells (fl [AP u,AP v]).toArray 76):=
 dm eR (t:=365) (e:=76) (by rfl) rfl (by rfl) rfl rfl (by simp[CV.cs,LB.cz,eB.cells,hu.1,hv.1]) (by simp) (by simp)
theorem yZ.v8(h:yZ u):V8 u:=⟨h.1,λi=>by
 have:=h.at i;unfold BC at this;unfold U
 omega⟩
variable{x y:Ct}
theorem Pl(h:dA x.1 x.2=false\/dA y.1 y.2=false):nh x y=((fx,[]),3):=by unfold nh;rw[aC h]
theorem TG(h1:dA x.1 x.2=true)(h2:dA y.1 y.2=true)(h:yS x.2 y.2=true):nh x y=((fx,[]),14):=by
 unfold nh;rw[if_neg (by rw[h1,h2];simp),aC h]
theorem Ye(h1:dA x.1 x.2=true)(h2:dA y.1 y.2=true)(h:yS x.2 y.2=false)(hf:400<(yv x.1 y.1 x.2 y.2).length):nh x y=((fx,[]),5):=by
 unfold nh;rw[if_neg (by rw[h1,h2];simp),if_neg (by rw[h];decide),aC hf]
theorem af1(h1:dA x.1 x.2=true)(h2:dA y.1 y.2=true)(h:yS x.2 y.2=false)(hf:¬ 400<(yv x.1 y.1 x.2 y.2).length):nh x y=((QL x.1 y.1,nY (yv x.1 y.1 x.2 y.2)),0):=by
 unfold nh;rw[if_neg (by rw[h1,h2];simp),if_neg (by rw[h];decide),if_neg hf]
theorem zg(l:List En):(nY l).length=l.length:=eW ..
theorem Pk(hS:cK m){w:List Int}{a':Option Addr}{c':Nat}{K:List En}(hu:yZ u)(hw:yZ w)(hv:Na m (.slice a E.length c) E)(hk:Na m (.slice a' K.length c') K)(hIE:∀e∈E,CS e)(hIK:∀e∈K,CS e)(hl:E.length<=1000)(DN:K.length<=1000):
  bi tP 113 [iY u a E.length c,iY w a' K.length c'] m λr m'=>∃x e a2 c2 p,x=(nh (u,E) (w,K)).1/\e=(nh (u,E) (w,K)).2/\r=[iY x.1 a2 x.2.length c2,i64 e]/\aq m' [p,m]/\Na p (.slice a2 x.2.length c2) x.2:=by
 have zero:∀e,nh (u,E) (w,K)=((fx,[]),e)->∃(x:Ct) (e':Int) (a2:Option Addr) (c2:Nat) (p:aD),x=(nh (u,E) (w,K)).1/\e'=(nh (u,E) (w,K)).2/\[iY fx none 0 0,i64 e]=[iY x.1 a2 x.2.length c2,i64 e']/\aq m [p,m]/\Na p (.slice a2 x.2.length c2) x.2:=λe h=>
  ⟨(fx,[]),e,none,0,iI,by rw[h],by rw[h],rfl,(aq.one m).cA,Na.nil _⟩
 refine A4 awT Tryz.func113 ?_;refine bt (pV (u:=u) hS hv hIE (by omega)) ?_;by_cases qn:dA u E=true;rotate_left
 ·have qn:dA u E=false:=by simpa using qn
  rw[qn];refine xY ?_;exact zero 3 (Pl (.inl qn))
 rw[qn];refine xN ?_;refine bt (pV (u:=w) hS hk hIK (by omega)) ?_;by_cases jK:dA w K=true;rotate_left
 ·have jK:dA w K=false:=by simpa using jK
  rw[jK];refine xY ?_;exact zero 3 (Pl (.inr jK))
 rw[jK];refine xN ?_;refine bt (VM (u:=u) hw.1 hv hk (by omega) (by omega)) ?_;by_cases hc:yS E K=true
 ·rw[hc]
  refine xY ?_;exact zero 14 (TG qn jK hc)
 have hc:yS E K=false:=by simpa using hc
 rw[hc];refine xN ?_;refine aP (Gq (m:=m) (u:=u) (w:=w) (a:=a) (a':=a') (n:=E.length) (n':=K.length) (c:=c) (c':=c') (both:=true)) ?_;rintro _ m1⟨b3,b4,b5,rfl,bM⟩
 try refine⟨λ_ h=>(by cases h),?_⟩
 have Zt:cL m m1:=bM.sub (by simp);have Ah:m1 b3=some (mE u a E.length c):=bM.get (a:=blk1 b3 (mE u a E.length c)) (by simp) (aG ..);have OV:m1 b4=some (mE w a' K.length c'):=bM.get (a:=blk1 b4 (mE w a' K.length c')) (by simp) (aG ..);have mo:m1 b5=some (yW true):=bM.get (a:=blk1 b5 (yW true)) (by simp) (aG ..);refine aP (J3 hu.1 hw.1 (by omega) (by omega) hIE Ah OV mo (hv.sub Zt) (hk.sub Zt)) ?_;rintro _ m2⟨v1,p1,rfl,bZ,F2⟩
 try refine⟨λ_ h=>(by cases h),?_⟩
 have aAm:cL m m2:=Zt.trans (bZ.sub);refine aP (Gq (m:=m2) (u:=w) (w:=u) (a:=a') (a':=a) (n:=K.length) (n':=E.length) (c:=c') (c':=c) (both:=false)) ?_;rintro _ m3⟨d3,d4,d5,rfl,dy⟩
 try refine⟨λ_ h=>(by cases h),?_⟩
 have eP:aq m3 [blk1 d5 (yW false),blk1 d4 (mE u a E.length c),blk1 d3 (mE w a' K.length c'),p1,m1]:=aq.under (a:=[blk1 d5 (yW false),blk1 d4 (mE u a E.length c),blk1 d3 (mE w a' K.length c')]) dy bZ;have eD:aq m3 [p1,blk1 d5 (yW false),blk1 d4 (mE u a E.length c),blk1 d3 (mE w a' K.length c'),m1]:=(eP.pick (i:=3) rfl);obtain⟨q,hq,gC,oF⟩:=aq.part eD;have hqm:cL m q:=Zt.trans (hq m1 (by simp));have hd3:q d3=some (mE w a' K.length c'):=hq (blk1 d3 (mE w a' K.length c')) (by simp) _ _ (aG ..);have hd4:q d4=some (mE u a E.length c):=hq (blk1 d4 (mE u a E.length c)) (by simp) _ _ (aG ..);have hd5:q d5=some (yW false):=hq (blk1 d5 (yW false)) (by simp) _ _ (aG ..);have wz:(jO E w K true).length<=1000:=bq (bC _ _) hl;have Td:(jO K u E false).length<=1000:=bq (bC _ _) DN;refine aP (xb gC F2 hw.1 hu.1 (by omega) (by omega) (by omega) hIK hd3 hd4 hd5 (hk.sub hqm) (hv.sub hqm)) ?_;rintro _ m4⟨v2,p2,rfl,iU,lE⟩
 try refine⟨λ_ h=>(by cases h),?_⟩
 have k8:=oF _ _ iU;have aAl:cL m m4:=Zt.trans (k8.sub)
 have hpm:aq m4 [p2,m]:=by
  have:=k8.pick (i:=4) rfl;exact(aq.Ci (((this.dV 2).dV 2).dV 2) Zt).fm (List.Perm.swap _ _ _)
 have EN:(yv u w E K).length<=2000:=by simp only[yv,ax];omega
 change No p2 v2 (yv u w E K)at lE
 obtain⟨a2,c2,rfl⟩:=lE.el.shape;have hfl:=Ye (x:=(u,E)) (y:=(w,K)) qn jK hc;have ez:=af1 (x:=(u,E)) (y:=(w,K)) qn jK hc;simp only at hfl ez;generalize yv u w E K=J at lE EN hfl ez⊢;apply bI<;>intro h
 ·have h':400<J.length:=by have:=ah h;omega
  have e:=hfl h';exact⟨(fx,[]),5,none,0,iI,by rw[e],by rw[e],rfl,hpm.drop.cA,Na.nil _⟩
 ·have h':¬ 400<J.length:=by have:=aj h;omega
  have e:=ez h';refine .mk _ (IM hu.v8 hw.v8) ?_;rintro _ _⟨b6,Xl,rfl,rfl⟩;refine bt (UN (aor hu.v8 hw.v8) (by simp)) ?_;have zv:=hpm.new Xl (.cells (fl [AP u,AP w]).toArray 76);have apq:cL m _:=zv.sub (a:=m);refine aP (yb (hS.sub apq) (lE.ea.sub (zv.sub (a:=p2))) (by omega)) ?_;rintro _ m5⟨v3,p3,rfl,nr,UZ⟩;obtain⟨a3,c3,rfl⟩:=UZ.el.shape;have u7:aq m5 [p3,m]:=(((aq.jN (a:=[p3]) nr zv).dV 1).dV 1);refine⟨(QL u w,nY J),0,a3,c3,p3,by rw[e],by rw[e],by simp[QL],u7,UZ.ea⟩
end Go.E.Y
namespace Go.Proofs
open Go.Shelf
def Tryz.QA:Go.Shelf.Ren:=⟨λ|106=>324|213=>365|265=>417|n=>n,λ|9=>9|3=>3|n=>n,λ|n=>n⟩
theorem Tryz.ag3:Go.Proofs.Lays.n106 Tryz.prog Tryz.QA:=by repeat' first|kernel_rfl|exact λ_=>rfl|decide|constructor
open Go.RowKit in
theorem Tryz.strings_Compare(a b:ByteArray)(w:World):
  Calls Tryz.prog 324 #[.string a,.string b] w λe w'=>e= .returned (.int .i64 (Lib.compareBytes a.data.toList b.data.toList))/\w'=w:=Any.strings_Compare Tryz.ag3 a b w
def Tryz.QB:Go.Shelf.Ren:=⟨λ|103=>325|210=>366|206=>328|n=>n,λ|9=>9|4=>4|24=>420|3=>3|n=>n,λ|n=>n⟩
theorem Tryz.ag5:Go.Proofs.Lays.n103 Tryz.prog Tryz.QB:=by repeat' first|kernel_rfl|exact λ_=>rfl|decide|constructor
open Go.RowKit in
theorem Tryz.strings_CutPrefix(s p:ByteArray)(w:World):
  Calls Tryz.prog 325 #[.string s,.string p] w λe w'=>e= .returned (.tuple #[.string ⟨(Lib.trimPrefix s.data.toList p.data.toList).toArray⟩,.bool (Lib.hasPrefix s.data.toList p.data.toList)])/\w'=w:=Any.strings_CutPrefix Tryz.ag5 s p w
def Tryz.NB:Go.Shelf.Ren:=⟨λ|171=>195|243=>286|246=>348|283=>387|284=>388|285=>389|286=>390|129=>280|317=>438|318=>439|319=>440|320=>441|337=>462|338=>463|n=>n,λ|3=>3|9=>9|2=>2|4=>4|171=>477|0=>0|53=>31|37=>100|5=>5|173=>479|212=>518|51=>119|20=>20|213=>519|46=>193|232=>32|233=>547|n=>n,λ|17=>1|18=>4|19=>5|n=>n⟩
theorem Tryz.ac1:Go.Proofs.LaysM.n171 Tryz.prog Tryz.NB:=by repeat' first|kernel_rfl|exact λ_=>rfl|decide|constructor
open Go.RowKit Go.Sort Go.Lib in
theorem Tryz.strconv_Itoa(n:Int)(h0: -9223372036854775808<=n)(h1:n<=9223372036854775807)(w:World)(atT:Lib.TabIs Tryz.prog w "internal/strconv.uint64pow10" .u64 Lib.pow10Tab):
  Calls Tryz.prog 195 #[.int .i64 n] w λe w'=>e= .returned (.string ⟨(Lib.itoa n).toArray⟩)/\∃k os,w'=grow (w.drewN k) os:=Any.strconv_Itoa Tryz.ac1 n h0 h1 w atT
def Tryz.NC:Go.Shelf.Ren:=⟨λ|172=>326|244=>367|245=>368|247=>418|279=>419|280=>420|281=>421|282=>422|287=>450|316=>451|171=>195|205=>452|321=>474|322=>475|243=>286|246=>348|283=>387|284=>388|285=>389|286=>390|129=>280|317=>438|318=>439|319=>440|320=>441|337=>462|338=>463|n=>n,λ|9=>9|3=>3|75=>386|76=>387|4=>4|5=>5|167=>498|37=>100|0=>0|85=>499|2=>2|168=>501|53=>31|175=>526|46=>193|210=>530|127=>446|145=>546|143=>544|21=>21|171=>477|173=>479|212=>518|51=>119|20=>20|213=>519|232=>32|233=>547|80=>389|n=>n,λ|15=>2|16=>3|17=>1|18=>4|19=>5|n=>n⟩
theorem Tryz.HD:Go.Proofs.LaysC.n172 Tryz.prog Tryz.NC:=by repeat' first|kernel_rfl|exact λ_=>rfl|decide|constructor
open Go.RowKit in
theorem Tryz.strconv_Atoi_ok(s:ByteArray)(auw:s.size<=9223372036854775806)(v:Int)(h:Lib.atoiAll s.data.toList= .ok v)(w:World):
  Calls Tryz.prog 326 #[.string s] w λe w'=>e= .returned (.tuple #[.int .i64 v,.nilIface])/\(w'=w\/∃t,w'=Lib.bytesWorld w 5 t):=Any.strconv_Atoi_ok Tryz.HD s auw v h w
open Go.RowKit in
theorem Tryz.strconv_Atoi_syntax_var(s:ByteArray)(alk:s.size<=281474976710656)(h:Lib.atoiAll s.data.toList=Lib.atoiAll [])(tp:TypeId)(p:Value)(w:World)(akZ:w.var? Tryz.prog "strconv.ErrSyntax" =some #[.iface tp p]):
  Calls Tryz.prog 326 #[.string s] w λe w'=>∃N,e= .returned (.tuple #[.int .i64 0,.iface 501 (.pointer (some ⟨N,0,none⟩))])/\w.heap.size<=N/\w'.heap[N]?=some (.cells #[.string ⟨#[65,116,111,105]⟩,.string s,.iface tp p] 530 (0,0))/\Below w.heap.size w w':=Any.strconv_Atoi_syntax_var Tryz.HD s alk h tp p w akZ
open Go.RowKit in
theorem Tryz.strconv_Atoi_range_var(s:ByteArray)(alk:s.size<=281474976710656)(h:Lib.atoiAll s.data.toList= .range)(tp:TypeId)(p:Value)(w:World)(akZ:w.var? Tryz.prog "strconv.ErrRange" =some #[.iface tp p]):
  Calls Tryz.prog 326 #[.string s] w λe w'=>∃N,e= .returned (.tuple #[.int .i64 (Lib.atoiSat s.data.toList),.iface 501 (.pointer (some ⟨N,0,none⟩))])/\w.heap.size<=N/\w'.heap[N]?=some (.cells #[.string ⟨#[65,116,111,105]⟩,.string s,.iface tp p] 530 (0,0))/\Below w.heap.size w w':=Any.strconv_Atoi_range_var Tryz.HD s alk h tp p w akZ
def Tryz.UJ:Go.Shelf.Ren:=⟨λ|99=>255|206=>328|n=>n,λ|9=>9|4=>4|3=>3|n=>n,λ|n=>n⟩
theorem Tryz.akS:Go.Proofs.Lays.n99 Tryz.prog Tryz.UJ:=by repeat' first|kernel_rfl|exact λ_=>rfl|decide|constructor
open Go.RowKit Go.Lib in
theorem Tryz.strings_HasPrefix(s p:ByteArray)(w:World):
  Calls Tryz.prog 255 #[.string s,.string p] w λe w'=>e= .returned (.bool (Lib.hasPrefix s.data.toList p.data.toList))/\w'=w:=Any.strings_HasPrefix Tryz.akS s p w
def Tryz.EC:Go.Shelf.Ren:=⟨λ|105=>196|212=>287|99=>255|165=>288|166=>289|170=>290|169=>291|263=>349|264=>350|206=>328|240=>351|241=>352|276=>391|277=>392|n=>n,λ|9=>9|3=>3|4=>4|20=>20|0=>0|46=>193|109=>380|5=>5|72=>384|76=>387|51=>119|146=>442|53=>31|148=>444|70=>382|37=>100|75=>386|127=>446|164=>481|80=>389|n=>n,λ|n=>n⟩
theorem Tryz.ag4:Go.Proofs.Lays.n105 Tryz.prog Tryz.EC:=by repeat' first|kernel_rfl|exact λ_=>rfl|decide|constructor
theorem Tryz.CP:Builder.Extra Tryz.prog Tryz.EC:=by repeat' first|kernel_rfl|exact λ_=>rfl|decide|constructor
open Go.RowKit Go.Lib in
theorem Tryz.strings_Repeat(s:ByteArray)(c:Nat)(w:World)(hc:c<=9223372036854775807)(hlen:s.size*c<=140737488355328):
  Calls Tryz.prog 196 #[.string s,.int .i64 c] w λe w'=>e= .returned (.string ⟨(Lib.repeatL s.data.toList c).toArray⟩)/\Below w.heap.size w w':=Any.strings_Repeat Tryz.ag4 Tryz.CP s c w hc hlen
end Go.Proofs
namespace Go.E.Y
open Go.Proofs Go.RowKit
variable{m:aD}{W:World}
theorem ui{W':World}(hW:mg m W)(h:Below W.heap.size W W')(hd:sZ m W->W.drawn<=W'.drawn):cr m W m W':=by
 refine⟨λb o hb=>?_,h.size,h.tape,h.os,h.output,λb hb hm=>⟨hm,h.block b hb⟩,hd⟩;rw[h.block b (hW.lt hb)];exact hW b o hb
theorem VY(hW:mg m W)(k:Nat)(os:Array Obj):cr m W m (Sort.grow (W.drewN k) os):=by
 have e:∀b,b<W.heap.size->(Sort.grow (W.drewN k) os).heap[b]?=W.heap[b]?:=λb hb=>by
  show(W.heap++os)[b]?=_
  grind
 refine⟨λb o hb=>?_,?_,rfl,rfl,rfl,λb hb hm=>⟨hm,e b hb⟩,λ_=>Nat.le_add_right _ _⟩
 ·rw[e b (hW.lt hb)];exact hW b o hb
 grind
theorem Bu{W':World}(hW:mg m W)(h:W'=W):cr m W m W':=by subst h;exact cr.refl hW
theorem rQ{f:FuncId}{fn:Func}(h1:Tryz.prog.funcs[f]?=some fn) (h2:(fn.name== "runtime.NumGoroutine")=false) (h3:fn.body.isSome=true):wP tP f:=λargs w=>by
 obtain⟨c,h3⟩:=mh.1 h3
 have OS:¬fn.name= "runtime.NumGoroutine" :=by simpa using h2
 simp[callFunc,h1,h3,OS]
structure jZ(m:aD):Prop where
 syn:∃tp p T fr,m 2=some (.cells #[.iface tp p] T fr)
 rng:∃tp p T fr,m 3=some (.cells #[.iface tp p] T fr)
 tab:∃T fr,m 1=some (.cells (Lib.pow10Tab.map λz=>Value.int .u64 z).toArray T fr)
theorem jZ.sub{m':aD}(h:jZ m)(hs:cL m m'):jZ m':=by
 obtain⟨⟨a,b,c,d,h1⟩,⟨a',b',c',d',h2⟩,⟨e,f,h3⟩⟩:=h;exact⟨⟨a,b,c,d,hs _ _ h1⟩,⟨a',b',c',d',hs _ _ h2⟩,⟨e,f,hs _ _ h3⟩⟩
theorem jZ.aj2(h:jZ m){p:Prop}:sZ m W->p:=λs=>by
 obtain⟨tp,q,T,fr,h1⟩:=h.syn;have h2:=s.1;rw[h1]at h2;cases h2
theorem aqV:Tryz.prog.globalNamed "strconv.ErrSyntax" =some 2:=by kernel_rfl
theorem aqW:Tryz.prog.globalNamed "strconv.ErrRange" =some 3:=by kernel_rfl
theorem aqU:Tryz.prog.globalNamed "internal/strconv.uint64pow10" =some 1:=by kernel_rfl
theorem abg(hW:mg m W){name:String}{g:Nat}{cs:Array Value}{T:TypeId}{fr:Nat×Nat}(hg:Tryz.prog.globalNamed name=some g)(h:m g=some (.cells cs T fr)):W.var? tP name=some cs:=by
 unfold World.var?;rw[hg];simp only[Option.bind_some,hW _ _ h]
theorem LI(hg:jZ m){n:Int}(h0: -9223372036854775808<=n)(h1:n<=9223372036854775807):eN tP 195 [.v (.int .i64 n)] m [.v (.string ⟨(Lib.itoa n).toArray⟩)]:=by
 obtain⟨T,fr,ht⟩:=hg.tab;refine⟨rQ Tryz.func195 (by kernel_rfl) (by kernel_rfl),λ_ W hW=>?_⟩;exact(Tryz.strconv_Itoa n h0 h1 W (abg hW aqU ht)).mono λe W' ⟨h2,k,os,h3⟩=>⟨[.v (.string ⟨(Lib.itoa n).toArray⟩)],m,h2,by intro x hx;simp at hx;subst hx;rfl,⟨rfl,rfl⟩,by subst h3;exact VY hW k os⟩
variable{s:ByteArray}
theorem Ep(hg:jZ m){c:Nat}(h:s.size*c<=1000000)(hc:c<=1000000):eN tP 196 [.v (.string s),.v (.int .i64 c)] m [.v (.string ⟨(Lib.repeatL s.data.toList c).toArray⟩)]:=by
 refine⟨rQ Tryz.func196 (by kernel_rfl) (by kernel_rfl),λ_ W hW=>?_⟩;exact(Tryz.strings_Repeat s c W (by omega) (by omega)).mono λe W' ⟨h2,h3⟩=>⟨[.v (.string ⟨(Lib.repeatL s.data.toList c).toArray⟩)],m,h2,by intro x hx;simp at hx;subst hx;rfl,⟨rfl,rfl⟩,ui hW h3 (hg.aj2)⟩
theorem ID{p:ByteArray}:eN tP 325 [.v (.string s),.v (.string p)] m [.v (.string ⟨(Lib.trimPrefix s.data.toList p.data.toList).toArray⟩),.v (.bool (Lib.hasPrefix s.data.toList p.data.toList))]:=by
 refine⟨rQ Tryz.func325 (by kernel_rfl) (by kernel_rfl),λ_ W hW=>?_⟩;exact(Tryz.strings_CutPrefix s p W).mono λe W' ⟨h2,h3⟩=>⟨[.v (.string ⟨(Lib.trimPrefix s.data.toList p.data.toList).toArray⟩),.v (.bool (Lib.hasPrefix s.data.toList p.data.toList))],m,h2,by intro x hx;simp at hx;rcases hx with rfl|rfl<;>rfl,⟨rfl,rfl⟩,Bu hW h3⟩
def S2(s:ByteArray)(r:List CV):Prop:=match Lib.atoiAll s.data.toList with
 | .ok v=>r=[.v (.int .i64 v),.v .nilIface]
 |_=>∃n te pe,r=[.v (.int .i64 n),.v (.iface te pe)]
theorem Ee(hg:jZ m)(hs:s.size<=1000000):bi tP 326 [.v (.string s)] m λr m'=>S2 s r/\m'=m:=by
 obtain⟨tp,p,T,fr,h1⟩:=hg.syn;obtain⟨tp',p',T',fr',h2⟩:=hg.rng;refine⟨rQ Tryz.func326 (by kernel_rfl) (by kernel_rfl),λ_ W hW=>?_⟩;unfold S2
 cases h:Lib.atoiAll s.data.toList with
 |ok v=>
  refine(Tryz.strconv_Atoi_ok s (by omega) v h W).mono λe W' ⟨e1,e2⟩=>⟨[.v (.int .i64 v),.v .nilIface],m,e1,by intro x hx;simp at hx;rcases hx with rfl|rfl<;>rfl,⟨rfl,rfl⟩,?_⟩;rcases e2 with rfl|⟨t,rfl⟩
  ·exact cr.refl hW
  ·exact ui hW (Lib.bytesWorld_below _ _ _) (λ_=>Nat.le_succ _)
 |range=>
  refine(Tryz.strconv_Atoi_range_var s (by omega) h tp' p' W (abg hW aqW h2)).mono λe W' ⟨N,e1,_,_,e2⟩=>⟨[.v (.int .i64 _),.v (.iface _ (.pointer (some ⟨N,0,none⟩)))],m,e1,by intro x hx;simp at hx;rcases hx with rfl|rfl<;>rfl,⟨⟨_,_,_,rfl⟩,rfl⟩,ui hW e2 hg.aj2⟩
 |_=>
  refine(Tryz.strconv_Atoi_syntax_var s (by omega) h tp p W (abg hW aqV h1)).mono λe W' ⟨N,e1,_,_,e2⟩=>⟨[.v (.int .i64 0),.v (.iface _ (.pointer (some ⟨N,0,none⟩)))],m,e1,by intro x hx;simp at hx;rcases hx with rfl|rfl<;>rfl,⟨⟨_,_,_,rfl⟩,rfl⟩,ui hW e2 hg.aj2⟩
end Go.E.Y
namespace Go.E.Sn
open Go.Lib
def dg(k:Nat):UInt8:=UInt8.ofNat (48+k%10)
def uc:Nat->Nat->List UInt8
 |0,_=>[]
 |k+1,n=>uc k (n/10)++[dg n]
def pre:List UInt8:=[115,110,97,112,45]
def nm(n:Nat):ByteArray:=⟨(pre++uc 6 n).toArray⟩
theorem zD:∀k n,(uc k n).length=k
 |0,_=>rfl
 |k+1,n=>by rw[uc,ax,zD k];rfl
theorem YI(c:Nat):repeatL [48] (c+1)=repeatL [48] c++[48]:=by
 induction c with
 |zero=>rfl
 |succ c ih=>
  rw[repeatL]
  conv=>rhs;rw[repeatL]
  rw[aX,<-ih]
theorem PQ(c:Nat):(repeatL [48] c).length=c:=by rw[repeatL_length];simp
theorem Sf:∀k,uc k 0=repeatL [48] k
 |0=>rfl
 |k+1=>by
  rw[uc,Nat.zero_div,Sf k,YI];rfl
theorem Xu:∀(k n:Nat),n<10^(k+1)->(decDigits n).length<=k+1/\repeatL [48] (k+1-(decDigits n).length)++decDigits n=uc (k+1) n
 |k,n,h=>by
  by_cases h10:n<10
  ·have e:decDigits n=[UInt8.ofNat (48+n)]:=by rw[decDigits,dif_pos h10]
   rw[e];refine⟨by simp,?_⟩;rw[uc,show n/10=0 by omega,Sf,dg,Nat.mod_eq_of_lt h10];rfl
  ·have e:decDigits n=decDigits (n/10)++[UInt8.ofNat (48+n%10)]:=by rw[decDigits,dif_neg h10]
   cases k with
   |zero=>simp at h;omega
   |succ k=>
    have hk:n/10<10^(k+1):=by rw[gN]at h;omega
    obtain⟨h1,h2⟩:=Xu k (n/10) hk;rw[e,ax];refine⟨by simp only[bd,cW];omega,?_⟩;rw[uc,<-h2,show k+1+1-((decDigits (n/10)).length+[UInt8.ofNat (48+n%10)].length)=k+1-(decDigits (n/10)).length by simp only[bd,cW];omega,aX];rfl
theorem QO{n:Nat}(h:n<1000000):(itoa (n:Int)).length<=6/\repeatL [48] (6-(itoa (n:Int)).length)++itoa (n:Int)=uc 6 n:=by
 have e:itoa (n:Int)=decDigits n:=by rw[itoa,if_neg (by omega)];rfl
 rw[e];exact Xu 5 n h
theorem yO(k:Nat):(dg k).toNat=48+k%10:=by
 rw[dg,UInt8.toNat_ofNat'];omega
theorem G7:∀(l:List UInt8) (Jf:Nat) (c:UInt8) (u:Nat),parseUint10 Jf l= .ok u->u<100000000000->48<=c.toNat/\c.toNat<=57->parseUint10 Jf (l++[c])= .ok (u*10+(c.toNat-48))
 |[],Jf,c,u,h,hu,hc=>by
  simp only[parseUint10]at h;injection h with h;subst h;rw[bV,parseUint10,aC hc,if_neg (by omega),if_neg (by omega),parseUint10]
 |x::l,Jf,c,u,h,hu,hc=>by
  rw[db,parseUint10];rw[parseUint10]at h
  split at h
  ·rename_i h1
   rw[aC h1]
   split at h
   ·cases h
   ·rename_i h2
    rw[if_neg h2]
    split at h
    ·cases h
    ·rename_i h3
     rw[if_neg h3];exact G7 l _ c u h hu hc
  ·cases h
theorem K8:∀(k n:Nat),k<=10->parseUint10 0 (uc k n)= .ok (n%10^k)
 |0,n,_=>by rw[uc,parseUint10,Nat.pow_zero,Nat.mod_one]
 |k+1,n,hk=>by
  have ih:=K8 k (n/10) (by omega);have hp:10^k<=10^10:=pQ (by decide) (by omega);have bH:n/10%10^k<10^k:=fo _ (Nat.pow_pos (by decide));have hd:=yO n;have h:=G7 _ 0 (dg n) _ ih (by omega) (by omega);rw[uc,h]
  congr 1
  rw[hd,show 10^(k+1)=10*10^k by rw[gN];omega,Nat.mod_mul];omega
theorem ae4{n:Nat}(h:n<1000000):atoiAll (uc 6 n)= .ok (n:Int):=by
 have hp:=K8 6 n (by omega);rw[Nat.mod_eq_of_lt (by omega)]at hp
 obtain⟨c,r,e,hc⟩:∃c r,uc 6 n=c::r/\(48<=c.toNat/\c.toNat<=57):=by
  refine⟨dg (n/10/10/10/10/10),[dg (n/10/10/10/10),dg (n/10/10/10),dg (n/10/10),dg (n/10),dg n],rfl,?_⟩;rw[yO];omega
 rw[e]at hp⊢
 have e2:parseMag (if c.toNat=43\/c.toNat=45 then r else c::r)= .ok n:=by
  rw[if_neg (by omega),parseMag,if_neg (by simp),hp]
 rw[atoiAll];simp only[e2];rw[if_neg (by omega),if_neg (by omega),if_neg (by omega)]
theorem Ou:∀{k a b:Nat},a<10^k->b<10^k->uc k a=uc k b->a=b
 |0,a,b,ha,hb,_=>by simp at ha hb;omega
 |k+1,a,b,ha,hb,h=>by
  rw[uc,uc]at h;obtain⟨h1,h2⟩:=List.append_inj h (by rw[zD,zD]);have h3:=Ou (k:=k) (by rw[gN]at ha;omega) (by rw[gN]at hb;omega) h1;have h4:dg a=dg b:=by simpa using h2
  have h5:=be UInt8.toNat h4;rw[yO,yO]at h5;omega
theorem Ix:∀(k n:Nat),uc (k+1) n=dg (n/10^k)::uc k n
 |0,n=>by simp[uc]
 |k+1,n=>by
  have ih:=Ix k (n/10);rw[uc,ih]
  conv=>rhs;rw[uc]
  rw[uF,show 10*10^k=10^(k+1) by rw[gN];omega];rfl
end Go.E.Sn
namespace Go.E.Y
open Go.Proofs
theorem wg(a b:List UInt8):(⟨a.toArray⟩:ByteArray)++⟨b.toArray⟩=⟨(a++b).toArray⟩:=by
 have h:((⟨a.toArray⟩:ByteArray)++⟨b.toArray⟩).data=(⟨(a++b).toArray⟩:ByteArray).data:=by
  simp_all
 exact ByteArray.ext h
theorem lX(a:List UInt8):(⟨a.toArray⟩:ByteArray).size=a.length:=by
 show a.toArray.size=_
 simp
def wZ(n:Int):Bool:=decide (1<=n)&&decide (n<=999999)
variable{m:aD}
theorem uz{n:Int}:eN tP 171 [i64 n] m [bR (wZ n)]:=by
 unfold wZ;refine ub Tryz.func171 ?_;conv=>whnf
 repeat' (first|(refine⟨λh=>?_,λh=>?_⟩<;>conv=>whnf)|fail)
 ·rw[ah (p:=1<=n) (by assumption) |> λh=>(bB h:decide (1<=n)=true),bj]
  exact rR
 ·rw[h,fH]
  exact rR
theorem acJ{n:Int}(h:wZ n=false):eN tP 189 [i64 n] m [.v (.string ByteArray.empty),i64 1]:=by
 refine ub Tryz.func189 ?_;refine bt (uz) ?_;conv=>whnf
 rw[h];refine xY ?_;exact rR
variable{n:Nat}
theorem FH(hg:jZ m)(h1:1<=n)(h2:n<=999999):eN tP 189 [i64 n] m [.v (.string (Sn.nm n)),i64 0]:=by
 have hi:wZ (n:Int)=true:=by simp[wZ];omega
 obtain⟨p1,p2⟩:=Sn.QO (n:=n) (by omega);refine ub Tryz.func189 ?_;refine bt (uz) ?_;conv=>whnf
 rw[hi];refine xN ?_;refine bt (LI hg (by omega) (by omega)) ?_;conv=>whnf
 have es:((⟨(Lib.itoa (n:Int)).toArray⟩:ByteArray).size:Int)=((Lib.itoa (n:Int)).length:Int):=rfl;have ew:IntKind.i64.wrap (6-((⟨(Lib.itoa (n:Int)).toArray⟩:ByteArray).size:Int))=((6-(Lib.itoa (n:Int)).length:Nat):Int):=by rw[es,wi];omega
 rw[ew];refine bt (Ep hg (s:=⟨#[48]⟩) (c:=6-(Lib.itoa (n:Int)).length) (by rw[show(⟨#[48]⟩:ByteArray).size=1 from rfl];omega) (by omega)) ?_;have er:Lib.repeatL (⟨#[48]⟩:ByteArray).data.toList (6-(Lib.itoa (n:Int)).length)=Lib.repeatL [48] (6-(Lib.itoa (n:Int)).length):=rfl;have hz:=Sn.PQ (6-(Lib.itoa (n:Int)).length);rw[er];generalize Lib.repeatL [48] (6-(Lib.itoa (n:Int)).length)=Z at p2 hz;generalize Lib.itoa (n:Int)=D at p1 p2 hz;refine⟨by rw[lX Z,show(⟨#[115,110,97,112,45]⟩:ByteArray).size=5 from rfl];omega,?_⟩;have e1:(⟨#[115,110,97,112,45]⟩:ByteArray)=⟨Sn.pre.toArray⟩:=rfl;rw[e1,wg];refine⟨by rw[lX,lX,ax,show Sn.pre.length=5 from rfl];omega,?_⟩;refine⟨?_,rfl⟩;rw[wg,Sn.nm,<-p2,aX]
def sA(s:ByteArray):Option Nat:=open Classical in if h:∃n:Nat,1<=n/\n<=999999/\Sn.nm n=s then some (Classical.choose h)else none
theorem yi{a b:Nat}(ha:a<=999999)(hb:b<=999999)(h:Sn.nm a=Sn.nm b):a=b:=by
 have h1:Sn.pre++Sn.uc 6 a=Sn.pre++Sn.uc 6 b:=by
  have:=be (λs:ByteArray=>s.data.toList) h;simpa [Sn.nm]using this
 exact Sn.Ou (k:=6) (by omega) (by omega) (List.append_cancel_left h1)
theorem Qg(h1:1<=n)(h2:n<=999999):sA (Sn.nm n)=some n:=by
 have h:∃k:Nat,1<=k/\k<=999999/\Sn.nm k=Sn.nm n:=⟨n,h1,h2,rfl⟩;unfold sA;rw[dif_pos h];obtain⟨_,g2,g3⟩:=Classical.choose_spec h;rw[yi g2 h2 g3]
variable{s:ByteArray}
theorem pm(h:sA s=some n):1<=n/\n<=999999/\Sn.nm n=s:=by
 unfold sA at h
 split at h
 ·grind
 ·cases h
theorem sz(h:∀n:Nat,1<=n->n<=999999->Sn.nm n≠s):sA s=none:=by
 cases e:sA s with
 |none=>rfl
 |some n=>
  obtain⟨h1,h2,h3⟩:=pm e;exact absurd h3 (h n h1 h2)
abbrev Us(s:ByteArray):List CV:=[i64 ((sA s).getD 0:Nat),bR (sA s).isSome]
theorem abo(a b:List UInt8):(Lib.trimPrefix a b).length<=a.length:=by
 unfold Lib.trimPrefix
 grind
theorem Qf(hg:jZ m)(hs:s.size<=1000000):eN tP 246 [.v (.string s)] m (Us s):=by
 have key:∀n:Nat,1<=n->n<=999999->Sn.nm n=s->Lib.hasPrefix s.data.toList Sn.pre=true/\Lib.atoiAll (Lib.trimPrefix s.data.toList Sn.pre)= .ok (n:Int):=λn h1 h2 h3=>by
  have e:s.data.toList=Sn.pre++Sn.uc 6 n:=by rw[<-h3];simp[Sn.nm]
  have hp:Lib.hasPrefix s.data.toList Sn.pre=true:=by rw[e];simp[Lib.hasPrefix]
  refine⟨hp,?_⟩;rw[Lib.trimPrefix,aC hp,e,List.drop_left];exact Sn.ae4 (by omega)
 refine ub Tryz.func246 ?_;refine bt (ID) ?_;have ep:(⟨#[115,110,97,112,45]⟩:ByteArray).data.toList=Sn.pre:=rfl;rw[ep];have hl:(Lib.trimPrefix s.data.toList Sn.pre).length<=1000000:=bq (abo _ _) (by simpa using hs);have hT:(⟨(Lib.trimPrefix s.data.toList Sn.pre).toArray⟩:ByteArray).data.toList=Lib.trimPrefix s.data.toList Sn.pre:=by simp
 have no:Lib.hasPrefix s.data.toList Sn.pre=false->sA s=none:=λh=>sz λn h1 h2 h3=>by have:=(key n h1 h2 h3).1;rw[h]at this;cases this
 cases ha:Lib.atoiAll (Lib.trimPrefix s.data.toList Sn.pre)with
 |ok v=>
  have hv:=Lib.atoiAll_bounds ha;refine aP (Ee hg (s:=⟨(Lib.trimPrefix s.data.toList Sn.pre).toArray⟩) (by rw[lX];exact hl)) ?_;rintro _ m'⟨hr,rfl⟩;conv=>whnf
  unfold S2 at hr;rw[hT,ha]at hr;subst hr;apply bI<;>intro h1
  ·conv=>whnf
   rw[Us,no (by simpa using h1)];exact rR
  refine xN ?_
  have same:∀n:Nat,1<=n->n<=999999->Sn.nm n=s->v=n:=λn h1 h2 h3=>by
   have:=(key n h1 h2 h3).2;rw[ha]at this;injection this
  cases hi:wZ v with
  |false=>
   refine bt (acJ hi) ?_;refine xY ?_;conv=>whnf
   rw[Us,sz λn h1 h2 h3=>by
    have:=same n h1 h2 h3;rw[this]at hi;have h4:wZ (n:Int)=true:=by simp[wZ];omega
    rw[h4]at hi;cases hi]
   exact rR
  |true=>
   have HR:1<=v/\v<=999999:=by simpa [wZ]using hi
   obtain⟨n,rfl⟩:∃n:Nat,v=n:=⟨v.toNat,by omega⟩;refine bt (FH hg (n:=n) (by omega) (by omega)) ?_;refine xN ?_;apply bI<;>intro h2
   ·have ga:Sn.nm n≠s:=λe=>by rw[e]at h2;simp at h2
    rw[Us,sz λk h3 h4 h5=>by
     have:=same k h3 h4 h5
     exact ga (by rw[show n=k by omega];exact h5)]
    exact rR
   ·have he:Sn.nm n=s:=by
     rw[KG]at h2;have:decide (Sn.nm n=s)=true:=by simpa using h2
     exact ah this
    conv=>whnf
    rw[Us,<-he,Qg (by omega) (by omega)];exact rR
 |range=>
  refine aP (Ee hg (s:=⟨(Lib.trimPrefix s.data.toList Sn.pre).toArray⟩) (by rw[lX];exact hl)) ?_;rintro _ m'⟨hr,rfl⟩;conv=>whnf
  unfold S2 at hr;rw[hT,ha]at hr;obtain⟨n,te,pe,rfl⟩:=hr;have xr:sA s=none:=sz λn h1 h2 h3=>by have:=(key n h1 h2 h3).2;rw[ha]at this;cases this
  conv=>whnf
  rw[Us,xr];apply bI<;>intro h1
  ·exact rR
  refine xY ?_;exact rR
 |_=>
  refine aP (Ee hg (s:=⟨(Lib.trimPrefix s.data.toList Sn.pre).toArray⟩) (by rw[lX];exact hl)) ?_;rintro _ m'⟨hr,rfl⟩;conv=>whnf
  unfold S2 at hr;rw[hT,ha]at hr;obtain⟨n,te,pe,rfl⟩:=hr;have xr:sA s=none:=sz λn h1 h2 h3=>by have:=(key n h1 h2 h3).2;rw[ha]at this;cases this
  conv=>whnf
  rw[Us,xr];apply bI<;>intro h1
  ·exact rR
  refine xY ?_;exact rR
end Go.E.Y
namespace Go.E
structure lq(α:Type) where
 k:α
 v:CV
 b:Nat
def lq.entry{α:Type}(enc:α->Value)(e:lq α):MapEntry:=⟨enc e.k,e.v.val,e.b⟩
def nk{α:Type}(enc:α->Value)(es:List (lq α))(clock:Nat):Obj:=.map (es.map (lq.entry enc)).toArray clock
structure Mo{α:Type}[DecidableEq α](enc:α->Value)(d:TypeDesc):Prop where
 same:∀a b,Instr.sameNow d (enc a) (enc b)=some (decide (a=b))
 isK:∀a,MapKept.IsKey d (enc a)
 bits:∀a,Instr.sameBits 10000 (enc a) (enc a)=true
 one:∀a,(enc a).oneCell'=true
theorem Sx(a b:ByteArray):(a==b)=decide (a=b):=by
 rcases a with⟨a⟩;rcases b with⟨b⟩
 have h:((⟨a⟩:ByteArray)==⟨b⟩)=(a==b):=rfl
 grind
theorem Gp:Mo Value.string .string:=
 ⟨λa b=>by simp[Instr.sameNow,Sx],λ_=>trivial,λa=>by simp[Instr.sameBits,Sx],λ_=>rfl⟩
section
variable {α:Type} [DecidableEq α]
def mD(k:α)(es:List (lq α)):Option CV:=(es.find? λe=>decide (k=e.k)).map (·.v)
def uu(k:α)(v:CV)(clock:Nat):List (lq α)->List (lq α)
 |[]=>[⟨k,v,clock⟩]
 |e::es=>if k=e.k then⟨k,v,e.b⟩::es else e::uu k v clock es
def kS(k:α)(clock:Nat)(es:List (lq α)):Nat:=if (mD k es).isSome then clock else clock+1
def Fi(k:α):List (lq α)->List (lq α)
 |[]=>[]
 |e::es=>if k=e.k then es else e::Fi k es
theorem Ic{enc:α->Value}{d:TypeDesc}(hk:Mo enc d)(k:α):∀(es:List (lq α)) (i:Nat),
  Instr.findNow d (enc k) (es.map (lq.entry enc)) i=some (match es.findIdx? λe=>decide (k=e.k)with
   |some j=>some (i+j,((es[j]?).map λe=>e.v.val).getD undef)
   |none=>none)
 |[],i=>rfl
 |e::es,i=>by
  simp only[aZ,Instr.findNow,lq.entry,hk.same,BA];by_cases h:k=e.k
  ·simp[h]
  ·have ih:=Ic hk k es (i+1)
   simp only[h,decide_false,gS,cU];rw[ih]
   cases es.findIdx? λe=>decide (k=e.k)with
   |none=>rfl
   |some j=>simp only[];congr 2;rw[cV];exact⟨by simp only;omega,rfl⟩
theorem Ib(k:α):∀(es:List (lq α)),(match es.findIdx? λe=>decide (k=e.k)with
  |some j=>∃e,es[j]?=some e/\mD k es=some e.v/\e.k=k
  |none=>mD k es=none)
 |[]=>rfl
 |e::es=>by
  rw[BA];by_cases h:k=e.k
  ·simp only[h,decide_true,oN]
   exact⟨e,rfl,by simp[mD],rfl⟩
  ·have ih:=Ib k es
   simp only[h,decide_false,gS,cU];have hf:mD k (e::es)=mD k es:=by simp[mD,h]
   rw[hf]
   cases hx:es.findIdx? λe=>decide (k=e.k)with
   |none=>rw[hx]at ih;exact ih
   |some j=>rw[hx]at ih;exact ih
theorem Gx(enc:α->Value)(k:α)(v:CV)(clock:Nat):∀(es:List (lq α)),(match es.findIdx? λe=>decide (k=e.k)with
  |some j=>(es.map (lq.entry enc)).modify j (λe=>{e with key:=enc k,val:=v.val})=(uu k v clock es).map (lq.entry enc)
  |none=>es.map (lq.entry enc)++[⟨enc k,v.val,clock⟩]=(uu k v clock es).map (lq.entry enc))
 |[]=>rfl
 |e::es=>by
  rw[BA];by_cases h:k=e.k
  ·subst h
   simp[uu,lq.entry]
  ·have ih:=Gx enc k v clock es
   simp only[h,decide_false,gS,cU]
   cases hx:es.findIdx? λe=>decide (k=e.k)with
   |none=>rw[hx]at ih;simp only[Option.map_none,aZ,uu,h,gS,db]at ih⊢;rw[ih]
   |some j=>rw[hx]at ih;simp only[dZ,aZ,uu,h,gS,List.modify_succ_cons]at ih⊢;rw[ih]
theorem Ma(enc:α->Value)(k:α):∀(es:List (lq α)),(match es.findIdx? λe=>decide (k=e.k)with
  |some j=>(es.map (lq.entry enc)).eraseIdx j=(Fi k es).map (lq.entry enc)
  |none=>es.map (lq.entry enc)=(Fi k es).map (lq.entry enc))
 |[]=>rfl
 |e::es=>by
  rw[BA];by_cases h:k=e.k
  ·subst h
   simp[Fi]
  ·have ih:=Ma enc k es
   simp only[h,decide_false,gS,cU]
   cases hx:es.findIdx? λe=>decide (k=e.k)with
   |none=>rw[hx]at ih;simp only[Option.map_none,aZ,Fi,h,gS]at ih⊢;rw[ih]
   |some j=>rw[hx]at ih;simp only[dZ,aZ,Fi,h,gS,List.eraseIdx_cons_succ]at ih⊢;rw[ih]
end
section
variable {P:Program}{T:lz}{α:Type} [DecidableEq α] {enc:α->Value}
theorem uv{w:World}{kt:TypeId}{d:TypeDesc}{k:Value}(hd:P.underlying kt=some d)(hk:MapKept.IsKey d k)(e:Bool):(Instr.checkKey e 10000 kt k).run P w= .ok () w:=MapKept.run_checkKey hd hk e 9999
omit [DecidableEq α] in
theorem wh{t:TypeId}{m:aD}:bF P (.makeMap t) [] m λr m'=>∃b,m b=none/\r=[.v (.map (some b))]/\m'=m.set b (nk enc [] 0):=by
 intro _ ty W hW;refine⟨[.v (.map (some W.heap.size))],_,_,?_,(by intro y hy;simp at hy;subst hy;rfl),⟨W.heap.size,hW.none (aW _),rfl,rfl⟩,(cr.refl hW).alloc (nk enc [] 0)⟩;simp[dF.run,dF.dE,dF.Fz,gm,CV.val,Instr.makeMap,nk,newObj,Sem.run,Result.andThen]
theorem GG{d:TypeDesc}{kt:TypeId}(hk:Mo enc d)(hd:P.underlying kt=some d)(w:World)(k:α)(es:List (lq α)):
  (Instr.findKey kt (enc k) (es.map (lq.entry enc))).run P w= .ok (match es.findIdx? λe=>decide (k=e.k)with
   |some j=>some (j,((es[j]?).map λe=>e.v.val).getD undef)
   |none=>none) w:=by
 have:=Ic hk k es 0;simp only[cD]at this;exact MapKept.run_findKey hd this
theorem Qv{mt kt et:TypeId}{d:TypeDesc}(hk:Mo enc d)(hm:P.underlying mt=some (.map kt et))(hd:P.underlying kt=some d){z:CV}(hz:(P.info? et).bind (·.zero)=some z.val)(atz:z.ok){m:aD}{b clock:Nat}{es:List (lq α)}{k:α}
  (hb:m b=some (nk enc es clock)) (hes:∀e∈es,e.v.ok) (ok:Bool):
  bF P (.lookup mt ok) [.v (.map (some b)),.v (enc k)] m λr m'=>r=(if ok then[(mD k es).getD z,.v (.bool (mD k es).isSome)]else[(mD k es).getD z])/\m=m':=by
 intro _ ty W hW;have yD:=hW _ _ hb
 have wn:(zeroValue et).run P W= .ok z.val W:=by
  cases hi:P.info? et with
  |none=>simp[hi]at hz
  |some i=>simp[hi]at hz;simp[zeroValue,typeInfo,hi,hz]
 have hf:=GG hk hd W k es;have hx:=Ib k es;have ZI:∀e,(Instr.checkKey e 10000 kt (enc k)).run P W= .ok () W:=λe=>uv hd (hk.isK k) e
 have apf:((mD k es).getD z).ok:=by
  grind
 refine⟨_,m,W,?_,?_,⟨rfl,rfl⟩,cr.refl hW⟩
 ·cases hi:es.findIdx? λe=>decide (k=e.k)with
  |none=>
   rw[hi]at hx hf;simp only at hx hf;rw[hx]
   cases ok<;>simp[dF.run,dF.dE,dF.Fz,CV.val,gm,Instr.lookup,run_underlying hm,MapKept.run_getObj_map yD,ZI,hf,wn]<;>rfl
  |some j=>
   rw[hi]at hx hf;obtain⟨e,h1,h2,_⟩:=hx;simp only[h1,dZ,jA]at hf;rw[h2]
   cases ok<;>simp[dF.run,dF.dE,dF.Fz,CV.val,gm,Instr.lookup,run_underlying hm,MapKept.run_getObj_map yD,ZI,hf]<;>rfl
 ·intro y hy
  cases ok
  ·grind
  ·simp at hy
   rcases hy with rfl|rfl
   ·exact apf
   ·rfl
theorem cr.put{m:aD}{W:World}(hW:mg m W){b:Nat}{o:Obj}(hb:m b=some o)(o':Obj):cr m W (m.set b o') {W with heap:=W.heap.setIfInBounds b o'}:=by
 obtain⟨h1,h2⟩:=MapKept.heap_set (o':=o') (hW _ _ hb);exact cr.setObj hW hb (by simp) h1 h2
theorem yr{mt kt et:TypeId}{d:TypeDesc}(hk:Mo enc d)(hm:P.underlying mt=some (.map kt et))(hd:P.underlying kt=some d){m:aD}{b clock:Nat}{es:List (lq α)}{k:α}{v:CV}(hb:m b=some (nk enc es clock)):
  bF P (.mapUpdate mt) [.v (.map (some b)),.v (enc k),v] m λr m'=>m'=m.set b (nk enc (uu k v clock es) (kS k clock es)):=by
 intro _ ty W hW;have yD:=hW _ _ hb;have hf:=GG hk hd W k es;have hx:=Ib k es;have jG:=Gx enc k v clock es;have ZI:(Instr.checkKey false 10000 kt (enc k)).run P W= .ok () W:=uv hd (hk.isK k) false;have ha:List.map CV.val [.v (.map (some b)),.v (enc k),v]=[.map (some b),enc k,v.val]:=rfl;rw[ha]
 cases hi:es.findIdx? λe=>decide (k=e.k)with
 |none=>
  rw[hi]at hx hf jG;simp only at hx hf jG;refine⟨[],_,_,?_,(by intro y hy;cases hy),rfl,cr.put hW hb _⟩;have hc:kS k clock es=clock+1:=by simp[kS,hx]
  have he:(es.map (lq.entry enc)).toArray.push ⟨enc k,v.val,clock⟩=((uu k v clock es).map (lq.entry enc)).toArray:=by
   rw[<-jG];simp
  have hr:(Instr.mapUpdate mt (.map (some b)) (enc k) v.val).run P W= .ok () {W with heap:=W.heap.setIfInBounds b (nk enc (uu k v clock es) (kS k clock es))}:=by
   simp only[Instr.mapUpdate,Sem.run_bind,run_underlying hm,MapKept.run_getObj_map yD,ZI,hf,Result.andThen_ok,he,hc,MapKept.run_setObj_map _ yD,nk]
  simp only[dF.run,Sem.run_bind,hr,Result.andThen_ok,Sem.run_pure];rfl
 |some j=>
  rw[hi]at hx hf jG;obtain⟨e,h1,h2,h3⟩:=hx;simp only[h1,dZ,jA]at hf jG;refine⟨[],_,_,?_,(by intro y hy;cases hy),rfl,cr.put hW hb _⟩;have hc:kS k clock es=clock:=by simp[kS,h2]
  have alp:((((es.map (lq.entry enc)).toArray[j]?).map (·.key)).getD (enc k))=enc k:=by
   simp[h1,lq.entry,h3]
  have hsb:=hk.bits k
  have he:(es.map (lq.entry enc)).toArray.modify j (λe=>{e with key:=enc k,val:=v.val})=((uu k v clock es).map (lq.entry enc)).toArray:=by
   rw[<-jG];simp
  have hr:(Instr.mapUpdate mt (.map (some b)) (enc k) v.val).run P W= .ok () {W with heap:=W.heap.setIfInBounds b (nk enc (uu k v clock es) (kS k clock es))}:=by
   simp only[Instr.mapUpdate,Sem.run_bind,run_underlying hm,MapKept.run_getObj_map yD,ZI,hf,Result.andThen_ok,alp,Instr.keyThatStays,hsb,oN,Sem.run_pure,he,hc,MapKept.run_setObj_map _ yD,nk]
  simp only[dF.run,Sem.run_bind,hr,Result.andThen_ok,Sem.run_pure];rfl
theorem Qs{mt kt et:TypeId}{d:TypeDesc}{xB:List TypeId}(hk:Mo enc d)(hm:P.underlying mt=some (.map kt et))(hd:P.underlying kt=some d){m:aD}{b clock:Nat}{es:List (lq α)}{k:α}(hb:m b=some (nk enc es clock)):
  bF P (.builtin .delete (mt::xB)) [.v (.map (some b)),.v (enc k)] m λr m'=>r=[]/\m'=m.set b (nk enc (Fi k es) clock):=by
 intro _ ty W hW;have yD:=hW _ _ hb;have hf:=GG hk hd W k es;have jG:=Ma enc k es;have ZI:∀e,(Instr.checkKey e 10000 kt (enc k)).run P W= .ok () W:=λe=>uv hd (hk.isK k) e;refine⟨[],_,_,?_,(by intro y hy;cases hy),⟨rfl,rfl⟩,cr.put hW hb _⟩
 cases hi:es.findIdx? λe=>decide (k=e.k)with
 |none=>
  rw[hi]at hf jG;simp only at hf jG;simp[dF.run,dF.dE,dF.Fz,CV.val,gm,Builtin.delete_,run_underlying hm,MapKept.run_getObj_map yD,ZI,hf,nk,MapKept.run_setObj_map _ yD,<-jG]
 |some j=>
  rw[hi]at hf jG;simp only at hf jG
  have he:(es.map (lq.entry enc)).toArray.eraseIdxIfInBounds j=((Fi k es).map (lq.entry enc)).toArray:=by
   rw[<-jG];simp
  simp[dF.run,dF.dE,dF.Fz,CV.val,gm,Builtin.delete_,run_underlying hm,MapKept.run_getObj_map yD,ZI,hf,nk,MapKept.run_setObj_map _ yD,<-jG]
end
section
variable {P:Program}{α:Type}{enc:α->Value}
def jx(b clock:Nat)(fK:List Nat):Obj:=.mapIter (some b) clock fK.toArray clock
def iW(fK:List Nat)(es:List (lq α)):List (lq α):=es.filter λe=>!fK.contains e.b
theorem x3{mt kt et:TypeId}(hm:P.underlying mt=some (.map kt et)){m:aD}{b clock:Nat}{es:List (lq α)}(hb:m b=some (nk enc es clock)):
  bF P (.range mt) [.v (.map (some b))] m λr m'=>∃it,m it=none/\r=[.v (.pointer (some ⟨it,0,none⟩))]/\m'=m.set it (jx b clock []):=by
 intro _ ty W hW;refine⟨[.v (.pointer (some ⟨W.heap.size,0,none⟩))],_,_,?_,(by intro y hy;simp at hy;subst hy;rfl),⟨W.heap.size,hW.none (aW _),rfl,rfl⟩,(cr.refl hW).alloc (jx b clock [])⟩;simp[dF.run,dF.dE,dF.Fz,gm,CV.val,Instr.range,run_underlying hm,MapKept.run_getObj_map (hW _ _ hb),newObj,Sem.run,Result.andThen,jx]
theorem A8{m:aD}{it b clock:Nat}{fK:List Nat}{es:List (lq α)}(ZC:m it=some (jx b clock fK))(hb:m b=some (nk enc es clock))(adT:∀e∈es,e.b<clock)(ez:∀e∈es,e.v.ok)(ox:∀a,(enc a).oneCell'=true):
  bF P (.next false) [.v (.pointer (some ⟨it,0,none⟩))] m λr m'=>(iW fK es=[]/\r=[.v (.bool false)]/\m'=m)\/∃e,e∈iW fK es/\r=[.v (.bool true),.v (enc e.k),e.v]/\m'=m.set it (jx b clock (fK++[e.b])):=by
 intro _ ty W hW;have hWi:=hW _ _ ZC;have yD:=hW _ _ hb
 have e1:((es.map (lq.entry enc)).toArray.filter λe=>!fK.toArray.contains e.born)=((iW fK es).map (lq.entry enc)).toArray:=by
  simp only[List.filter_toArray,List.filter_map,iW]
  congr 2
  exact List.filter_congr λe _=>by simp[lq.entry];exact fF.2 Iff.rfl
 have e2:(((iW fK es).map (lq.entry enc)).toArray.filter λe=>decide (e.born<clock))=((iW fK es).map (lq.entry enc)).toArray:=by
  simp only[List.filter_toArray]
  congr 1
  rw[bY];intro x hx;obtain⟨e,he,rfl⟩:=aV.1 hx;exact bB (adT e (cH.1 he).1)
 have e3:(((iW fK es).map (lq.entry enc)).toArray.filter λe=>decide (e.born>=clock))= #[]:=by
  simp_all
 have e4:(!fK.toArray.isEmpty&& !(es.map (lq.entry enc)).toArray.isEmpty&&(es.map (lq.entry enc)).toArray.all λe=>decide (e.born>=clock))=false:=by
  cases es with
  |nil=>simp
  |cons e es=>
   have h0:=adT e (by simp)
   have:((e::es).map (lq.entry enc)).toArray.all (λe=>decide (e.born>=clock))=false:=by
    simp only[List.all_toArray,aZ,List.all_cons,lq.entry];rw[aY (show ¬e.b>=clock by omega)];rfl
   rw[this,Bool.and_false]
 have e5:(Sem.run P (getObj it) W)= .ok (jx b clock fK) W:=by simp[getObj,Sem.run,hWi,jx]
 cases hl:iW fK es with
 |nil=>
  rw[hl]at e1 e2 e3;refine⟨[.v (.bool false)],m,W,?_,(by intro y hy;simp at hy;subst hy;rfl),.inl ⟨rfl,rfl,rfl⟩,cr.refl hW⟩;simp only[dF.run,aZ,lK,CV.val,Instr.next,Sem.run_bind,e5,Result.andThen_ok,jx,MapKept.run_getObj_map yD,e4,cU,gS,e1,lK];simp[Question.forced,dF.dE,dF.Fz,CV.val]
 |cons e0 es'=>
  have JL:0<(iW fK es).length:=by rw[hl];simp
  have key:∀(i:Nat) (W1:World) (hi:i<(iW fK es).length),W1.heap=W.heap->cr m W m W1->
    ∃r m' W',(do
     setObj it (.mapIter (some b) clock (fK.toArray.push ((iW fK es)[i]).b) clock)
     pure (.tuple #[.bool true,enc ((iW fK es)[i]).k,((iW fK es)[i]).v.val]:Value):Sem Value).run P W1= .ok ((dF.next false).dE r) W'/\(∀x∈r,x.ok)/\
     ((iW fK es=[]/\r=[.v (.bool false)]/\m'=m)\/∃e,e∈iW fK es/\r=[.v (.bool true),.v (enc e.k),e.v]/\m'=m.set it (jx b clock (fK++[e.b])))/\cr m W m' W':=by
   intro i W1 hi ap1 qN;have hW1:mg m W1:=qN.jF;have NT:=aO hi;generalize (iW fK es)[i]=e at NT;refine⟨[.v (.bool true),.v (enc e.k),e.v],_,_,?_,?_,.inr ⟨e,NT,rfl,rfl⟩,qN.trans (cr.put hW1 ZC _)⟩
   ·simp[setObj,Sem.run,ap1,hWi,jx,Result.andThen,dF.dE,dF.Fz,CV.val]
   ·intro y hy
    simp only[aU,fG,rH]at hy;rcases hy with rfl|rfl|rfl
    ·rfl
    ·exact ox _
    ·exact ez _ (cH.1 NT).1
  rw[<-hl];have ga:((iW fK es).map (lq.entry enc)).toArray.isEmpty=false:=by rw[hl];simp
  have Ad:(((iW fK es).map (lq.entry enc)).toArray.map some).size=(iW fK es).length:=by simp
  have hgo:(Instr.next (.pointer (some ⟨it,0,none⟩)) false ty).run P W=((choose (.mapNext (iW fK es).length)).run P W).andThen λi W1=>(match (((iW fK es).map (lq.entry enc)).toArray.map some)[i]? with
    |some (some e)=>(do setObj it (.mapIter (some b) clock (fK.toArray.push e.born) clock);pure (.tuple #[.bool true,e.key,e.val]):Sem Value)
    |some none=>pure (.tuple #[.bool false])
    |none=>stuck "Next: no such candidate").run P W1:=by
   simp only[Instr.next,Sem.run_bind,e5,Result.andThen_ok,jx,MapKept.run_getObj_map yD,e4,cU,gS,e1,e2,e3,ga,Array.append_empty,Array.empty_append,Ad];rfl
  have aju:∀i (hi:i<(iW fK es).length),(((iW fK es).map (lq.entry enc)).toArray.map some)[i]?=some (some (lq.entry enc (iW fK es)[i])):=λi hi=>by
   simp[hi]
  have lm:∀a,(dF.run (.next false) ty [a])=Instr.next a false ty:=λa=>rfl;simp only[aZ,lK,CV.val,lm,hgo,run_choose];by_cases hf:(Question.mapNext (iW fK es).length).forced=true
  ·rw[aC hf]
   simp only[Result.andThen_ok,aju 0 JL];exact key 0 W JL rfl (cr.refl hW)
  ·rw[if_neg hf]
   have bH:(Question.mapNext (iW fK es).length).cut (W.tape W.drawn (.mapNext (iW fK es).length))<(iW fK es).length:=fo _ JL;simp only[Result.andThen_ok,aju _ bH];exact key _ _ bH rfl (cr.refl hW).drew
theorem yL{m:aD}{it b clock:Nat}{fK:List Nat}{es:List (lq α)}{e:lq α}(ZC:m it=some (jx b clock (fK++[e.b])))(hb:m b=some (nk enc es clock))(he:e∈es)(hd:es.Pairwise λx y=>x.b≠y.b)(ez:e.v.ok)(ox:(enc e.k).oneCell'=true):
  bF P .entry [.v (.pointer (some ⟨it,0,none⟩))] m λr m'=>r=[.v (enc e.k),e.v]/\m=m':=by
 intro _ ty W hW;have hWi:=hW _ _ ZC;have yD:=hW _ _ hb;have e5:(Sem.run P (getObj it) W)= .ok (jx b clock (fK++[e.b])) W:=by simp[getObj,Sem.run,hWi,jx]
 have ap9:(es.map (lq.entry enc)).toArray.find? (λx=>x.born==e.b)=some (lq.entry enc e):=by
  rw[List.find?_toArray,List.find?_map]
  have:es.find? ((λx:MapEntry=>x.born==e.b)∘lq.entry enc)=some e:=by
   clear hb yD
   induction es with
   |nil=>cases he
   |cons x es ih=>
    obtain⟨h1,h2⟩:=bh.1 hd;rw[iZ];rcases aU.1 he with rfl|he
    ·simp[lq.entry]
    ·have ga:=h1 e he
     have:((λx:MapEntry=>x.born==e.b)∘lq.entry enc) x=false:=by simp[lq.entry,ga]
     rw[this];exact ih he h2
  grind
 refine⟨[.v (enc e.k),e.v],m,W,?_,?_,⟨rfl,rfl⟩,cr.refl hW⟩
 ·simp only[dF.run,aZ,lK,CV.val,Instr.entry,Sem.run_bind,e5,Result.andThen_ok,jx]
  simp[ap9,dF.dE,dF.Fz,gm,CV.val,lq.entry,MapKept.run_getObj_map yD]
 ·intro y hy
  simp at hy;rcases hy with rfl|rfl
  ·exact ox
  ·exact ez
end
end Go.E
namespace Go.E.Y
open Go.Proofs
structure Fl where
 name:ByteArray
 bx:Nat
 v:Value
 l:List Nat
 fB:Nat
 born:Nat
 p:aD
abbrev gW(v:Value)(fB:Nat):Obj:=.cells #[v,.int .i64 (fB:Int)] 152
abbrev jd(q:Int)(bm nb ns:Nat):Obj:=.cells #[.int .i64 q,.map (some bm),.int .u64 (nb:Int),.int .u64 (ns:Int)] 150
def Fl.kg(f:Fl):lq ByteArray:=⟨f.name,.v (.pointer (some ⟨f.bx,0,none⟩)),f.born⟩
def Fl.parts(f:Fl):List aD:=[blk1 f.bx (gW f.v f.fB),f.p]
abbrev mU(F:List Fl)(clock:Nat):Obj:=nk Value.string (F.map Fl.kg) clock
structure Fl.Ok(clock:Nat)(f:Fl):Prop where
 bs:Bs f.p f.v (nc f.l)
 xA:∀x∈f.l,x<256
 fB:f.fB<=f.l.length
 born:f.born<clock
structure FS(p:aD)(bf bm:Nat)(q:Int)(nb ns clock:Nat)(F:List Fl):Prop where
 sp:aq p (blk1 bf (jd q bm nb ns)::blk1 bm (mU F clock)::F.flatMap Fl.parts)
 ok:∀f∈F,f.Ok clock
 Ex:F.Pairwise λa b=>a.name≠b.name
 CE:F.Pairwise λa b=>a.born≠b.born
section
variable {p:aD}{bf bm:Nat}{q:Int}{nb ns clock:Nat}{F:List Fl}
theorem FS.sN(h:FS p bf bm q nb ns clock F):p bf=some (jd q bm nb ns):=h.sp.sub (a:=blk1 bf (jd q bm nb ns)) (by simp) _ _ (aG ..)
theorem FS.map(h:FS p bf bm q nb ns clock F):p bm=some (mU F clock):=h.sp.sub (a:=blk1 bm (mU F clock)) (by simp) _ _ (aG ..)
theorem FS.mem{f:Fl}(h:FS p bf bm q nb ns clock F)(hf:f∈F):p f.bx=some (gW f.v f.fB):=
 h.sp.sub (a:=blk1 f.bx (gW f.v f.fB)) (by simp only[aU,iu];exact .inr (.inr ⟨f,hf,by simp[Fl.parts]⟩)) _ _ (aG ..)
theorem FS.bytes{f:Fl}(h:FS p bf bm q nb ns clock F)(hf:f∈F):Bs p f.v (nc f.l):=
 (h.ok f hf).bs.sub (h.sp.sub (by simp only[aU,iu];exact .inr (.inr ⟨f,hf,by simp[Fl.parts]⟩)))
def fh(F:List Fl)(name:ByteArray):Option Fl:=F.find? λf=>decide (name=f.name)
theorem yI(name:ByteArray):∀(F:List Fl),mD name (F.map Fl.kg)=(fh F name).map λf=>.v (.pointer (some ⟨f.bx,0,none⟩))
 |[]=>rfl
 |f::F=>by
  have ih:=yI name F;unfold mD fh at*;rw[aZ,iZ,iZ];by_cases h:name=f.name
  ·simp[h,Fl.kg]
  ·have e1:decide (name=f.kg.k)=false:=aY h
   rw[e1,aY h];exact ih
theorem wF{name:ByteArray}{f:Fl}(h:fh F name=some f):f∈F/\f.name=name:=by
 refine⟨jn h,?_⟩;have:=List.find?_some h
 grind
theorem oA{name:ByteArray}{f:Fl}(h:fh F name=some f):∃A B,F=A++f::B/\(∀x∈A,x.name≠name)/\f.name=name:=by
 obtain⟨h1,A,B,h2,h3⟩:=List.find?_eq_some_iff_append.1 h
 grind
end
abbrev fy(b:Nat):CV:=.v (.pointer (some ⟨b,0,none⟩))
theorem pz:(Tryz.prog.info? 144).bind (·.zero)=some (Value.pointer none):=by kernel_rfl
variable{m:aD}{bm clock:Nat}{name:ByteArray}
theorem agZ{F:List Fl}(hb:m bm=some (mU F clock))(ok:Bool):
  bF tP (.lookup 145 ok) [.v (.map (some bm)),.v (.string name)] m λr m'=>r=(if ok then[((fh F name).map λf=>fy f.bx).getD (.v (.pointer none)),.v (.bool (fh F name).isSome)]else[((fh F name).map λf=>fy f.bx).getD (.v (.pointer none))])/\m=m':=by
 have h:=Qv (P:=tP) Gp Tryz.underlying145 Tryz.underlying9 (z:=.v (.pointer none)) pz rfl (k:=name) hb (λe he=>by obtain⟨f,_,rfl⟩:=aV.1 he;rfl) ok;rw[yI]at h
 grind
variable{arr:Array Value}
theorem Zd{bf:Nat}(h:m bf=some (.cells arr 150))(h1:arr[1]?=some (.map (some bm))):eN tP 344 [fy bf] m [bR true]:=by
 refine ub Tryz.func344 ?_;refine xY ?_;refine⟨_,aF h h1,rfl,?_⟩;exact rR
def DH(c:Nat):Bool:=(decide (97<=c)&&decide (c<=122))||((decide (48<=c)&&decide (c<=57))||(decide (c=45)||decide (c=46)))
def iQ(l:List Nat):Bool:=decide (0<l.length)&&decide (l.length<=20)&&l.all DH
theorem NH{c:Nat}:eN tP 346 [.v (.int .u8 (c:Int))] m [bR (DH c)]:=by
 have e45:((c:Int)==45)=decide (c=45):=by by_cases h:c=45<;>simp[h];omega
 have e46:((c:Int)==46)=decide (c=46):=by by_cases h:c=46<;>simp[h];omega
 refine ub Tryz.func346 ?_;conv=>whnf
 repeat' (first|(refine⟨λh=>?_,λh=>?_⟩<;>conv=>whnf)|fail)
 all_goals (refine⟨?_,rfl⟩;(try simp only[e45,e46]at*);by_cases h45:c=45<;>by_cases h46:c=46<;>simp[DH,h45,h46]at* <;>omega)
theorem arb(s:ByteArray)(i:Nat):(s.data.toList.getD i 0).toNat=(jR s).getD i 0:=by
 simp only[jR,aI,cj]
 cases s.data.toList[i]?<;>rfl
theorem yw{s:ByteArray}(hs:s.size<=1000000):eN tP 283 [.v (.string s)] m [bR (iQ (jR s))]:=by
 refine ub Tryz.func283 ?_;refine .mk (ι:=Nat) (λi=>s.size-i) (λi mm=>i<=s.size/\(∀x∈(jR s).take i,DH x=true)/\mm=m) (λi=>[(0,.c (.v (.string s))),(5,.c (i64 s.size)),(6,.c (i64 i))]) (λ_=>[]) 0 ⟨by omega,by simp,rfl⟩ ?_ ?_
 ·exact Cr
 rintro i mm⟨hi,cM,he⟩;subst mm;apply bI<;>intro h
 ·have h':=ah h
  have bH:i<s.size:=by omega
  repeat refine xS ?_
  rw[aA,arb];refine bt (NH) ?_;have HP:i<(jR s).length:=by rw[ue];omega
  have U8:(jR s)[i]?=some ((jR s).getD i 0):=by simp[az HP]
  apply bI<;>intro h3
  ·refine⟨?_,rfl⟩
   have yF:DH ((jR s).getD i 0)=false:=by simpa using h3
   have:(jR s).all DH=false:=by
    rw[uI];exact⟨_,dJ U8,by simp only[yF,cU,not_false_eq_true]⟩
   simp[iQ,this]
  ·have yF:DH ((jR s).getD i 0)=true:=by simpa using h3
   refine⟨i+1,⟨by omega,?_,rfl⟩,by omega,?_⟩
   ·intro x hx
    rw[au HP]at hx;rcases aR.1 hx with hx|hx
    ·exact cM x hx
    ·rw[aL.1 hx]
     rw[az HP]at U8;rw[eL U8];exact yF
   ·exact Cr
 ·have jc:=aj h
  obtain rfl:i=s.size:=by omega
  have hl:=ue s;rw[<-hl,aJ]at cM;have Rp:(jR s).all DH=true:=bL.2 cM;apply bI<;>intro h
  ·have h2:=ah h
   refine⟨?_,rfl⟩;simp only[iQ,Rp,hl,mj];rw[bB (show 0<s.size by omega),bj];rw[fF.2 (show((s.size:Int)<=20)↔s.size<=20 by omega)]
  ·have h2:=aj h
   refine⟨?_,rfl⟩;simp only[iQ,Rp,hl,mj];rw[aY (show ¬ 0<s.size by omega),fH]
theorem rP{bf:Nat}{q:Int}{nb ns:Nat}{F:List Fl}(h:FS m bf bm q nb ns clock F):eN tP 281 [fy bf,.v (.string name)] m (match fh F name with
  |some f=>[fy f.bx,i64 0]
  |none=>[.v (.pointer none),i64 4]):=by
 refine ub Tryz.func281 ?_;refine bt (Zd h.sN rfl) ?_;refine xN ?_;refine xM h.sN ?_;refine .mk _ (agZ h.map true) ?_;rintro _ _⟨rfl,rfl⟩
 cases hf:fh F name with
 |none=>
  refine xY ?_;exact rR
 |some f=>
  refine⟨λh=>absurd h (by simp),λ_=>?_⟩;exact rR
theorem XK{b o:Nat}{x y:Nat}{T:TypeId}(hb:m b=some (.cells arr T))(ho:arr[o]?=some (.int .u64 (x:Int))) (hxy:x+y<18446744073709551616):bi tP 285 [.v (.pointer (some ⟨b,o,none⟩)),.v (.int .u64 (y:Int))] m λr m'=>r=[.v (.int .u64 ((x+y:Nat):Int))]/\m'=m.set b (.cells (arr.setIfInBounds o (.int .u64 ((x+y:Nat):Int))) T):=by
 have ew:IntKind.u64.wrap ((x:Int)+(y:Int))=((x+y:Nat):Int):=by rw[wu];omega
 refine ub Tryz.func285 ?_;refine aj1 (ah4 (P:=tP) Tryz.func347 (by rfl) (by rfl) (by kernel_rfl) (by kernel_rfl) (x:=(x:Int)) hb ho) ?_;rintro _ _⟨rfl,rfl⟩;rw[ew];exact rR
def ren:Go.Shelf.Ren:=⟨rF [(125,188),(128,279),(129,280),(190,115),(258,187),(302,270),(303,271),(304,272),(305,273),(306,274),(307,275),(308,276),(309,277),(310,278),(329,339),(330,340),(333,338),(334,341),(335,342),(336,343),(344,386)],rF [(0,0),(3,3),(4,4),(5,5),(9,9),(31,142),(46,193),(51,119),(53,31),(131,348),(182,367),(183,368),(218,430),(222,434),(228,475),(229,284)],λn=>n⟩
theorem Qz:Lays.n190 tP ren:=by repeat' first|kernel_rfl|exact λ_=>rfl|decide|constructor
def tq(s:ByteArray):List UInt8:=s.data.toList
def ut(ss:List ByteArray):List ByteArray:=((ss.map tq).mergeSort λx y=>decide (x<=y)).map λl=>⟨l.toArray⟩
theorem Gt(ss:List ByteArray):(ut ss).length=ss.length:=by simp[ut]
theorem RX:wP tP 115:=λargs w=>by
 have h1:Tryz.prog.funcs[115]?=some Tryz.f115:=Tryz.func115
 have h2:(Tryz.f115.name== "runtime.NumGoroutine")=false:=by kernel_rfl
 have h3:∃c,Tryz.f115.body=some c:=⟨_,rfl⟩;obtain⟨c,h3⟩:=h3
 have OS:¬Tryz.f115.name= "runtime.NumGoroutine" :=by simpa using h2
 simp[callFunc,h1,h3,OS]
theorem OL{W:World}(hW:mg m W){b o k:Nat}{T:TypeId}{fr:Nat×Nat}(hb:m b=some (.cells arr T fr))(d:Array (List UInt8))(os:Array Obj):
  cr m W (m.set b (.cells (Sort.putCells encStr o d arr) T fr)) (Sort.grow (Sort.putRow encStr (Sort.ahead W k) b o d) os):=by
 have yD:=hW _ _ hb;have bH:=hW.lt hb
 have Bg:∀x,x<W.heap.size->(Sort.grow (Sort.putRow encStr (Sort.ahead W k) b o d) os).heap[x]?=if b=x then some (.cells (Sort.putCells encStr o d arr) T fr)else W.heap[x]?:=λx hx=>by
  have e:(Sort.grow (Sort.putRow encStr (Sort.ahead W k) b o d) os).heap=W.heap.modify b (Sort.onCells (Sort.putCells encStr o d))++os:=rfl;rw[e,fI (by simpa using hx),vH];by_cases h:b=x
  ·subst h;simp[yD,Sort.onCells]
  ·simp[h]
 refine⟨λx u hx=>?_,?_,rfl,rfl,rfl,λx hx hn=>?_,λ_=>Nat.le_add_right _ _⟩
 ·by_cases h:x=b
  ·subst h;rw[aD.bg]at hx;rw[Bg _ bH,aC rfl];exact hx
  ·rw[aD.eH _ _ h]at hx
   rw[Bg _ (hW.lt hx),if_neg (Ne.symm h)];exact hW _ _ hx
 ·show W.heap.size<=(W.heap.modify b (Sort.onCells (Sort.putCells encStr o d))++os).size
  simp
 ·have h:x≠b:=λe=>by subst e;rw[hb]at hn;cases hn
  exact⟨by rw[aD.eH _ _ h];exact hn,by rw[Bg _ hx,if_neg (Ne.symm h)]⟩
theorem Yw{v:Value}{ss:List ByteArray}(hv:mf m 9 1 v (ss.map Value.string))(hl:ss.length<=1000000):bi tP 115 [.v v] m λr m'=>r=[]/\mf m' 9 1 v ((ut ss).map Value.string):=by
 refine⟨RX,λ_ W hW=>?_⟩;rcases hv with⟨rfl,e⟩|⟨b,o,c,n,arr,rfl,h1,h2,h3,h4,h5,h6⟩
 ·have hs:ss=[]:=by cases ss with|nil=>rfl|cons _ _=>cases e
  subst hs;exact(Any.slices_Sort_string_none Qz none 0 W).mono λe W' ⟨h1,h2⟩=>⟨[],m,h1,by simp,⟨rfl,.inl ⟨rfl,by simp[ut]⟩⟩,by subst h2;exact cr.refl hW⟩
 ·have hn:ss.length=n:=by simpa using h2
  subst hn;have yD:=hW _ _ h1;have bH:b<W.heap.size:=hW.lt h1
  have hH:Sort.Holds encStr W b o (ss.map tq).toArray:=λj hj=>by
   have hj':j<ss.length:=by simpa using hj
   refine⟨?_,by simp[World.frozen?,yD]⟩;rw[iO yD];have:=h5 j (.string ss[j]) (by simp[hj']);rw[this];simp[hj',tq,encStr]
  have hc:=calls_of_every_depth λD=>AnyS.slices_Sort_string_alone Qz D b o c (ss.map tq) W hH bH (by simp;omega);rw[aH]at hc;refine hc.mono λe W' ⟨he,k,os,hw⟩=>?_;subst he;subst hw;refine⟨[],_,rfl,by simp,⟨rfl,.inr ⟨b,o,c,ss.length,_,rfl,aD.bg ..,by rw[aH,Gt,eG],h3,?_,λj u hu=>?_,?_⟩⟩,OL hW h1 _ _⟩
  ·simp only[Sort.putCells,Array.size_mapIdx];exact h4
  ·have EN:j<ss.length:=by have:=(aQ.1 hu).1;rw[aH,Gt]at this;exact this
   have Ad:((ss.map tq).mergeSort λx y=>decide (x<=y)).toArray.size=ss.length:=by simp
   have JM:o+j<arr.size:=by omega
   rw[Sort.putCells,Array.getElem?_mapIdx,Array.getElem?_eq_getElem JM,dZ,aC ⟨by omega,by omega⟩,show o+j-o=j by omega,getElem!_pos _ j (by omega)];rw[ut,fS,cj]at hu;rw[<-hu];simp[az (show j<((ss.map tq).mergeSort λx y=>decide (x<=y)).length by simpa [eW]using EN)]
  ·intro u hu
   obtain⟨x,_,rfl⟩:=aV.1 hu;rfl
end Go.E.Y
