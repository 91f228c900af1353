import Derived.Test.YtommkhakiadgjaaGreatDoorClusterNewZ3
import Derived.Lib.AtoiAll
import Derived.Lib.ItoaNum
import Derived.Lib.Repeat
import Derived.Lib.Strings
import Derived.Shelf.Slices.In.SortAlone
import Derived.ProofKit
import Derived.OpenShut
import Derived.ChangeArms
import Derived.Tactics
import Derived.Tactics2
import Derived.Defers
import Derived.Laws.Pointers
import Derived.RegionTactic
import Derived.RegionCalls
import Derived.ChangeAlike
set_option maxHeartbeats 40000000
set_option maxRecDepth 100000
set_option linter.unusedVariables false
noncomputable section
namespace Go.E.Sn
open Go.Lib
def dg(k:Nat):UInt8:=UInt8.ofNat (48+k%10)
def uc:Nat->Nat->List UInt8
 |0,_=>[]
 |k+1,n=>uc k (n/10)++[dg n]
def pre:List UInt8:=[115,110,97,112,45]
def nm(n:Nat):ByteArray:=⟨(pre++uc 6 n).toArray⟩
theorem zD:∀k n,(uc k n).length=k
 |0,_=>rfl
 |k+1,n=>by rw[uc,ax,zD k];rfl
theorem YI(c:Nat):repeatL [48] (c+1)=repeatL [48] c++[48]:=by
 induction c with
 |zero=>rfl
 |succ c ih=>
  rw[repeatL]
  conv=>rhs;rw[repeatL]
  rw[aX,<-ih]
theorem PQ(c:Nat):(repeatL [48] c).length=c:=by rw[repeatL_length];simp
theorem Sf:∀k,uc k 0=repeatL [48] k
 |0=>rfl
 |k+1=>by
  rw[uc,Nat.zero_div,Sf k,YI];rfl
theorem Xu:∀(k n:Nat),n<10^(k+1)->(decDigits n).length<=k+1/\repeatL [48] (k+1-(decDigits n).length)++decDigits n=uc (k+1) n
 |k,n,h=>by
  by_cases h10:n<10
  ·have e:decDigits n=[UInt8.ofNat (48+n)]:=by rw[decDigits,dif_pos h10]
   rw[e];refine⟨by simp,?_⟩;rw[uc,show n/10=0 by omega,Sf,dg,Nat.mod_eq_of_lt h10];rfl
  ·have e:decDigits n=decDigits (n/10)++[UInt8.ofNat (48+n%10)]:=by rw[decDigits,dif_neg h10]
   cases k with
   |zero=>simp at h;omega
   |succ k=>
    have hk:n/10<10^(k+1):=by rw[gN]at h;omega
    obtain⟨h1,h2⟩:=Xu k (n/10) hk;rw[e,ax];refine⟨by simp only[ae,cW];omega,?_⟩;rw[uc,<-h2,show k+1+1-((decDigits (n/10)).length+[UInt8.ofNat (48+n%10)].length)=k+1-(decDigits (n/10)).length by simp only[ae,cW];omega,aX];rfl
theorem QO{n:Nat}(h:n<1000000):(itoa (n:Int)).length<=6/\repeatL [48] (6-(itoa (n:Int)).length)++itoa (n:Int)=uc 6 n:=by
 have e:itoa (n:Int)=decDigits n:=by rw[itoa,if_neg (by omega)];rfl
 rw[e];exact Xu 5 n h
theorem yO(k:Nat):(dg k).toNat=48+k%10:=by
 rw[dg,UInt8.toNat_ofNat'];omega
theorem G7:∀(l:List UInt8) (Jf:Nat) (c:UInt8) (u:Nat),parseUint10 Jf l= .ok u->u<100000000000->48<=c.toNat/\c.toNat<=57->parseUint10 Jf (l++[c])= .ok (u*10+(c.toNat-48))
 |[],Jf,c,u,h,hu,hc=>by
  simp only[parseUint10]at h;injection h with h;subst h;rw[bV,parseUint10,aC hc,if_neg (by omega),if_neg (by omega),parseUint10]
 |x::l,Jf,c,u,h,hu,hc=>by
  rw[db,parseUint10];rw[parseUint10]at h
  split at h
  ·rename_i h1
   rw[aC h1]
   split at h
   ·cases h
   ·rename_i h2
    rw[if_neg h2]
    split at h
    ·cases h
    ·rename_i h3
     rw[if_neg h3];exact G7 l _ c u h hu hc
  ·cases h
theorem K8:∀(k n:Nat),k<=10->parseUint10 0 (uc k n)= .ok (n%10^k)
 |0,n,_=>by rw[uc,parseUint10,Nat.pow_zero,Nat.mod_one]
 |k+1,n,hk=>by
  have ih:=K8 k (n/10) (by omega);have hp:10^k<=10^10:=pQ (by decide) (by omega);have bH:n/10%10^k<10^k:=fo _ (Nat.pow_pos (by decide));have hd:=yO n;have h:=G7 _ 0 (dg n) _ ih (by omega) (by omega);rw[uc,h]
  congr 1
  rw[hd,show 10^(k+1)=10*10^k by rw[gN];omega,Nat.mod_mul];omega
theorem ae4{n:Nat}(h:n<1000000):atoiAll (uc 6 n)= .ok (n:Int):=by
 have hp:=K8 6 n (by omega);rw[Nat.mod_eq_of_lt (by omega)]at hp
 obtain⟨c,r,e,hc⟩:∃c r,uc 6 n=c::r/\(48<=c.toNat/\c.toNat<=57):=by
  refine⟨dg (n/10/10/10/10/10),[dg (n/10/10/10/10),dg (n/10/10/10),dg (n/10/10),dg (n/10),dg n],rfl,?_⟩;rw[yO];omega
 rw[e]at hp⊢
 have e2:parseMag (if c.toNat=43\/c.toNat=45 then r else c::r)= .ok n:=by
  rw[if_neg (by omega),parseMag,if_neg (by simp),hp]
 rw[atoiAll]
 grind
theorem Ou:∀{k a b:Nat},a<10^k->b<10^k->uc k a=uc k b->a=b
 |0,a,b,ha,hb,_=>by simp at ha hb;omega
 |k+1,a,b,ha,hb,h=>by
  rw[uc,uc]at h;obtain⟨h1,h2⟩:=List.append_inj h (by rw[zD,zD]);have h3:=Ou (k:=k) (by rw[gN]at ha;omega) (by rw[gN]at hb;omega) h1;have h4:dg a=dg b:=by simpa using h2
  have h5:=be UInt8.toNat h4;rw[yO,yO]at h5;omega
theorem Ix:∀(k n:Nat),uc (k+1) n=dg (n/10^k)::uc k n
 |0,n=>by simp[uc]
 |k+1,n=>by
  have ih:=Ix k (n/10);rw[uc,ih]
  conv=>rhs;rw[uc]
  rw[uF,show 10*10^k=10^(k+1) by rw[gN];omega];rfl
end Go.E.Sn
namespace Go.E.Y
open Go.Proofs
theorem wg(a b:List UInt8):(⟨a.toArray⟩:ByteArray)++⟨b.toArray⟩=⟨(a++b).toArray⟩:=by
 have h:((⟨a.toArray⟩:ByteArray)++⟨b.toArray⟩).data=(⟨(a++b).toArray⟩:ByteArray).data:=by
  simp_all
 exact ByteArray.ext h
theorem lX(a:List UInt8):(⟨a.toArray⟩:ByteArray).size=a.length:=by
 show a.toArray.size=_
 simp
def wZ(n:Int):Bool:=decide (1<=n)&&decide (n<=999999)
variable{m:aD}{n:Int}
theorem uz:eN tP 213 [i64 n] m [bR (wZ n)]:=by
 unfold wZ;refine ap Tryz.func213 ?_;conv=>whnf
 repeat' (first|(refine⟨λh=>?_,λh=>?_⟩<;>conv=>whnf)|fail)
 ·rw[ah (p:=1<=n) (by assumption) |> λh=>(bB h:decide (1<=n)=true),bj]
  exact rR
 ·rw[h,fH]
  exact rR
theorem acJ(h:wZ n=false):eN tP 146 [i64 n] m [.v (.string ByteArray.empty),i64 1]:=by
 refine ap Tryz.func146 ?_;refine bt (uz) ?_;conv=>whnf
 rw[h];refine xY ?_;exact rR
variable{n:Nat}
theorem FH(hg:jZ m)(h1:1<=n)(h2:n<=999999):eN tP 146 [i64 n] m [.v (.string (Sn.nm n)),i64 0]:=by
 have hi:wZ (n:Int)=true:=by simp[wZ];omega
 obtain⟨p1,p2⟩:=Sn.QO (n:=n) (by omega);refine ap Tryz.func146 ?_;refine bt (uz) ?_;conv=>whnf
 rw[hi];refine xN ?_;refine bt (LI hg (by omega) (by omega)) ?_;conv=>whnf
 have es:((⟨(Lib.itoa (n:Int)).toArray⟩:ByteArray).size:Int)=((Lib.itoa (n:Int)).length:Int):=rfl;have ew:IntKind.i64.wrap (6-((⟨(Lib.itoa (n:Int)).toArray⟩:ByteArray).size:Int))=((6-(Lib.itoa (n:Int)).length:Nat):Int):=by rw[es,wi];omega
 rw[ew];refine bt (Ep hg (s:=⟨#[48]⟩) (c:=6-(Lib.itoa (n:Int)).length) (by rw[show(⟨#[48]⟩:ByteArray).size=1 from rfl];omega) (by omega)) ?_;have er:Lib.repeatL (⟨#[48]⟩:ByteArray).data.toList (6-(Lib.itoa (n:Int)).length)=Lib.repeatL [48] (6-(Lib.itoa (n:Int)).length):=rfl;have hz:=Sn.PQ (6-(Lib.itoa (n:Int)).length);rw[er];generalize Lib.repeatL [48] (6-(Lib.itoa (n:Int)).length)=Z at p2 hz;generalize Lib.itoa (n:Int)=D at p1 p2 hz;refine⟨by rw[lX Z,show(⟨#[115,110,97,112,45]⟩:ByteArray).size=5 from rfl];omega,?_⟩;have e1:(⟨#[115,110,97,112,45]⟩:ByteArray)=⟨Sn.pre.toArray⟩:=rfl;rw[e1,wg];refine⟨by rw[lX,lX,ax,show Sn.pre.length=5 from rfl];omega,?_⟩;refine⟨?_,rfl⟩;rw[wg,Sn.nm,<-p2,aX]
def sA(s:ByteArray):Option Nat:=open Classical in if h:∃n:Nat,1<=n/\n<=999999/\Sn.nm n=s then some (Classical.choose h)else none
variable{b:Nat}
theorem yi{a:Nat}(ha:a<=999999)(hb:b<=999999)(h:Sn.nm a=Sn.nm b):a=b:=by
 have h1:Sn.pre++Sn.uc 6 a=Sn.pre++Sn.uc 6 b:=by
  have:=be (λs:ByteArray=>s.data.toList) h;simpa [Sn.nm]using this
 exact Sn.Ou (k:=6) (by omega) (by omega) (List.append_cancel_left h1)
theorem Qg(h1:1<=n)(h2:n<=999999):sA (Sn.nm n)=some n:=by
 have h:∃k:Nat,1<=k/\k<=999999/\Sn.nm k=Sn.nm n:=⟨n,h1,h2,rfl⟩;unfold sA;rw[dif_pos h];obtain⟨_,g2,g3⟩:=Classical.choose_spec h;rw[yi g2 h2 g3]
variable{s:ByteArray}
theorem s8(h:sA s=some n):1<=n/\n<=999999/\Sn.nm n=s:=by
 unfold sA at h
 split at h
 ·grind
 ·cases h
theorem sz(h:∀n:Nat,1<=n->n<=999999->Sn.nm n≠s):sA s=none:=by
 cases e:sA s with
 |none=>rfl
 |some n=>
  obtain⟨h1,h2,h3⟩:=s8 e;exact absurd h3 (h n h1 h2)
abbrev Us(s:ByteArray):List CV:=[i64 ((sA s).getD 0:Nat),bR (sA s).isSome]
theorem abo(a b:List UInt8):(Lib.trimPrefix a b).length<=a.length:=by
 unfold Lib.trimPrefix
 grind
theorem Qf(hg:jZ m)(hs:s.size<=1000000):eN tP 226 [.v (.string s)] m (Us s):=by
 have key:∀n:Nat,1<=n->n<=999999->Sn.nm n=s->Lib.hasPrefix s.data.toList Sn.pre=true/\Lib.atoiAll (Lib.trimPrefix s.data.toList Sn.pre)= .ok (n:Int):=λn h1 h2 h3=>by
  have e:s.data.toList=Sn.pre++Sn.uc 6 n:=by rw[<-h3];simp[Sn.nm]
  have hp:Lib.hasPrefix s.data.toList Sn.pre=true:=by rw[e];simp[Lib.hasPrefix]
  refine⟨hp,?_⟩;rw[Lib.trimPrefix,aC hp,e,List.drop_left];exact Sn.ae4 (by omega)
 refine ap Tryz.func226 ?_;refine bt (ID) ?_;have ep:(⟨#[115,110,97,112,45]⟩:ByteArray).data.toList=Sn.pre:=rfl;rw[ep];have hl:(Lib.trimPrefix s.data.toList Sn.pre).length<=1000000:=bq (abo _ _) (by simpa using hs);have hT:(⟨(Lib.trimPrefix s.data.toList Sn.pre).toArray⟩:ByteArray).data.toList=Lib.trimPrefix s.data.toList Sn.pre:=by simp
 have no:Lib.hasPrefix s.data.toList Sn.pre=false->sA s=none:=λh=>sz λn h1 h2 h3=>by have:=(key n h1 h2 h3).1;rw[h]at this;cases this
 cases ha:Lib.atoiAll (Lib.trimPrefix s.data.toList Sn.pre)with
 |ok v=>
  have hv:=Lib.atoiAll_bounds ha;refine aP (Ee hg (s:=⟨(Lib.trimPrefix s.data.toList Sn.pre).toArray⟩) (by rw[lX];exact hl)) ?_;rintro _ m'⟨hr,rfl⟩;conv=>whnf
  unfold S2 at hr;rw[hT,ha]at hr;subst hr;apply bI<;>intro h1
  ·conv=>whnf
   rw[Us,no (by simpa using h1)];exact rR
  refine xN ?_
  have same:∀n:Nat,1<=n->n<=999999->Sn.nm n=s->v=n:=λn h1 h2 h3=>by
   have:=(key n h1 h2 h3).2;rw[ha]at this;injection this
  cases hi:wZ v with
  |false=>
   refine bt (acJ hi) ?_;refine xY ?_;conv=>whnf
   rw[Us,sz λn h1 h2 h3=>by
    have:=same n h1 h2 h3;rw[this]at hi;have h4:wZ (n:Int)=true:=by simp[wZ];omega
    rw[h4]at hi;cases hi]
   exact rR
  |true=>
   have HR:1<=v/\v<=999999:=by simpa [wZ]using hi
   obtain⟨n,rfl⟩:∃n:Nat,v=n:=⟨v.toNat,by omega⟩;refine bt (FH hg (n:=n) (by omega) (by omega)) ?_;refine xN ?_;apply bI<;>intro h2
   ·have ga:Sn.nm n≠s:=λe=>by rw[e]at h2;simp at h2
    rw[Us,sz λk h3 h4 h5=>by
     have:=same k h3 h4 h5
     exact ga (by rw[show n=k by omega];exact h5)]
    exact rR
   ·have he:Sn.nm n=s:=by
     rw[KG]at h2;have:decide (Sn.nm n=s)=true:=by simpa using h2
     exact ah this
    conv=>whnf
    rw[Us,<-he,Qg (by omega) (by omega)];exact rR
 |range=>
  refine aP (Ee hg (s:=⟨(Lib.trimPrefix s.data.toList Sn.pre).toArray⟩) (by rw[lX];exact hl)) ?_;rintro _ m'⟨hr,rfl⟩;conv=>whnf
  unfold S2 at hr;rw[hT,ha]at hr;obtain⟨n,te,pe,rfl⟩:=hr;have xr:sA s=none:=sz λn h1 h2 h3=>by have:=(key n h1 h2 h3).2;rw[ha]at this;cases this
  conv=>whnf
  rw[Us,xr];apply bI<;>intro h1
  ·exact rR
  refine xY ?_;exact rR
 |_=>
  refine aP (Ee hg (s:=⟨(Lib.trimPrefix s.data.toList Sn.pre).toArray⟩) (by rw[lX];exact hl)) ?_;rintro _ m'⟨hr,rfl⟩;conv=>whnf
  unfold S2 at hr;rw[hT,ha]at hr;obtain⟨n,te,pe,rfl⟩:=hr;have xr:sA s=none:=sz λn h1 h2 h3=>by have:=(key n h1 h2 h3).2;rw[ha]at this;cases this
  conv=>whnf
  rw[Us,xr];apply bI<;>intro h1
  ·exact rR
  refine xY ?_;exact rR
structure Fl where
 name:ByteArray
 bx:Nat
 v:Value
 l:List Nat
 fB:Nat
 born:Nat
 p:aD
abbrev gW(v:Value)(fB:Nat):Obj:=.cells #[v,.int .i64 (fB:Int)] 160
abbrev jd(q:Int)(bm nb ns:Nat):Obj:=.cells #[.int .i64 q,.map (some bm),.int .u64 (nb:Int),.int .u64 (ns:Int)] 137
def Fl.kg(f:Fl):lq ByteArray:=⟨f.name,.v (.pointer (some ⟨f.bx,0,none⟩)),f.born⟩
def Fl.parts(f:Fl):List aD:=[blk1 f.bx (gW f.v f.fB),f.p]
abbrev mU(F:List Fl)(clock:Nat):Obj:=nk Value.string (F.map Fl.kg) clock
structure Fl.Ok(clock:Nat)(f:Fl):Prop where
 bs:Bs f.p f.v (nc f.l)
 xA:∀x∈f.l,x<256
 fB:f.fB<=f.l.length
 born:f.born<clock
structure FS(p:aD)(bf bm:Nat)(q:Int)(nb ns clock:Nat)(F:List Fl):Prop where
 sp:aq p (blk1 bf (jd q bm nb ns)::blk1 bm (mU F clock)::F.flatMap Fl.parts)
 ok:∀f∈F,f.Ok clock
 Ex:F.Pairwise λa b=>a.name≠b.name
 CE:F.Pairwise λa b=>a.born≠b.born
section
variable {p:aD}{bf bm:Nat}{q:Int}{nb ns clock:Nat}{F:List Fl}
theorem FS.sN(h:FS p bf bm q nb ns clock F):p bf=some (jd q bm nb ns):=h.sp.sub (a:=blk1 bf (jd q bm nb ns)) (by simp) _ _ (aG ..)
theorem FS.map(h:FS p bf bm q nb ns clock F):p bm=some (mU F clock):=h.sp.sub (a:=blk1 bm (mU F clock)) (by simp) _ _ (aG ..)
theorem FS.mem{f:Fl}(h:FS p bf bm q nb ns clock F)(hf:f∈F):p f.bx=some (gW f.v f.fB):=
 h.sp.sub (a:=blk1 f.bx (gW f.v f.fB)) (by simp only[aU,iu];exact .inr (.inr ⟨f,hf,by simp[Fl.parts]⟩)) _ _ (aG ..)
theorem FS.bytes{f:Fl}(h:FS p bf bm q nb ns clock F)(hf:f∈F):Bs p f.v (nc f.l):=
 (h.ok f hf).bs.sub (h.sp.sub (by simp only[aU,iu];exact .inr (.inr ⟨f,hf,by simp[Fl.parts]⟩)))
def fh(F:List Fl)(name:ByteArray):Option Fl:=F.find? λf=>decide (name=f.name)
theorem yI(name:ByteArray):∀(F:List Fl),mD name (F.map Fl.kg)=(fh F name).map λf=>.v (.pointer (some ⟨f.bx,0,none⟩))
 |[]=>rfl
 |f::F=>by
  have ih:=yI name F;unfold mD fh at*;rw[aZ,iZ,iZ];by_cases h:name=f.name
  ·simp[h,Fl.kg]
  ·have e1:decide (name=f.kg.k)=false:=aY h
   rw[e1,aY h];exact ih
theorem wF{name:ByteArray}{f:Fl}(h:fh F name=some f):f∈F/\f.name=name:=by
 refine⟨jn h,?_⟩;have:=List.find?_some h
 grind
theorem oA{name:ByteArray}{f:Fl}(h:fh F name=some f):∃A B,F=A++f::B/\(∀x∈A,x.name≠name)/\f.name=name:=by
 obtain⟨h1,A,B,h2,h3⟩:=List.find?_eq_some_iff_append.1 h
 grind
end
abbrev fy(b:Nat):CV:=.v (.pointer (some ⟨b,0,none⟩))
theorem pz:(Tryz.prog.info? 158).bind (·.zero)=some (Value.pointer none):=by kernel_rfl
variable{bm clock:Nat}{F:List Fl}{name:ByteArray}
theorem agZ(hb:m bm=some (mU F clock))(ok:Bool):
  bF tP (.lookup 130 ok) [.v (.map (some bm)),.v (.string name)] m λr m'=>r=(if ok then[((fh F name).map λf=>fy f.bx).getD (.v (.pointer none)),.v (.bool (fh F name).isSome)]else[((fh F name).map λf=>fy f.bx).getD (.v (.pointer none))])/\m=m':=by
 have h:=Qv (P:=tP) Gp Tryz.underlying130 Tryz.underlying9 (z:=.v (.pointer none)) pz rfl (k:=name) hb (λe he=>by obtain⟨f,_,rfl⟩:=aV.1 he;rfl) ok;rw[yI]at h
 grind
variable{bf:Nat}{arr:Array Value}
theorem Zd(h:m bf=some (.cells arr 137))(h1:arr[1]?=some (.map (some bm))):eN tP 313 [fy bf] m [bR true]:=by
 refine ap Tryz.func313 ?_;refine xY ?_;refine⟨_,aF h h1,rfl,?_⟩;exact rR
def DH(c:Nat):Bool:=(decide (97<=c)&&decide (c<=122))||((decide (48<=c)&&decide (c<=57))||(decide (c=45)||decide (c=46)))
def iQ(l:List Nat):Bool:=decide (0<l.length)&&decide (l.length<=20)&&l.all DH
variable{c:Nat}
theorem NH:eN tP 315 [.v (.int .u8 (c:Int))] m [bR (DH c)]:=by
 have e45:((c:Int)==45)=decide (c=45):=by by_cases h:c=45<;>simp[h];omega
 have e46:((c:Int)==46)=decide (c=46):=by by_cases h:c=46<;>simp[h];omega
 refine ap Tryz.func315 ?_;conv=>whnf
 repeat' (first|(refine⟨λh=>?_,λh=>?_⟩<;>conv=>whnf)|fail)
 all_goals (refine⟨?_,rfl⟩;(try simp only[e45,e46]at*);by_cases h45:c=45<;>by_cases h46:c=46<;>simp[DH,h45,h46]at* <;>omega)
theorem arb(s:ByteArray)(i:Nat):(s.data.toList.getD i 0).toNat=(jR s).getD i 0:=by
 simp only[jR,aI,cj]
 cases s.data.toList[i]?<;>rfl
theorem yw(hs:s.size<=1000000):eN tP 229 [.v (.string s)] m [bR (iQ (jR s))]:=by
 refine ap Tryz.func229 ?_;refine .mk (ι:=Nat) (λi=>s.size-i) (λi mm=>i<=s.size/\(∀x∈(jR s).take i,DH x=true)/\mm=m) (λi=>[(0,.c (.v (.string s))),(5,.c (i64 s.size)),(6,.c (i64 i))]) (λ_=>[]) 0 ⟨by omega,by simp,rfl⟩ ?_ ?_
 ·exact Cr
 rintro i mm⟨hi,cM,he⟩;subst mm;apply bI<;>intro h
 ·have h':=ah h
  have bH:i<s.size:=by omega
  repeat refine xS ?_
  rw[aA,arb];refine bt (NH) ?_;have HP:i<(jR s).length:=by rw[ue];omega
  have U8:(jR s)[i]?=some ((jR s).getD i 0):=by simp[az HP]
  apply bI<;>intro h3
  ·refine⟨?_,rfl⟩
   have yF:DH ((jR s).getD i 0)=false:=by simpa using h3
   have:(jR s).all DH=false:=by
    rw[uI];exact⟨_,dJ U8,by simp only[yF,cU,not_false_eq_true]⟩
   simp[iQ,this]
  ·have yF:DH ((jR s).getD i 0)=true:=by simpa using h3
   refine⟨i+1,⟨by omega,?_,rfl⟩,by omega,?_⟩
   ·intro x hx
    rw[au HP]at hx;rcases aR.1 hx with hx|hx
    ·exact cM x hx
    ·rw[aL.1 hx]
     rw[az HP]at U8;rw[eL U8];exact yF
   ·exact Cr
 ·have jc:=aj h
  obtain rfl:i=s.size:=by omega
  have hl:=ue s;rw[<-hl,aJ]at cM;have Rp:(jR s).all DH=true:=bL.2 cM;apply bI<;>intro h
  ·have h2:=ah h
   refine⟨?_,rfl⟩;simp only[iQ,Rp,hl,mj];rw[bB (show 0<s.size by omega),bj];rw[fF.2 (show((s.size:Int)<=20)↔s.size<=20 by omega)]
  ·have h2:=aj h
   refine⟨?_,rfl⟩;simp only[iQ,Rp,hl,mj];rw[aY (show ¬ 0<s.size by omega),fH]
variable{q:Int}{nb ns:Nat}
theorem rP(h:FS m bf bm q nb ns clock F):eN tP 227 [fy bf,.v (.string name)] m (match fh F name with
  |some f=>[fy f.bx,i64 0]
  |none=>[.v (.pointer none),i64 4]):=by
 refine ap Tryz.func227 ?_;refine bt (Zd h.sN rfl) ?_;refine xN ?_;refine xM h.sN ?_;refine .mk _ (agZ h.map true) ?_;rintro _ _⟨rfl,rfl⟩
 cases hf:fh F name with
 |none=>
  refine xY ?_;exact rR
 |some f=>
  refine⟨λh=>absurd h (by simp),λ_=>?_⟩;exact rR
theorem XK{o:Nat}{x y:Nat}{T:TypeId}(hb:m b=some (.cells arr T))(ho:arr[o]?=some (.int .u64 (x:Int))) (hxy:x+y<18446744073709551616):bi tP 231 [.v (.pointer (some ⟨b,o,none⟩)),.v (.int .u64 (y:Int))] m λr m'=>r=[.v (.int .u64 ((x+y:Nat):Int))]/\m'=m.set b (.cells (arr.setIfInBounds o (.int .u64 ((x+y:Nat):Int))) T):=by
 have ew:IntKind.u64.wrap ((x:Int)+(y:Int))=((x+y:Nat):Int):=by rw[wu];omega
 refine ap Tryz.func231 ?_;refine aj1 (ah4 (P:=tP) Tryz.func316 (by rfl) (by rfl) (by kernel_rfl) (by kernel_rfl) (x:=(x:Int)) hb ho) ?_;rintro _ _⟨rfl,rfl⟩;rw[ew];exact rR
def ren:Go.Shelf.Ren:=⟨rF [(125,219),(128,304),(129,305),(190,137),(258,218),(302,295),(303,296),(304,297),(305,298),(306,299),(307,300),(308,301),(309,302),(310,303),(329,356),(330,357),(333,355),(334,358),(335,359),(336,360),(344,389)],rF [(0,0),(3,3),(4,4),(5,5),(9,9),(31,156),(46,247),(51,193),(53,47),(131,339),(182,402),(183,403),(218,456),(222,459),(228,487),(229,428)],λn=>n⟩
theorem Qz:Lays.n190 tP ren:=by repeat' first|kernel_rfl|exact λ_=>rfl|decide|constructor
def tq(s:ByteArray):List UInt8:=s.data.toList
def ut(ss:List ByteArray):List ByteArray:=((ss.map tq).mergeSort λx y=>decide (x<=y)).map λl=>⟨l.toArray⟩
theorem Gt(ss:List ByteArray):(ut ss).length=ss.length:=by simp[ut]
theorem RX:wP tP 137:=λargs w=>by
 have h1:Tryz.prog.funcs[137]?=some Tryz.f137:=Tryz.func137
 have h2:(Tryz.f137.name== "runtime.NumGoroutine")=false:=by kernel_rfl
 have h3:∃c,Tryz.f137.body=some c:=⟨_,rfl⟩;obtain⟨c,h3⟩:=h3
 have OS:¬Tryz.f137.name= "runtime.NumGoroutine" :=by simpa using h2
 simp[callFunc,h1,h3,OS]
variable{k:Nat}
theorem OL{W:World}(hW:mg m W){o:Nat}{T:TypeId}{fr:Nat×Nat}(hb:m b=some (.cells arr T fr))(d:Array (List UInt8))(os:Array Obj):
  cr m W (m.set b (.cells (Sort.putCells encStr o d arr) T fr)) (Sort.grow (Sort.putRow encStr (Sort.ahead W k) b o d) os):=by
 have yD:=hW _ _ hb;have bH:=hW.lt hb
 have Bg:∀x,x<W.heap.size->(Sort.grow (Sort.putRow encStr (Sort.ahead W k) b o d) os).heap[x]?=if b=x then some (.cells (Sort.putCells encStr o d arr) T fr)else W.heap[x]?:=λx hx=>by
  have e:(Sort.grow (Sort.putRow encStr (Sort.ahead W k) b o d) os).heap=W.heap.modify b (Sort.onCells (Sort.putCells encStr o d))++os:=rfl;rw[e,fI (by simpa using hx),Array.getElem?_modify];by_cases h:b=x
  ·subst h;simp[yD,Sort.onCells]
  ·simp[h]
 refine⟨λx u hx=>?_,?_,rfl,rfl,rfl,λx hx hn=>?_,λ_=>Nat.le_add_right _ _⟩
 ·by_cases h:x=b
  ·subst h;rw[aD.bg]at hx;rw[Bg _ bH,aC rfl];exact hx
  ·rw[aD.eH _ _ h]at hx
   rw[Bg _ (hW.lt hx),if_neg (Ne.symm h)];exact hW _ _ hx
 ·grind
 ·have h:x≠b:=λe=>by subst e;rw[hb]at hn;cases hn
  exact⟨by rw[aD.eH _ _ h];exact hn,by rw[Bg _ hx,if_neg (Ne.symm h)]⟩
variable{v:Value}{ss:List ByteArray}
theorem Yw(hv:mf m 9 1 v (ss.map Value.string))(hl:ss.length<=1000000):bi tP 137 [.v v] m λr m'=>r=[]/\mf m' 9 1 v ((ut ss).map Value.string):=by
 refine⟨RX,λ_ W hW=>?_⟩;rcases hv with⟨rfl,e⟩|⟨b,o,c,n,arr,rfl,h1,h2,h3,h4,h5,h6⟩
 ·have hs:ss=[]:=by cases ss with|nil=>rfl|cons _ _=>cases e
  subst hs;exact(Any.slices_Sort_string_none Qz none 0 W).mono λe W' ⟨h1,h2⟩=>⟨[],m,h1,by simp,⟨rfl,.inl ⟨rfl,by simp[ut]⟩⟩,by subst h2;exact cr.refl hW⟩
 ·have hn:ss.length=n:=by simpa using h2
  subst hn;have yD:=hW _ _ h1;have bH:b<W.heap.size:=hW.lt h1
  have hH:Sort.Holds encStr W b o (ss.map tq).toArray:=λj hj=>by
   have hj':j<ss.length:=by simpa using hj
   refine⟨?_,by simp[World.frozen?,yD]⟩;rw[iO yD];have:=h5 j (.string ss[j]) (by simp[hj']);rw[this];simp[hj',tq,encStr]
  have hc:=calls_of_every_depth λD=>AnyS.slices_Sort_string_alone Qz D b o c (ss.map tq) W hH bH (by simp;omega);rw[aH]at hc;refine hc.mono λe W' ⟨he,k,os,hw⟩=>?_;subst he;subst hw;refine⟨[],_,rfl,by simp,⟨rfl,.inr ⟨b,o,c,ss.length,_,rfl,aD.bg ..,by rw[aH,Gt,eG],h3,?_,λj u hu=>?_,?_⟩⟩,OL hW h1 _ _⟩
  ·simp only[Sort.putCells,Array.size_mapIdx];exact h4
  ·have EN:j<ss.length:=by have:=(aQ.1 hu).1;rw[aH,Gt]at this;exact this
   have Ad:((ss.map tq).mergeSort λx y=>decide (x<=y)).toArray.size=ss.length:=by simp
   have JM:o+j<arr.size:=by omega
   rw[Sort.putCells,Array.getElem?_mapIdx,Array.getElem?_eq_getElem JM,dZ,aC ⟨by omega,by omega⟩,show o+j-o=j by omega,getElem!_pos _ j (by omega)];rw[ut,fS,cj]at hu
   grind
  ·intro u hu
   obtain⟨x,_,rfl⟩:=aV.1 hu;rfl
theorem af5:∀{fK F:List Fl},(fK.Pairwise λa b=>a.born≠b.born)->(∀f∈fK,f∈F)->∃R,(fK++R).Perm F
 |[],F,_,_=>⟨F,List.Perm.refl _⟩
 |x::vs,F,hv,hF=>by
  obtain⟨h1,h2⟩:=bh.1 hv;obtain⟨A,B,rfl⟩:=List.append_of_mem (hF x (by simp))
  obtain⟨R,hR⟩:=af5 (fK:=vs) (F:=A++B) h2 λf hf=>by
   have:=hF f (by simp[hf]);rcases aR.1 this with h|h
   ·exact lJ _ h
   ·rcases aU.1 h with rfl|h
    ·exact absurd rfl (h1 f hf)
    ·exact jp _ h
  refine⟨R,?_⟩;exact(List.Perm.cons x hR).trans ks.symm
variable{fK:List Fl}
theorem aw0(hv:fK.Pairwise λa b=>a.born≠b.born)(hF:∀f∈fK,f∈F)(hb:F.Pairwise λa b=>a.born≠b.born)(cM:∀f∈F,∃g∈fK,g.born=f.born):fK.Perm F:=by
 obtain⟨R,hR⟩:=af5 hv hF
 cases R with
 |nil=>simpa using hR
 |cons r R=>
  exfalso;have hp:=(List.Perm.pairwise_iff (λh=>Ne.symm h) hR).2 hb;have hr:r∈F:=hR.subset (by simp);obtain⟨g,hg,e⟩:=cM r hr;exact(cm.1 hp).2.2 g hg r (by simp) e
def qU(F:List Fl):Nat:=(F.map λf=>f.l.length).sum
theorem Gg{G:List Fl}(h:F.Perm G):qU F=qU G:=(h.map _).sum_nat
theorem Yh(hv:fK.Pairwise λa b=>a.born≠b.born)(hF:∀f∈fK,f∈F):qU fK<=qU F:=by
 obtain⟨R,hR⟩:=af5 hv hF;rw[<-Gg hR];simp only[qU,bD,List.sum_append];omega
theorem WQ(hv:fK.Pairwise λa b=>a.born≠b.born)(hF:∀f∈fK,f∈F):fK.length<=F.length:=by
 obtain⟨R,hR⟩:=af5 hv hF;rw[<-hR.length_eq,ax];omega
structure Vis(F fK:List Fl):Prop where
 born:fK.Pairwise λa b=>a.born≠b.born
 sub:∀f∈fK,f∈F
theorem Vis.start(F:List Fl):Vis F []:=⟨by simp,by simp⟩
variable{f:Fl}
theorem Vis.step(h:Vis F fK)(hf:f∈F)(hn:∀g∈fK,g.born≠f.born):Vis F (fK++[f]):=by
 refine⟨cm.2 ⟨h.born,by simp,λa ha b hb=>?_⟩,λg hg=>?_⟩
 ·grind
 ·rcases aR.1 hg with hg|hg
  ·exact h.sub g hg
  grind
theorem WR{e:lq ByteArray}(he:e∈iW (fK.map (·.born)) (F.map Fl.kg)):∃f∈F,e=f.kg/\∀g∈fK,g.born≠f.born:=by
 obtain⟨h1,h2⟩:=cH.1 he;obtain⟨f,hf,rfl⟩:=aV.1 h1;refine⟨f,hf,rfl,λg hg e=>?_⟩;simp only[Fl.kg,dH,jS,gz]at h2
 grind
theorem Qx(h:Vis F fK)(hb:F.Pairwise λa b=>a.born≠b.born)(he:iW (fK.map (·.born)) (F.map Fl.kg)=[]):fK.Perm F:=by
 refine aw0 h.born h.sub hb λf hf=>?_;have:=gP.1 he f.kg (aV.2 ⟨f,hf,rfl⟩);simp only[Fl.kg,dH,jS,gz,Decidable.not_not]at this
 grind
theorem hSs:∃ti,tt.get 156=some ti/\ti.k= .slice 9:=⟨_,rfl,rfl⟩
theorem hSt:∃ti,tt.get 9=some ti/\ti.size=1/\ti.bytes=16/\(LB.cz ti.zero).length=1:=⟨_,rfl,rfl,rfl,rfl⟩
abbrev sc(ss:List ByteArray):List Value:=ss.map Value.string
def So(m:aD)(v:Value)(ss:List ByteArray):Prop:=mf m 9 1 v (sc ss)
def Sl(m:aD)(v:Value)(ss:List ByteArray):Prop:=gq m 1 v (sc ss)
theorem So.sl(h:So m v ss):Sl m v ss:=mf.eF h
theorem Sl.sub{m':aD}(h:Sl m v ss)(hs:cL m m'):Sl m' v ss:=gq.sub h hs
theorem So.nil(m:aD):So m (.slice none 0 0) []:=.inl ⟨rfl,rfl⟩
theorem Sl.shape(h:Sl m v ss):∃a c,v= .slice a ss.length c:=by
 rcases h with⟨c,rfl,e⟩|⟨b,o,c,n,arr,t,fr,rfl,_,e,_⟩
 ·simp_all
 simp_all
theorem Sl.real(h:Sl m v ss){i:Nat}(hi:i<ss.length):∃b o c,v= .slice (some ⟨b,o,none⟩) ss.length c/\∀j (hj:j<ss.length),gR m b (o+j)=some (.string ss[j]):=by
 rcases h with⟨c,rfl,e⟩|⟨b,o,c,n,arr,t,fr,rfl,g1,e,_,g2,_⟩
 ·simp_all
 ·have:ss.length=n:=by simpa using e
  exact⟨b,o,c,by rw[this],λj hj=>aF g1 (g2 j _ (by simp[hj]))⟩
theorem aim{x:ByteArray}:bF tP (.buildSlice 156 1 [0]) [.v (.string x)] m λr m'=>∃b,m b=none/\r=[.v (.slice (some ⟨b,0,none⟩) 1 1)]/\m'=m.set b (.cells #[.string x] 9):=by
 obtain⟨ti,h1,h2⟩:=hSs;obtain⟨ei,g1,g2,g3,g4⟩:=hSt;exact(dm (n:=1) eR h1 h2 g1 rfl rfl (by simp[CV.cs,g2]) (by omega) (by omega)).mono λr m' ⟨b,e1,e2,e3⟩=>⟨b,e1,e2,e3⟩
variable{p:aD}
theorem aoI{ls:List aD}{i b':Nat}{x:ByteArray}{y:Value}(hs:aq m ls)(hi:ls[i]?=some p) (hb:m b'=none) (hy:So p y ss) (hl:ss.length<=10000000):
  bF tP (.builtin .append [156,156]) [.v y,.v (.slice (some ⟨b',0,none⟩) 1 1)] (m.set b' (.cells #[.string x] 9)) λr m'=>∃y' p',r=[.v y']/\aq m' (ls.set i p')/\So p' y' (ss++[x]):=by
 obtain⟨ti,h1,h2⟩:=hSs;obtain⟨ei,g1,g2,g3,g4⟩:=hSt;have bM:=hs.new hb (.cells #[.string x] 9);have e1:fg y=ss.length:=by obtain⟨a,c,rfl⟩:=hy.sl.shape;rfl
 have e2:fg (.slice (some ⟨b',0,none⟩) 1 1)=1:=rfl
 have g:s5 (m.set b' (.cells #[.string x] 9)) ei.size ti.k (.slice (some ⟨b',0,none⟩) 1 1) (sc [x]):=by
  rw[h2,g2];exact .inl ⟨_,rfl,.inl (.inr ⟨b',0,1,1,_,_,_,rfl,aD.bg ..,rfl,aW _,λj u hu=>by rw[cD,bz];exact hu,by simp[Value.oneCell']⟩)⟩
 have I7:mf p 9 ei.size y (sc ss):=by rw[g2];exact hy
 refine(kC (news:=sc [x]) eR h1 h2 g1 h1 (by rw[g2,g4]) bM (i:=i+1) (by simpa using hi) I7 g (by rw[e1,e2,g3];omega) (by rw[e1,e2];omega)).mono λr m' ⟨v',p',q1,q2,q3⟩=>⟨v',p',q1,q2.dV 0,?_⟩;have:=q3.ux;rw[g2]at this;rw[So,sc,bD];exact this
theorem DF(a b c:List UInt8)(h:decide (a<=b)=true)(k:decide (b<=c)=true):decide (a<=c)=true:=bB (List.le_trans (ah h) (ah k))
theorem DG(a b:List UInt8):(decide (a<=b)||decide (b<=a))=true:=by
 grind
theorem Yu{l l':List (List UInt8)}(h:l.Perm l'):(l.mergeSort λx y=>decide (x<=y))=l'.mergeSort λx y=>decide (x<=y):=
 List.Perm.eq_of_pairwise (le:=λa b=>decide (a<=b)=true) (λa b _ _ h1 h2=>List.le_antisymm (ah h1) (ah h2)) (ahM DF DG l) (ahM DF DG l')
  (((qR l _).trans h).trans (qR l' _).symm)
theorem Yv{a b:List ByteArray}(h:a.Perm b):ut a=ut b:=by
 rw[ut,ut,Yu (h.map tq)]
def acI(F:List Fl):List ByteArray:=ut (F.map (·.name))
theorem Nu{P:Fl->Prop}(h:∀f∈F,P f){Q:lq ByteArray->Prop}(hq:∀f,P f->Q f.kg):∀e∈F.map Fl.kg,Q e:=λe he=>by
 obtain⟨f,hf,rfl⟩:=aV.1 he;exact hq f (h f hf)
theorem KA(h:FS m bf bm q nb ns clock F)(ht:qU F<=1000000000000):bi tP 230 [fy bf] m λr m'=>r=[i64 (qU F)]/\cL m m':=by
 refine ap Tryz.func230 ?_;refine xY ?_;refine xM h.sN ?_;refine .mk _ (x3 (P:=tP) Tryz.underlying130 h.map) ?_;rintro _ _⟨it,ZC,rfl,rfl⟩;refine .mk (ι:=List Fl) (λfK=>F.length-fK.length) (λfK mm=>Vis F fK/\mm=m.set it (jx bm clock (fK.map (·.born)))) (λfK=>[(3,.c (i64 (qU fK))),(12,.c (fy it))]) (λ_=>[]) [] ⟨Vis.start F,rfl⟩ ?_ ?_
 ·exact Cr
 rintro fK mm⟨hv,rfl⟩;have EO:(m.set it (jx bm clock (fK.map (·.born)))) bm=some (mU F clock):=aD.bT _ ZC _ _ h.map;refine .mk _ (A8 (P:=tP) (aD.bg ..) EO (Nu h.ok λf hf=>hf.born) (Nu h.ok λf _=>rfl) (λ_=>rfl)) ?_;rintro _ m' (⟨he,rfl,rfl⟩|⟨e,he,rfl,rfl⟩)
 ·refine xN ?_
  have hp:=Qx hv h.CE he;exact⟨by rw[Gg hp],aD.bT _ ZC⟩
 ·obtain⟨f,hf,rfl,hn⟩:=WR he
  have lD:=hv.step hf hn;have hlen:=WQ lD.born lD.sub;have ak1:=Yh lD.born lD.sub;have et:qU (fK++[f])=qU fK+f.l.length:=by simp[qU]
  rw[ax,eV]at hlen;rw[aD.set_set];have EO:(m.set it (jx bm clock (fK.map (·.born)++[f.kg.b]))) bm=some (mU F clock):=aD.bT _ ZC _ _ h.map;have hfx:(m.set it (jx bm clock (fK.map (·.born)++[f.kg.b]))) f.bx=some (gW f.v f.fB):=aD.bT _ ZC _ _ (h.mem hf);obtain⟨a,c,Jb⟩:=(h.bytes hf).lb.shape;rw[mH]at Jb;refine xY ?_;refine .mk _ (yL (P:=tP) (aD.bg ..) EO (aV.2 ⟨f,hf,rfl⟩) (cG.2 h.CE) rfl rfl) ?_;rintro _ _⟨rfl,rfl⟩;conv=>whnf
  rw[Jb]at hfx;refine xM hfx ?_;have ew:IntKind.i64.wrap ((qU fK:Int)+(f.l.length:Int))=((qU (fK++[f]):Nat):Int):=by rw[et,wi];omega
  refine⟨fK++[f],⟨lD,by rw[bD];rfl⟩,by simp;omega,?_⟩;conv=>whnf
  repeat (refine And.intro (by first|with_reducible rfl|(first|exact cI ew)|exact cI (wi)|exact wi|rfl) ?_;conv=>whnf)
  exact xT
theorem UA(h:FS m bf bm q nb ns clock F)(hl:F.length<=1000000):bi tP 73 [fy bf] m λr m'=>∃v p,r=[.v v]/\aq m' [p,m]/\So p v (acI F):=by
 refine ap Tryz.func73 ?_;refine xY ?_;refine xM h.sN ?_;refine .mk _ (x3 (P:=tP) Tryz.underlying130 h.map) ?_;rintro _ _⟨it,ZC,rfl,rfl⟩;refine .mk (ι:=List Fl×Value) (λi=>F.length-i.1.length) (λ⟨fK,v⟩ mm=>Vis F fK/\∃p,aq mm [p,blk1 it (jx bm clock (fK.map (·.born))),m]/\So p v (fK.map (·.name))) (λ⟨fK,v⟩=>[(3,.c (.v v)),(11,.c (fy it))]) (λ_=>[]) ([],.slice none 0 0) ⟨Vis.start F,iI,((aq.one m).new ZC _).cA,So.nil _⟩ ?_ ?_
 ·exact Cr
 rintro⟨fK,v⟩ mm ⟨hv,p,hs,UX⟩;have EO:mm bm=some (mU F clock):=hs.sub (a:=m) (by simp) _ _ h.map;have alv:mm it=some (jx bm clock (fK.map (·.born))):=hs.sub (a:=blk1 it (jx bm clock (fK.map (·.born)))) (by simp) _ _ (aG ..);refine .mk _ (A8 (P:=tP) alv EO (Nu h.ok λf hf=>hf.born) (Nu h.ok λf _=>rfl) (λ_=>rfl)) ?_;rintro _ m' (⟨he,rfl,rfl⟩|⟨e,he,rfl,rfl⟩)
 ·refine xN ?_
  have hp:=Qx hv h.CE he;have hlen:fK.length=F.length:=hp.length_eq;refine aP ((Yw (m:=p) UX (by rw[aH];omega)).frame hs) ?_;rintro _ m2⟨p2,⟨rfl,lD⟩,bZ⟩;refine⟨v,p2,rfl,bZ.dV 1,?_⟩;rw[acI,<-Yv (hp.map _)];exact lD
 ·obtain⟨f,hf,rfl,hn⟩:=WR he
  have lD:=hv.step hf hn;have hlen:=WQ lD.born lD.sub;rw[ax,eV]at hlen;have bM:=hs.gu (i:=1) rfl (aG ..) (jx bm clock (fK.map (·.born)++[f.kg.b]));rw[cJ]at bM;have bM:aq _ [p,blk1 it (jx bm clock (fK.map (·.born)++[f.kg.b])),m]:=bM;have EO:(mm.set it (jx bm clock (fK.map (·.born)++[f.kg.b]))) bm=some (mU F clock):=bM.sub (a:=m) (by simp) _ _ h.map;refine xY ?_;refine .mk _ (yL (P:=tP) (aD.bg ..) EO (aV.2 ⟨f,hf,rfl⟩) (cG.2 h.CE) rfl rfl) ?_;rintro _ _⟨rfl,rfl⟩;refine .mk _ (aim) ?_;rintro _ _⟨b,hb,rfl,rfl⟩;refine .mk _ (aoI (i:=0) bM rfl hb UX (by rw[aH];omega)) ?_;rintro _ m'⟨v',p',rfl,qW,pY⟩;refine⟨(fK++[f],v'),⟨lD,p',by rw[bD];exact qW,by rw[bD];exact pY⟩,by simp;omega,?_⟩;exact Cr
section
variable {p:aD}{bf bm:Nat}{q:Int}{nb ns clock:Nat}{A B:List Fl}{f g:Fl}
theorem uX(A B:List Fl)(f:Fl)(X Y:aD):(X::Y::(A++f::B).flatMap Fl.parts).Perm (blk1 f.bx (gW f.v f.fB)::f.p::X::Y::(A++B).flatMap Fl.parts):=by
 rw[dx,dw,dx]
 have h1:(A.flatMap Fl.parts++(f.parts++B.flatMap Fl.parts)).Perm (f.parts++(A.flatMap Fl.parts++B.flatMap Fl.parts)):=by
  rw[<-aX,<-aX];exact List.Perm.append_right _ dY
 refine(List.Perm.cons X (List.Perm.cons Y h1)).trans ?_
 show(X::Y::(blk1 f.bx (gW f.v f.fB)::f.p::(A.flatMap Fl.parts++B.flatMap Fl.parts))).Perm _
 exact(dY (l₁:=[X,Y]) (l₂:=[blk1 f.bx (gW f.v f.fB),f.p])).append_right _
theorem FS.pick(h:FS p bf bm q nb ns clock (A++f::B)):aq p (blk1 f.bx (gW f.v f.fB)::f.p::blk1 bf (jd q bm nb ns)::blk1 bm (mU (A++f::B) clock)::(A++B).flatMap Fl.parts):=h.sp.fm (uX A B f _ _)
theorem acO(h1:g.name=f.name)(h2:g.bx=f.bx)(h3:g.born=f.born):(A++g::B).map Fl.kg=(A++f::B).map Fl.kg:=by
 simp only[bD,aZ,Fl.kg,h1,h2,h3]
theorem FS.put(h:FS p bf bm q nb ns clock (A++f::B)){p':aD}{oK ub:Nat}(h1:g.name=f.name)(h2:g.bx=f.bx)(h3:g.born=f.born)(ez:g.Ok clock)
  (hs:aq p' (blk1 f.bx (gW g.v g.fB)::g.p::blk1 bf (jd q bm oK ub)::blk1 bm (mU (A++f::B) clock)::(A++B).flatMap Fl.parts)):FS p' bf bm q oK ub clock (A++g::B):=by
 refine⟨?_,?_,?_,?_⟩
 ·have e:mU (A++g::B) clock=mU (A++f::B) clock:=by rw[mU,mU,acO h1 h2 h3]
  rw[e];rw[<-h2]at hs;exact hs.fm (uX A B g _ _).symm
 ·intro x hx
  rcases aR.1 hx with hx|hx
  ·exact h.ok x (by simp[hx])
  ·rcases aU.1 hx with rfl|hx
   ·exact ez
   ·exact h.ok x (by simp[hx])
 ·have:=h.Ex
  have e:(A++g::B).map (·.name)=(A++f::B).map (·.name):=by simp[h1]
  have h4:=cG.2 this
  grind
 ·have:=h.CE
  have e:(A++g::B).map (·.born)=(A++f::B).map (·.born):=by simp[h3]
  have h4:=cG.2 this
  grind
end
def Ls(F:List Fl)(name:ByteArray)(k:Fl->Fl):List Fl:=F.map λf=>if f.name=name then k f else f
variable{A B:List Fl}
theorem Ez{k:Fl->Fl}(hn:(A++f::B).Pairwise λa b=>a.name≠b.name):Ls (A++f::B) f.name k=A++k f::B:=by
 obtain⟨h1,h2,h3⟩:=cm.1 hn;obtain⟨h4,_⟩:=bh.1 h2
 have ea:A.map (λg=>if g.name=f.name then k g else g)=A:=by
  refine(eu λg hg=>?_).trans (lL A);rw[if_neg (h3 g hg f (by simp))];rfl
 have eb:B.map (λg=>if g.name=f.name then k g else g)=B:=by
  refine(eu λg hg=>?_).trans (lL B);rw[if_neg (Ne.symm (h4 g hg))];rfl
 rw[Ls,bD,aZ,ea,eb,aC rfl]
def Pp(F:List Fl)(name:ByteArray):List Fl:=Ls F name λf=>{f with fB:=f.l.length}
theorem Yo(h:FS m bf bm q nb ns clock F)(NQ:ns<=1000000000000000000):
  bi tP 232 [fy bf,.v (.string name)] m λr m'=>(r=[i64 (if (fh F name).isSome then 0 else 4)])/\FS m' bf bm q nb (if (fh F name).isSome then ns+1 else ns) clock (Pp F name):=by
 have hf:=rP (name:=name) h;refine ap Tryz.func232 ?_
 cases e:fh F name with
 |none=>
  rw[e]at hf;refine bt (hf) ?_;refine xN ?_;refine⟨rfl,?_⟩
  have:Pp F name=F:=by
   refine(eu λf hf=>?_).trans (lL F);have:=kT.1 e f hf;rw[if_neg (λe=>this (by simp[e]))];rfl
  rw[this];exact h
 |some f=>
  rw[e]at hf;obtain⟨A,B,rfl,_,rfl⟩:=oA e;have hm:=h.mem (wF e).1;obtain⟨a,c,Jb⟩:=(h.bytes (wF e).1).lb.shape;have ez:=h.ok f (by simp);have Ta:=h.pick;rw[mH]at Jb;refine bt (hf) ?_;refine xY ?_;conv=>whnf
  rw[Jb]at hm;refine xM hm ?_;refine⟨_,_,_,hm,⟨aW 2,by simp⟩,?_⟩;have bM:=Ta.gu (i:=0) rfl (aG ..) (gW f.v f.l.length);rw[cJ]at bM;have bM:aq (m.set f.bx (gW f.v f.l.length)) (blk1 f.bx (gW f.v f.l.length)::f.p::blk1 bf (jd q bm nb ns)::blk1 bm (mU (A++f::B) clock)::(A++B).flatMap Fl.parts):=bM;have kW:(m.set f.bx (gW f.v f.l.length)) bf=some (jd q bm nb ns):=bM.sub (a:=blk1 bf (jd q bm nb ns)) (by simp) _ _ (aG ..);rw[Jb]at bM kW;refine aP (XK (y:=1) kW rfl (by omega)) ?_;rintro _ m2⟨rfl,rfl⟩;have bZ:=bM.gu (i:=2) rfl (aG ..) (jd q bm nb (ns+1));rw[cJ]at bZ;refine⟨rfl,?_⟩;rw[Pp,Ez h.Ex];refine h.put (g:={f with fB:=f.l.length}) rfl rfl rfl ⟨ez.bs,ez.xA,aW _,ez.born⟩ ?_;rw[show({f with fB:=f.l.length}:Fl).v=Value.slice a f.l.length c from Jb];exact bZ
def aaf(F:List Fl)(name:ByteArray)(n:Nat)(v:Value):List Fl:=Ls F name λf=>{f with l:=f.l.take n,v:=v,fB:=min f.fB n}
def Wb(F:List Fl)(name:ByteArray)(n:Int)(e:Int)(F':List Fl):Prop:=match fh F name with
 |none=>e=4/\F'=F
 |some f=>if 0<=n/\n<=f.l.length then e=0/\∃v,F'=aaf F name n.toNat v else e=1/\F'=F
theorem Bs.aih{o:Nat}{l:List Int}(h:Bs p (.slice (some ⟨b,o,none⟩) k c) l)(_:l.length=k)(hn:n<=l.length):Bs p (.slice (some ⟨b,o,none⟩) n n) (l.take n):=by
 rcases h with⟨e,_⟩|⟨b',o',c',n',arr,e,h1,h2,h3,h4,h5,h6⟩
 ·cases e
 ·cases e
  refine .inr ⟨b,o,n,n,arr,rfl,h1,by simp[bc];omega,aW _,by omega,λj u hu=>h5 j u ?_,VW⟩;rw[bc,cj,bN]at hu;rw[bc,cj]
  grind
theorem aeD{n:Int}(h:FS m bf bm q nb ns clock F)(hl:∀f∈F,f.l.length<=100000000):
  bi tP 151 [fy bf,.v (.string name),i64 n] m λr m'=>∃e F',r=[i64 e]/\FS m' bf bm q nb ns clock F'/\Wb F name n e F':=by
 have hf:=rP (name:=name) h;refine c7 aDC Tryz.func151 ?_
 cases e:fh F name with
 |none=>
  rw[e]at hf;refine bt (hf) ?_;refine xY ?_;exact⟨4,F,rfl,h,by simp[Wb,e]⟩
 |some f=>
  rw[e]at hf;have DM:=(wF e).1;have hm:=h.mem DM;have yB:=h.bytes DM;have ez:=h.ok f DM;have hlf:=hl f DM;obtain⟨a,c,Jb⟩:=yB.lb.shape;rw[mH]at Jb;refine bt (hf) ?_;refine xN ?_;apply bI<;>intro h1
  ·have jc:=ah h1
   exact⟨1,F,rfl,h,by simp[Wb,e,show ¬(0<=n/\n<=(f.l.length:Int)) by omega]⟩
  have jc:=aj h1;rw[Jb]at hm;refine xM hm ?_;apply bI<;>intro h2
  ·have iD:=ah h2
   exact⟨1,F,rfl,h,by simp[Wb,e,show ¬(0<=n/\n<=(f.l.length:Int)) by omega]⟩
  have iD:=aj h2;obtain⟨k,rfl⟩:∃k:Nat,n=(k:Int):=⟨n.toNat,by omega⟩;have hk:k<=f.l.length:=by omega
  have hcr:∀v,Wb F name k 0 (aaf F name k v):=λv=>by
   have hc:(0<=(k:Int)/\(k:Int)<=(f.l.length:Int)):=by omega
   simp only[Wb,e];rw[aC hc,aA];exact⟨trivial,v,rfl⟩
  obtain⟨A,B,rfl,_,rfl⟩:=oA e;have Ta:=h.pick;have aAL:((min f.fB k:Nat):Int)=if (f.fB:Int)<(k:Int)then(f.fB:Int)else(k:Int):=by split<;>omega
  have qX:∀v,Bs f.p v (nc (f.l.take k))->∀m',m'=m.set f.bx (gW v (min f.fB k))->FS m' bf bm q nb ns clock (aaf (A++f::B) f.name k v):=λv hv m' rC=>by
   subst rC;have bM:=Ta.gu (i:=0) rfl (aG ..) (gW v (min f.fB k));rw[cJ]at bM;rw[aaf,Ez h.Ex];exact h.put (g:={f with l:=f.l.take k,v:=v,fB:=min f.fB k}) rfl rfl rfl ⟨hv,λx hx=>ez.xA x (bX hx),by simp only[aK];have:=ez.fB;omega,ez.born⟩ bM
  refine⟨.slice a f.l.length c,aF hm rfl,rfl,?_⟩;have ek:(k:Int).toNat=k:=by omega
  cases a with
  |none=>
   have hz:f.l.length=0/\c=0:=by
    rcases ez.bs with⟨e1,e2⟩|⟨b,o,c',n,arr,e1,_⟩
    ·rw[Jb]at e1
     injection e1 with _ e3 e4;exact⟨e3,e4⟩
    ·rw[Jb]at e1;cases e1
   obtain⟨QY,rfl⟩:=hz;obtain rfl:k=0:=by omega
   rw[QY]at hm Jb⊢
   repeat refine xS ?_
   refine⟨.int .i64 f.fB,aF hm rfl,rfl,?_⟩;conv=>whnf
   rw[show min (f.fB:Int) ((0:Nat):Int)=((min f.fB 0:Nat):Int) by omega];refine⟨_,_,_,hm,⟨aaM _,by simp⟩,?_⟩;refine⟨_,_,_,aD.bg ..,⟨aW 2,by simp⟩,?_⟩;rw[aD.set_set];exact⟨0,_,rfl,qX (.slice none 0 0) (by rw[adQ];exact Bs.nil _) _ rfl,hcr _⟩
  |some a=>
   have hsh:∃b o,a=⟨b,o,none⟩/\f.l.length<=c:=by
    rcases ez.bs with⟨e1,_⟩|⟨b,o,c',n,arr,e1,_,_,h5,_⟩
    ·rw[Jb]at e1;cases e1
    ·rw[Jb]at e1;cases e1;exact⟨b,o,rfl,h5⟩
   obtain⟨b,o,rfl,hc⟩:=hsh;have yB:Bs f.p (.slice (some ⟨b,o,none⟩) f.l.length c) (nc f.l):=by rw[<-Jb];exact ez.bs
   repeat refine xS ?_
   intro o' q1 q2
   obtain rfl:o'=o:=by
    by_cases h0:k=0
    ·have:=q2 (by omega);simpa using this
    ·have:=q1 (by omega);simpa [bK]using this
   refine⟨.int .i64 f.fB,aF hm rfl,rfl,?_⟩;conv=>whnf
   rw[show min (f.fB:Int) (k:Int)=((min f.fB k:Nat):Int) by omega];refine⟨_,_,_,hm,⟨aaM _,by simp⟩,?_⟩;refine⟨_,_,_,aD.bg ..,⟨aW 2,by simp⟩,?_⟩;rw[aD.set_set];have hcc:=yB.aih (n:=k) (by rw[mH]) (by rw[mH];exact hk);rw[show(nc f.l).take k=nc (f.l.take k) by simp[nc]]at hcc;exact⟨0,_,rfl,qX (.slice (some ⟨b,o',none⟩) k k) hcc _ rfl,hcr _⟩
theorem T8(h:FS m bf bm q nb ns clock F)(hl:∀f∈F,f.l.length<=100000000):
  bi tP 147 [fy bf,.v (.string name)] m λr m'=>∃v p,r=[.v v,i64 (if (fh F name).isSome then 0 else 4)]/\aq m' [p,m]/\Bs p v (nc (((fh F name).map (·.l)).getD [])):=by
 have hf:=rP (name:=name) h;refine ap Tryz.func147 ?_
 cases e:fh F name with
 |none=>
  rw[e]at hf;refine bt (hf) ?_;refine xY ?_;exact⟨_,iI,rfl,(aq.one m).cA,Bs.nil _⟩
 |some f=>
  rw[e]at hf;have DM:=(wF e).1;have hm:=h.mem DM;have yB:=h.bytes DM;refine bt (hf) ?_;refine xN ?_;refine⟨f.v,aF hm rfl,yB.lb.one,?_⟩;refine aP (sQ yB.lb.la (by rw[mH];exact hl f DM)) ?_;rintro _ m1⟨v,p,rfl,hs,hv⟩;exact⟨v,p,rfl,hs,hv⟩
theorem IA(hA:∀x∈A,x.name≠f.name):Fi f.name ((A++f::B).map Fl.kg)=(A++B).map Fl.kg:=by
 induction A with
 |nil=>simp[Fi,Fl.kg]
 |cons x A ih=>
  have h1:=hA x (by simp);have ih:=ih λy hy=>hA y (by simp[hy]);rw[db,aZ,Fi,if_neg (λe=>h1 (by simpa [Fl.kg]using e.symm)),ih,db,aZ]
theorem FS.Qn(h:FS p bf bm q nb ns clock (A++f::B)):(∀x∈A,x.name≠f.name)/\∀x∈B,x.name≠f.name:=by
 obtain⟨h1,h2,h3⟩:=cm.1 h.Ex;exact⟨λx hx=>h3 x hx f (by simp),λx hx=>Ne.symm ((bh.1 h2).1 x hx)⟩
theorem FS.del{p':aD}(h:FS p bf bm q nb ns clock (A++f::B))(hp:p'=p.set bm (mU (A++B) clock)):
  FS p' bf bm q nb ns clock (A++B)/\aq p' (blk1 f.bx (gW f.v f.fB)::f.p::blk1 bf (jd q bm nb ns)::blk1 bm (mU (A++B) clock)::(A++B).flatMap Fl.parts):=by
 have hs:=h.pick.gu (i:=3) rfl (aG ..) (mU (A++B) clock);rw[cJ]at hs;have hs:aq p' (blk1 f.bx (gW f.v f.fB)::f.p::blk1 bf (jd q bm nb ns)::blk1 bm (mU (A++B) clock)::(A++B).flatMap Fl.parts):=by rw[hp];exact hs
 have iH:(A++B).Sublist (A++f::B):=List.Sublist.append (List.Sublist.refl A) (List.sublist_cons_self f B);exact⟨⟨hs.drop.drop,λx hx=>h.ok x (iH.subset hx),h.Ex.sublist iH,h.CE.sublist iH⟩,hs⟩
def rmF(F:List Fl)(name:ByteArray):List Fl:=F.filter λf=>!decide (f.name=name)
theorem KN(hA:∀x∈A,x.name≠f.name)(hB:∀x∈B,x.name≠f.name):rmF (A++f::B) f.name=A++B:=by
 have ha:A.filter (λg=>!decide (g.name=f.name))=A:=bY.2 λx hx=>by simp[hA x hx]
 have hb:B.filter (λg=>!decide (g.name=f.name))=B:=bY.2 λx hx=>by simp[hB x hx]
 rw[rmF,aaB,List.filter_cons,ha,hb];simp
theorem abT(h:fh F name=none):rmF F name=F:=by
 refine bY.2 λx hx=>?_;have:=kT.1 h x hx
 grind
theorem WL(hb:m bm=some (mU F clock)):
  bF tP (.builtin .delete [130,9]) [.v (.map (some bm)),.v (.string name)] m λr m'=>r=[]/\m'=m.set bm (nk Value.string (Fi name (F.map Fl.kg)) clock):=
 Qs (P:=tP) Gp Tryz.underlying130 Tryz.underlying9 (k:=name) hb
theorem Nt{v:CV}(hb:m bm=some (mU F clock)):
  bF tP (.mapUpdate 130) [.v (.map (some bm)),.v (.string name),v] m λr m'=>m'=m.set bm (nk Value.string (uu name v clock (F.map Fl.kg)) (kS name clock (F.map Fl.kg))):=
 yr (P:=tP) Gp Tryz.underlying130 Tryz.underlying9 (k:=name) hb
theorem PS(h:FS m bf bm q nb ns clock F):
  bi tP 150 [fy bf,.v (.string name)] m λr m'=>r=[i64 (if (fh F name).isSome then 0 else 4)]/\FS m' bf bm q nb ns clock (rmF F name):=by
 have hf:=rP (name:=name) h;refine ap Tryz.func150 ?_
 cases e:fh F name with
 |none=>
  rw[e]at hf;refine bt (hf) ?_;refine xN ?_;exact⟨rfl,by rw[abT e];exact h⟩
 |some f=>
  rw[e]at hf;obtain⟨A,B,rfl,_,rfl⟩:=oA e;obtain⟨hA,hB⟩:=h.Qn;refine bt (hf) ?_;refine xY ?_;refine⟨.map (some bm),aF h.sN rfl,rfl,?_⟩;refine .mk _ (WL h.map) ?_;rintro _ _⟨rfl,rfl⟩;conv=>whnf
  rw[IA hA];exact⟨rfl,by rw[KN hA hB];exact(h.del rfl).1⟩
def fO(F:List Fl)(f:Fl)(name:ByteArray)(clock:Nat):List Fl:=match F with
 |[]=>[{f with name:=name,born:=clock}]
 |g::F=>if name=g.name then {f with name:=name,born:=g.born}::F else g::fO F f name clock
def pH(F:List Fl)(name:ByteArray)(clock:Nat):Nat:=if (fh F name).isSome then clock else clock+1
theorem Gz(f:Fl)(name:ByteArray)(clock:Nat):∀F:List Fl,uu name (.v (.pointer (some ⟨f.bx,0,none⟩))) clock (F.map Fl.kg)=(fO F f name clock).map Fl.kg
 |[]=>rfl
 |g::F=>by
  rw[aZ,uu,fO];by_cases h:name=g.name
  ·have h':name=g.kg.k:=h
   rw[aC h',aC h];rfl
  ·have h':¬name=g.kg.k:=h
   rw[if_neg h',if_neg h,Gz f name clock F];rfl
theorem AX:(fh F name=none/\fO F f name clock=F++[{f with name:=name,born:=clock}])\/∃C g D,F=C++g::D/\g.name=name/\(∀x∈C,x.name≠name)/\fh F name=some g/\fO F f name clock=C++{f with name:=name,born:=g.born}::D:=by
 induction F with
 |nil=>exact .inl ⟨rfl,rfl⟩
 |cons g F ih=>
  by_cases h:name=g.name
  ·refine .inr ⟨[],g,F,rfl,h.symm,by simp,?_,?_⟩
   ·unfold fh;rw[iZ,bB h]
   ·rw[fO,aC h];rfl
  ·have hf:fh (g::F) name=fh F name:=by unfold fh;rw[iZ,aY h]
   rcases ih with⟨h1,h2⟩|⟨C,g',D,rfl,h1,h2,h3,h4⟩
   ·refine .inl ⟨hf.trans h1,?_⟩
    rw[fO,if_neg h,h2];rfl
   ·refine .inr ⟨g::C,g',D,rfl,h1,λx hx=>?_,hf.trans h3,?_⟩
    ·rcases aU.1 hx with rfl|hx
     ·exact Ne.symm h
     ·exact h2 x hx
    ·rw[fO,if_neg h,h4];rfl
theorem Fl.Ok.later{c':Nat}(h:f.Ok c)(hc:c<=c'):f.Ok c':=⟨h.bs,h.xA,h.fB,fR h.born hc⟩
theorem FS.ins{p p':aD}{bf bm:Nat}{q:Int}{nb ns clock:Nat}{F:List Fl}{f:Fl}{name:ByteArray}(h:FS p bf bm q nb ns clock F)(hf:f.Ok clock\/(Bs f.p f.v (nc f.l)/\(∀x∈f.l,x<256)/\f.fB<=f.l.length))
  (hs:aq p (blk1 f.bx (gW f.v f.fB)::f.p::blk1 bf (jd q bm nb ns)::blk1 bm (mU F clock)::F.flatMap Fl.parts)) (hp:p'=p.set bm (nk Value.string (uu name (.v (.pointer (some ⟨f.bx,0,none⟩))) clock (F.map Fl.kg)) (kS name clock (F.map Fl.kg)))):
  FS p' bf bm q nb ns (pH F name clock) (fO F f name clock):=by
 have ZE:Bs f.p f.v (nc f.l)/\(∀x∈f.l,x<256)/\f.fB<=f.l.length:=by
  rcases hf with hf|hf
  ·exact⟨hf.bs,hf.xA,hf.fB⟩
  ·exact hf
 have ZI:kS name clock (F.map Fl.kg)=pH F name clock:=by
  unfold kS pH;rw[yI,Option.isSome_map]
 have ZH:clock<=pH F name clock:=by unfold pH;split<;>omega
 rw[Gz,ZI]at hp;have bZ:=hs.gu (i:=3) rfl (aG ..) (mU (fO F f name clock) (pH F name clock));rw[cJ]at bZ;have bZ:aq p' (blk1 f.bx (gW f.v f.fB)::f.p::blk1 bf (jd q bm nb ns)::blk1 bm (mU (fO F f name clock) (pH F name clock))::F.flatMap Fl.parts):=by rw[hp];exact bZ
 rcases AX (F:=F) (f:=f) (name:=name) (clock:=clock)with⟨h1,h2⟩|⟨C,g,D,h0,h1,h2,h3,h4⟩
 ·have hc:pH F name clock=clock+1:=by unfold pH;rw[h1];rfl
  have xr:∀x∈F,x.name≠name:=λx hx e=>by
   have:=kT.1 h1 x hx
   grind
  rw[h2]at bZ⊢;rw[hc]at bZ⊢;refine⟨?_,λx hx=>?_,?_,?_⟩
  ·have:=uX F [] {f with name:=name,born:=clock} (blk1 bf (jd q bm nb ns)) (blk1 bm (mU (F++[{f with name:=name,born:=clock}]) (clock+1)))
   rw[cO]at this;exact bZ.fm this.symm
  ·rcases aR.1 hx with hx|hx
   ·exact(h.ok x hx).later (by omega)
   ·rw[aL.1 hx];exact⟨ZE.1,ZE.2.1,ZE.2.2,Nat.lt_succ_self _⟩
  ·refine cm.2 ⟨h.Ex,by simp,λa ha b hb=>?_⟩
   grind
  ·refine cm.2 ⟨h.CE,by simp,λa ha b hb=>?_⟩
   rw[aL.1 hb];have:=(h.ok a ha).born
   grind
 ·subst h0
  have hc:pH (C++g::D) name clock=clock:=by unfold pH;rw[h3];rfl
  rw[h4]at bZ⊢;rw[hc]at bZ⊢;refine⟨?_,λx hx=>?_,?_,?_⟩
  ·
   have h5:aq p' (blk1 f.bx (gW f.v f.fB)::f.p::blk1 bf (jd q bm nb ns)::blk1 bm (mU (C++{f with name:=name,born:=g.born}::D) clock)::(C++D).flatMap Fl.parts):=by
    have h6:=bZ.fm (List.Perm.cons _ (List.Perm.cons _ (uX C D g _ _)));exact(h6.dV 2).dV 2
   exact h5.fm (uX C D {f with name:=name,born:=g.born} _ _).symm
  ·rcases aR.1 hx with hx|hx
   ·exact h.ok x (by simp[hx])
   ·rcases aU.1 hx with rfl|hx
    ·exact⟨ZE.1,ZE.2.1,ZE.2.2,(h.ok g (by simp)).born⟩
    ·exact h.ok x (by simp[hx])
  ·have e:(C++{f with name:=name,born:=g.born}::D).map (·.name)=(C++g::D).map (·.name):=by simp[h1]
   have h6:=cG.2 h.Ex
   grind
  ·have e:(C++{f with name:=name,born:=g.born}::D).map (·.born)=(C++g::D).map (·.born):=by simp
   have h6:=cG.2 h.CE
   grind
theorem aq.fb{q:aD}{l:List aD}(h:aq m (q::l)):aq m [gY l,q]/\aq (gY l) l:=by
 obtain⟨h1,h2⟩:=h;obtain⟨h3,h4⟩:=bh.1 h2;refine⟨⟨λx o hx=>?_,?_⟩,cL.refl _,h4⟩
 ·obtain⟨a,ha,Be⟩:=eQ hx
  simp only[aU,fG,rH]at ha;rcases ha with rfl|rfl
  ·obtain⟨b,hb,hx3⟩:=eQ Be
   exact h1 _ _ (jE h2 (bO _ hb) hx3)
  ·exact h1 _ _ (jE h2 (dv ..) Be)
 ·simp only[bh,aL,forall_eq,fG,false_implies,implies_true,List.Pairwise.nil,and_true]
  intro x
  cases hq:q x with
  |none=>exact .inr rfl
  |some o=>
   refine .inl (pM.2 λa ha=>?_);rcases h3 a ha x with h'|h'
   ·rw[hq]at h';cases h'
   ·exact h'
theorem aq.x7{mm:aD}{l:List aD}(h:aq mm (p::l)):∃q,(∀x∈l,cL x q)/\aq mm [p,q]/\∀m' p',aq m' [p',q]->aq m' (p'::l):=by
 obtain⟨h2,h3⟩:=aq.fb h;exact⟨gY l,λx hx=>h3.sub hx,h2.fm (List.Perm.swap _ _ _),λm' p' h4=>aq.under (a:=[p']) h4 h3⟩
theorem FS.grow(h:FS p bf bm q nb ns clock F)(hs:cL p m):FS m bf bm q nb ns clock F:=⟨h.sp.grow hs,h.ok,h.Ex,h.CE⟩
structure Af where
 name:ByteArray
 l:List Nat
 fB:Nat
def Fl.af(f:Fl):Af:=⟨f.name,f.l,f.fB⟩
abbrev kD(F:List Fl):List Af:=F.map Fl.af
def kL:List Af->ByteArray->List Nat->List Af
 |[],name,b=>[⟨name,b,0⟩]
 |x::A,name,b=>if name=x.name then {x with l:=x.l++b}::A else x::kL A name b
theorem IS{g:Fl}{b:List Nat}(hA:∀x∈A,x.name≠f.name)(h1:g.name=f.name)(h2:g.l=f.l++b)(h3:g.fB=f.fB):kD (A++g::B)=kL (kD (A++f::B)) f.name b:=by
 induction A with
 |nil=>simp only[bV,aZ,kL,Fl.af];rw[aC trivial,h1,h2,h3]
 |cons x A ih=>
  have hx:=hA x (by simp);have ih:=ih λy hy=>hA y (by simp[hy]);simp only[kD,db,aZ,kL]at ih⊢;rw[if_neg (λe=>hx (by simpa [Fl.af]using e.symm)),ih]
theorem SL{b:List Nat}(h:∀x∈F,x.name≠name)(h1:f.name=name)(h2:f.l=b)(h3:f.fB=0):kD (F++[f])=kL (kD F) name b:=by
 induction F with
 |nil=>simp[kL,Fl.af,h1,h2,h3]
 |cons x A ih=>
  have hx:=h x (by simp);have ih:=ih λy hy=>h y (by simp[hy]);simp only[kD,db,aZ,kL]at ih⊢;rw[if_neg (λe=>hx (by simpa [Fl.af]using e.symm)),ih]
theorem SJ{m mm p0:aD}{bf bm:Nat}{q:Int}{nb ns clock:Nat}{A B:List Fl}{f:Fl}{vb:Value}{lb:List Nat}{R:List CV->aD->Prop}(h:FS p0 bf bm q nb ns clock (A++f::B))(hs:aq mm [p0,m])(hb:La m vb (nc lb))(xt:∀x∈lb,x<256)(hl:f.l.length+lb.length<=100000000)(hnb:nb<=1000000000000000000)
  (hR:∀p' m' g,g.name=f.name->g.l=f.l++lb->g.fB=f.fB->aq m' [p',m]->FS p' bf bm q (nb+lb.length) ns clock (A++g::B)->R [i64 0] m'):
  Tl axn (AU 11 (yX Tryz.f149)) (Mm tt.get Tryz.f149.results.toList R)
   [(0,.c (fy bf)),(2,.c (.v vb)),(7,.c (fy f.bx))] [] mm []:=by
 obtain⟨ab,cb,rfl⟩:=hb.shape;rw[mH]at hb⊢;have ez:=h.ok f (by simp);have bM:aq mm (m::blk1 f.bx (gW f.v f.fB)::f.p::blk1 bf (jd q bm nb ns)::blk1 bm (mU (A++f::B) clock)::(A++B).flatMap Fl.parts):=(hs.fm (List.Perm.swap _ _ _)).under (a:=[m]) h.pick;have hm:mm f.bx=some (gW f.v f.fB):=bM.sub (a:=blk1 f.bx (gW f.v f.fB)) (by simp) _ _ (aG ..);have ox:=ez.bs.lb.one;refine .at ?_;refine⟨f.v,aF hm rfl,ox,?_⟩;refine .mk _ (nQ (i:=2) bM rfl ez.bs (hb.sub (bM.sub)) (by simp;omega)) ?_;rintro _ m2⟨v2,p2,rfl,bZ,lD⟩;have bZ:aq m2 (m::blk1 f.bx (gW f.v f.fB)::p2::blk1 bf (jd q bm nb ns)::blk1 bm (mU (A++f::B) clock)::(A++B).flatMap Fl.parts):=bZ;have vD:m2 f.bx=some (gW f.v f.fB):=bZ.sub (a:=blk1 f.bx (gW f.v f.fB)) (by simp) _ _ (aG ..);refine⟨_,_,_,vD,⟨aaM _,by simp⟩,?_⟩;have dy:=bZ.gu (i:=1) rfl (aG ..) (gW v2 f.fB);rw[cJ]at dy;have dy:aq (m2.set f.bx (gW v2 f.fB)) (m::blk1 f.bx (gW v2 f.fB)::p2::blk1 bf (jd q bm nb ns)::blk1 bm (mU (A++f::B) clock)::(A++B).flatMap Fl.parts):=dy;have Ah:(m2.set f.bx (gW v2 f.fB)) bf=some (jd q bm nb ns):=dy.sub (a:=blk1 bf (jd q bm nb ns)) (by simp) _ _ (aG ..);have ew:IntKind.u64.wrap (lb.length:Int)=(lb.length:Int):=wu;conv=>whnf
 rw[ew];refine aP (XK (x:=nb) (y:=lb.length) Ah rfl (by omega)) ?_;rintro _ m4⟨rfl,rfl⟩;have eP:=dy.gu (i:=3) rfl (aG ..) (jd q bm (nb+lb.length) ns);rw[cJ]at eP;obtain⟨h5,h6⟩:=aq.fb eP;refine hR _ _ {f with v:=v2,l:=f.l++lb,p:=p2} rfl rfl rfl h5 ?_;refine h.put (g:={f with v:=v2,l:=f.l++lb,p:=p2}) rfl rfl rfl ⟨?_,λx hx=>?_,?_,ez.born⟩ h6
 ·have:=lD.ux
  rw[show nc f.l++nc lb=nc (f.l++lb) by simp[nc]]at this;exact this
 ·rcases aR.1 hx with hx|hx
  ·exact ez.xA x hx
  ·exact xt x hx
 ·have:=ez.fB
  simp only[ax];omega
def iP(A:List Af):Nat:=(A.map (·.l.length)).sum
theorem xJ(F:List Fl):iP (kD F)=qU F:=by simp[iP,qU,kD,Fl.af,Function.comp_def]
def I1(A:List Af)(name:ByteArray)(lb:List Nat)(q e:Int)(A':List Af)(nb oK:Nat):Prop:=
 if iQ (jR name)=false then e=1/\A'=A/\oK=nb else if 0<q/\q<(iP A+lb.length:Nat)then e=5/\A'=A/\oK=nb else e=0/\A'=kL A name lb/\oK=nb+lb.length
theorem ajk{mx my:aD}{ob:Obj}{l:List Nat}(h:m b=some ob)(hx:cL m mx)(hy:cL m my)(hl:∀x∈l,x=b):N8 l mx my:=λx xq=>by
 rw[hl x xq,hx _ _ h,hy _ _ h]
theorem OH{m mm p:aD}{bf bm:Nat}{q:Int}{nb ns clock:Nat}{F:List Fl}{name:ByteArray}{vb:Value}{lb:List Nat}(h:FS p bf bm q nb ns clock F)(hs:aq mm [p,m])(hv:La m vb (nc lb))(xt:∀x∈lb,x<256)(hn:name.size<=1000000)(hq:0<=q/\q<=9223372036854775807)
  (hl:∀f∈F,f.l.length<=90000000) (hlb:lb.length<=10000000) (ak1:qU F<=1000000000000) (hnb:nb<=1000000000000000000):
  bi tP 149 [fy bf,.v (.string name),.v vb] mm λr m'=>∃e p' F' IG oK,r=[i64 e]/\aq m' [p',m]/\FS p' bf bm q oK ns IG F'/\I1 (kD F) name lb q e (kD F') nb oK:=by
 have hM:=h.grow (hs.sub);have hf:=rP (name:=name) hM;obtain⟨ab,cb,rfl⟩:=hv.shape;rw[mH]at hv⊢
 have Wk:∀mm p clock A f B,FS p bf bm q nb ns clock (A++f::B)->aq mm [p,m]->(∀x∈A,x.name≠f.name)->f.l.length<=90000000->iQ (jR name)=true->¬(0<q/\q<(iP (kD F)+lb.length:Nat))->(∀g:Fl,g.name=f.name->g.l=f.l++lb->g.fB=f.fB->kD (A++g::B)=kL (kD F) name lb)->
   Tl axn (AU 11 (yX Tryz.f149)) (Mm tt.get Tryz.f149.results.toList λr m'=>∃e p' F' IG oK,r=[i64 e]/\aq m' [p',m]/\FS p' bf bm q oK ns IG F'/\I1 (kD F) name lb q e (kD F') nb oK)
   [(0,.c (fy bf)),(2,.c (.v (.slice ab lb.length cb))),(7,.c (fy f.bx))] [] mm []:=by
  intro mm p clock A f B h1 h2 hA h3 h4 h5 h6;refine SJ h1 h2 hv xt (by omega) hnb λp' m' g e1 e2 e3 h7 h8=>⟨0,p',A++g::B,clock,nb+lb.length,rfl,h7,h8,?_⟩;rw[I1,if_neg (by rw[h4];decide),if_neg h5];exact⟨rfl,h6 g e1 e2 e3,rfl⟩
 refine c7 axn Tryz.func149 ?_
 cases e:fh F name with
 |none=>
  rw[e]at hf
  have xr:∀x∈F,x.name≠name:=λx hx e'=>by
   have:=kT.1 e x hx;simp[e']at this
  refine bt (hf) ?_;refine xN ?_;refine bt (yw hn) ?_
  cases Tb:iQ (jR name)with
  |false=>
   refine xY ?_;exact⟨1,p,F,clock,nb,rfl,hs,h,by rw[I1,aC Tb];exact⟨rfl,rfl,rfl⟩⟩
  |true=>
   refine xN ?_;refine⟨.int .i64 q,aF hM.sN rfl,rfl,?_⟩;apply bI<;>intro h1
   ·have mQ:=ah h1
    have ew:IntKind.i64.wrap (q-(lb.length:Int))=q-(lb.length:Int):=wi;refine⟨.int .i64 q,aF hM.sN rfl,rfl,?_⟩;conv=>whnf
    rw[ew];refine aP (KA hM ak1) ?_;rintro _ m1⟨rfl,hsu⟩;conv=>whnf
    first|(refine⟨ajk hM.sN (cL.refl _) hsu (by simp),?_⟩;conv=>whnf)|skip
    have bM:=hs.grow hsu;apply bI<;>intro h2
    ·have iD:=ah h2
     exact⟨5,p,_,clock,nb,rfl,bM,h,by rw[I1,if_neg (by rw[Tb];decide),aC ⟨mQ,by rw[xJ];omega⟩];exact⟨rfl,rfl,rfl⟩⟩
    ·have iD:=aj h2
     have jH:¬(0<q/\q<(iP (kD F)+lb.length:Nat)):=λhx=>by have:=hx.2;rw[xJ]at this;omega
     refine xY ?_;intro b hb;have hpb:p b=none:=bM.none hb p (by simp);have bZ:=(bM.new hb (gW (.slice none 0 0) 0)).jo;have hP:=((((aq.one p).new hpb (gW (.slice none 0 0) 0)).under (a:=[blk1 b (gW (.slice none 0 0) 0)]) h.sp).cA).fm (List.Perm.swap _ _ _);rw[<-pB]at hP;have xf:FS (ig (blk1 b (gW (.slice none 0 0) 0)) p) bf bm q nb ns clock F:=h.grow (by rw[pB];exact aD.bT _ hpb);have hM2:=xf.grow (bZ.sub);refine⟨.map (some bm),aF hM2.sN rfl,rfl,?_⟩;refine .mk _ (Nt (v:=fy b) hM2.map) ?_;rintro _ m' rfl;have dy:=bZ.set xf.map (nk Value.string (uu name (fy b) clock (F.map Fl.kg)) (kS name clock (F.map Fl.kg)));have lE:=xf.ins (f:=⟨name,b,.slice none 0 0,[],0,clock,iI⟩) (name:=name) (.inr ⟨Bs.nil _,by simp,aW _⟩) hP rfl
     have hpf:fO F ⟨name,b,.slice none 0 0,[],0,clock,iI⟩ name clock=F++[⟨name,b,.slice none 0 0,[],0,clock,iI⟩]:=by
      rcases AX (F:=F) (f:=⟨name,b,.slice none 0 0,[],0,clock,iI⟩) (name:=name) (clock:=clock)with⟨_,h2⟩|⟨C,g,D,h0,_,_,h3,_⟩
      ·exact h2
      ·rw[e]at h3;cases h3
     rw[hpf]at lE;have tl:=Wk _ _ _ _ _ [] lE dy xr (by simp) Tb jH (λg e1 e2 e3=>SL xr e1 (by rw[e2];rfl) e3)
     conv at tl=>whnf
     refine .via _ _ ?_ tl;exact Cr
   ·have mQ:=aj h1
    have jH:¬(0<q/\q<(iP (kD F)+lb.length:Nat)):=λhx=>mQ hx.1;have bM:=hs;refine xY ?_;intro b hb;have hpb:p b=none:=bM.none hb p (by simp);have bZ:=(bM.new hb (gW (.slice none 0 0) 0)).jo;have hP:=((((aq.one p).new hpb (gW (.slice none 0 0) 0)).under (a:=[blk1 b (gW (.slice none 0 0) 0)]) h.sp).cA).fm (List.Perm.swap _ _ _);rw[<-pB]at hP;have xf:FS (ig (blk1 b (gW (.slice none 0 0) 0)) p) bf bm q nb ns clock F:=h.grow (by rw[pB];exact aD.bT _ hpb);have hM2:=xf.grow (bZ.sub);refine⟨.map (some bm),aF hM2.sN rfl,rfl,?_⟩;refine .mk _ (Nt (v:=fy b) hM2.map) ?_;rintro _ m' rfl;have dy:=bZ.set xf.map (nk Value.string (uu name (fy b) clock (F.map Fl.kg)) (kS name clock (F.map Fl.kg)));have lE:=xf.ins (f:=⟨name,b,.slice none 0 0,[],0,clock,iI⟩) (name:=name) (.inr ⟨Bs.nil _,by simp,aW _⟩) hP rfl
    have hpf:fO F ⟨name,b,.slice none 0 0,[],0,clock,iI⟩ name clock=F++[⟨name,b,.slice none 0 0,[],0,clock,iI⟩]:=by
     rcases AX (F:=F) (f:=⟨name,b,.slice none 0 0,[],0,clock,iI⟩) (name:=name) (clock:=clock)with⟨_,h2⟩|⟨C,g,D,h0,_,_,h3,_⟩
     ·exact h2
     ·rw[e]at h3;cases h3
    rw[hpf]at lE;have tl:=Wk _ _ _ _ _ [] lE dy xr (by simp) Tb jH (λg e1 e2 e3=>SL xr e1 (by rw[e2];rfl) e3)
    conv at tl=>whnf
    refine .via _ _ ?_ tl;exact Cr
 |some f=>
  rw[e]at hf;obtain⟨A,B,rfl,hA,rfl⟩:=oA e;have hlf:=hl f (by simp);refine bt (hf) ?_;refine xN ?_;refine bt (yw hn) ?_
  cases Tb:iQ (jR f.name)with
  |false=>
   refine xY ?_;exact⟨1,p,_,clock,nb,rfl,hs,h,by rw[I1,aC Tb];exact⟨rfl,rfl,rfl⟩⟩
  |true=>
   refine xN ?_;refine⟨.int .i64 q,aF hM.sN rfl,rfl,?_⟩;apply bI<;>intro h1
   ·have mQ:=ah h1
    have ew:IntKind.i64.wrap (q-(lb.length:Int))=q-(lb.length:Int):=wi;refine⟨.int .i64 q,aF hM.sN rfl,rfl,?_⟩;conv=>whnf
    rw[ew];refine aP (KA hM ak1) ?_;rintro _ m1⟨rfl,hsu⟩;conv=>whnf
    first|(refine⟨ajk hM.sN (cL.refl _) hsu (by simp),?_⟩;conv=>whnf)|skip
    have bM:=hs.grow hsu;apply bI<;>intro h2
    ·have iD:=ah h2
     exact⟨5,p,_,clock,nb,rfl,bM,h,by rw[I1,if_neg (by rw[Tb];decide),aC ⟨mQ,by rw[xJ];omega⟩];exact⟨rfl,rfl,rfl⟩⟩
    ·have iD:=aj h2
     have jH:¬(0<q/\q<(iP (kD (A++f::B))+lb.length:Nat)):=λhx=>by have:=hx.2;rw[xJ]at this;omega
     refine xN ?_;have tl:=Wk _ _ _ _ _ _ h bM hA hlf Tb jH (λg e1 e2 e3=>IS hA e1 e2 e3)
     conv at tl=>whnf
     refine .via _ _ ?_ tl;exact Cr
   ·have mQ:=aj h1
    have jH:¬(0<q/\q<(iP (kD (A++f::B))+lb.length:Nat)):=λhx=>mQ hx.1;have bM:=hs;refine xN ?_;have tl:=Wk _ _ _ _ _ _ h bM hA hlf Tb jH (λg e1 e2 e3=>IS hA e1 e2 e3)
    conv at tl=>whnf
    refine .via _ _ ?_ tl;exact Cr
def aaN(a:Af)(x:Int):Nat:=(min (max x 0) ((a.l.length:Int)-a.fB)).toNat
def adq(A:List Af)(name:ByteArray)(x:Int):List Af:=A.map λa=>if a.name=name then⟨a.name,a.l.take (a.fB+aaN a x),a.fB+aaN a x⟩else a
def aaH(N:List ByteArray)(dO:List Int)(A:List Af):Nat->List Af
 |0=>A
 |i+1=>adq (aaH N dO A i) (N.getD i ByteArray.empty) (dO.getD i 0)
def aaI(A:List Af)(dO:List Int):List Af:=aaH (ut (A.map (·.name))) dO A A.length
theorem afG(A:List Af)(name:ByteArray)(x:Int):(adq A name x).map (·.name)=A.map (·.name):=by
 simp only[adq,fS];refine eu λa _=>?_
 grind
theorem adM(N:List ByteArray)(dO:List Int)(A:List Af):∀i,(aaH N dO A i).map (·.name)=A.map (·.name)
 |0=>rfl
 |i+1=>by rw[aaH,afG,adM N dO A i]
theorem aay(F:List Fl):(kD F).map (·.name)=F.map (·.name):=by simp[kD,Fl.af]
theorem zf(ss:List ByteArray):(ut ss).Perm ss:=by
 have h1:((ss.map tq).mergeSort λx y=>decide (x<=y)).Perm (ss.map tq):=qR _ _;have h2:=h1.map λl:List UInt8=>(⟨l.toArray⟩:ByteArray);rw[fS]at h2
 have e:ss.map ((λl:List UInt8=>(⟨l.toArray⟩:ByteArray))∘tq)=ss:=by
  refine(eu λs _=>?_).trans (lL ss)
  cases s;simp[tq]
 rw[e]at h2;exact h2
theorem afF{g:Fl}{x:Int}(hA:∀y∈A,y.name≠f.name)(hB:∀y∈B,y.name≠f.name)(hg:g.af=⟨f.name,f.l.take (f.fB+aaN f.af x),f.fB+aaN f.af x⟩):kD (A++g::B)=adq (kD (A++f::B)) f.name x:=by
 have h1:∀L:List Fl,(∀y∈L,y.name≠f.name)->(L.map Fl.af).map (λa=>if a.name=f.name then(⟨a.name,a.l.take (a.fB+aaN a x),a.fB+aaN a x⟩:Af)else a)=L.map Fl.af:=λL hL=>by
  refine(eu λa ha=>?_).trans (lL _);obtain⟨y,hy,rfl⟩:=aV.1 ha;rw[if_neg (show ¬y.af.name=f.name from λe=>hL y hy e)];rfl
 simp only[kD,adq,bD,aZ];rw[h1 A hA,h1 B hB,hg,aC (show f.af.name=f.name from rfl)];rfl
theorem ahh{mm:aD}{vl:Value}{dO:List Int}(h:FS p bf bm q nb ns clock F)(hs:aq mm [p,m])(hv:Ia m vl dO)(Q9:dO.length<=9223372036854775807)(hl:∀f∈F,f.l.length<=90000000)(hF:F.length<=1000000)(hI:∀x∈dO,-9223372036854775808<=x/\x<=9223372036854775807):
  bi tP 36 [fy bf,.v vl] mm λr m'=>∃p' F',r=[]/\aq m' [p',m]/\FS p' bf bm q nb ns clock F'/\kD F'=aaI (kD F) dO/\∀f∈F',f.l.length<=90000000:=by
 obtain⟨a,c,rfl⟩:=hv.shape;have hN:(acI F).length=F.length:=by rw[acI,Gt,aH]
 have hNs:ut ((kD F).map (·.name))=acI F:=by rw[aay];rfl
 refine c7 c36 Tryz.func36 ?_;refine aP (UA (h.grow (hs.sub)) hF) ?_;rintro _ m1⟨vn,pn,rfl,hsn,hvn⟩;have hsn:aq m1 [pn,p,m]:=hsn.under (a:=[pn]) hs;have hsn:aq m1 [p,pn,m]:=hsn.fm (List.Perm.swap _ _ _);obtain⟨an,cn,rfl⟩:=hvn.sl.shape;rw[hN]at hvn⊢
 refine .mk (ι:=Nat) (λi=>F.length-i) (λi mm=>i<=F.length/\∃p' F',aq mm [p',pn,m]/\FS p' bf bm q nb ns clock F'/\kD F'=aaH (acI F) dO (kD F) i/\∀f∈F',f.l.length<=90000000)
  (λi=>[(0,.c (fy bf)),(1,.c (.v (.slice a dO.length c))),(9,.c (.v (.slice an F.length cn))),(10,.c (i64 F.length)),(11,.c (i64 i))]) (λ_=>[]) 0 ⟨by omega,p,F,hsn,h,rfl,hl⟩ ?_ ?_
 ·exact Cr
 rintro i mm⟨hi,p,F2,hs,h,hab,hl⟩;apply bI<;>intro h1;rotate_left
 ·have jc:=aj h1
  obtain rfl:i=F.length:=by omega
  exact⟨p,F2,rfl,hs.dV 1,h,by rw[hab,aaI,hNs,aH],hl⟩
 have jc:=ah h1;have bH:i<F.length:=by omega
 obtain⟨bn,on,c',hh,hg⟩:=(hvn.sl.sub (hs.sub (a:=pn))).real (i:=i) (by omega);rw[hN]at hh;injection hh with eK _ fN;subst eK;have hg:=hg i (by omega)
 have DM:(acI F)[i]'(by omega)∈F2.map (·.name):=by
  have h2:(acI F)[i]'(by omega)∈F.map (·.name):=(zf _).subset (aO _);have h3:=be (List.map (·.name)) hab;rw[aay,adM,aay]at h3;rw[h3];exact h2
 have NU:(acI F).getD i ByteArray.empty=(acI F)[i]'(by omega):=by rw[aI,az (by omega)];rfl
 have dI:aaH (acI F) dO (kD F) (i+1)=adq (kD F2) ((acI F)[i]'(by omega)) (dO.getD i 0):=by rw[aaH,NU,<-hab]
 generalize (acI F)[i]'(by omega)=name at hg DM dI
 obtain⟨f,hfn,hfe⟩:∃f,fh F2 name=some f/\True:=by
  cases e:fh F2 name with
  |some f=>exact⟨f,rfl,trivial⟩
  |none=>
   obtain⟨g,Ag,hg2⟩:=aV.1 DM;have:=kT.1 e g Ag;simp[hg2]at this
 have hfm:=(wF hfn).1;have ez:=h.ok f hfm;have hlf:=hl f hfm;have hM:=h.grow (hs.sub (a:=p));have hmf:=hM.mem hfm
 have qX:∀v n s,f.fB+n=s->Bs f.p v (nc (f.l.take s))->n=aaN f.af (dO.getD i 0)->∃p' F',aq (mm.set f.bx (gW v s)) [p',pn,m]/\FS p' bf bm q nb ns clock F'/\kD F'=aaH (acI F) dO (kD F) (i+1)/\∀f∈F',f.l.length<=90000000:=by
  intro v n s hsx hvb hn;obtain⟨A,B,rfl,hA,ar2⟩:=oA hfn;subst ar2;obtain⟨hA,hB⟩:=h.Qn;have bZ:=hs.set (h.mem hfm) (gW v s);have hp:=h.pick.gu (i:=0) rfl (aG ..) (gW v s);rw[cJ]at hp
  have hle:s<=f.l.length:=by
   have:=ez.fB;subst hn;unfold aaN at hsx;simp only[Fl.af]at hsx;omega
  refine⟨_,_,bZ,h.put (g:={f with l:=f.l.take s,v:=v,fB:=s}) rfl rfl rfl ⟨hvb,λx hx=>ez.xA x (bX hx),by simp only[aK];omega,ez.born⟩ hp,?_,?_⟩
  ·rw[dI]
   refine afF hA hB ?_;subst hsx;subst hn;rfl
  ·intro x hx
   rcases aR.1 hx with hx|hx
   ·exact hl x (by simp[hx])
   ·rcases aU.1 hx with rfl|hx
    ·simp only[aK];omega
    ·exact hl x (by simp[hx])
 have aA7:=ez.fB
 repeat refine xS ?_
 refine⟨.string name,by simp only[bK,aA];exact hg,rfl,?_⟩;refine⟨.map (some bm),aF hM.sN rfl,rfl,?_⟩;refine .mk _ (agZ hM.map false) ?_;rintro _ _⟨rfl,rfl⟩;conv=>whnf
 rw[hfn];apply bI<;>intro h2
 ·have iD:=ah h2
  have hil:i<dO.length:=by omega
  obtain⟨bl,ol,c',hh,hgl⟩:=(hv.sub (hs.sub (a:=m))).real hil;injection hh with eK _ fN;subst eK;have hgl:=hgl i hil;have hx:=hI _ (aO hil);have hxd:dO.getD i 0=dO[i]:=by rw[aI,az hil];rfl
  rw[hxd]at qX;generalize dO[i]=x at hgl hx qX;obtain⟨av,cv,avP⟩:=ez.bs.lb.shape;rw[mH]at avP;have ewl:IntKind.i64.wrap ((f.l.length:Int)-(f.fB:Int))=(f.l.length:Int)-(f.fB:Int):=wi;have JN:min (max x 0) ((f.l.length:Int)-(f.fB:Int))=((aaN f.af x:Nat):Int):=by unfold aaN;simp only[Fl.af];omega
  have Tc:aaN f.af x<=f.l.length-f.fB:=by unfold aaN;simp only[Fl.af];omega
  have avz:=hmf;rw[avP]at avz
  repeat refine xS ?_
  refine⟨.int .i64 x,by simp only[bK,aA];exact hgl,rfl,?_⟩;refine⟨.slice av f.l.length cv,aF avz rfl,rfl,?_⟩;refine⟨.int .i64 f.fB,aF hmf rfl,rfl,?_⟩;conv=>whnf
  rw[ewl,JN];generalize vd:aaN f.af x=n at Tc qX;have iU:f.fB+n<=f.l.length:=by omega
  refine⟨.int .i64 f.fB,aF hmf rfl,rfl,?_⟩;have ew7:IntKind.i64.wrap ((f.fB:Int)+((n:Nat):Int))=((f.fB+n:Nat):Int):=by rw[wi];omega
  refine⟨_,_,_,hmf,⟨aW 2,by simp⟩,?_⟩;rw[ew7];generalize hsx:f.fB+n=s at iU⊢;have adp:(mm.set f.bx (gW f.v s)) f.bx=some (gW f.v s):=aD.bg ..;rcases ez.bs.lb.cases with⟨c,Jb,Bh⟩|⟨b,o,c,arr,t,fr,Jb,h5⟩
  ·have hz:f.l.length=0:=by simpa using be List.length Bh
   obtain rfl:s=0:=by omega
   have hc0:c=0:=by
    rcases ez.bs with⟨e1,e2⟩|⟨b,o,c',n,arr,e1,_⟩
    ·rw[Jb]at e1;injection e1
    ·rw[Jb]at e1;cases e1
   subst hc0;rw[Jb]at adp⊢;refine⟨.slice none 0 0,aF adp rfl,rfl,?_⟩;refine⟨.int .i64 ((0:Nat):Int),aF adp rfl,rfl,?_⟩;refine⟨.int .i64 ((0:Nat):Int),aF adp rfl,rfl,?_⟩
   repeat refine xS ?_
   refine⟨_,_,_,adp,⟨aaM _,by simp⟩,?_⟩;rw[aD.set_set];obtain⟨p',F',k1,k2,k3⟩:=qX (.slice none 0 0) n 0 hsx (by rw[adQ];exact Bs.nil _) rfl;refine⟨i+1,⟨by omega,p',F',k1,k2,k3⟩,by omega,?_⟩;exact Cr
  ·have hcc:f.l.length<=c:=by
    rcases ez.bs with⟨e1,_⟩|⟨b,o,c',n,arr,e1,_,_,h6,_⟩
    ·rw[Jb]at e1;cases e1
    ·rw[Jb,mH]at e1;cases e1;exact h6
   rw[mH]at Jb;have yB:Bs f.p (.slice (some ⟨b,o,none⟩) f.l.length c) (nc f.l):=by rw[<-Jb];exact ez.bs
   rw[Jb]at adp⊢;refine⟨.slice (some ⟨b,o,none⟩) f.l.length c,aF adp rfl,rfl,?_⟩;refine⟨.int .i64 (s:Int),aF adp rfl,rfl,?_⟩;refine⟨.int .i64 (s:Int),aF adp rfl,rfl,?_⟩
   repeat refine xS ?_
   intro o' q1 q2
   obtain rfl:o'=o:=by
    by_cases h0:s=0
    ·have:=q2 (by omega);simpa using this
    ·have:=q1 (by omega);simpa [bK]using this
   refine⟨_,_,_,adp,⟨aaM _,by simp⟩,?_⟩;rw[aD.set_set];have hct:=yB.aih (n:=s) (by rw[mH]) (by rw[mH];exact iU);rw[show(nc f.l).take s=nc (f.l.take s) by simp[nc]]at hct;obtain⟨p',F',k1,k2,k3⟩:=qX (.slice (some ⟨b,o',none⟩) s s) n s hsx hct rfl;refine⟨i+1,⟨by omega,p',F',k1,k2,k3⟩,by omega,?_⟩;exact Cr
 ·have iD:=aj h2
  have hxd:dO.getD i 0=0:=by rw[aI,jr (by omega)];rfl
  rw[hxd]at qX;have hn0:0=aaN f.af 0:=by unfold aaN;simp only[Fl.af];omega
  have iU:f.fB+0<=f.l.length:=by omega
  refine⟨.int .i64 f.fB,aF hmf rfl,rfl,?_⟩;have ew7:IntKind.i64.wrap ((f.fB:Int)+0)=((f.fB+0:Nat):Int):=by rw[wi];omega
  refine⟨_,_,_,hmf,⟨aW 2,by simp⟩,?_⟩;rw[ew7];generalize hsx:f.fB+0=s at iU⊢;have adp:(mm.set f.bx (gW f.v s)) f.bx=some (gW f.v s):=aD.bg ..;rcases ez.bs.lb.cases with⟨c,Jb,Bh⟩|⟨b,o,c,arr,t,fr,Jb,h5⟩
  ·have hz:f.l.length=0:=by simpa using be List.length Bh
   obtain rfl:s=0:=by omega
   have hc0:c=0:=by
    rcases ez.bs with⟨e1,e2⟩|⟨b,o,c',n,arr,e1,_⟩
    ·rw[Jb]at e1;injection e1
    ·rw[Jb]at e1;cases e1
   subst hc0;rw[Jb]at adp⊢;refine⟨.slice none 0 0,aF adp rfl,rfl,?_⟩;refine⟨.int .i64 ((0:Nat):Int),aF adp rfl,rfl,?_⟩;refine⟨.int .i64 ((0:Nat):Int),aF adp rfl,rfl,?_⟩
   repeat refine xS ?_
   refine⟨_,_,_,adp,⟨aaM _,by simp⟩,?_⟩;rw[aD.set_set];obtain⟨p',F',k1,k2,k3⟩:=qX (.slice none 0 0) 0 0 hsx (by rw[adQ];exact Bs.nil _) hn0;refine⟨i+1,⟨by omega,p',F',k1,k2,k3⟩,by omega,?_⟩;exact Cr
  ·have hcc:f.l.length<=c:=by
    rcases ez.bs with⟨e1,_⟩|⟨b,o,c',n,arr,e1,_,_,h6,_⟩
    ·rw[Jb]at e1;cases e1
    ·rw[Jb,mH]at e1;cases e1;exact h6
   rw[mH]at Jb;have yB:Bs f.p (.slice (some ⟨b,o,none⟩) f.l.length c) (nc f.l):=by rw[<-Jb];exact ez.bs
   rw[Jb]at adp⊢;refine⟨.slice (some ⟨b,o,none⟩) f.l.length c,aF adp rfl,rfl,?_⟩;refine⟨.int .i64 (s:Int),aF adp rfl,rfl,?_⟩;refine⟨.int .i64 (s:Int),aF adp rfl,rfl,?_⟩
   repeat refine xS ?_
   intro o' q1 q2
   obtain rfl:o'=o:=by
    by_cases h0:s=0
    ·have:=q2 (by omega);simpa using this
    ·have:=q1 (by omega);simpa [bK]using this
   refine⟨_,_,_,adp,⟨aaM _,by simp⟩,?_⟩;rw[aD.set_set];have hct:=yB.aih (n:=s) (by rw[mH]) (by rw[mH];exact iU);rw[show(nc f.l).take s=nc (f.l.take s) by simp[nc]]at hct;obtain⟨p',F',k1,k2,k3⟩:=qX (.slice (some ⟨b,o',none⟩) s s) 0 s hsx hct hn0;refine⟨i+1,⟨by omega,p',F',k1,k2,k3⟩,by omega,?_⟩;exact Cr
def bS(A:List Af)(name:ByteArray):Option Af:=A.find? λa=>decide (name=a.name)
theorem zz(F:List Fl)(name:ByteArray):bS (kD F) name=(fh F name).map Fl.af:=by
 unfold bS fh kD;rw[List.find?_map];rfl
def jU(A:List Af)(name:ByteArray):List Af:=A.map λa=>if a.name=name then {a with fB:=a.l.length}else a
def xy(A:List Af)(name:ByteArray)(n:Nat):List Af:=A.map λa=>if a.name=name then⟨a.name,a.l.take n,min a.fB n⟩else a
def rmA(A:List Af)(name:ByteArray):List Af:=A.filter λa=>!decide (a.name=name)
def ajQ(A:List Af)(name:ByteArray)(n:Int):Int:=match bS A name with
 |none=>4
 |some a=>if 0<=n/\n<=a.l.length then 0 else 1
def Xw(A:List Af)(name:ByteArray)(n:Int):List Af:=match bS A name with
 |none=>A
 |some a=>if 0<=n/\n<=a.l.length then xy A name n.toNat else A
def Ik(A:List Af)(name:ByteArray):Int:=if (bS A name).isSome then 0 else 4
theorem wl(F:List Fl)(name:ByteArray):(fh F name).isSome=(bS (kD F) name).isSome:=by rw[zz,Option.isSome_map]
theorem abv(F:List Fl)(name:ByteArray):kD (Pp F name)=jU (kD F) name:=by
 simp only[kD,Pp,Ls,jU,fS];refine eu λf _=>?_;simp only[Function.comp,Fl.af]
 grind
theorem aig(F:List Fl)(name:ByteArray)(n:Nat)(v:Value):kD (aaf F name n v)=xy (kD F) name n:=by
 simp only[kD,aaf,Ls,xy,fS];refine eu λf _=>?_;simp only[Function.comp,Fl.af]
 grind
theorem abS(F:List Fl)(name:ByteArray):kD (rmF F name)=rmA (kD F) name:=by
 unfold kD rmF rmA;rw[List.filter_map];rfl
def FA(p:aD)(bf:Nat)(q:Int)(nb ns:Nat)(A:List Af):Prop:=∃bm clock F,FS p bf bm q nb ns clock F/\kD F=A
structure Sm(k:Nat)(A:List Af)(nb ns:Nat):Prop where
 l:∀a∈A,a.l.length<=10000*k
 n:A.length<=k
 nb:nb<=1000000000*k
 ns:ns<=k
 k:k<=1000
variable{A:List Af}
theorem af2(h:∀a∈A,a.l.length<=b):iP A<=b*A.length:=by
 induction A with
 |nil=>simp[iP]
 |cons a A ih=>
  have h1:=h a (by simp);have ih:=ih λx hx=>h x (by simp[hx]);simp only[iP,aZ,o8,ae,Nat.mul_succ]at ih⊢;omega
theorem Sm.tot(h:Sm k A nb ns):iP A<=10000000000:=by
 have h1:=af2 h.l;have h2:10000*k*A.length<=10000*1000*1000:=Nat.mul_le_mul (iV _ h.k) (bq h.n h.k);omega
section
variable {m mm p:aD}{bf:Nat}{q:Int}{nb ns k:Nat}{A:List Af}{name:ByteArray}
theorem FA.grow{m:aD}(h:FA p bf q nb ns A)(hs:cL p m):FA m bf q nb ns A:=by
 obtain⟨bm,clock,F,h1,h2⟩:=h;exact⟨bm,clock,F,h1.grow hs,h2⟩
theorem OM{F:List Fl}{P:Af->Prop}(h:∀a∈kD F,P a):∀f∈F,P f.af:=λf hf=>h f.af (aV.2 ⟨f,hf,rfl⟩)
theorem WH(h:FA m bf q nb ns A)(hk:Sm k A nb ns):bi tP 73 [fy bf] m λr m'=>∃v p,r=[.v v]/\aq m' [p,m]/\So p v (ut (A.map (·.name))):=by
 obtain⟨bm,clock,F,h1,rfl⟩:=h;have:=hk.n;have:=hk.k;rw[aay];exact UA h1 (by rw[aH]at*;omega)
theorem MW(h:FA m bf q nb ns A)(hk:Sm k A nb ns):bi tP 147 [fy bf,.v (.string name)] m λr m'=>∃v p,r=[.v v,i64 (Ik A name)]/\aq m' [p,m]/\Bs p v (nc (((bS A name).map (·.l)).getD [])):=by
 obtain⟨bm,clock,F,h1,rfl⟩:=h;have h2:=OM hk.l;have:=hk.k;refine(T8 (name:=name) h1 λf hf=>by have:=h2 f hf;simp only[Fl.af]at this;omega).mono λr m' ⟨v,p,e1,e2,e3⟩=>⟨v,p,by rw[e1,Ik,wl],e2,?_⟩;rw[zz,Option.map_map];exact e3
theorem abw(h:FA p bf q nb ns A)(hk:Sm k A nb ns):bi tP 232 [fy bf,.v (.string name)] p λr m'=>r=[i64 (Ik A name)]/\FA m' bf q nb (if (bS A name).isSome then ns+1 else ns) (jU A name):=by
 obtain⟨bm,clock,F,h1,rfl⟩:=h;have h3:=hk.ns;have h4:=hk.k;refine(Yo (name:=name) h1 (by omega)).mono λr m' ⟨e1,e2⟩=>⟨by rw[e1,Ik,wl],?_⟩;rw[wl]at e2;exact⟨bm,clock,_,e2,abv _ _⟩
theorem xW(h:FA p bf q nb ns A):bi tP 150 [fy bf,.v (.string name)] p λr m'=>r=[i64 (Ik A name)]/\FA m' bf q nb ns (rmA A name):=by
 obtain⟨bm,clock,F,h1,rfl⟩:=h;exact(PS (name:=name) h1).mono λr m' ⟨e1,e2⟩=>⟨by rw[e1,Ik,wl],bm,clock,_,e2,abS _ _⟩
theorem aq9{n:Int}(h:FA p bf q nb ns A)(hk:Sm k A nb ns):bi tP 151 [fy bf,.v (.string name),i64 n] p λr m'=>r=[i64 (ajQ A name n)]/\FA m' bf q nb ns (Xw A name n):=by
 obtain⟨bm,clock,F,h1,rfl⟩:=h;have h2:=OM hk.l;have:=hk.k;refine(aeD (name:=name) (n:=n) h1 λf hf=>by have:=h2 f hf;simp only[Fl.af]at this;omega).mono λr m' ⟨e,F',e1,e2,e3⟩=>?_;unfold Wb at e3;unfold ajQ Xw;rw[zz]
 cases hf:fh F name with
 |none=>
  rw[hf]at e3;obtain⟨rfl,rfl⟩:=e3;exact⟨e1,bm,clock,_,e2,rfl⟩
 |some f=>
  rw[hf]at e3;simp only[dZ,Fl.af]at e3⊢;by_cases hc:0<=n/\n<=f.l.length
  ·rw[aC hc]at e3
   rw[aC hc,aC hc];obtain⟨rfl,v,rfl⟩:=e3;exact⟨e1,bm,clock,_,e2,aig _ _ _ _⟩
  ·rw[if_neg hc]at e3
   rw[if_neg hc,if_neg hc];obtain⟨rfl,rfl⟩:=e3;exact⟨e1,bm,clock,_,e2,rfl⟩
theorem IR{vb:Value}{lb:List Nat}(h:FA p bf q nb ns A)(hs:aq mm [p,m])(hk:Sm k A nb ns)(hv:La m vb (nc lb))(xt:∀x∈lb,x<256)(hn:name.size<=1000000)(hq:0<=q/\q<=9223372036854775807)(hlb:lb.length<=10000000):
  bi tP 149 [fy bf,.v (.string name),.v vb] mm λr m'=>∃e p' A' oK,r=[i64 e]/\aq m' [p',m]/\FA p' bf q oK ns A'/\I1 A name lb q e A' nb oK:=by
 obtain⟨bm,clock,F,h1,rfl⟩:=h;have h2:=OM hk.l;have h3:=hk.k;have h4:=hk.nb;have ht:=hk.tot;rw[xJ]at ht;exact(OH (name:=name) h1 hs hv xt hn hq (λf hf=>by have:=h2 f hf;simp only[Fl.af]at this;omega) (by omega) (by omega) (by omega)).mono λr m' ⟨e,p',F',IG,oK,e1,e2,e3,e4⟩=>⟨e,p',_,oK,e1,e2,⟨bm,IG,F',e3,rfl⟩,e4⟩
theorem apY{vl:Value}{dO:List Int}(h:FA p bf q nb ns A)(hs:aq mm [p,m])(hk:Sm k A nb ns)(hv:Ia m vl dO)(Q9:dO.length<=9223372036854775807)(hI:∀x∈dO,-9223372036854775808<=x/\x<=9223372036854775807):
  bi tP 36 [fy bf,.v vl] mm λr m'=>∃p',r=[]/\aq m' [p',m]/\FA p' bf q nb ns (aaI A dO):=by
 obtain⟨bm,clock,F,h1,rfl⟩:=h;have h2:=OM hk.l;have h3:=hk.k;have h4:=hk.n;exact(ahh h1 hs hv Q9 (λf hf=>by have:=h2 f hf;simp only[Fl.af]at this;omega) (by rw[aH]at h4;omega) hI).mono λr m' ⟨p',F',e1,e2,e3,e4,_⟩=>⟨p',e1,e2,bm,clock,F',e3,e4⟩
end
structure Les(A' A:List Af):Prop where
 l:∀b:Nat,(∀a∈A,a.l.length<=b)->∀a∈A',a.l.length<=b
 n:A'.length<=A.length+1
 t:iP A'<=iP A
theorem WJ{g:Af->Af}(hg:∀a,(g a).l.length<=a.l.length):∀A:List Af,iP (A.map g)<=iP A
 |[]=>aW _
 |a::A=>by
  have h1:=WJ hg A;have h2:=hg a;simp only[iP,aZ,o8]at h1⊢;omega
theorem WK{g:Af->Af}(hg:∀a,(g a).l.length<=a.l.length)(A:List Af):Les (A.map g) A:=
 ⟨λb h a ha=>by obtain⟨x,hx,rfl⟩:=aV.1 ha;exact bq (hg x) (h x hx),by rw[aH];omega,WJ hg A⟩
theorem uO(A:List Af)(name:ByteArray):Les (jU A name) A:=WK (λa=>by split<;>exact aW _) A
theorem IE(A:List Af)(name:ByteArray)(n:Nat):Les (xy A name n) A:=WK (λa=>by split<;>first|exact aW _|(simp only[aK];omega)) A
theorem F0(name:ByteArray)(lb:List Nat):∀A:List Af,iP (kL A name lb)=iP A+lb.length/\(kL A name lb).length<=A.length+1/\∀b:Nat,(∀a∈A,a.l.length<=b)->∀a∈kL A name lb,a.l.length<=b+lb.length
 |[]=>⟨by simp[kL,iP],by simp[kL],λb h a ha=>by rw[aL.1 ha];simp⟩
 |x::A=>by
  obtain⟨h1,h2,h3⟩:=F0 name lb A;rw[kL];split
  ·refine⟨by simp only[iP,aZ,o8,ax];omega,by simp,λb h a ha=>?_⟩
   rcases aU.1 ha with rfl|ha
   ·have:=h x (dv ..)
    simp only[ax];omega
   ·have:=h a (bO _ ha);omega
  ·refine⟨by simp only[iP,aZ,o8]at h1⊢;omega,by simp only[ae];omega,λb h a ha=>?_⟩
   rcases aU.1 ha with rfl|ha
   ·have:=h a (dv ..);omega
   ·exact h3 b (λa ha=>h a (bO _ ha)) a ha
theorem RG{g:Af->Af}(hg:∀a∈A,(g a).name=a.name)(name:ByteArray):bS (A.map g) name=(bS A name).map g:=by
 induction A with
 |nil=>rfl
 |cons a A ih=>
  have ih:=ih λa ha=>hg a (bO _ ha);simp only[bS,aZ,iZ]at ih⊢;rw[hg a (dv ..)];split
  ·rfl
  ·exact ih
structure Rf where
 name:ByteArray
 b:ByteArray
 fB:Nat
end Go.E.Y
namespace Go.E
open Go.ChangeShapes Go.WideShapes Go.RowKit
section
variable {H:Type}{enc:TypeId×Value->H}{P:Program}{w:World}{gM:Nat}{qg:Nat->Bool}{DR:Bool}
theorem Ar(hl:laidOutB P=true){W W':World}(hb:Below W.heap.size W W'){sp:Nat->Bool}:∀{ts:List TypeId}{vs:List Value}{ds:List (DataW H)}{ps:List MemPlace},(∀t∈ts,P.readableRec t=true/\t<P.types.size)->
  DataW.TrodAll enc P W 0 (λ_=>true) true ts vs ds ps->(∀p∈ps,p.block<W.heap.size)->(∀p∈ps,sp p.block=true)->DataW.TrodAll enc P W' 0 sp true ts vs ds ps
 |[],[],[],ps,_,h,_,_=>h
 |t::ts,v::vs,d::ds,ps,hr,h,bH,hs=>by
  obtain⟨p,q,h1,h2,rfl⟩:=h
  refine⟨p,q,WideElems.Trod_stays hl (hr t (by simp)).1 (hr t (by simp)).2 h1 (λx hx=>hb.same (bH x (by simp[hx]))) (λx hx=>hs x (by simp[hx])),
   Ar hl hb (λt' ht'=>hr t' (by simp[ht'])) h2 (λx hx=>bH x (by simp[hx])) (λx hx=>hs x (by simp[hx])),rfl⟩
 |[],_::_,_,_,_,h,_,_=>h.elim
 |[],[],_::_,_,_,h,_,_=>h.elim
 |_::_,[],_,_,_,h,_,_=>h.elim
 |_::_,_::_,[],_,_,h,_,_=>h.elim
theorem ag6(hl:laidOutB P=true){f:Func}{s:ChangeSpec}{W W':World}{args:Array Value}{ds gs:List (DataW H)}{IQ:List MemPlace}{tb:TypeId}(ajo:s.vars=[])
  (hfn:s.fn H (ds++gs)={results:=[.lit (.bool true)],args:=ds}) (u9:f.resultTypes= #[tb]) (aqr:P.underlying tb=some .bool) (apz:f.params.toList.all (λt=>P.readableRec t&&decide (t<P.types.size))=true)
  (hW:DataW.Whole enc P f.params.toList s.vars false W args.toList ds gs IQ) (hb:Below W.heap.size W W'):s.post enc P f false true false false W args (.bool true) W':=by
 have bH:=hW.lt;have hW':=hW;obtain⟨p,q,hA,hV,rfl,hfz,NR⟩:=hW;rw[ajo]at hV;obtain⟨rfl,rfl⟩:=trodVars_none hV
 have ala:∀t∈f.params.toList,P.readableRec t=true/\t<P.types.size:=λt ht=>by
  grind
 have hA':DataW.TrodAll enc P W' 0 (λb=>decide (b<W.heap.size)) true f.params.toList args.toList ds p:=
  Ar hl hb ala hA (λx hx=>bH x (by simp[hx])) (λx hx=>by simpa using bH x (by simp[hx]))
 refine⟨ds,[],p++[],[],p,[],hW',?_,?_,?_,World.keptBut_mono (λx hx=>⟨hx,.inr (.inl (by simpa using hx))⟩) (hb.frame _),λh=>by cases h⟩
 ·rw[hfn,u9]
  exact trodAll_cons_mk (shut_bool aqr _) trodAll_mk0
 ·grind
 ·rw[hfn,ajo];rfl
end
open Go.ChangeShapes Go.WideShapes Go.RowKit
section
variable {H:Type}{enc:TypeId×Value->H}{P:Program}{w:World}{gM:Nat}{qg:Nat->Bool}{DR:Bool}
theorem yT{α:Type}(l:List α)(s:Nat):∀(n k:Nat),(k+n)*s<=l.length->((List.range' k n).map (λi=>(l.drop (i*s)).take s)).flatten=(l.drop (k*s)).take (n*s)
 |0,k,_=>by simp
 |n+1,k,h=>by
  have ih:=yT l s n (k+1) (by rw[show k+1+n=k+(n+1) by omega];exact h);simp only[Ft,aZ,dX,ih];rw[show(n+1)*s=s+n*s by rw[fM];omega,show(k+1)*s=k*s+s by rw[fM];omega];rw[List.take_add,dU]
end
open Go.ChangeShapes Go.WideShapes Go.RowKit
inductive Sh where
 |int (k:IntKind)
 |bool
 |AS
 |slice (e:Sh)
 |unit
 |jo (a b:Sh)
 |xm (n:Nat) (e:Sh)
def Sh.size:Sh->Nat
 | .unit=>0
 | .jo a b=>a.size+b.size
 | .xm n e=>n*e.size
 |_=>1
def tE(m:aD):Sh->List Value->Prop
 | .int k,cs=>∃n,cs=[.int k n]/\(Lit.int k n).wf=true
 | .bool,cs=>∃b,cs=[.bool b]
 | .AS,cs=>∃s,cs=[.string s]/\s.size<=maxLen
 | .slice e,cs=>∃(v:Value) (co:List (List Value)),cs=[v]/\(gq m e.size v co.flatten\/(co=[]/\∃a,v= .slice (some a) 0 0))/\fg v=co.length/\(∀c∈co,tE m e c)/\co.length<=maxLen
 | .unit,cs=>cs=[]
 | .jo a b,cs=>∃x y,cs=x++y/\tE m a x/\tE m b y
 | .xm n e,cs=>∃co:List (List Value),cs=co.flatten/\co.length=n/\∀c∈co,tE m e c
def ao7:Option TypeDesc->IntKind->Bool
 |some (.int k),q=>wY k q
 |_,_=>false
def Jd(P:Program):Sh->(TypeId->Bool)×(List Field->Nat->Bool)
 | .int k=>(λt=>ao7 (P.underlying t) k,λ_ _=>false)
 | .bool=>(λt=>match P.underlying t with|some .bool=>true|_=>false,λ_ _=>false)
 | .AS=>(λt=>match P.underlying t with|some .string=>true|_=>false,λ_ _=>false)
 | .slice e=>(λt=>match P.underlying t with|some (.slice et)=>(Jd P e).1 et&&(P.cellsOf et==e.size&&Nat.blt 0 e.size)|_=>false,λ_ _=>false)
 | .unit=>(λ_=>false,λfs _=>fs.isEmpty)
 | .jo a b=>
  let F:List Field->Nat->Bool:=λfs off=>match fs with
   |f::fs=>f.offset==off&&((Jd P a).1 f.type&&(P.cellsOf f.type==a.size&&(Jd P b).2 fs (off+a.size)))
   |[]=>false
  (λt=>match P.underlying t with|some (.struct fs)=>P.cellsOf t==a.size+b.size&&F fs.toList 0|_=>false,F)
 | .xm n e=>(λt=>match P.underlying t with|some (.array k et)=>Nat.beq k n&&((Jd P e).1 et&&(P.cellsOf et==e.size&&P.cellsOf t==n*e.size))|_=>false,λ_ _=>false)
section
variable {H:Type}{enc:TypeId×Value->H}{P:Program}{w:World}{gM:Nat}{qg:Nat->Bool}{DR:Bool}
theorem tE.one{m:aD}:∀{sh:Sh}{cs:List Value},tE m sh cs->∀u∈cs,u.oneCell'=true
 | .int k,cs,h,u,hu=>by obtain⟨n,rfl,_⟩:=h;simp at hu;subst hu;rfl
 | .bool,cs,h,u,hu=>by obtain⟨n,rfl⟩:=h;simp at hu;subst hu;rfl
 | .AS,cs,h,u,hu=>by obtain⟨n,rfl,_⟩:=h;simp at hu;subst hu;rfl
 | .slice e,cs,h,u,hu=>by
  obtain⟨v,co,rfl,h1,_⟩:=h;simp at hu;subst hu
  rcases h1 with h1|⟨_,a,rfl⟩
  ·exact h1.one
  ·rfl
 | .unit,cs,h,u,hu=>by simp only[tE]at h;subst h;cases hu
 | .jo a b,cs,h,u,hu=>by
  obtain⟨x,y,rfl,h1,h2⟩:=h;rcases aR.1 hu with hu|hu
  ·exact tE.one h1 u hu
  ·exact tE.one h2 u hu
 | .xm n e,cs,h,u,hu=>by
  obtain⟨co,rfl,_,h1⟩:=h;obtain⟨c,hc,huc⟩:=List.mem_flatten.1 hu;exact tE.one (h1 c hc) u huc
theorem Ry{co:List (List Value)}{s:Nat}(h:∀c∈co,c.length=s):co.flatten.length=co.length*s:=by
 induction co with
 |nil=>simp
 |cons a co ih=>
  simp only[dX,ax,ae];rw[ih (λc hc=>h c (by simp[hc])),h a (by simp),fM];omega
theorem tE.length{m:aD}:∀{sh:Sh}{cs:List Value},tE m sh cs->cs.length=sh.size
 | .int k,cs,h=>by obtain⟨n,rfl,_⟩:=h;rfl
 | .bool,cs,h=>by obtain⟨n,rfl⟩:=h;rfl
 | .AS,cs,h=>by obtain⟨n,rfl,_⟩:=h;rfl
 | .slice e,cs,h=>by obtain⟨v,co,rfl,_⟩:=h;rfl
 | .unit,cs,h=>by simp only[tE]at h;subst h;rfl
 | .jo a b,cs,h=>by
  obtain⟨x,y,rfl,h1,h2⟩:=h;simp only[ax,Sh.size,tE.length h1,tE.length h2]
 | .xm n e,cs,h=>by
  obtain⟨co,rfl,h2,h1⟩:=h;rw[Ry (λc hc=>tE.length (h1 c hc)),h2];rfl
theorem VO{α:Type}(l:List α)(s n:Nat)(h:l.length=n*s):((List.range' 0 n).map (λi=>(l.drop (i*s)).take s)).flatten=l:=by
 rw[yT l s n 0 (by rw[cD,h];exact aW _)];simp[<-h]
theorem aak{a:Addr}{v:Value}(h:w.cell? a=some v):∃b o arr t fr,a=⟨b,o,none⟩/\w.heap[b]?=some (.cells arr t fr)/\arr[o]?=some v:=by
 obtain⟨b,o,sp⟩:=a;unfold World.cell? at h;simp only at h
 split at h
 ·rename_i arr t fr hb
  cases sp with
  |some _=>simp at h
  |none=>exact⟨b,o,arr,t,fr,rfl,hb,by simpa using h⟩
 ·cases h
theorem add_zero(a:Addr):a.add 0=a:=by simp[Addr.add]
theorem abn(Ta:∀b,qg b=true):∀(sh:Sh),(∀(t:TypeId) (cs:List Value) (kJ:Nat) (x:DataW H×List MemPlace),(Jd P sh).1 t=true->DataW.trod enc P w gM qg DR kJ t cs=some x->tE (λb=>w.heap[b]?) sh cs)/\
  (∀(fs:List Field) (off:Nat) (cs:List Value),(Jd P sh).2 fs off=true->cs.length=off+sh.size->(∀f∈fs,∃kJ x,DataW.trod enc P w gM qg DR kJ f.type ((cs.drop f.offset).take (P.cellsOf f.type))=some x)->tE (λb=>w.heap[b]?) sh (cs.drop off)):=by
 intro sh
 induction sh with
 |int k=>
  refine⟨λt cs kJ x h ht=>?_,λfs off cs h=>by simp[Jd]at h⟩;simp only[Jd]at h
  cases hu:P.underlying t with
  |none=>rw[hu]at h;cases h
  |some d=>
   rw[hu]at h
   cases d<;>simp only[ao7]at h<;>try cases h
   rename_i q;have:=pA h;subst this
   obtain⟨n,rfl,_,hw⟩:=DataW.trod_int hu ht;exact⟨n,rfl,hw⟩
 |bool=>
  refine⟨λt cs kJ x h ht=>?_,λfs off cs h=>by simp[Jd]at h⟩;simp only[Jd]at h
  split at h
  ·rename_i hu;obtain⟨b,rfl,_⟩:=DataW.trod_bool hu ht;exact⟨b,rfl⟩
  ·cases h
 |AS=>
  refine⟨λt cs kJ x h ht=>?_,λfs off cs h=>by simp[Jd]at h⟩;simp only[Jd]at h
  split at h
  ·rename_i hu;obtain⟨s,rfl,_,hs⟩:=DataW.trod_string hu ht;exact⟨s,rfl,hs⟩
  ·cases h
 |unit=>
  refine⟨λt cs kJ x h ht=>by simp[Jd]at h,λfs off cs h hl _=>?_⟩;simp only[Sh.size]at hl;exact cF (by omega)
 |jo a b iha ihb=>
  have F:∀(fs:List Field) (off:Nat) (cs:List Value),(Jd P (.jo a b)).2 fs off=true->cs.length=off+(Sh.jo a b).size->(∀f∈fs,∃kJ x,DataW.trod enc P w gM qg DR kJ f.type ((cs.drop f.offset).take (P.cellsOf f.type))=some x)->tE (λb=>w.heap[b]?) (.jo a b) (cs.drop off):=by
   intro fs off cs h hl hf
   cases fs with
   |nil=>simp[Jd]at h
   |cons f fs=>
    simp only[Jd,aB,gU]at h;obtain⟨ho,h1,h2,h3⟩:=h;simp only[Sh.size]at hl;obtain⟨fu,x,hx⟩:=hf f (by simp);rw[ho,h2]at hx;refine⟨(cs.drop off).take a.size,cs.drop (off+a.size),?_,iha.1 _ _ _ _ h1 hx,ihb.2 fs (off+a.size) cs h3 (by omega) (λg hg=>hf g (by simp[hg]))⟩;rw[<-dU,dL]
  refine⟨λt cs kJ x h ht=>?_,F⟩;have h':(match P.underlying t with|some (.struct fs)=>P.cellsOf t==a.size+b.size&&(Jd P (.jo a b)).2 fs.toList 0|_=>false)=true:=h
  split at h'
  ·rename_i fs hu
   simp only[aB,gU]at h';obtain⟨xs,k,hk,_,hl,zu,hp⟩:=DataW.trod_struct hu ht
   have:=F fs.toList 0 cs h'.2 (by simp only[Sh.size];omega) (λf hf=>by
    obtain⟨i,hi,he⟩:=dc hf;have hy:=hp i f (by rw[<-bU,az hi,he]);rw[az (by simp at hi;omega)]at hy
    exact⟨k,_,hy⟩)
   simpa using this
  ·cases h'
 |xm n e ih=>
  refine⟨λt cs kJ x h ht=>?_,λfs off cs h=>by simp[Jd]at h⟩;simp only[Jd]at h
  split at h
  ·rename_i k et hu
   simp only[aB,gU]at h;obtain⟨U5,h1,h2,h3⟩:=h;have U5:=bu U5;subst U5;obtain⟨xs,fu,hfu,_,hl,zu,hp⟩:=DataW.trod_array hu ht;rw[h2]at hp;refine⟨(List.range' 0 k).map (λi=>(cs.drop (i*e.size)).take e.size),(VO cs e.size k (by omega)).symm,by simp,?_⟩;intro c hc;obtain⟨i,hi,rfl⟩:=aV.1 hc;simp at hi;have hy:=hp i hi;rw[az (by omega)]at hy;exact ih.1 _ _ _ _ h1 hy
  ·cases h
 |slice e ih=>
  refine⟨λt cs kJ x h ht=>?_,λfs off cs h=>by simp[Jd]at h⟩;simp only[Jd]at h
  split at h
  ·rename_i et hu
   simp only[aB,gU]at h;obtain⟨h1,h2,h3⟩:=h;have JL:0<e.size:=by rw[Nat.blt_eq]at h3;exact h3
   rcases DataW.trod_slice hu ht with⟨rfl,_⟩|⟨a,len,cap,ayQ,fb,n,_,rfl,_,hb,hl,hm,hlen,xz,yy,_⟩
   ·exact⟨_,[],rfl,.inl (.inl ⟨0,rfl,rfl⟩),rfl,by simp,by simp⟩
   ·rw[h2]at xz yy
    have first:∀i,(∃cs y,(w.cells? gM (a.add (i*e.size)) e.size).bind (DataW.trod enc P w gM qg DR n et)=some y/\cs=y)->∃cs y,w.cells? gM (a.add (i*e.size)) e.size=some cs/\DataW.trod enc P w gM qg DR n et cs=some y:=by
     rintro i⟨_,y,hy,_⟩;rw[Option.bind_eq_some_iff]at hy;obtain⟨cs,g1,g2⟩:=hy;exact⟨cs,y,g1,g2⟩
    have aqe:∀i,i<len->∃cs y,w.cells? gM (a.add (i*e.size)) e.size=some cs/\DataW.trod enc P w gM qg DR n et cs=some y:=by
     intro i hi;have:=xz i hi;rw[az (by omega)]at this;exact first i ⟨_,_,this,rfl⟩
    have au8:cap=0\/∃b o arr t fr,a=⟨b,o,none⟩/\w.heap[b]?=some (.cells arr t fr):=by
     by_cases hc:cap=0
     ·exact .inl hc
     ·right
      have:∃cs y,w.cells? gM (a.add (0*e.size)) e.size=some cs/\DataW.trod enc P w gM qg DR n et cs=some y:=by
       by_cases hl0:len=0
       ·obtain⟨qn,jK⟩:=yy (Ta _)
        have h0:=jK 0 (by omega);obtain⟨z,hz⟩:∃z,fb[0]?=some z:=⟨_,az (by omega)⟩;rw[hz,hl0]at h0;exact first 0 ⟨_,_,h0,rfl⟩
       ·exact aqe 0 (by omega)
      obtain⟨cs,y,g1,_⟩:=this;obtain⟨_,g3,g4⟩:=World.cells?_some g1;have:=g4 0 JL;rw[nw,add_zero,add_zero,az (by omega)]at this;obtain⟨b,o,arr,t,fr,e1,e2,_⟩:=aak this;exact⟨b,o,arr,t,fr,e1,e2⟩
    rcases au8 with rfl|⟨b,o,arr,t',fr,rfl,qL⟩
    ·obtain rfl:len=0:=by omega
     exact⟨_,[],rfl,.inr ⟨rfl,a,rfl⟩,rfl,by simp,by simp⟩
    ·have Z6:∀i,i<len->∃cs y,cs=((arr.toList.drop o).drop (i*e.size)).take e.size/\DataW.trod enc P w gM qg DR n et cs=some y/\o+i*e.size+e.size<=arr.size:=by
      intro i hi;obtain⟨cs,y,g1,g2⟩:=aqe i hi;obtain⟨_,g3,g4⟩:=World.cells?_some g1
      have g5:∀k,k<e.size->arr[o+i*e.size+k]?=cs[k]?:=by
       intro k ve;have:=g4 k ve;rw[ii,ii,iO qL]at this;exact this
      have Q9:o+i*e.size+e.size<=arr.size:=by
       have:=g5 (e.size-1) (by omega);rw[az (by omega)]at this;have:=(bE.1 this).1;omega
      refine⟨cs,y,?_,g2,Q9⟩
      apply List.ext_getElem?
      intro k;by_cases ve:k<e.size
      ·rw[<-g5 k ve,bN,aC ve,cT,cT,bU]
       congr 1;omega
      ·rw[jr (by omega),jr (by simp;omega)]
     have alH:len*e.size<=(arr.toList.drop o).length\/len=0:=by
      by_cases h0:len=0
      ·exact .inr h0
      ·obtain⟨_,_,_,_,g⟩:=Z6 (len-1) (by omega)
       left
       have:len*e.size=(len-1)*e.size+e.size:=by
        rw[<-lG];congr 1;omega
       simp;omega
     have ap8:=yT (arr.toList.drop o) e.size len 0 (by
      rw[cD];rcases alH with h|h
      ·exact h
      ·rw[h];simp)
     have alA:∀c∈(List.range' 0 len).map (λi=>((arr.toList.drop o).drop (i*e.size)).take e.size),tE (λb=>w.heap[b]?) e c:=by
      intro c hc;obtain⟨i,hi,rfl⟩:=aV.1 hc;simp at hi;obtain⟨cs,y,k1,k2,_⟩:=Z6 i hi;rw[<-k1];exact ih.1 _ _ _ _ h1 k2
     refine⟨_,(List.range' 0 len).map (λi=>((arr.toList.drop o).drop (i*e.size)).take e.size),rfl,.inl (.inr ⟨b,o,cap,len,arr,t',fr,rfl,qL,?_,hl,?_,?_⟩),by simp[fg],alA,by simp;omega⟩
     ·rw[Ry (λc hc=>(alA c hc).length)];simp
     ·intro j' u hu
      rw[ap8]at hu;simp only[nw,List.drop_zero,bN]at hu
      split at hu
      ·rw[cT,bU]at hu;exact hu
      ·simp at hu
     ·intro u hu
      obtain⟨c,hc,huc⟩:=List.mem_flatten.1 hu;exact(alA c hc).one u huc
  ·cases h
theorem Qc(Ta:∀b,qg b=true){sh:Sh}{t:TypeId}{v:Value}{d:DataW H}{ps:List MemPlace}(hc:(Jd P sh).1 t=true)(hd:DataW.Trod enc P w gM qg DR t v d ps):tE (λb=>w.heap[b]?) sh v.cells.toList:=by
 obtain⟨kJ,hf⟩:=hd;exact(abn Ta sh).1 _ _ _ _ hc hf
theorem afX{k:IntKind}{r:Reach}{b0:Nat}{t:TypeId}{v:Value}(hu:P.underlying t=some (.int k))(h:Value.okWide P w r b0 t v):v.cells.toList=[v]/\v.oneCell'=true:=by
 unfold Value.okWide at h;rw[hu]at h;simp only[Cell.okWide,hu,Cell.ok]at h
 cases v<;>simp at h
 exact⟨rfl,rfl⟩
theorem Tw{n:Int}(h:(Lit.int .i64 n).wf=true): -9223372036854775808<=n/\n<=9223372036854775807:=by
 simpa [Lit.wf,IntKind.min,IntKind.max,IntKind.signed,IntKind.bits]using h
end
end Go.E
namespace Go.E.Y
open Go.Proofs
theorem ab0{m:aD}{c:Nat}:bi tP 148 [.v (.slice none 0 c)] m λr m'=>∃v' ps p,r=[.v v',i64 ((Fr.lU (([]:List Int).length+1) []).2.1:Nat),i64 (Fr.lU (([]:List Int).length+1) []).2.2]/\aq m' [p,m]/\jL p v' ps/\ps.map (·.2)=(Fr.lU (([]:List Int).length+1) []).1:=by
 have dI:=(Got.start []).stop (by simp[Fr.Hi]);refine ap Tryz.func148 ?_;refine .mk 0 _ rfl (ι:=Nat) (λi=>i) (λ_ _=>False) (λ_=>[]) (λ_=>[]) ?_ ?_
 ·repeat refine xS ?_
  refine aP (Dw (l:=[]) (.inl (Lb.nil _ _)) (λx hx=>by cases hx) (by simp)) ?_;rintro _ m1⟨v1,p1,rfl,bM,lZ⟩;conv=>whnf
  rw[Fr.Hi];refine xN ?_;conv=>whnf
  rw[dI];exact⟨_,[],iI,rfl,(bM.dV 0).cA,⟨.inl ⟨_,rfl,rfl⟩,by simp⟩,rfl⟩
 ·rintro i mm h;exact h.elim
end Go.E.Y
namespace Go.E
end Go.E
namespace Go.E.Y
open Go.Proofs
end Go.E.Y
namespace Go.E.Fr
theorem zd:∀{l:List (List Int)}{k:Nat},(fC l k).2=(kP (l.take (fC l k).1)).length/\(fC l k).2<=k/\(kP l).take (fC l k).2=kP (l.take (fC l k).1)
 |[],k=>by simp[fC,kP]
 |r::l,k=>by
  have ih:=zd (l:=l) (k:=k-(wr r).length);unfold fC;by_cases h:(wr r).length<=k
  ·rw[aC h]
   dsimp only;obtain⟨h1,h2,h3⟩:=ih;have e:∀j,kP ((r::l).take (j+1))=wr r++kP (l.take j):=λj=>by simp[kP]
   have e0:kP (r::l)=wr r++kP l:=by simp[kP]
   refine⟨by rw[e,ax,<-h1],by omega,?_⟩;rw[e,e0,gj,bP (by omega),show(wr r).length+(fC l (k-(wr r).length)).2-(wr r).length=(fC l (k-(wr r).length)).2 by omega,h3]
  ·rw[if_neg h];simp[kP]
theorem Pe:∀{l:List (List Int)}{k s:Nat},s<=l.length->(kP (l.take s)).length<=k->s<=(fC l k).1
 |_,_,0,_,_=>lF _
 |[],k,s+1,h,_=>by simp at h
 |r::l,k,s+1,h,hk=>by
  have e:(kP ((r::l).take (s+1))).length=(wr r).length+(kP (l.take s)).length:=by simp[kP]
  have ih:=Pe (l:=l) (k:=k-(wr r).length) (s:=s) (by simpa using h) (by omega);unfold fC;rw[aC (by omega)];simp only;omega
end Go.E.Fr
namespace Go.E.Y
open Go.Proofs
def z6(l:List Int):List Nat:=l.map Int.toNat
theorem Nm{l:List Int}(h:jl l):nc (z6 l)=l:=by
 rw[nc,z6,fS];refine(eu λx hx=>?_).trans (lL l);have:=h x hx
 grind
theorem vL(l:List Int):(z6 l).length=l.length:=by simp[z6]
theorem Wh{l:List Int}(h:jl l):∀x∈z6 l,x<256:=λx hx=>by
 obtain⟨y,hy,rfl⟩:=aV.1 hx;have:=h y hy;omega
theorem abp(l:List Int)(n:Nat):z6 (l.take n)=(z6 l).take n:=by simp[z6]
theorem TH(l k:List Int):z6 (l++k)=z6 l++z6 k:=by simp[z6]
theorem Sz{l:List Int}(h:jl l)(n:Nat):jl (l.take n):=λx hx=>h x (bX hx)
abbrev eU(bf:Nat)(name:ByteArray)(all cY:Nat):Obj:=.cells #[.pointer (some ⟨bf,0,none⟩),.string name,.int .i64 (all:Int),.int .i64 (cY:Int)] 272
variable{m:aD}
theorem PU{v:Value}{l:List Int}(hv:Lb m v l)(hb:jl l)(hl:l.length<=10000000):bi tP 148 [.v v] m λr m'=>∃v' ps p,r=[.v v',i64 ((Fr.lU (l.length+1) l).2.1:Nat),i64 (Fr.lU (l.length+1) l).2.2]/\aq m' [p,m]/\jL p v' ps/\ps.map (·.2)=(Fr.lU (l.length+1) l).1:=by
 rcases Lb.cases hv with⟨c,rfl,rfl⟩|⟨b,o,c,arr,t,fr,rfl,_,hc,_⟩
 ·exact ab0
 ·exact YL hv.la hb hl hc
variable{bf nb ns k:Nat}{q:Int}{A:List Af}{name:ByteArray}
theorem G0{p:aD}(h:FA p bf q nb ns A)(hk:Sm k A nb ns):bi tP 152 [.a [.one (.pointer (some ⟨bf,0,none⟩)),.one (.string name)]] p λr m'=>r=[]/\FA m' bf q nb (if (bS A name).isSome then ns+1 else ns) (jU A name):=by
 refine ap Tryz.func152 ?_;refine aP (abw (name:=name) h hk) ?_;rintro _ m1⟨rfl,h1⟩;exact⟨rfl,h1⟩
def wV(L:List ByteArray):List Nat:=L.filterMap sA
def gB(A:List Af):List Nat:=wV (ut (A.map (·.name)))
theorem Uq{L:List ByteArray}{i:Nat}(hi:i<L.length):wV (L.take (i+1))=wV (L.take i)++(sA L[i]).toList:=by
 rw[wV,au hi,List.filterMap_append]
 cases h:sA L[i]<;>simp[h,wV]
theorem Ld(L:List ByteArray):(wV L).length<=L.length:=List.length_filterMap_le _ _
theorem akG{l:List Nat}(h:∀x∈l,x<256):jl (nc l):=λx hx=>by
 obtain⟨y,hy,rfl⟩:=aV.1 hx;have:=h y hy;omega
def Eg(A:List Af):Prop:=∀a∈A,a.name.size<=1000000
theorem Ds(hg:jZ m)(h:FA m bf q nb ns A)(hk:Sm k A nb ns)(hn:Eg A):bi tP 145 [fy bf] m λr m'=>∃v p,r=[.v v]/\aq m' [p,m]/\Io p v (nc (gB A)):=by
 refine ap Tryz.func145 ?_;refine aP (WH h hk) ?_;rintro _ m1⟨v,p,rfl,hs,hv⟩
 have Ad:∀x∈ut (A.map (·.name)),x.size<=1000000:=λx hx=>by
  obtain⟨a,ha,rfl⟩:=aV.1 ((zf _).subset hx);exact hn a ha
 have hl:(ut (A.map (·.name))).length<=1000:=by
  rw[(zf _).length_eq,aH];have:=hk.n;have:=hk.k;omega
 unfold gB;generalize ut (A.map (·.name))=L at*;obtain⟨a,c,rfl⟩:=hv.sl.shape;refine .mk (ι:=Nat×Value) (λi=>L.length-i.1) (λ⟨i,y⟩ mm=>i<=L.length/\∃p',aq mm [p',p,m]/\Io p' y (nc (wV (L.take i)))) (λ⟨i,y⟩=>[(3,.c (.v y)),(9,.c (.v (.slice a L.length c))),(10,.c (i64 L.length)),(11,.c (i64 i))]) (λ_=>[]) (0,.slice none 0 0) ⟨by simp,iI,hs.cA,Io.nil _⟩ ?_ ?_
 ·exact Cr
 rintro⟨i,y⟩ mm ⟨hi,p',qW,hy⟩;apply bI<;>intro h
 ·have bH:i<L.length:=by have:=ah h;omega
  obtain⟨b,o,cc,e1,xz⟩:=(hv.sl.sub (qW.sub (a:=p))).real bH;injection e1 with e1 e2 e3;subst e1;have Xc:=Ld (L.take i);rw[aK]at Xc;refine⟨by omega,?_⟩;refine⟨_,xz i bH,rfl,?_⟩;refine bt (Qf (hg.sub (qW.sub (a:=m))) (Ad _ (aO bH))) ?_;conv=>whnf
  have ht:=Uq bH
  cases xr:sA L[i]with
  |none=>
   rw[xr]at ht;rw[Option.toList_none,cO]at ht;refine xN ?_;refine⟨(i+1,y),⟨by omega,p',qW,by rw[ht];exact hy⟩,by simp;omega,?_⟩;exact Cr
  |some n=>
   rw[xr]at ht;rw[Option.toList_some]at ht;refine⟨λ_=>?_,λh=>absurd h (by simp at h)⟩;refine .mk _ (qa) ?_;rintro _ _⟨b',qB,rfl,rfl⟩;refine .mk _ (Es (l:=nc (wV (L.take i))) qW qB hy (by rw[mH];omega)) ?_;rintro _ m'⟨y',p2,rfl,bZ,hy2⟩;refine⟨(i+1,y'),⟨by omega,p2,bZ,by rw[ht,nc,bD];exact hy2⟩,by simp;omega,?_⟩;exact Cr
 ·have h':=aj h
  obtain rfl:i=L.length:=by omega
  rw[aJ]at hy;exact⟨y,p',rfl,qW.dV 1,hy⟩
theorem Hq(h:FA m bf q nb ns A)(hk:Sm k A nb ns):bi tP 144 [fy bf] m λr m'=>r=[bR true]/\cL m m':=by
 refine ap Tryz.func144 ?_;refine aP (MW (name:=ByteArray.empty) h hk) ?_;rintro _ m1⟨v,p,rfl,hs,hv⟩;refine⟨?_,hs.sub (a:=m)⟩;rw[Ik]
 cases(bS A ByteArray.empty).isSome<;>rfl
theorem FA.xA{p:aD}(h:FA p bf q nb ns A):∀a∈A,∀x∈a.l,x<256:=by
 obtain⟨bm,clock,F,h1,rfl⟩:=h;intro a ha;obtain⟨f,hf,rfl⟩:=aV.1 ha;exact(h1.ok f hf).xA
def mL(A:List Af)(name:ByteArray):List Nat:=((bS A name).map (·.l)).getD []
theorem Sy{P:List Nat->Prop}(h:∀a∈A,P a.l)(h0:P []):P (mL A name):=by
 unfold mL
 cases e:bS A name with
 |none=>exact h0
 |some a=>exact h a (jn e)
def GL(l:List Int):List (List Int)×Nat×Int:=Fr.lU (l.length+1) l
def BZ(A:List Af):Nat×List (List Int)×Int:=match (gB A).getLast? with
 |none=>(0,[],0)
 |some n=>let r:=GL (nc (mL A (Sn.nm n)));if r.2.2=0/\r.2.1=(mL A (Sn.nm n)).length then(n,r.1,0)else(0,[],9)
theorem Hv(h:gB A=[]):BZ A=(0,[],0):=by
 unfold BZ;rw[h];rfl
theorem Hu{n:Nat}(h:(gB A).getLast?=some n):BZ A=if (GL (nc (mL A (Sn.nm n)))).2.2=0/\(GL (nc (mL A (Sn.nm n)))).2.1=(mL A (Sn.nm n)).length then(n,(GL (nc (mL A (Sn.nm n)))).1,0)else(0,[],9):=by
 unfold BZ;rw[h]
theorem Lc{L:List ByteArray}:∀n∈wV L,1<=n/\n<=999999:=λn hn=>by
 obtain⟨s,_,e⟩:=List.mem_filterMap.1 hn;exact⟨(s8 e).1,(s8 e).2.1⟩
theorem Dr(A:List Af):(gB A).length<=A.length:=by
 have:=Ld (ut (A.map (·.name)));rw[Gt,aH]at this;exact this
theorem akQ(hg:jZ m)(h:FA m bf q nb ns A)(hk:Sm k A nb ns)(hn:Eg A):bi tP 86 [fy bf] m λr m'=>∃v ps p,r=[i64 (BZ A).1,.v v,i64 (BZ A).2.2]/\aq m' [p,m]/\jL p v ps/\ps.map (·.2)=(BZ A).2.1:=by
 have hlen:=Dr A;have U5:=hk.n;have hkk:=hk.k;have ak8:∀n∈gB A,1<=n/\n<=999999:=Lc;refine ap Tryz.func86 ?_;refine aP (Hq h hk) ?_;rintro _ m0⟨rfl,MS⟩;refine xN ?_;refine aP (Ds (hg.sub MS) (h.grow MS) hk hn) ?_;rintro _ m1⟨v,p,rfl,hs,hv⟩;have hs:aq m1 [p,m]:=hs.under (a:=[p]) ((aq.one m).grow MS);obtain⟨a,c,rfl⟩:=hv.il.shape;rw[mH];apply bI<;>intro h1
 ·have h0:gB A=[]:=by simpa using h1
  conv=>whnf
  rw[Hv h0];exact⟨_,[],iI,rfl,(hs.drop).cA,⟨.inl ⟨_,rfl,rfl⟩,by simp⟩,rfl⟩
 have h0:0<(gB A).length:=qS.2 (by simpa using h1);have ga:gB A≠[]:=by intro e;rw[e]at h0;simp at h0
 have Q9:(gB A).getLast?=some ((gB A).getLast ga):=List.getLast?_eq_some_getLast ga;have nT:(gB A)[(gB A).length-1]?=some ((gB A).getLast ga):=by rw[<-Q9,List.getLast?_eq_getElem?]
 obtain⟨qn,jK⟩:=ak8 _ (List.getLast_mem ga);generalize (gB A).getLast ga=n at*;have hld:=Hu Q9;have apN:(nc (gB A)).length=(gB A).length:=mH _;obtain⟨b,o,cc,e1,xz⟩:=(hv.il.sub (hs.sub (a:=p))).real (i:=0) (by omega);injection e1 with e1 e2 e3;subst e1;have xz:=xz ((gB A).length-1) (by omega)
 have ee:(nc (gB A))[(gB A).length-1]'(by omega)=(n:Int):=by
  have:(nc (gB A))[(gB A).length-1]?=some (n:Int):=by rw[nc,cj,nT];rfl
  exact(aQ.1 this).2
 rw[ee]at xz;have ew:IntKind.i64.wrap (((gB A).length:Int)-1)=(((gB A).length-1:Nat):Int):=by rw[wi];omega
 conv=>whnf
 rw[ew];refine⟨by omega,?_⟩;refine⟨_,xz,rfl,?_⟩;refine bt (FH (hg.sub (hs.sub (a:=m))) qn jK) ?_;refine aP (MW (name:=Sn.nm n) (h.grow (hs.sub (a:=m))) hk) ?_;rintro _ m2⟨v2,p2,rfl,bZ,lD⟩;have bZ:aq m2 [p2,m]:=bZ.under (a:=[p2]) ((aq.one m).grow (hs.sub (a:=m)));have Fc:(mL A (Sn.nm n)).length<=10000000:=Sy (P:=λl=>l.length<=10000000) (λa ha=>by have:=hk.l a ha;omega) (by simp);have OU:jl (nc (mL A (Sn.nm n))):=akG (Sy (P:=λl=>∀x∈l,x<256) h.xA (by simp));have lD:Bs p2 v2 (nc (mL A (Sn.nm n))):=lD;have auq:(nc (mL A (Sn.nm n))).length=(mL A (Sn.nm n)).length:=mH _;generalize mL A (Sn.nm n)=l at*;refine aP (PU (lD.lb.sub (bZ.sub (a:=p2))) OU (by omega)) ?_;rintro _ m3⟨v',ps,pv,rfl,dy,hps,hpr⟩;have dy:aq m3 [pv,p2,m]:=dy.under (a:=[pv]) bZ;obtain⟨a2,c2,rfl⟩:=lD.lb.shape;have er:Fr.lU ((nc l).length+1) (nc l)=GL (nc l):=rfl;rw[er]at hpr⊢;rw[auq];generalize GL (nc l)=r at*;obtain⟨rr,t,e⟩:=r;dsimp only at hpr⊢;apply bI<;>intro h1
 ·have h2:¬e=0:=by simpa using h1
  rw[if_neg (by simp[h2])]at hld;rw[hld];exact⟨_,[],iI,rfl,(dy.drop.drop).cA,⟨.inl ⟨_,rfl,rfl⟩,by simp⟩,rfl⟩
 have h2:e=0:=by simpa using h1
 subst h2;apply bI<;>intro h1
 ·have h2:¬t=l.length:=by simp at h1;omega
  rw[if_neg (by simp[h2])]at hld;rw[hld];exact⟨_,[],iI,rfl,(dy.drop.drop).cA,⟨.inl ⟨_,rfl,rfl⟩,by simp⟩,rfl⟩
 ·have h2:t=l.length:=by simp at h1;omega
  rw[aC ⟨rfl,h2⟩]at hld;rw[hld];exact⟨v',ps,pv,rfl,dy.dV 1,hps,hpr⟩
section
variable {A:List Af}{L:List Rf}
end
end Go.E.Y
namespace Go.E.Sn
theorem aq8{a b:Nat}(ha:a<10)(hb:b<10)(h:a<b):dg a<dg b:=by
 have:(dg a).toNat<(dg b).toNat:=by rw[yO,yO];omega
 exact this
theorem FV:∀(k n:Nat),uc k n=uc k (n%10^k)
 |0,n=>rfl
 |k+1,n=>by
  rw[uc,uc,FV k (n/10),FV k (n%10^(k+1)/10)]
  have h1:n%10^(k+1)/10=n/10%10^k:=by
   rw[show 10^(k+1)=10*10^k by rw[gN];omega,Nat.mod_mul_right_div_self]
  have h2:n%10^(k+1)%10=n%10:=Nat.mod_mod_of_dvd _ ⟨10^k,by rw[gN];omega⟩;rw[h1,Nat.mod_mod]
  congr 2
  simp only[dg,h2]
theorem aex:∀{k a b:Nat},a<b->b<10^k->uc k a<uc k b
 |0,a,b,h,hb=>by simp at hb;omega
 |k+1,a,b,h,hb=>by
  have hp:0<10^k:=Nat.pow_pos (by decide);rw[Ix,Ix];have h1:b/10^k<10:=lI (by rw[gN]at hb;omega);have h2:a/10^k<=b/10^k:=Nat.div_le_div_right (Nat.le_of_lt h);rcases Nat.lt_or_ge (a/10^k) (b/10^k)with h3|h3
  ·exact List.Lex.rel (aq8 (by omega) h1 h3)
  ·have h4:a/10^k=b/10^k:=by omega
   rw[h4];refine List.Lex.cons ?_;rw[FV k a,FV k b];refine aex ?_ (fo _ hp);have e1:=Jh a (10^k);have e2:=Jh b (10^k);rw[h4]at e1;omega
theorem akv{x y:List UInt8}(h:x<y):pre++x<pre++y:=List.Lex.cons (List.Lex.cons (List.Lex.cons (List.Lex.cons (List.Lex.cons h))))
end Go.E.Sn
namespace Go.E.Y
open Go.Proofs
variable{b:Nat}
theorem aoV{a:Nat}(h:a<b)(hb:b<=999999):tq (Sn.nm a)<tq (Sn.nm b):=by
 have e:∀n,tq (Sn.nm n)=Sn.pre++Sn.uc 6 n:=λn=>by simp[tq,Sn.nm]
 rw[e,e];exact Sn.akv (Sn.aex h (by omega))
theorem Pw(ss:List ByteArray):(ut ss).Pairwise λa b=>tq a<=tq b:=by
 have h:=ahM DF DG (ss.map tq);unfold ut;rw[cG];refine h.imp λ{a b} h=>?_;have e:∀l:List UInt8,tq ⟨l.toArray⟩=l:=λl=>by simp[tq]
 grind
theorem Ni(A:List Af):(gB A).Pairwise (· <= ·):=by
 unfold gB wV;rw[List.pairwise_filterMap];refine(Pw _).imp λ{s t} h x hx y hy=>?_;obtain⟨h1,h2,h3⟩:=s8 hx;obtain⟨k1,k2,k3⟩:=s8 hy;subst h3 k3;refine Nat.le_of_not_lt λbH=>?_;have:=aoV bH h2;exact h this
theorem Ur(A:List Af):(gB A).Perm (wV (A.map (·.name))):=(zf _).filterMap _
variable{A:List Af}{n:Nat}
theorem u0:n∈gB A↔1<=n/\n<=999999/\∃a∈A,a.name=Sn.nm n:=by
 rw[(Ur A).mem_iff,wV,List.mem_filterMap]
 constructor
 ·rintro⟨s,hs,e⟩
  obtain⟨a,ha,rfl⟩:=aV.1 hs;obtain⟨h1,h2,h3⟩:=s8 e
  grind
 ·rintro⟨h1,h2,a,ha,e⟩
  exact⟨Sn.nm n,by rw[<-e];exact aV.2 ⟨a,ha,rfl⟩,Qg h1 h2⟩
section
variable {m mm p:aD}{bl bf nb ns all cY:Nat}{name:ByteArray}
theorem Hw(h:mm bl=some (eU bf name all cY)):eN tP 209 [fy bl] mm [bR true]:=by
 refine ap Tryz.func209 ?_;refine xY ?_;refine xM h ?_;exact rR
theorem Hr(h:mm bl=some (eU bf name all cY)):eN tP 93 [fy bl] mm [i64 cY]:=by
 refine ap Tryz.func93 ?_;refine xN ?_;refine xM h ?_;exact rR
theorem LC(h:mm bl=some (eU bf name all cY)):eN tP 211 [fy bl] mm [i64 all]:=by
 refine ap Tryz.func211 ?_;refine xN ?_;refine xM h ?_;exact rR
theorem C3{l:List Int}(h:l.length<=1000000000):(Fr.wr l).length<=l.length+13:=by
 have h1:=eI (l.length:Int);simp only[Fr.wr,Fr.pC,ax,ae,cW];omega
theorem UD{A:List Af}{k:Nat}{q:Int}(hs:aq mm [blk1 bl (eU bf name all cY),p,m])(h:FA p bf q nb ns A)(hk:Sm k A nb ns):
  bi tP 130 [fy bl] mm λr m'=>∃p' ub,r=[i64 0]/\aq m' [blk1 bl (eU bf name all all),p',m]/\FA p' bf q nb ub (jU A name)/\ub<=ns+1:=by
 have Fc:mm bl=some (eU bf name all cY):=hs.sub (a:=blk1 bl (eU bf name all cY)) (by simp) _ _ (aG ..);refine ap Tryz.func130 ?_;refine bt (Hw Fc) ?_;refine xN ?_;refine⟨[.one (.pointer (some ⟨bf,0,none⟩)),.one (.string name)],⟨rfl,rfl,trivial⟩,rfl,⟨_,_,_,Fc,λj u hu=>?_⟩,?_⟩
 ·match j,hu with
  |0,hu=>exact hu
  |1,hu=>exact hu
  |j+2,hu=>simp[LB.cz,eB.cells]at hu
 refine aP (bi.frame (hs.fm (List.Perm.swap _ _ _)) (G0 (name:=name) h hk)) ?_;rintro _ m2⟨p2,⟨rfl,h2⟩,eD⟩;have adU:=eD.sub (a:=blk1 bl (eU bf name all cY)) (by simp) _ _ (aG ..);have gC:=eD.gu (i:=1) rfl (aG ..) (eU bf name all all);rw[cJ]at gC;refine xM adU ?_;refine⟨_,_,_,adU,⟨by simp,by simp⟩,?_⟩;exact⟨p2,_,rfl,gC.fm (List.Perm.swap _ _ _),h2,by split<;>omega⟩
end
abbrev dB(bf:Nat)(n:Int)(v:Value)(st:Nat):Obj:=.cells #[.pointer (some ⟨bf,0,none⟩),.int .i64 n,v,.int .i64 (st:Int)] 330
def oG(ps:List (List Int)):Bool:=ps.all λr=>Fr.mB r.length
def gE:ByteArray:=⟨#[115,110,97,112,46,116,109,112]⟩
section
variable {mm m p pv:aD}{bs bf nb ns k n st:Nat}{q:Int}{A:List Af}{v:Value}{l:List Nat}
theorem Yt{m:aD}:eN tP 210 [aoW] m [i64 0]:=by
 refine ap Tryz.func210 ?_;refine xY ?_;exact rR
theorem TM(h:mm bs=some (dB bf n v st)):eN tP 210 [fy bs] mm [i64 st]:=by
 refine ap Tryz.func210 ?_;refine xN ?_;refine xM h ?_;exact rR
end
theorem Sn.zq(n:Nat):(Sn.nm n).size=11:=by rw[Sn.nm,lX,ax,Sn.zD];rfl
variable{name:ByteArray}
theorem OJ{B:List Af}{l:List Nat}(h:∀b∈B,b.name≠name):kL B name l=B++[⟨name,l,0⟩]:=by
 induction B with
 |nil=>rfl
 |cons b B ih=>
  rw[kL,if_neg (λe=>h b (by simp) e.symm),ih λx hx=>h x (by simp[hx])];rfl
variable{R:List (List Int)}
theorem C6:Fr.fC R (Fr.kP R).length=(R.length,(Fr.kP R).length):=by
 have h1:=Fr.Pe (l:=R) (k:=(Fr.kP R).length) (s:=R.length) (aW _) (by rw[aJ];exact aW _);have h2:=Fr.BE (l:=R) (k:=(Fr.kP R).length);obtain⟨h3,_,_⟩:=Fr.zd (l:=R) (k:=(Fr.kP R).length)
 grind
theorem YM(hR:oG R=true):GL (Fr.kP R)=(R,(Fr.kP R).length,0):=by
 have h:=Fr.GK (l:=R) (k:=(Fr.kP R).length) (f:=(Fr.kP R).length+1) (λr hr=>bL.1 hR r hr) (by
  have:=Fr.C5 (l:=R) (k:=(Fr.kP R).length)
  omega)
 rw[aJ,C6,aJ]at h;exact h
theorem ag7{l:List Nat}(hs:l.Pairwise (· <= ·))(h1:n∈l)(h2:∀k∈l,k<=n):l.getLast?=some n:=by
 rcases List.eq_nil_or_concat l with rfl|⟨L,x,rfl⟩
 ·cases h1
 ·rw[List.concat_eq_append]at*
  rw[List.getLast?_append];have hx:=h2 x (by simp)
  grind
theorem ag0{s:Nat}(hl:(gB A).getLast?=some n)(hf:bS A (Sn.nm n)=some ⟨Sn.nm n,z6 (Fr.kP R),s⟩)(hR:oG R=true)(hb:∀r∈R,jl r):BZ A=(n,R,0):=by
 rw[Hu hl];have e:mL A (Sn.nm n)=z6 (Fr.kP R):=by rw[mL,hf];rfl
 rw[e,Nm (Fr.zJ hb),YM hR,vL,aC ⟨rfl,rfl⟩]
theorem DX(x:ByteArray):bS [] x=none:=rfl
theorem gG(a:Af)(A:List Af)(x:ByteArray):bS (a::A) x=if x=a.name then some a else bS A x:=by
 unfold bS
 grind
variable{x:ByteArray}
theorem Ig{a:Af}(h:bS A x=some a):a∈A/\a.name=x:=by
 unfold bS at h
 grind
theorem Ch:(bS A x).isSome=true↔∃a∈A,a.name=x:=by
 unfold bS
 grind
theorem Bo:bS A x=none↔∀a∈A,a.name≠x:=by
 rw[<-Option.not_isSome_iff_eq_none,Ch]
 grind
theorem vm(A:List Af)(n x:ByteArray)(l:List Nat):bS (kL A n l) x=if x=n then some (match bS A n with|some a=>{a with l:=a.l++l}|none=>⟨n,l,0⟩)else bS A x:=by
 induction A with
 |nil=>
  simp only[kL,gG,DX]
 |cons a A ih=>
  simp only[kL];by_cases h:n=a.name
  ·rw[aC h,gG,gG,gG,aC h]
   simp only;by_cases hx:x=n
   ·rw[aC (hx.trans h),aC hx]
   ·rw[if_neg (λe=>hx (e.trans h.symm)),if_neg hx,if_neg (λe=>hx (e.trans h.symm))]
  ·rw[if_neg h,gG,ih,gG,gG,if_neg h]
   by_cases hx:x=n
   ·rw[aC hx,if_neg (λe=>h (hx.symm.trans e)),aC hx]
   ·rw[if_neg hx,if_neg hx]
theorem nM(A:List Af)(n x:ByteArray):bS (jU A n) x=if x=n then(bS A x).map (λa=>{a with fB:=a.l.length})else bS A x:=by
 unfold jU;rw[RG (by intro a _;split<;>rfl)]
 cases h:bS A x with
 |none=>simp
 |some a=>
  have hn:=(Ig h).2;subst hn;by_cases hx:a.name=n
  ·simp[hx]
  ·simp[hx]
theorem If(A:List Af)(n x:ByteArray)(k:Nat):bS (xy A n k) x=if x=n then(bS A x).map (λa=>⟨a.name,a.l.take k,min a.fB k⟩)else bS A x:=by
 unfold xy;rw[RG (by intro a _;split<;>rfl)]
 cases h:bS A x with
 |none=>simp
 |some a=>
  have hn:=(Ig h).2;subst hn;by_cases hx:a.name=n
  ·simp[hx]
  ·simp[hx]
theorem ah0:n∈gB A↔1<=n/\n<=999999/\(bS A (Sn.nm n)).isSome=true:=by rw[u0,Ch]
theorem Y9(h1:1<=n)(h2:n<=999999)(hs:(bS A (Sn.nm n)).isSome=true)(cM:∀k,1<=k->k<=999999->(bS A (Sn.nm k)).isSome=true->k<=n):(gB A).getLast?=some n:=
 ag7 (Ni A) (ah0.2 ⟨h1,h2,hs⟩) λk hk=>by
  obtain⟨g1,g2,g3⟩:=ah0.1 hk;exact cM k g1 g2 g3
theorem Y8(h:∀k,1<=k->k<=999999->bS A (Sn.nm k)=none):gB A=[]:=by
 refine List.eq_nil_iff_forall_not_mem.2 λk hk=>?_;obtain⟨g1,g2,g3⟩:=ah0.1 hk
 grind
structure jf where
 g:Nat
 (P:List Kd)
 (R:List Kd)
 cY:Nat
 st:Nat
def jf.L(s:jf):List Kd:=iy [] (s.P++s.R)
def kI(L:List Kd):List (List Int):=L.map nJ
def eJ(L:List Kd):List Nat:=z6 (Fr.kP (kI L))
def M6:List UInt8:=[108,111,103,45]
def gK(g:Nat):ByteArray:=⟨(M6++Sn.uc 6 g).toArray⟩
theorem SB(g:Nat):(gK g).size=10:=by rw[gK,lX,ax,Sn.zD];rfl
theorem Nw{a:Nat}(ha:a<=999999)(hb:b<=999999)(h:gK a=gK b):a=b:=by
 unfold gK at h
 have h1:M6++Sn.uc 6 a=M6++Sn.uc 6 b:=by
  grind
 exact Sn.Ou (by omega) (by omega) (List.append_cancel_left h1)
theorem nI(a b:Nat):gK a≠Sn.nm b:=λh=>by
 have:=be ByteArray.size h;rw[SB,Sn.zq]at this;cases this
theorem UG:iQ (jR (gK n))=true:=by
 have hd:∀(k:Nat) (m:Nat),(Sn.uc k m).all (λc=>DH c.toNat)=true:=by
  intro k
  induction k with
  |zero=>intro m;rfl
  |succ k ih=>
   intro m;rw[Sn.uc,List.all_append,ih];simp only[List.all_cons,List.all_nil,mj,bj];rw[Sn.yO];have:m%10<10:=fo _ (by decide);simp only[DH,eM,aB,bA];omega
 have e:jR (gK n)=(M6++Sn.uc 6 n).map UInt8.toNat:=by simp[jR,gK]
 rw[e];unfold iQ;rw[aH,ax,Sn.zD,List.all_map,List.all_append];have h1:(Sn.uc 6 n).all (DH∘UInt8.toNat)=true:=hd 6 n;rw[h1];decide
structure FI(q:Int)(A:List Af)(s:jf):Prop where
 gp:∀x∈s.P,ki x
 gr:∀x∈s.R,ki x
 g:s.g<=900000
 su:s.cY<=s.R.length
 sn:1<=s.g->bS A (Sn.nm s.g)=some ⟨Sn.nm s.g,eJ s.P,(eJ s.P).length⟩
 s0:s.g=0->s.P=[]
 lg:(bS A (gK s.g)=none/\s.R=[])\/∃sf,bS A (gK s.g)=some ⟨gK s.g,eJ s.R,sf⟩/\(eJ (s.R.take s.cY)).length<=sf/\sf<=(eJ s.R).length
 nl:∀n,s.g<n->n<=999999->bS A (gK n)=none
 nn:∀n,s.g<n->n<=999999->(bS A (Sn.nm n)).isSome=true->s.st=4/\n=s.g+1
 st:s.st<=4
 ss:0<s.st->s.cY=s.R.length
 t2:s.st=2->∃f,bS A gE=some ⟨gE,eJ s.L,f⟩
 t3:s.st=3->bS A gE=some ⟨gE,eJ s.L,(eJ s.L).length⟩
 t4:s.st=4->bS A (Sn.nm (s.g+1))=some ⟨Sn.nm (s.g+1),eJ s.L,(eJ s.L).length⟩
 qt:0<q->(iP A:Int)<=q
structure CI(q:Int)(A:List Af)(g:Nat)(P R:List Kd)(K:Nat):Prop where
 gp:∀x∈P,ki x
 gr:∀x∈R,ki x
 gb:g<=900001
 sn:1<=g->bS A (Sn.nm g)=some ⟨Sn.nm g,eJ P,(eJ P).length⟩
 s0:g=0->P=[]
 lg:(bS A (gK g)=none/\R=[]/\K=0)\/∃sf,bS A (gK g)=some ⟨gK g,z6 ((Fr.kP (kI R)).take K),sf⟩/\K<=(Fr.kP (kI R)).length
 nl:∀n,g<n->n<=999999->bS A (gK n)=none
 nn:∀n,g<n->n<=999999->bS A (Sn.nm n)=none
 qt:0<q->(iP A:Int)<=q
def dN(R:List Kd)(K:Nat):Nat:=(Fr.fC (kI R) K).1
variable{s:jf}{q:Int}
theorem FI.gl(h:FI q A s):∀x∈s.L,ki x:=
 Wf _ _ (by simp) λx hx=>(aR.1 hx).elim (h.gp x) (h.gr x)
theorem KP(R:List Kd)(n:Nat):kI (R.take n)=(kI R).take n:=jJ ..
theorem abZ(R:List Kd):(kI R).length=R.length:=aH ..
theorem xX(A B:List Kd):kI (A++B)=kI A++kI B:=bD ..
def eE(g:Nat)(P R:List Kd)(K:Nat):jf:=⟨g,P,R.take (dN R K),dN R K,0⟩
theorem uN(R:List Kd)(K:Nat):dN R K<=R.length:=by
 have:=Fr.BE (l:=kI R) (k:=K);rw[abZ]at this;exact this
theorem ki.isr{x:Kd}(h:ki x):Fr.mB (nJ x).length=true:=by
 have:=h.len;simp only[Fr.mB,aB,bA];omega
variable{R:List Kd}
theorem zi(h:∀x∈R,ki x):∀r∈kI R,Fr.mB r.length=true/\jl r:=by
 intro r hr;obtain⟨x,hx,rfl⟩:=aV.1 hr;exact⟨(h x hx).isr,FL x⟩
theorem PT(h:∀x∈R,ki x):oG (kI R)=true:=by
 rw[oG,bL];exact λr hr=>(zi h r hr).1
theorem E1(A B:List Kd):eJ (A++B)=eJ A++eJ B:=by rw[eJ,xX,Fr.IJ,TH];rfl
theorem aeK(x:Kd):eJ [x]=z6 (Fr.wr (nJ x)):=by simp[eJ,kI,Fr.kP]
theorem aeL:eJ []=[]:=rfl
theorem OB(R:List Kd)(n:Nat):(eJ (R.take n)).length<=(eJ R).length:=by
 have:eJ R=eJ (R.take n)++eJ (R.drop n):=by rw[<-E1,dL]
 grind
variable{g K:Nat}{P:List Kd}
theorem CI.load(h:CI q A g P R K):BZ A=(g,kI P,0):=by
 have hg:=h.gb;by_cases h0:g=0
 ·have hP:=h.s0 h0
  subst hP h0;exact Hv (Y8 λk h1 h2=>h.nn k (by omega) h2)
 ·have hs:=h.sn (by omega)
  refine ag0 (s:=(eJ P).length) (Y9 (by omega) (by omega) (by rw[hs];rfl) λk h1 h2 h3=>?_) hs (PT h.gp) λr hr=>(zi h.gp r hr).2;by_cases hk:g<k
  ·rw[h.nn k hk h2]at h3;cases h3
  ·omega
theorem CI.agz(h:CI q A g P R K)(hn:bS A (gK g)=none)(hg:g<=900000):FI q A (eE g P R K):=by
 have hR:R=[]/\K=0:=by
  rcases h.lg with⟨_,h1,h2⟩|⟨sf,h1,_⟩
  ·grind
  grind
 obtain⟨rfl,rfl⟩:=hR
 have e:eE g P [] 0=⟨g,P,[],0,0⟩:=by
  have:=uN [] 0;have h0:dN [] 0=0:=by simpa using this
  unfold eE;rw[h0];rfl
 rw[e]
 exact {
  gp:=h.gp
  gr:=by simp
  g:=hg
  su:=by simp
  sn:=h.sn
  s0:=h.s0
  lg:=.inl ⟨hn,rfl⟩
  nl:=h.nl
  nn:=λn h1 h2 h3=>by rw[h.nn n h1 h2]at h3;cases h3
  st:=by simp
  ss:=λhx=>absurd hx (by simp)
  t2:=λhx=>absurd hx (by simp)
  t3:=λhx=>absurd hx (by simp)
  t4:=λhx=>absurd hx (by simp)
  qt:=h.qt}
theorem CI.agy{sf:Nat}(h:CI q A g P R K)(hf:bS A (gK g)=some ⟨gK g,z6 ((Fr.kP (kI R)).take K),sf⟩)(hg:g<=900000):FI q (jU (xy A (gK g) (Fr.fC (kI R) K).2) (gK g)) (eE g P R K):=by
 obtain⟨w1,w2,w3⟩:=Fr.zd (l:=kI R) (k:=K);have qV:∀x,x≠gK g->bS (jU (xy A (gK g) (Fr.fC (kI R) K).2) (gK g)) x=bS A x:=λx hx=>by rw[nM,if_neg hx,If,if_neg hx]
 have hle:=uN R K
 have ux:bS (jU (xy A (gK g) (Fr.fC (kI R) K).2) (gK g)) (gK g)=some ⟨gK g,eJ (R.take (dN R K)),(eJ (R.take (dN R K))).length⟩:=by
  rw[nM,aC rfl,If,aC rfl,hf];simp only[dZ]
  have e:(z6 ((Fr.kP (kI R)).take K)).take (Fr.fC (kI R) K).2=eJ (R.take (dN R K)):=by
   rw[<-abp,List.take_take,gH w2,w3,eJ,KP,dN]
  rw[e]
 have ht:(R.take (dN R K)).length=dN R K:=by rw[aK];omega
 exact {
  gp:=h.gp
  gr:=λx hx=>h.gr x (bX hx)
  g:=hg
  su:=by show dN R K<=(R.take (dN R K)).length;omega
  sn:=λh1=>by
   show bS _ (Sn.nm g)=_
   rw[qV _ (λe=>nI g g e.symm)];exact h.sn h1
  s0:=h.s0
  lg:=.inr ⟨_,ux,OB _ _,aW _⟩
  nl:=λn h1 h2=>by
   show bS _ (gK n)=none
   have h1:g<n:=h1;rw[qV _ (λe=>by have:=Nw h2 (by omega) e;omega)];exact h.nl n h1 h2
  nn:=λn h1 h2 h3=>by
   rw[qV _ (λe=>nI g n e.symm),h.nn n h1 h2]at h3;cases h3
  st:=by simp[eE]
  ss:=λhx=>absurd hx (by simp[eE])
  t2:=λhx=>absurd hx (by simp[eE])
  t3:=λhx=>absurd hx (by simp[eE])
  t4:=λhx=>absurd hx (by simp[eE])
  qt:=λhq=>by
   have h1:=(uO (xy A (gK g) (Fr.fC (kI R) K).2) (gK g)).t;have h2:=(IE A (gK g) (Fr.fC (kI R) K).2).t;have h3:=h.qt hq
   omega}
def jf.put(s:jf)(x:Kd):jf:={s with R:=s.R++[x]}
theorem jf.ai3(s:jf)(x:Kd):(s.put x).L=iz s.L x.1 x.2:=by
 show iy [] (s.P++(s.R++[x]))=iz (iy [] (s.P++s.R)) x.1 x.2
 rw[<-aX,F7]
theorem FI.put{x:Kd}(h:FI q A s)(h0:s.st=0)(hx:ki x)(hq:¬(0<q/\q<(iP A+(Fr.wr (nJ x)).length:Nat))):FI q (kL A (gK s.g) (z6 (Fr.wr (nJ x)))) (s.put x):=by
 have hg:=h.g;have qV:∀y,y≠gK s.g->bS (kL A (gK s.g) (z6 (Fr.wr (nJ x)))) y=bS A y:=λy hy=>by rw[vm,if_neg hy]
 have Ac:(s.R++[x]).take s.cY=s.R.take s.cY:=by rw[dD h.su]
 exact {
  gp:=h.gp
  gr:=λy hy=>by
   rcases aR.1 hy with hy|hy
   ·exact h.gr y hy
   ·rw[aL.1 hy];exact hx
  g:=h.g
  su:=by
   have:=h.su
   show s.cY<=(s.R++[x]).length
   rw[ax];omega
  sn:=λh1=>by
   show bS _ (Sn.nm s.g)=_
   rw[qV _ (λe=>nI _ _ e.symm)];exact h.sn h1
  s0:=h.s0
  lg:=by
   refine .inr ?_
   show ∃sf,bS _ (gK s.g)=some ⟨gK s.g,eJ (s.R++[x]),sf⟩/\(eJ ((s.R++[x]).take s.cY)).length<=sf/\sf<=(eJ (s.R++[x])).length
   rw[Ac,E1,aeK,vm,aC rfl];rcases h.lg with⟨h1,h2⟩|⟨sf,h1,h2,h3⟩
   ·rw[h1,h2]
    refine⟨0,rfl,?_,by omega⟩;simp[aeL]
   ·rw[h1]
    exact⟨sf,rfl,h2,by rw[ax];omega⟩
  nl:=λn h1 h2=>by
   have h1:s.g<n:=h1;rw[qV _ (λe=>by have:=Nw h2 (by omega) e;omega)];exact h.nl n h1 h2
  nn:=λn h1 h2 h3=>by
   rw[qV _ (λe=>nI _ _ e.symm)]at h3;exact h.nn n h1 h2 h3
  st:=h.st
  ss:=λhs=>by
   have hs:0<s.st:=hs;omega
  t2:=λhs=>by have hs:s.st=2:=hs;omega
  t3:=λhs=>by have hs:s.st=3:=hs;omega
  t4:=λhs=>by have hs:s.st=4:=hs;omega
  qt:=λNP=>by
   have:=(F0 (gK s.g) (z6 (Fr.wr (nJ x))) A).1;rw[vL]at this
   omega}
def jf.Gj(s:jf):jf:={s with cY:=s.R.length}
theorem VX(h:bS A name=none):rmA (kL A name []) name=A:=by
 have h1:=Bo.1 h;rw[OJ h1,rmA,aaB]
 simp_all
theorem Z4(h:bS A name=none):Ik A name=4:=by rw[Ik,h];rfl
theorem Z3{a:Af}(h:bS A name=some a):Ik A name=0:=by rw[Ik,h];rfl
variable{p m mm:aD}{bf nb ns k:Nat}
theorem Lt(h:FA p bf q nb ns A)(hs:aq mm [p,m])(hk:Sm k A nb ns)(hn:iQ (jR name)=true)(hz:name.size<=1000000)(hq:0<=q/\q<=9223372036854775807)(hqt:0<q->(iP A:Int)<=q)(hf:bS A name=none):
  bi tP 87 [fy bf,.v (.string name)] mm λr m'=>∃bl p',r=[fy bl,.v (.slice none 0 0),i64 0]/\aq m' [blk1 bl (eU bf name 0 0),p',m]/\FA p' bf q nb ns A:=by
 refine c7 c87 Tryz.func87 ?_;intro bl Fc;have MS:=hs.new Fc (eU bf name 0 0);refine aP (MW (name:=name) (h.grow (MS.sub)) hk) ?_;rintro _ m1⟨v,p1,rfl,bM,hv⟩;have bM:aq m1 [p1,blk1 bl (eU bf name 0 0),p,m]:=bM.under (a:=[p1]) MS;rw[Z4 hf];refine xY ?_;have bZ:aq m1 [p,blk1 bl (eU bf name 0 0),m]:=bM.drop.fm (List.Perm.swap _ _ _);obtain⟨q1,mQ,dy,oF⟩:=aq.x7 bZ;refine aP (IR (name:=name) (lb:=[]) h dy hk (Lb.nil _ 0).la (by simp) hz hq (by simp)) ?_;rintro _ m2⟨e,p2,A',oK,rfl,eP,h2,hr⟩;conv=>whnf
 rw[I1,if_neg (by simp[hn]),if_neg (by simp only[cW,gO];intro hc;have:=hqt hc.1;omega)]at hr;obtain⟨rfl,rfl,rfl⟩:=hr;have eP:=oF _ _ eP;refine xN ?_;refine aP (bi.frame eP (xW (name:=name) h2)) ?_;rintro _ m3⟨p3,⟨rfl,h3⟩,eD⟩;conv=>whnf
 rw[VX hf]at h3;exact⟨bl,p3,rfl,eD.fm (List.Perm.swap _ _ _),h3⟩
theorem Zf{sf:Nat}{R:List (List Int)}(h:FA p bf q nb ns A)(hs:aq mm [p,m])(hk:Sm k A nb ns)(hR:∀r∈R,Fr.mB r.length=true/\jl r)(hK:K<=(Fr.kP R).length)(hK2:K<=10000000)(hf:bS A name=some ⟨name,z6 ((Fr.kP R).take K),sf⟩):
  bi tP 87 [fy bf,.v (.string name)] mm λr m'=>∃bl v ps pv p',r=[fy bl,.v v,i64 0]/\aq m' [blk1 bl (eU bf name (Fr.fC R K).1 (Fr.fC R K).1),pv,p',m]/\jL pv v ps/\ps.map (·.2)=R.take (Fr.fC R K).1/\FA p' bf q nb (ns+1) (jU (xy A name (Fr.fC R K).2) name):=by
 have OU:jl (Fr.kP R):=Fr.zJ λr hr=>(hR r hr).2;obtain⟨w1,w2,w3⟩:=Fr.zd (l:=R) (k:=K);have w4:=Fr.C5 (l:=R) (k:=K);have w5:=Fr.BE (l:=R) (k:=K);refine c7 c87 Tryz.func87 ?_;intro bl Fc;have MS:=hs.new Fc (eU bf name 0 0);refine aP (MW (name:=name) (h.grow (MS.sub)) hk) ?_;rintro _ m1⟨v,p1,rfl,bM,hv⟩;have bM:aq m1 [p1,blk1 bl (eU bf name 0 0),p,m]:=bM.under (a:=[p1]) MS;rw[Z3 hf];rw[hf]at hv;simp only[dZ,jA]at hv;rw[Nm (Sz OU K)]at hv;refine xN ?_;refine xN ?_;have wz:((Fr.kP R).take K).length=K:=by rw[aK];omega
 refine aP (PU (hv.lb.sub (bM.sub (a:=p1))) (Sz OU K) (by omega)) ?_;rintro _ m2⟨v',ps,pv,rfl,bZ,hps,adB⟩;have bZ:aq m2 [pv,p1,blk1 bl (eU bf name 0 0),p,m]:=bZ.under (a:=[pv]) bM;have hrd:=Fr.GK (l:=R) (k:=K) (f:=K+1) (λr hr=>(hR r hr).1) (by omega);rw[wz]at adB⊢;rw[hrd]at adB⊢;dsimp only at adB⊢;refine xN ?_
 have dy:aq m2 [p,pv,blk1 bl (eU bf name 0 0),m]:=(bZ.dV 1).fm (by
  show List.Perm [pv,blk1 bl (eU bf name 0 0),p,m] [p,pv,blk1 bl (eU bf name 0 0),m]
  refine(List.Perm.cons _ (List.Perm.swap _ _ _)).trans ?_
  exact List.Perm.swap _ _ _)
 refine aP (bi.frame dy (aq9 (name:=name) (n:=((Fr.fC R K).2:Nat)) h hk)) ?_;rintro _ m3⟨p2,⟨rfl,h2⟩,eP⟩;have ZH:(z6 ((Fr.kP R).take K)).length=K:=by rw[vL,wz]
 have ec:Xw A name ((Fr.fC R K).2:Nat)=xy A name (Fr.fC R K).2:=by
  rw[Xw,hf];simp only;rw[aC (by rw[ZH];omega),aA]
 rw[ec]at h2;have Fb:Sm k (xy A name (Fr.fC R K).2) nb ns:=⟨λa ha=>(IE A name _).l _ hk.l a ha,by rw[xy,aH];exact hk.n,hk.nb,hk.ns,hk.k⟩;have ava:m3 bl=some (eU bf name 0 0):=eP.sub (a:=blk1 bl (eU bf name 0 0)) (by simp) _ _ (aG ..);refine⟨[.one (.pointer (some ⟨bf,0,none⟩)),.one (.string name)],⟨rfl,rfl,trivial⟩,rfl,⟨_,_,_,ava,λj u hu=>?_⟩,?_⟩
 ·match j,hu with
  |0,hu=>exact hu
  |1,hu=>exact hu
  |j+2,hu=>simp[LB.cz,eB.cells]at hu
 refine aP (bi.frame eP (G0 (name:=name) h2 Fb)) ?_;rintro _ m4⟨p3,⟨rfl,h3⟩,eD⟩;have apu:(bS (xy A name (Fr.fC R K).2) name).isSome=true:=by rw[If,aC rfl,hf];rfl
 rw[aC apu]at h3
 have CU:ps.length=(Fr.fC R K).1:=by
  have:=be List.length adB;rw[aH,aK,gH w5]at this;exact this
 obtain⟨av,cv,rfl⟩:=hps.shape;rw[CU]at hps⊢;have au9:m4 bl=some (eU bf name 0 0):=eD.sub (a:=blk1 bl (eU bf name 0 0)) (by simp) _ _ (aG ..);refine⟨_,_,_,au9,⟨by simp,by simp⟩,?_⟩;refine⟨_,_,_,aD.bg ..,⟨by simp,by simp⟩,?_⟩;have gC:=eD.gu (i:=2) rfl (aG ..) (eU bf name (Fr.fC R K).1 0);rw[cJ]at gC;have iU:=gC.gu (i:=2) rfl (aG ..) (eU bf name (Fr.fC R K).1 (Fr.fC R K).1);rw[cJ]at iU;have k8:aq _ [p3,pv,blk1 bl (eU bf name (Fr.fC R K).1 (Fr.fC R K).1),m]:=iU;refine⟨bl,_,ps,pv,p3,rfl,k8.fm ?_,hps,adB,h3⟩;refine(List.Perm.cons _ (List.Perm.swap _ _ _)).trans ?_;refine(List.Perm.swap _ _ _).trans ?_;exact List.Perm.cons _ (List.Perm.swap _ _ _)
section
variable {m mm p:aD}{bl bf nb ns all cY:Nat}{name:ByteArray}
theorem ac4{vb:Value}{lb:List Int}{A:List Af}{k:Nat}{q:Int}(hs:aq mm [blk1 bl (eU bf name all cY),p,m])(h:FA p bf q nb ns A)(hk:Sm k A nb ns)(hv:La mm vb lb)(hb:jl lb)(hr:Fr.mB lb.length=true)(hl:lb.length<=100000)(hn:iQ (jR name)=true)(hz:name.size<=1000000)(ha:all<=1000000)(hq:0<=q/\q<=9223372036854775807):
  bi tP 179 [fy bl,.v vb] mm λr m'=>∃p',(0<q/\q<(iP A+(Fr.wr lb).length:Nat)/\r=[i64 0,i64 5]/\aq m' [blk1 bl (eU bf name all cY),p',m]/\FA p' bf q nb ns A)\/(¬(0<q/\q<(iP A+(Fr.wr lb).length:Nat))/\r=[i64 ((all+1:Nat):Int),i64 0]/\aq m' [blk1 bl (eU bf name (all+1) cY),p',m]/\FA p' bf q (nb+(Fr.wr lb).length) ns (kL A name (z6 (Fr.wr lb)))):=by
 have hw:=C3 (l:=lb) (by omega)
 have hbw:jl (Fr.wr lb):=by
  have:=Fr.zJ (l:=[lb]) (by simpa using hb);simpa [Fr.kP]using this
 have Fc:mm bl=some (eU bf name all cY):=hs.sub (a:=blk1 bl (eU bf name all cY)) (by simp) _ _ (aG ..);refine c7 aDx Tryz.func179 ?_;refine bt (Hw Fc) ?_;refine xN ?_;refine aP (O7 hv hb hr) ?_;rintro _ m1⟨v',pw,rfl,bM,Zs⟩;have bM:aq m1 [pw,blk1 bl (eU bf name all cY),p,m]:=bM.under (a:=[pw]) hs;refine xN ?_;have aqt:=bM.sub (a:=blk1 bl (eU bf name all cY)) (by simp) _ _ (aG ..);refine xM aqt ?_;refine xM aqt ?_
 have bZ:aq m1 [p,pw,blk1 bl (eU bf name all cY),m]:=bM.fm (by
  refine(List.Perm.cons _ (List.Perm.swap _ _ _)).trans ?_
  exact List.Perm.swap _ _ _)
 obtain⟨q1,mQ,dy,oF⟩:=aq.x7 bZ;refine aP (IR (name:=name) (lb:=z6 (Fr.wr lb)) h dy hk (by rw[Nm hbw];exact(Zs.lb.sub (mQ pw (by simp))).la) (Wh hbw) hz hq (by rw[vL];omega)) ?_;rintro _ m2⟨e,p2,A',oK,rfl,eP,h2,jK⟩;conv=>whnf
 rw[I1,if_neg (by simp[hn]),vL]at jK;have eP:aq m2 [p2,pw,blk1 bl (eU bf name all cY),m]:=oF _ _ eP;have eD:aq m2 [p2,blk1 bl (eU bf name all cY),m]:=eP.dV 1;by_cases jH:0<q/\q<(iP A+(Fr.wr lb).length:Nat)
 ·rw[aC jH]at jK
  obtain⟨rfl,rfl,rfl⟩:=jK;refine xY ?_;exact⟨p2,.inl ⟨jH.1,jH.2,rfl,eD.fm (List.Perm.swap _ _ _),h2⟩⟩
 rw[if_neg jH]at jK;obtain⟨rfl,rfl,rfl⟩:=jK;have adU:=eD.sub (a:=blk1 bl (eU bf name all cY)) (by simp) _ _ (aG ..);have gC:=eD.gu (i:=1) rfl (aG ..) (eU bf name (all+1) cY);rw[cJ]at gC;have ew:IntKind.i64.wrap ((all:Int)+1)=((all+1:Nat):Int):=ado (by omega);refine xN ?_;refine xM adU ?_;refine⟨_,_,_,adU,⟨by simp,by simp⟩,?_⟩;refine xM (aD.bg ..) ?_;rw[ew];exact⟨p2,.inr ⟨jH,rfl,gC.fm (List.Perm.swap _ _ _),h2⟩⟩
end
theorem jZ.j8(h:jZ m):cK m:=λW hW=>by
 obtain⟨tp,p,T,fr,h1⟩:=h.syn;exact⟨rfl,hW.lt h1⟩
theorem wj(hg:jZ m)(h2:n<=999999):eN tP 88 [i64 n] m [.v (.string (gK n))]:=by
 obtain⟨p1,p2⟩:=Sn.QO (n:=n) (by omega);refine ap Tryz.func88 ?_;refine bt (LI hg (by omega) (by omega)) ?_;conv=>whnf
 have es:((⟨(Lib.itoa (n:Int)).toArray⟩:ByteArray).size:Int)=((Lib.itoa (n:Int)).length:Int):=rfl;have ew:max (IntKind.i64.wrap (6-((⟨(Lib.itoa (n:Int)).toArray⟩:ByteArray).size:Int))) 0=((6-(Lib.itoa (n:Int)).length:Nat):Int):=by rw[es,wi];omega
 rw[ew];refine bt (Ep hg (s:=⟨#[48]⟩) (c:=6-(Lib.itoa (n:Int)).length) (by rw[show(⟨#[48]⟩:ByteArray).size=1 from rfl];omega) (by omega)) ?_;have er:Lib.repeatL (⟨#[48]⟩:ByteArray).data.toList (6-(Lib.itoa (n:Int)).length)=Lib.repeatL [48] (6-(Lib.itoa (n:Int)).length):=rfl;have hz:=Sn.PQ (6-(Lib.itoa (n:Int)).length);rw[er];generalize Lib.repeatL [48] (6-(Lib.itoa (n:Int)).length)=Z at p2 hz;generalize Lib.itoa (n:Int)=D at p1 p2 hz;refine⟨by rw[lX Z,show(⟨#[108,111,103,45]⟩:ByteArray).size=4 from rfl];omega,?_⟩;have e1:(⟨#[108,111,103,45]⟩:ByteArray)=⟨M6.toArray⟩:=rfl;rw[e1,wg];refine⟨by rw[lX,lX,ax,show M6.length=4 from rfl];omega,?_⟩;refine⟨?_,rfl⟩;rw[wg,gK,<-p2,aX]
abbrev cP(bf g:Nat)(lv:Value)(bl:Nat)(sv:Value):Obj:=.cells #[.pointer (some ⟨bf,0,none⟩),.int .i64 (g:Int),lv,.pointer (some ⟨bl,0,none⟩),sv] 165
def SvP(ps:aD)(bf:Nat)(s:jf)(sv:Value):Prop:=
 (sv= .pointer none/\s.st=0)\/∃(b n:Nat) (v:Value) (pv:aD) (l:List Nat),sv= .pointer (some ⟨b,0,none⟩)/\aq ps [blk1 b (dB bf n v s.st),pv]/\Bs pv v (nc l)/\(∀x∈l,x<256)/\(0<s.st->n=s.g+1/\l=eJ s.L)
def SP(p:aD)(bs bf:Nat)(s:jf):Prop:=∃(bl:Nat) (lv sv:Value) (ps g:aD),aq p [blk1 bs (cP bf s.g lv bl sv),blk1 bl (eU bf (gK s.g) s.R.length s.cY),ps,g]/\lu g lv s.L/\SvP ps bf s sv
structure SR(m:aD)(bs bf:Nat)(s:jf)(bl:Nat)(lv sv:Value):Prop where
 o:m bs=some (cP bf s.g lv bl sv)
 lg:m bl=some (eU bf (gK s.g) s.R.length s.cY)
 l:lu m lv s.L
 sv:(sv= .pointer none/\s.st=0)\/∃(b n:Nat) (v:Value),sv= .pointer (some ⟨b,0,none⟩)/\m b=some (dB bf n v s.st)
section
variable {m:aD}{bs bf bl:Nat}{s:jf}{lv sv:Value}
theorem r7(h:SR m bs bf s bl lv sv):eN tP 129 [fy bs] m [bR true]:=by
 refine ap Tryz.func129 ?_;refine xY ?_;refine xM h.o ?_;exact rR
theorem KM(h:SR m bs bf s bl lv sv):eN tP 181 [fy bs] m [i64 s.R.length]:=by
 refine ap Tryz.func181 ?_;refine xN ?_;refine xM h.o ?_;refine bt (LC h.lg) ?_;exact rR
theorem adz(h:SR m bs bf s bl lv sv):eN tP 131 [fy bs] m [i64 s.st]:=by
 refine ap Tryz.func131 ?_;refine xN ?_;rcases h.sv with⟨rfl,h0⟩|⟨b,n,v,rfl,h1⟩
 ·refine xM h.o ?_
  refine bt (Yt) ?_;exact⟨by rw[h0];rfl,rfl⟩
 ·refine xM h.o ?_
  refine bt (TM h1) ?_;exact rR
def sW(s:jf)(k:ByteArray)(c:Ct):Int:=if kZ (jR k)=false then 1 else if dA c.1 c.2=false then 3 else if 0<s.st then 7 else 0
theorem KL(hS:cK m)(h:SR m bs bf s bl lv sv){k:ByteArray}{u:List Int}{a:Option Addr}{c:Nat}{E:List En}(hv:Na m (.slice a E.length c) E)(hI:∀e∈E,CS e)(hk:k.size<=1000000)(hl:E.length<=1000000):
  eN tP 178 [fy bs,.v (.string k),iY u a E.length c] m [i64 (sW s k (u,E))]:=by
 refine ap Tryz.func178 ?_;refine bt (r7 h) ?_;refine xN ?_;refine bt (iB (s:=k) hk) ?_;by_cases h1:kZ (jR k)=true;rotate_left
 ·have h1:kZ (jR k)=false:=by simpa using h1
  rw[h1];refine xY ?_;exact⟨by rw[sW,aC h1],rfl⟩
 rw[h1];refine xN ?_;refine bt (pV (u:=u) hS hv hI hl) ?_;by_cases h2:dA u E=true;rotate_left
 ·have h2:dA u E=false:=by simpa using h2
  rw[h2];refine xY ?_;exact⟨by rw[sW,if_neg (by rw[h1];decide),aC h2],rfl⟩
 rw[h2];refine xN ?_;refine bt (adz h) ?_;apply bI<;>intro h3
 ·have yF:0<s.st:=by have:=ah h3;omega
  exact⟨by rw[sW,if_neg (by rw[h1];decide),if_neg (by rw[h2];decide),aC yF],rfl⟩
 ·have yF:¬ 0<s.st:=by have:=aj h3;omega
  exact⟨by rw[sW,if_neg (by rw[h1];decide),if_neg (by rw[h2];decide),if_neg yF],rfl⟩
theorem abN(s:jf):s.L.length<=s.P.length+s.R.length:=by
 have:=uL [] (s.P++s.R);rw[ax]at this;simpa [jf.L]using this
theorem Db(h:SR m bs bf s bl lv sv){k:ByteArray}(hl:s.L.length<=1000000)(hE:(gh s.L k).2.length<=1000000):
  bi tP 43 [fy bs,.v (.string k)] m λr m'=>∃a c p,r=[iY (gh s.L k).1 a (gh s.L k).2.length c,bR (vj s.L k).isSome]/\aq m' [p,m]/\No p (.slice a (gh s.L k).2.length c) (gh s.L k).2:=by
 refine ap Tryz.func43 ?_;refine xN ?_;refine⟨_,aF h.o rfl,by obtain⟨a,c,e⟩:=h.l.shape;rw[e];rfl,?_⟩;refine aP (G3 (k:=k) h.l hl) ?_;rintro _ m1⟨a,c,rfl,bM,he⟩;generalize gh s.L k=x at*;obtain⟨xu,xE⟩:=x;simp only at he hE;refine aP (l7 (E:=xE) (he.sub bM) (by omega)) ?_;rintro _ m2⟨v',p,rfl,bZ,hp⟩;obtain⟨a',c',rfl⟩:=hp.el.shape;refine⟨a',c',p,by simp,?_,hp⟩;exact(aq.Ci (bZ.fm (List.Perm.swap _ _ _)) bM).fm (List.Perm.swap _ _ _)
end
def H7(q:Int)(A:List Af)(x:Kd):Prop:=0<q/\q<(iP A+(Fr.wr (nJ x)).length:Nat)
instance (q:Int) (A:List Af) (x:Kd):Decidable (H7 q A x):=by unfold H7;infer_instance
def rq(q:Int)(A:List Af)(s:jf)(x:Kd):Int:=if sW s x.1 x.2≠0 then sW s x.1 x.2 else if H7 q A x then 5 else 0
variable{k:ByteArray}
theorem Ef{c:Ct}(h:sW s k c=0):kZ (jR k)=true/\dA c.1 c.2=true/\s.st=0:=by
 unfold sW at h
 grind
variable{m':aD}
theorem akU{o:Obj}(h:m b=some o)(hs:cL m m'):N8 [b] m m':=HG ((hs _ _ h).trans h.symm)
structure aiJ(m' m:aD)(bs bf:Nat)(q:Int)(nb ns:Nat)(A:List Af)(s:jf):Prop where
 ex:∃p pf,aq m' [p,pf,m]/\SP p bs bf s/\FA pf bf q nb ns A
variable{pf ps:aD}{bs:Nat}{lv:Value}
theorem abB{g:aD}{bl:Nat}{sv:Value}(h:aq m' [blk1 bs (cP bf s.g lv bl sv),blk1 bl (eU bf (gK s.g) s.R.length s.cY),ps,g,pf,m])(hk:lu g lv s.L)(W6:SvP ps bf s sv)(hf:FA pf bf q nb ns A):aiJ m' m bs bf q nb ns A s:=by
 have h1:aq m' ([blk1 bs (cP bf s.g lv bl sv),blk1 bl (eU bf (gK s.g) s.R.length s.cY),ps,g]++[pf,m]):=h;obtain⟨h2,h3⟩:=aq.k9 _ h1;exact⟨_,pf,h2,⟨bl,lv,sv,ps,g,h3,hk,W6⟩,hf⟩
variable{u:List Int}
theorem ada{w:List Int}(hu:yZ u)(hw:yZ w):yZ (QL u w):=by
 have key:∀{a b:List Int},yZ a->yZ b->yZ (List.zipWith max a b):=λ{a b} ha hb=>by
  refine⟨by rw[List.length_zipWith,ha.1,hb.1];rfl,λx hx=>?_⟩;obtain⟨i,hi,rfl⟩:=dc hx;rw[List.length_zipWith]at hi;rw[List.getElem_zipWith];have h1:=ha.2 a[i] (aO _);have h2:=hb.2 b[i] (aO _)
  grind
 exact key (key pg hu) hw
theorem xH{x y:Ct}(hx:jg (k,x))(hy:jg (k,y))(h:(nh x y).2=0):jg (k,(nh x y).1):=by
 unfold nh at h⊢
 split at h
 ·cases h
 ·split at h
  ·cases h
  ·split at h
   ·cases h
   ·rename_i h1 h2 h3
    rw[if_neg h1,if_neg h2,if_neg h3];refine⟨ada hx.u hy.u,λe he=>?_,?_⟩
    ·have he:e∈nY (yv x.1 y.1 x.2 y.2):=he
     have:=(List.mem_mergeSort).1 he;rcases aR.1 this with h|h
     ·exact hx.e e (cH.1 h).1
     ·exact hy.e e (cH.1 h).1
    ·show(nY (yv x.1 y.1 x.2 y.2)).length<=1000
     rw[zg];omega
theorem qo{L:List Kd}(h:∀x∈L,jg x)(k:ByteArray):jg (k,gh L k):=by
 cases e:vj L k with
 |none=>rw[gh,e];exact⟨pg,by simp,by simp⟩
 |some c=>
  rw[gh,e];have:=h _ (L6 e);exact⟨this.u,this.e,this.n⟩
def jw(s:jf)(x:Kd):Ct×Int:=nh (gh s.L x.1) x.2
def Hn(q:Int)(A:List Af)(s:jf)(x:Kd):Int:=
 if sW s x.1 x.2≠0 then sW s x.1 x.2 else if (jw s x).2≠0 then(jw s x).2 else if gh s.L x.1=(jw s x).1 then 0 else rq q A s (x.1,(jw s x).1)
def yp(q:Int)(A:List Af)(s:jf)(x:Kd):Bool:=
 decide (sW s x.1 x.2=0)&&decide ((jw s x).2=0)&& !decide (gh s.L x.1=(jw s x).1)&&decide (rq q A s (x.1,(jw s x).1)=0)
structure Gr(A A':List Af)(b:Nat):Prop where
 l:∀c,b<=c->(∀a∈A,a.l.length<=c)->∀a∈A',a.l.length<=c
 n:A'.length<=A.length+1
 nm:Eg A->Eg A'
theorem Gr.refl(A:List Af)(b:Nat):Gr A A b:=⟨λ_ _ h=>h,by omega,id⟩
theorem WF{g:Af->Af}(hg:∀a∈A,(g a).name=a.name)(h:Eg A):Eg (A.map g):=λa ha=>by
 obtain⟨x,hx,rfl⟩:=aV.1 ha;rw[hg x hx];exact h x hx
theorem Hg(n:ByteArray)(h:Eg A):Eg (jU A n):=WF (λa _=>by split<;>rfl) h
theorem agO(n:ByteArray)(k:Nat)(h:Eg A):Eg (xy A n k):=WF (λa _=>by split<;>rfl) h
variable{n:ByteArray}
theorem Gr.cut{k:Nat}:Gr A (jU (xy A n k) n) b:=⟨λc _ h=>(uO _ n).l c ((IE A n k).l c h),by rw[jU,aH,xy,aH];omega,λh=>Hg n (agO n k h)⟩
variable{kk:Nat}
theorem Qu(hs:aq mm [pf,m])(hf:FA pf bf q nb ns A)(hk:Sm kk A nb ns)(hc:CI q A g P R K)(hgb:g<=900000)(hq:0<=q/\q<=9223372036854775807)(hK:K<=10000000):
  bi tP 87 [fy bf,.v (.string (gK g))] mm λr m'=>∃bl v ps pv RL ub A',r=[fy bl,.v v,i64 0]/\aq m' [blk1 bl (eU bf (gK g) (dN R K) (dN R K)),pv,RL,m]/\jL pv v ps/\ps.map (·.2)=kI (R.take (dN R K))/\FA RL bf q nb ub A'/\FI q A' (eE g P R K)/\ub<=ns+1/\Gr A A' 0/\(bS A (gK g)=none->A'=A):=by
 cases Xf:bS A (gK g)with
 |none=>
  refine(Lt hf hs hk UG (by rw[SB];omega) hq hc.qt Xf).mono λr m' ⟨bl,RL,h1,h2,h3⟩=>?_
  have hR:R=[]/\K=0:=by
   rcases hc.lg with⟨_,h1,h2⟩|⟨sf,h1,_⟩
   ·exact⟨h1,h2⟩
   ·rw[Xf]at h1;cases h1
  have hw:dN R K=0:=by
   have:=uN R K;rw[hR.1]at this⊢;simpa using this
  refine⟨bl,_,[],iI,RL,ns,A,h1,?_,⟨.inl ⟨_,rfl,rfl⟩,by simp⟩,by rw[hw];rfl,h3,hc.agz Xf hgb,by omega,.refl _ _,λ_=>rfl⟩;rw[hw];exact(h2.cA).fm (List.Perm.swap _ _ _)
 |some a=>
  rcases hc.lg with⟨h1,_⟩|⟨sf,h1,h2⟩
  ·rw[Xf]at h1;cases h1
  ·refine(Zf (R:=kI R) hf hs hk (zi hc.gr) h2 hK h1).mono λr m' ⟨bl,v,ps,pv,RL,e1,e2,e3,e4,e5⟩=>?_
   exact⟨bl,v,ps,pv,RL,ns+1,_,e1,e2,e3,by rw[e4,KP];rfl,e5,hc.agy h1 hgb,by omega,Gr.cut,λh=>by cases h⟩
theorem TP(hg:jZ m)(hs:aq mm [pf,m])(hf:FA pf bf q nb ns A)(hk:Sm kk A nb ns)(hn:Eg A)(hc:CI q A g P R K)(hgb:g<=900000)(hq:0<=q/\q<=9223372036854775807)(hK:K<=10000000)(hP:P.length+R.length<=20000):
  bi tP 52 [fy bf] mm λr m'=>∃bs ub A',r=[fy bs,i64 0]/\aiJ m' m bs bf q nb ub A' (eE g P R K)/\FI q A' (eE g P R K)/\ub<=ns+1/\Gr A A' 0/\(bS A (gK g)=none->A'=A):=by
 have wq:cL m mm:=hs.sub (by simp);have hwl:=uN R K;refine c7 c52 Tryz.func52 ?_;refine aP (akQ (hg.sub wq) (hf.grow (hs.sub (a:=pf))) hk hn) ?_;rintro _ m1⟨v1,ps1,p1,rfl,bM,wz,he1⟩;conv=>whnf
 rw[hc.load]at he1⊢;simp only at he1⊢;have bM:aq m1 [p1,pf,m]:=aq.jN (a:=[p1]) bM hs;refine xN ?_;refine bt (wj (hg.sub (bM.sub (a:=m))) (n:=g) (by omega)) ?_;have bZ:aq m1 ([p1,m]++[pf]):=bM.fm (by classical exact dP.2 λx=>by simp only[fE,List.count_nil,db,bV];ac_rfl);obtain⟨dy,eP⟩:=aq.k9 _ bZ;refine aP (Qu (dy.fm (List.Perm.swap _ _ _)) hf hk hc hgb hq hK) ?_;rintro _ m2⟨bl,v2,ps2,p2,RL,ub,A',rfl,eD,Td,he2,yz,HT,NQ,Xe,adw⟩;have eD:aq m2 [blk1 bl (eU bf (gK g) (dN R K) (dN R K)),p2,RL,p1,m]:=aq.jN (a:=[blk1 bl (eU bf (gK g) (dN R K) (dN R K)),p2,RL]) eD eP;have oL:eE g P R K=⟨g,P,R.take (dN R K),dN R K,0⟩:=rfl;refine xN ?_;intro bs yB;have gC:=eD.new yB (cP bf g (.slice none 0 0) bl (.pointer none));refine .mk _ (aeO) ?_;rintro _ _⟨b6,Xl,rfl,rfl⟩;have iU:=gC.new Xl (.cells #[v1,v2] 127);have mQ:=iU.sub (a:=p1);have rO:=iU.sub (a:=p2);have Ve:tz [(v1,ps1.map (·.1)),(v2,ps2.map (·.1))]=(ps1++ps2).map (·.1):=by simp[tz]
 have aAz:ps1.length=P.length:=by have:=be List.length he1;simpa [kI]using this
 have ahv:ps2.length=dN R K:=by
  have:=be List.length he2;simp only[kI,aH,aK]at this;omega
 refine aP (Ow (ps:=[(v1,ps1.map (·.1)),(v2,ps2.map (·.1))]) ⟨.inr ⟨b6,0,2,2,_,_,_,rfl,iU.get (a:=blk1 b6 (.cells #[v1,v2] 127)) (by simp) (aG ..),rfl,aW _,λj u hu=>by simpa using hu,λu hu=>by simp at hu;rcases hu with rfl|rfl;exact Hz wz.eF;exact Hz Td.eF⟩,λp hp=>by simp at hp;rcases hp with rfl|rfl;exact wz.eF.sub mQ;exact Td.eF.sub rO⟩ (by rw[Ve,aH,ax];omega) (by simp)) ?_;rintro _ m4⟨v3,p3,rfl,k8,tX⟩;conv=>whnf
 rw[Ve]at tX;have k8:aq m4 [p3,blk1 b6 (.cells #[v1,v2] 127),blk1 bs (cP bf g (.slice none 0 0) bl (.pointer none)),blk1 bl (eU bf (gK g) (dN R K) (dN R K)),p2,RL,p1,m]:=aq.jN (a:=[p3]) k8 iU
 have zv:aq m4 ([p3,blk1 bl (eU bf (gK g) (dN R K) (dN R K)),p2,RL,p1,m]++[blk1 bs (cP bf g (.slice none 0 0) bl (.pointer none))]):=(k8.dV 1).fm (by
  show List.Perm [p3,blk1 bs (cP bf g (.slice none 0 0) bl (.pointer none)),blk1 bl (eU bf (gK g) (dN R K) (dN R K)),p2,RL,p1,m] _
  classical exact dP.2 λx=>by simp only[fE,List.count_nil,db,bV];ac_rfl)
 obtain⟨nr,u7⟩:=aq.k9 _ zv;have auy:cK (gY [p3,blk1 bl (eU bf (gK g) (dN R K) (dN R K)),p2,RL,p1,m]):=hg.j8.sub (u7.sub (a:=m));have hpm:cL p3 (gY [p3,blk1 bl (eU bf (gK g) (dN R K) (dN R K)),p2,RL,p1,m]):=u7.sub (by simp);have hxs:(ps1++ps2).map (·.2)=kI (P++R.take (dN R K)):=by rw[bD,he1,he2,xX]
 have hgx:∀x∈P++R.take (dN R K),ki x:=λx hx=>(aR.1 hx).elim (hc.gp x) λh=>hc.gr x (bX h);have auA:∀p∈ps1++ps2,La (gY [p3,blk1 bl (eU bf (gK g) (dN R K) (dN R K)),p2,RL,p1,m]) p.1 p.2:=λp hp=>(aR.1 hp).elim (λh=>(wz.la p h).sub (u7.sub)) λh=>(Td.la p h).sub (u7.sub);have hlen:(ps1++ps2).length<=20000:=by rw[ax];omega
 have hlx:(P++R.take (dN R K)).length=(ps1++ps2).length:=by have:=be List.length hxs;simp only[kI,aH]at this;exact this.symm
 have hL:(eE g P R K).L=iy [] (P++R.take (dN R K)):=rfl;generalize hX:P++R.take (dN R K)=X at*;generalize ps1++ps2=ps at*;obtain⟨a3,c3,rfl⟩:=Hy tX.eF;rw[aH]at tX⊢;generalize yy:[p3,blk1 bl (eU bf (gK g) (dN R K) (dN R K)),p2,RL,p1,m]=lr at*;refine .mk (ι:=Nat) (λi=>ps.length-i) (λi m'=>i<=ps.length/\∃lv g',aq m' [blk1 bs (cP bf g lv bl (.pointer none)),g',gY lr]/\lu g' lv (iy [] (X.take i))) (λi=>[(9,.c (fy bs)),(42,.c (.v (.slice a3 ps.length c3))),(43,.c (i64 ps.length)),(44,.c (i64 i))]) (λ_=>[]) 0 ⟨by omega,.slice none 0 0,iI,(nr.cA).fm (by classical exact dP.2 λx=>by simp only[fE,List.count_nil];ac_rfl),lu.nil _⟩ ?_ ?_
 ·exact Cr
 rintro i m5⟨hi,lv,g',ht,hk5⟩;apply bI<;>intro h
 ·have h':=ah h
  have bH:i<ps.length:=by omega
  have Q0:cL (gY lr) m5:=ht.sub (by simp)
  obtain⟨b2,o2,oY⟩:∃b2 o2,a3=some ⟨b2,o2,none⟩/\gR m5 b2 (o2+i)=some ps[i].1:=by
   rcases tX with⟨e,e2⟩|⟨b,o,c,n,arr,e,g1,g2,g3,g4,g5,g6⟩
   ·have:ps.length=0:=by simpa using be List.length e2
    omega
   ·cases e
    exact⟨b,o,rfl,aF (Q0 _ _ (hpm _ _ g1)) (g5 i _ (by simp[bH]))⟩
  obtain⟨rfl,oY⟩:=oY;have alm:=auA ps[i] (aO bH)
  have Xk:ps[i].2=nJ X[i]:=by
   have:=be (λl:List (List Int)=>l[i]?) hxs;simp only[kI,cj,az bH,az (show i<X.length by omega),dZ,aM]at this;exact this
  have JS:=hgx X[i] (aO _)
  have dI:iy [] (X.take (i+1))=iz (iy [] (X.take i)) X[i].1 X[i].2:=by
   rw[au (by omega),F7]
  generalize X[i]=x at*;generalize ps[i]=pi at*;obtain⟨pv,pb⟩:=pi;simp only at oY alm Xk;subst Xk;have Xd:=JS.len
  repeat refine xS ?_
  refine⟨_,by simp only[bK,aA];exact oY,alm.one,?_⟩;refine aP (Js (auy.sub Q0) (alm.sub Q0) (FL x) (by omega)) ?_;rintro _ m6⟨y,ya,yc,py,hy,rfl,Fa,hya,hyu,hyo⟩;conv=>whnf
  rw[T6 JS.k JS.u JS.r]at hy⊢;simp only at hy;subst hy;obtain⟨yk,yu,yE⟩:=y;simp only at hya hyu hyo dI JS;have Fa:aq m6 [py,blk1 bs (cP bf g lv bl (.pointer none)),g',gY lr]:=aq.jN (a:=[py]) Fa ht;have alG:m6 bs=some (cP bf g lv bl (.pointer none)):=Fa.get (a:=blk1 bs (cP bf g lv bl (.pointer none))) (by simp) (aG ..);refine xN ?_;refine⟨_,aF alG rfl,by obtain⟨_,_,e⟩:=hk5.shape;rw[e];rfl,?_⟩
  have atH:(iy [] (X.take i)).length<=100000:=by
   have:=uL [] (X.take i);rw[aK]at this;simp only[cW]at this;omega
  have hnE:=pj JS.r;obtain⟨q6,Zw,JI,oF⟩:=aq.part (Fa.pick (i:=2) rfl);refine aP (GS (k:=yk) (u:=yu) (E:=yE) JI hk5 (hya.sub (Fa.sub (a:=py))) hyu.1 atH (by simp only at hnE;omega)) ?_;rintro _ m7⟨Qt,g2,rfl,W5,hk6⟩;have W4:aq m7 [g2,py,blk1 bs (cP bf g lv bl (.pointer none)),gY lr]:=oF _ _ W5;have au4:m7 bs=some (cP bf g lv bl (.pointer none)):=W4.get (a:=blk1 bs (cP bf g lv bl (.pointer none))) (by simp) (aG ..);refine⟨_,_,_,au4,⟨by simp,by simp⟩,?_⟩;have W3:=(W4.dV 1).gu (i:=1) rfl (aG ..) (cP bf g Qt bl (.pointer none));rw[cJ]at W3;have W3:aq _ [g2,blk1 bs (cP bf g Qt bl (.pointer none)),gY lr]:=W3;refine⟨i+1,⟨by omega,Qt,g2,W3.fm (List.Perm.swap _ _ _),by rw[dI];exact hk6⟩,by omega,?_⟩;exact Cr
 ·have h':=aj h
  obtain rfl:i=ps.length:=by omega
  rw[<-hlx,aJ]at hk5;subst yy;have JI:aq m5 ([blk1 bs (cP bf g lv bl (.pointer none)),g']++[p3,blk1 bl (eU bf (gK g) (dN R K) (dN R K)),p2,RL,p1,m]):=aq.jN (a:=[blk1 bs (cP bf g lv bl (.pointer none)),g']) ht u7;have W5:aq m5 [p3,p2,p1,blk1 bs (cP bf g lv bl (.pointer none)),g',blk1 bl (eU bf (gK g) (dN R K) (dN R K)),RL,m]:=JI.fm (by classical exact dP.2 λx=>by simp only[fE,List.count_nil,db,bV];ac_rfl);have W4:=(W5.drop.drop.drop).cA;have hwR:(R.take (dN R K)).length=dN R K:=by rw[aK];omega
  refine⟨bs,ub,A',rfl,abB (s:=eE g P R K) (ps:=iI) (g:=g') (pf:=RL) (bl:=bl) (lv:=lv) (sv:=.pointer none) ?_ (by rw[hL];exact hk5) (.inl ⟨rfl,rfl⟩) yz,HT,NQ,Xe,adw⟩
  show aq m5 [blk1 bs (cP bf g lv bl (.pointer none)),blk1 bl (eU bf (gK g) (R.take (dN R K)).length (dN R K)),iI,g',RL,m]
  rw[hwR];exact W4.fm (by classical exact dP.2 λx=>by simp only[fE,List.count_nil];ac_rfl)
def SQ(p q:aD)(bs bf:Nat)(s:jf):Prop:=∃(bl:Nat) (lv sv:Value) (ps:aD),aq p [blk1 bs (cP bf s.g lv bl sv),blk1 bl (eU bf (gK s.g) s.R.length s.cY),ps]/\lu q lv s.L/\SvP ps bf s sv
variable{q':aD}
theorem SQ.sub{q:aD}(h:SQ p q bs bf s)(hs:cL q q'):SQ p q' bs bf s:=by
 obtain⟨bl,lv,sv,ps,h1,h2,h3⟩:=h;exact⟨bl,lv,sv,ps,h1,h2.sub hs,h3⟩
theorem SQ.lU{q:aD}(h:SQ p q bs bf s)(hs:cL p m)(hq:cL q m):∃bl lv sv,SR m bs bf s bl lv sv:=by
 obtain⟨bl,lv,sv,ps,h1,h2,h3⟩:=h;refine⟨bl,lv,sv,hs _ _ (h1.get (a:=blk1 bs _) (by simp) (aG ..)),hs _ _ (h1.get (a:=blk1 bl _) (by simp) (aG ..)),h2.sub hq,?_⟩;rcases h3 with h|⟨b,n,v,pv,l,e1,e2,_⟩
 ·exact .inl h
 ·exact .inr ⟨b,n,v,e1,hs _ _ (h1.get (a:=ps) (by simp) (e2.get (a:=blk1 b _) (by simp) (aG ..)))⟩
structure oJ(m' q0:aD)(bs bf:Nat)(q:Int)(nb ns:Nat)(A:List Af)(s:jf):Prop where
 ex:∃p pf q1,aq m' [p,pf,q1]/\cL q0 q1/\SQ p q1 bs bf s/\FA pf bf q nb ns A
theorem oJ.lB{mq:aD}(h:oJ m' mq bs bf q nb ns A s)(hs:cL m mq):oJ m' m bs bf q nb ns A s:=by
 obtain⟨p,pf,q1,h1,h2,h3,h4⟩:=h.ex;exact⟨p,pf,q1,h1,hs.trans h2,h3,h4⟩
theorem sD{q1:aD}{bl:Nat}{sv:Value}(h:aq m' [blk1 bs (cP bf s.g lv bl sv),blk1 bl (eU bf (gK s.g) s.R.length s.cY),ps,pf,q1])(hm:cL m q1)(hk:lu q1 lv s.L)(W6:SvP ps bf s sv)(hf:FA pf bf q nb ns A):oJ m' m bs bf q nb ns A s:=by
 have h1:aq m' ([blk1 bs (cP bf s.g lv bl sv),blk1 bl (eU bf (gK s.g) s.R.length s.cY),ps]++[pf,q1]):=h;obtain⟨h2,h3⟩:=aq.k9 _ h1;exact⟨_,pf,q1,h2,hm,⟨bl,lv,sv,ps,h3,hk,W6⟩,hf⟩
theorem Cf(hs:aq mm [p,pf,m])(hp:SQ p m bs bf s):∃bl lv sv ps,aq mm [blk1 bs (cP bf s.g lv bl sv),blk1 bl (eU bf (gK s.g) s.R.length s.cY),ps,pf,m]/\lu m lv s.L/\SvP ps bf s sv:=by
 obtain⟨bl,lv,sv,ps,Ta,DO,W6⟩:=hp;refine⟨bl,lv,sv,ps,?_,DO,W6⟩;exact aq.tQ hs Ta
theorem AT{a:Option Addr}{c:Nat}{E:List En}(hg:jZ m)(hs:aq mm [p,pf,m])(hp:SQ p m bs bf s)(hf:FA pf bf q nb ns A)(hk:Sm kk A nb ns)(hv:Na m (.slice a E.length c) E)(hx:jg (k,(u,E)))(EM:k.size<=1000000)(hq:0<=q/\q<=9223372036854775807)(hR:s.R.length<=100000)(hL:s.L.length<=100000):
  bi tP 110 [fy bs,.v (.string k),iY u a E.length c] mm λr m'=>
   (rq q A s (k,(u,E))≠0/\r=[i64 0,i64 (rq q A s (k,(u,E)))]/\oJ m' m bs bf q nb ns A s)\/(rq q A s (k,(u,E))=0/\r=[i64 ((s.R.length+1:Nat):Int),i64 0]/\oJ m' m bs bf q (nb+(Fr.wr (nJ (k,(u,E)))).length) ns (kL A (gK s.g) (z6 (Fr.wr (nJ (k,(u,E)))))) (s.put (k,(u,E)))):=by
 have ga:E.length<=1000:=hx.n;obtain⟨bl,lv,sv,AF⟩:=hp.lU (hs.sub (a:=p)) (hs.sub (a:=m));have hmS:cK mm:=hg.j8.sub (hs.sub);have hvm:=hv.sub (hs.sub (a:=m));refine c7 aDJ Tryz.func110 ?_;refine bt (KL hmS AF (u:=u) hvm hx.e EM (by omega)) ?_;apply bI<;>intro h
 ·have h0:sW s k (u,E)≠0:=by simpa using h
  have e:rq q A s (k,(u,E))=sW s k (u,E):=by unfold rq;rw[aC h0]
  rw[e];exact .inl ⟨h0,rfl,⟨p,pf,m,hs,cL.refl _,hp,hf⟩⟩
 have h0:sW s k (u,E)=0:=by simpa using h
 have ahu:rq q A s (k,(u,E))=if H7 q A (k,(u,E))then 5 else 0:=by unfold rq;rw[if_neg (by simp only;omega)]
 rw[ahu];obtain⟨k1,k2,k3⟩:=Ef h0;have JR:ki (k,(u,E)):=⟨k1,hx.u,k2⟩;have Xd:=JR.len;have hwl:=C3 (l:=nJ (k,(u,E))) (by omega);obtain⟨bl,lv,sv,ps,cM,DO,W6⟩:=Cf hs hp;have yB:mm bs=some (cP bf s.g lv bl sv):=cM.get (a:=blk1 bs _) (by simp) (aG ..);refine xM yB ?_;refine aP (Er (x:=(k,(u,E))) hmS hvm hx EM) ?_;rintro _ m1⟨vr,pr,rfl,bM,hbr⟩;have ajF:=aq.jN (a:=[pr]) bM cM;refine⟨akU yB (bM.sub),?_⟩;have h1:=(ajF.pick (i:=4) rfl).pick (i:=3) rfl;obtain⟨q1,mQ,h2,oF⟩:=aq.ai6 h1;refine aP (ac4 (name:=gK s.g) h2 hf hk (hbr.lb.la.sub (ajF.sub (a:=pr))) (FL _) JR.isr (by omega) UG (by rw[SB];omega) (by omega) hq) ?_;rintro _ m2⟨RL,u9⟩
 try refine⟨λ_ h=>(by cases h),?_⟩
 rcases u9 with⟨q1',q2',rfl,h3,yz⟩|⟨q1',rfl,h3,yz⟩
 ·have LU:H7 q A (k,(u,E)):=⟨q1',q2'⟩
  rw[aC LU];have h4:=oF _ _ _ h3;refine xY ?_;refine .inl ⟨by simp,rfl,sD (ps:=ps) (pf:=RL) (bl:=bl) (lv:=lv) (sv:=sv) ?_ (cL.refl _) DO W6 yz⟩;have h5:aq m2 [blk1 bl (eU bf (gK s.g) s.R.length s.cY),RL,blk1 bs (cP bf s.g lv bl sv),ps,m]:=h4.dV 2;exact h5.fm (by classical exact dP.2 λx=>by simp only[fE,List.count_nil];ac_rfl)
 ·have LU:¬H7 q A (k,(u,E)):=q1'
  rw[if_neg LU];have h4:=oF _ _ _ h3;have adR:m2 bs=some (cP bf s.g lv bl sv):=h4.get (a:=blk1 bs (cP bf s.g lv bl sv)) (by simp) (aG ..);refine xN ?_;refine⟨_,aF adR rfl,by obtain⟨_,_,e⟩:=DO.shape;rw[e];rfl,?_⟩;have h5:aq m2 (m::[blk1 bl (eU bf (gK s.g) (s.R.length+1) s.cY),RL,pr,blk1 bs (cP bf s.g lv bl sv),ps]):=h4.pick (i:=5) rfl;obtain⟨q2,rO,h6,arm⟩:=aq.part h5;refine aP (x4 (k:=k) (u:=u) h6 DO (hv.sub (h4.sub (a:=m))) hx.u.1 hL (by omega)) ?_;rintro _ m3⟨Qt,g',rfl,h7,hk7,hgg⟩;have h8:=arm _ _ h7;have ZJ:m3 bs=some (cP bf s.g lv bl sv):=h8.get (a:=blk1 bs (cP bf s.g lv bl sv)) (by simp) (aG ..);refine⟨_,_,_,ZJ,⟨by simp,by simp⟩,?_⟩;have h9:=h8.gu (i:=4) rfl (aG ..) (cP bf s.g Qt bl sv);rw[cJ]at h9;refine .inr ⟨rfl,rfl,sD (ps:=ps) (q1:=g') (pf:=RL) (bl:=bl) (lv:=Qt) (sv:=sv) ?_ hgg ?_ ?_ yz⟩
  ·have h10:aq _ [g',blk1 bl (eU bf (gK s.g) (s.R.length+1) s.cY),RL,pr,blk1 bs (cP bf s.g Qt bl sv),ps]:=h9
   have h11:aq _ [g',blk1 bl (eU bf (gK s.g) (s.R.length+1) s.cY),RL,blk1 bs (cP bf s.g Qt bl sv),ps]:=h10.dV 3;have e:(s.put (k,(u,E))).R.length=s.R.length+1:=by simp[jf.put]
   rw[e]
   show aq _ [blk1 bs (cP bf s.g Qt bl sv),blk1 bl (eU bf (gK s.g) (s.R.length+1) s.cY),ps,RL,g']
   exact h11.fm (by classical exact dP.2 λx=>by simp only[fE,List.count_nil];ac_rfl)
  ·rw[jf.ai3];exact hk7
  ·rcases W6 with hh|⟨b,n,v,pv,l,g1,g2,g3,g4,_⟩
   ·exact .inl hh
   ·exact .inr ⟨b,n,v,pv,l,g1,g2,g3,g4,λhh=>by have hh:0<s.st:=hh;omega⟩
theorem MI{a:Option Addr}{c:Nat}{E:List En}(hg:jZ m)(hs:aq mm [p,pf,m])(hp:SQ p m bs bf s)(hf:FA pf bf q nb ns A)(hk:Sm kk A nb ns)(hv:Na m (.slice a E.length c) E)(hx:jg (k,(u,E)))(EM:k.size<=1000000)(hq:0<=q/\q<=9223372036854775807)(hR:s.R.length<=100000)(hL:s.L.length<=100000)(hA:∀x∈s.L,jg x):
  bi tP 127 [fy bs,.v (.string k),iY u a E.length c] mm λr m'=>
   r=[bR (yp q A s (k,(u,E))),i64 (Hn q A s (k,(u,E)))]/\if yp q A s (k,(u,E))then oJ m' m bs bf q (nb+(Fr.wr (nJ (k,(jw s (k,(u,E))).1))).length) ns (kL A (gK s.g) (z6 (Fr.wr (nJ (k,(jw s (k,(u,E))).1))))) (s.put (k,(jw s (k,(u,E))).1))else oJ m' m bs bf q nb ns A s:=by
 have ga:E.length<=1000:=hx.n;obtain⟨bl,lv,sv,AF⟩:=hp.lU (hs.sub (a:=p)) (hs.sub (a:=m));have hmS:cK mm:=hg.j8.sub (hs.sub);have hvm:=hv.sub (hs.sub (a:=m));have JR:=qo hA k;have hC:jw s (k,(u,E))=nh (gh s.L k) (u,E):=rfl;have hE:Hn q A s (k,(u,E))=if sW s k (u,E)≠0 then sW s k (u,E)else if (jw s (k,(u,E))).2≠0 then(jw s (k,(u,E))).2 else if gh s.L k=(jw s (k,(u,E))).1 then 0 else rq q A s (k,(jw s (k,(u,E))).1):=rfl
 have hB:yp q A s (k,(u,E))=(decide (sW s k (u,E)=0)&&decide ((jw s (k,(u,E))).2=0)&& !decide (gh s.L k=(jw s (k,(u,E))).1)&&decide (rq q A s (k,(jw s (k,(u,E))).1)=0)):=rfl;generalize Hn q A s (k,(u,E))=me at*;generalize yp q A s (k,(u,E))=mb at*;generalize jw s (k,(u,E))=bQ at*;have aov:mb=false->oJ mm m bs bf q nb ns A s->(if mb=true then oJ mm m bs bf q (nb+(Fr.wr (nJ (k,bQ.1))).length) ns (kL A (gK s.g) (z6 (Fr.wr (nJ (k,bQ.1))))) (s.put (k,bQ.1))else oJ mm m bs bf q nb ns A s):=λh h2=>by rw[if_neg (by rw[h];decide)];exact h2
 refine ap Tryz.func127 ?_;refine bt (KL hmS AF (u:=u) hvm hx.e EM (by omega)) ?_;apply bI<;>intro h
 ·have h0:sW s k (u,E)≠0:=by simpa using h
  rw[aC h0]at hE;rw[aY h0]at hB;have hB:mb=false:=by rw[hB];rfl
  exact⟨by rw[hE,hB],aov hB ⟨p,pf,m,hs,cL.refl _,hp,hf⟩⟩
 have h0:sW s k (u,E)=0:=by simpa using h
 rw[if_neg (by simp[h0])]at hE;rw[bB h0,bj]at hB;refine aP (Db AF (k:=k) (by omega) (by have:=JR.n;simp only at this;omega)) ?_;rintro _ m1⟨a1,c1,p1,rfl,bM,lZ⟩;have bM:aq m1 [p1,p,pf,m]:=aq.jN (a:=[p1]) bM hs;generalize gh s.L k=was at*;obtain⟨wu,wE⟩:=was;have hwn:wE.length<=1000:=JR.n;simp only at lZ⊢;refine aP (Pk (u:=wu) (w:=u) (hg.j8.sub (bM.sub (a:=m))) JR.u hx.u (lZ.ea.sub (bM.sub (a:=p1))) (hv.sub (bM.sub (a:=m))) JR.e hx.e hwn ga) ?_;rintro _ m2⟨x,e,a2,c2,p2,Be,he2,rfl,bZ,lD⟩;have bZ:aq m2 [p2,p1,p,pf,m]:=aq.jN (a:=[p2]) bZ bM;rw[<-hC]at Be he2;have adX:bQ.2=0->jg (k,bQ.1):=λh=>by rw[hC]at h⊢;exact xH JR hx h
 obtain⟨nx,ne⟩:=bQ;simp only at Be he2 adX hE hB aov⊢;subst Be he2;obtain⟨xu,xE⟩:=x;simp only at lD⊢;have aiW:mb=false->(if mb=true then oJ m2 m bs bf q (nb+(Fr.wr (nJ (k,(xu,xE)))).length) ns (kL A (gK s.g) (z6 (Fr.wr (nJ (k,(xu,xE)))))) (s.put (k,(xu,xE)))else oJ m2 m bs bf q nb ns A s):=λh=>by rw[if_neg (by rw[h];decide)];exact⟨p,pf,m,bZ.drop.drop,cL.refl _,hp,hf⟩
 apply bI<;>intro h
 ·have h1:e≠0:=by simpa using h
  rw[aC h1]at hE;have hB:mb=false:=by rw[hB,aY h1];rfl
  exact⟨by rw[hE,hB],aiW hB⟩
 have h1:e=0:=by simpa using h
 subst h1;have adX:=adX rfl;rw[if_neg (by decide)]at hE;rw[bB rfl,bj]at hB;have hxn:xE.length<=1000:=adX.n;refine bt (vQ (u:=wu) (w:=xu) (lZ.ea.sub (bZ.sub (a:=p1))) (lD.sub (bZ.sub (a:=p2))) (by omega)) ?_
 have HU:(decide (wu=xu)&&decide (wE=xE))=decide ((wu,wE)=(xu,xE)):=by
  rw[nV];simp
 rw[HU];by_cases h2:(wu,wE)=(xu,xE)
 ·rw[bB h2]
  rw[aC h2]at hE;have hB:mb=false:=by rw[hB,bB h2];rfl
  refine xY ?_;exact⟨by rw[hE,hB],aiW hB⟩
 rw[aY h2];rw[if_neg h2]at hE;rw[aY h2,Bool.not_false,bj]at hB;refine xN ?_;obtain⟨ma,ZM,ZL,dy⟩:=aq.sK bZ;have dy:aq m2 [ma,m,p,pf]:=dy.ir [0,3,1,2];obtain⟨mq,kW,wq,eP⟩:=aq.sK dy;have eP:aq m2 [p,pf,mq]:=eP.ir [1,2,0];refine aP (AT (k:=k) (u:=xu) (hg.sub wq) eP (hp.sub wq) hf hk (lD.sub (ZM.trans kW)) adX EM hq hR hL) ?_;rintro _ m5 u9;rcases u9 with⟨e1,rfl,hL5⟩|⟨e1,rfl,hL5⟩
 ·have hB:mb=false:=by rw[hB,aY e1]
  refine⟨?_,by rw[if_neg (by rw[hB];decide)];exact hL5.lB wq⟩;rw[hE,hB,qO,aY e1]
 ·have hB:mb=true:=by rw[hB,bB e1]
  refine⟨?_,by rw[aC hB];exact hL5.lB wq⟩;rw[hE,hB,e1];rfl
theorem Pu(hs:aq mm [p,pf,m])(hp:SQ p m bs bf s)(hf:FA pf bf q nb ns A)(hk:Sm kk A nb ns):
  bi tP 70 [fy bs] mm λr m'=>r=[i64 0]/\∃ub,ub<=ns+1/\oJ m' m bs bf q nb ub (jU A (gK s.g)) s.Gj:=by
 obtain⟨bl,lv,sv,AF⟩:=hp.lU (hs.sub (a:=p)) (hs.sub (a:=m));obtain⟨bl,lv,sv,ps,cM,DO,W6⟩:=Cf hs hp;have yB:mm bs=some (cP bf s.g lv bl sv):=cM.get (a:=blk1 bs _) (by simp) (aG ..);refine ap Tryz.func70 ?_;refine bt (r7 AF) ?_;refine xN ?_;refine xM yB ?_;have h1:=(cM.pick (i:=3) rfl).pick (i:=2) rfl;obtain⟨q1,mQ,h2,oF⟩:=aq.ai6 h1;refine aP (UD h2 hf hk) ?_;rintro _ m2⟨RL,ub,rfl,h3,yz,NQ⟩;have h4:=oF _ _ _ h3;refine⟨rfl,ub,NQ,sD (ps:=ps) (pf:=RL) (bl:=bl) (lv:=lv) (sv:=sv) ?_ (cL.refl _) DO ?_ yz⟩
 ·have h5:aq m2 [blk1 bl (eU bf (gK s.g) s.R.length s.R.length),RL,blk1 bs (cP bf s.g lv bl sv),ps,m]:=h4
  exact h5.fm (by classical exact dP.2 λx=>by simp only[fE,List.count_nil,jf.Gj];ac_rfl)
 ·rcases W6 with hh|⟨b,n,v,pv,l,g1,g2,g3,g4,g5⟩
  ·exact .inl hh
  ·exact .inr ⟨b,n,v,pv,l,g1,g2,g3,g4,g5⟩
abbrev hmL(r:Rhm):LB:=[.one (.int .i64 r.1.1.kind),.one (.int .i64 r.1.1.fr),.one (.int .i64 r.1.1.qe),.one (.int .i64 r.1.1.qA),.one (.int .i64 r.1.1.part),.bG .u8 32 (nc (p32 r.1.1.jI)),.one (.slice r.1.2.p.1 r.1.1.pl.length r.1.2.p.2),.one (.slice r.1.2.d.1 r.1.1.dg.length r.1.2.d.2),.one (.slice r.1.2.c.1 r.1.1.ca.length r.1.2.c.2),.one (.int .i64 r.2)]
theorem U1(r:Rhm):LB.cz (hmL r)=Cp r:=by simp[Cp,Xp,LB.cz,eB.cells]
theorem alj(r:Rhm):LB.ok (hmL r):=⟨rfl,rfl,rfl,rfl,rfl,by rw[eB.ok,aH];exact M9 _,rfl,rfl,rfl,rfl,trivial⟩
abbrev haL(r:Rha):LB:=[.one (.int .i64 r.1.1.id),.one (.int .i64 r.1.1.err),.one (.slice r.1.2.1 r.1.1.l.length r.1.2.2),.one (.int .i64 r.2)]
def kh(cY:Int)(mark:Int):Bool:=decide (mark<=cY)
section
variable {m:aD}{v:Value}{cY:Int}
theorem Nd{R:List Rhm}(hv:Ga E5 m v R)(hl:R.length<=100000):
  bi tP 94 [.v v,i64 cY] m λr m'=>∃v1 v2 p1 p2,r=[.v v1,.v v2]/\aq m' [p1,p2,m]/\Gw Yc p1 v1 ((R.filter λr=>kh cY r.2).map (·.1))/\Gw E5 p2 v2 (R.filter λr=>!kh cY r.2):=by
 obtain⟨a,c,rfl⟩:=hv.shape;refine ap Tryz.func94 ?_;refine .mk (ι:=Nat×Value×Value) (λi=>R.length-i.1) (λ⟨i,y,w⟩ mm=>i<=R.length/\∃p1 p2,aq mm [p1,p2,m]/\Gw Yc p1 y (((R.take i).filter λr=>kh cY r.2).map (·.1))/\Gw E5 p2 w ((R.take i).filter λr=>!kh cY r.2)) (λ⟨i,y,w⟩=>[(1,.c (i64 cY)),(6,.c (.v y)),(7,.c (.v w)),(10,.c (.v (.slice a R.length c))),(11,.c (i64 R.length)),(12,.c (i64 i))]) (λ_=>[]) (0,.slice none 0 0,.slice none 0 0) ⟨by omega,iI,iI,(aq.one m).cA.cA,Gw.nil _,Gw.nil _⟩ ?_ ?_
 ·exact Cr
 rintro⟨i,y,w⟩ mm ⟨hi,p1,p2,hs,xf,lE⟩;apply bI<;>intro h
 ·have h':=ah h
  have bH:i<R.length:=by omega
  obtain⟨bl,ol,c',hh,hg⟩:=(hv.sub (hs.sub (a:=m))).real bH;injection hh with eK _ fN;subst eK;have wA:=hg i bH;have dI:R.take (i+1)=R.take i++[R[i]]:=au bH;have wz:((R.take i).filter λr=>kh cY r.2).length<=100000:=bq (bC _ _) (by rw[aK];omega);have Td:((R.take i).filter λr=>!kh cY r.2).length<=100000:=bq (bC _ _) (by rw[aK];omega);generalize R[i]=x at*;rw[show E5.enc x=Cp x from rfl,<-U1]at wA
  repeat refine xS ?_
  refine⟨hmL x,alj x,rfl,by simp only[bK,aA];exact wA,?_⟩;apply bI<;>intro h
  ·have rC:kh cY x.2=true:=h
   refine .mk _ (AL (t:=Yc) (e:=x.1) rfl) ?_;rintro _ _⟨b5,mo,rfl,rfl⟩;refine .mk _ (Az (t:=Yc) (i:=0) (x:=x.1) hs rfl mo xf (by rw[aH];omega)) ?_;rintro _ m2⟨y',p',rfl,bZ,tZ⟩;refine⟨(i+1,y',w),⟨by omega,p',p2,bZ,?_,?_⟩,by simp only;omega,?_⟩
   ·rw[dI,aaB,bD]
    simpa [rC]using tZ
   ·rw[dI,aaB]
    simpa [rC]using lE
   ·exact Cr
  ·have rC:kh cY x.2=false:=h
   refine .mk _ (AL (t:=E5) (e:=x) (U1 x)) ?_;rintro _ _⟨b5,mo,rfl,rfl⟩;refine .mk _ (Az (t:=E5) (i:=1) (x:=x) hs rfl mo lE (by omega)) ?_;rintro _ m2⟨y',p',rfl,bZ,tZ⟩;refine⟨(i+1,y,y'),⟨by omega,p1,p',bZ,?_,?_⟩,by simp only;omega,?_⟩
   ·rw[dI,aaB]
    simpa [rC]using xf
   ·rw[dI,aaB]
    simpa [rC]using tZ
   ·exact Cr
 have h':=aj h;obtain rfl:i=R.length:=by omega
 rw[aJ]at xf lE;exact⟨y,w,p1,p2,rfl,hs,xf,lE⟩
theorem Nf{R:List Rha}(hv:Ga Gd m v R)(hl:R.length<=100000):
  bi tP 92 [.v v,i64 cY] m λr m'=>∃v1 v2 p1 p2,r=[.v v1,.v v2]/\aq m' [p1,p2,m]/\Gw Yd p1 v1 ((R.filter λr=>kh cY r.2).map (·.1))/\Gw Gd p2 v2 (R.filter λr=>!kh cY r.2):=by
 obtain⟨a,c,rfl⟩:=hv.shape;refine ap Tryz.func92 ?_;refine .mk (ι:=Nat×Value×Value) (λi=>R.length-i.1) (λ⟨i,y,w⟩ mm=>i<=R.length/\∃p1 p2,aq mm [p1,p2,m]/\Gw Yd p1 y (((R.take i).filter λr=>kh cY r.2).map (·.1))/\Gw Gd p2 w ((R.take i).filter λr=>!kh cY r.2)) (λ⟨i,y,w⟩=>[(1,.c (i64 cY)),(6,.c (.v y)),(7,.c (.v w)),(10,.c (.v (.slice a R.length c))),(11,.c (i64 R.length)),(12,.c (i64 i))]) (λ_=>[]) (0,.slice none 0 0,.slice none 0 0) ⟨by omega,iI,iI,(aq.one m).cA.cA,Gw.nil _,Gw.nil _⟩ ?_ ?_
 ·exact Cr
 rintro⟨i,y,w⟩ mm ⟨hi,p1,p2,hs,xf,lE⟩;apply bI<;>intro h
 ·have h':=ah h
  have bH:i<R.length:=by omega
  obtain⟨bl,ol,c',hh,hg⟩:=(hv.sub (hs.sub (a:=m))).real bH;injection hh with eK _ fN;subst eK;have wA:=hg i bH;have dI:R.take (i+1)=R.take i++[R[i]]:=au bH;have wz:((R.take i).filter λr=>kh cY r.2).length<=100000:=bq (bC _ _) (by rw[aK];omega);have Td:((R.take i).filter λr=>!kh cY r.2).length<=100000:=bq (bC _ _) (by rw[aK];omega);generalize R[i]=x at*;rw[show Gd.enc x=LB.cz (haL x) from by simp[Is,EU,LB.cz,eB.cells]]at wA
  repeat refine xS ?_
  refine⟨haL x,⟨rfl,rfl,rfl,rfl,trivial⟩,rfl,by simp only[bK,aA];exact wA,?_⟩;apply bI<;>intro h
  ·have rC:kh cY x.2=true:=h
   refine .mk _ (AL (t:=Yd) (e:=x.1) rfl) ?_;rintro _ _⟨b5,mo,rfl,rfl⟩;refine .mk _ (Az (t:=Yd) (i:=0) (x:=x.1) hs rfl mo xf (by rw[aH];omega)) ?_;rintro _ m2⟨y',p',rfl,bZ,tZ⟩;refine⟨(i+1,y',w),⟨by omega,p',p2,bZ,?_,?_⟩,by simp only;omega,?_⟩
   ·rw[dI,aaB,bD]
    simpa [rC]using tZ
   ·rw[dI,aaB]
    simpa [rC]using lE
   ·exact Cr
  ·have rC:kh cY x.2=false:=h
   refine .mk _ (AL (t:=Gd) (e:=x) (by simp[CV.cs,Is,EU,LB.cz,eB.cells])) ?_;rintro _ _⟨b5,mo,rfl,rfl⟩;refine .mk _ (Az (t:=Gd) (i:=1) (x:=x) hs rfl mo lE (by omega)) ?_;rintro _ m2⟨y',p',rfl,bZ,tZ⟩;refine⟨(i+1,y,y'),⟨by omega,p1,p',bZ,?_,?_⟩,by simp only;omega,?_⟩
   ·rw[dI,aaB]
    simpa [rC]using xf
   ·rw[dI,aaB]
    simpa [rC]using tZ
   ·exact Cr
 have h':=aj h;obtain rfl:i=R.length:=by omega
 rw[aJ]at xf lE;exact⟨y,w,p1,p2,rfl,hs,xf,lE⟩
end
structure XO(x:gX):Prop where
 d:∀n∈x.jI,n<256
 (l:∀d∈x.dg,∀n∈d,n<256)
theorem WG{l:List Nat}(h:∀n∈l,n<256):jl (nc l):=λx hx=>by
 obtain⟨n,hn,rfl⟩:=aV.1 hx;have:=h n hn;omega
theorem acL{x:gX}(h:XO x):jl (we x):=by
 refine(ju _).append ((ju _).append ((ju _).append ((ju _).append ((ju _).append (jl.append ?_ ((ju _).append ((Pf _).append ((ju _).append (jl.append ?_ (HI _))))))))))
 ·split
  ·exact WG h.d
  ·exact jl.nil
 ·intro y hy
  obtain⟨d,hd,hy⟩:=iu.1 hy;exact WG (h.l d hd) y hy
theorem acK{x:gX}(hd:x.jI.length=32)(hD:D32 x.dg)(hr:arx x)(hl:(x.ca.map nJ).flatten.length<=9000000):(we x).length<=9100000:=by
 have n1:=eI x.kind;have n2:=eI x.fr;have n3:=eI x.qe;have n4:=eI x.qA;have n5:=eI x.part;have n6:=eI (x.pl.length:Int);have n7:=eI (x.dg.length:Int);have n8:=eI (x.ca.length:Int);have n9:=qd x.pl;have p1:=hr.pn;have p2:=hr.dn
 have h5:(if x.kind=1 then nc x.jI else[]).length<=32:=by
  grind
 have h6:(xw x.dg).length=x.dg.length*32:=by
  have:=zG hD;rw[IB,zX]at this;rw[xw,zX]
  grind
 simp only[we,Wm.t1,Wm.t2,Wm.t3,Wm.t4,Wm.t5,Wm.t6,Wm.t7,Wm.t8,Wm.t9,B3,ax];omega
def kf.send(B:kf)(x:gX)(mark:Int):kf:=if dR x then {B with dE:=B.dE++[(x,mark)]}else B
def kf.nX(B:kf)(x:Rv)(mark:Int):kf:={B with o7:=B.o7++[(x,mark)]}
def kf.Nb(B:kf)(cY:Int):List gX:=(B.dE.filter λr=>kh cY r.2).map (·.1)
def kf.left(B:kf)(cY:Int):kf:={B with dE:=B.dE.filter λr=>!kh cY r.2}
def kf.BI(B:kf)(cY:Int):List Rv:=(B.o7.filter λr=>kh cY r.2).map (·.1)
def kf.acX(B:kf)(cY:Int):kf:={B with o7:=B.o7.filter λr=>!kh cY r.2}
theorem acg{α β:Type}(R:List (α×Int))(f:α->β)(p:Int->Bool):(R.filter λr=>p r.2).map (λr=>(f r.1,r.2))=(R.map λr=>(f r.1,r.2)).filter λr=>p r.2:=by
 rw[List.filter_map];rfl
section
variable {mm p q:aD}{b:Nat}{B:kf}
theorem Y0{cY:Int}(hs:aq mm [p,q])(h:y5 p q b B)(hl:B.dE.length<=1000):
  bi tP 58 [cx b,i64 cY] mm λr m'=>∃v p' q' R,r=[.v v]/\aq m' [p',q']/\cL q q'/\y5 p' q' b (B.left cY)/\Ga Yc q' v R/\R.map (·.1)=B.Nb cY/\∀r∈R,gy q' r.1 r.2:=by
 obtain⟨vo,va,fQ,po,pa,RO,RA,h⟩:=h;have bM:aq mm [blk1 b (ik vo va fQ),po,pa,q]:=hs.tQ h.sp;have hb:mm b=some (ik vo va fQ):=bM.get (a:=blk1 b (ik vo va fQ)) (by simp) (aG ..);have hol:RO.length=B.dE.length:=by rw[<-h.eo,aH]
 refine ap Tryz.func58 ?_;refine xN ?_;refine⟨_,aF hb rfl,h.o.ea.one,?_⟩;refine aP (Nd (cY:=cY) (h.o.el.sub (bM.sub)).ea (by omega)) ?_;rintro _ m2⟨v1,v2,p1,p2,rfl,bZ,xf,lE⟩;have dy:aq m2 [p1,p2,blk1 b (ik vo va fQ),po,pa,q]:=aq.jN (a:=[p1,p2]) bZ bM;have oM:m2 b=some (ik vo va fQ):=dy.get (a:=blk1 b (ik vo va fQ)) (by simp) (aG ..);refine⟨_,_,_,oM,⟨by simp,by simp⟩,?_⟩;have eP:=dy.gu (i:=2) rfl (aG ..) (ik v2 va fQ);rw[cJ]at eP;obtain⟨j,k1,k2,eD⟩:=aq.sK (eP.ir [0,5,2,1,4]);obtain⟨gC,iU⟩:=aq.k9 [blk1 b (ik v2 va fQ),p2,pa] (l:=[j]) (eD.ir [1,2,3,0]);refine⟨v1,_,j,_,rfl,gC,k2,⟨v2,va,fQ,p2,pa,_,RA,iU,lE,h.a,?_,h.ea,?_,λr hr=>(h.ha r hr).sub k2⟩,(xf.el.sub k1).ea,?_,?_⟩
 ·rw[kf.left,<-h.eo]
  exact acg RO (λr=>r.1) λz=>!kh cY z
 ·intro r hr
  exact(h.ho r (cH.1 hr).1).sub k2
 ·rw[kf.Nb,<-h.eo,<-acg RO (λr=>r.1) λz=>kh cY z,fS,fS]
  rfl
 ·intro r hr
  obtain⟨x,hx,rfl⟩:=aV.1 hr;exact(h.ho x (cH.1 hx).1).sub k2
theorem Uk{cY:Int}(hs:aq mm [p,q])(h:y5 p q b B)(hl:B.o7.length<=1000):
  bi tP 56 [cx b,i64 cY] mm λr m'=>∃v p' q' R,r=[.v v]/\aq m' [p',q']/\cL q q'/\y5 p' q' b (B.acX cY)/\Ga Yd q' v R/\R.map (·.1)=B.BI cY/\∀r∈R,Ia q' (.slice r.2.1 r.1.l.length r.2.2) r.1.l:=by
 obtain⟨vo,va,fQ,po,pa,RO,RA,h⟩:=h;have bM:aq mm [blk1 b (ik vo va fQ),po,pa,q]:=hs.tQ h.sp;have hb:mm b=some (ik vo va fQ):=bM.get (a:=blk1 b (ik vo va fQ)) (by simp) (aG ..);have hol:RA.length=B.o7.length:=by rw[<-h.ea,aH]
 refine ap Tryz.func56 ?_;refine xN ?_;refine⟨_,aF hb rfl,h.a.ea.one,?_⟩;refine aP (Nf (cY:=cY) (h.a.el.sub (bM.sub)).ea (by omega)) ?_;rintro _ m2⟨v1,v2,p1,p2,rfl,bZ,xf,lE⟩;have dy:aq m2 [p1,p2,blk1 b (ik vo va fQ),po,pa,q]:=aq.jN (a:=[p1,p2]) bZ bM;have oM:m2 b=some (ik vo va fQ):=dy.get (a:=blk1 b (ik vo va fQ)) (by simp) (aG ..);refine⟨_,_,_,oM,⟨by simp,by simp⟩,?_⟩;have eP:=dy.gu (i:=2) rfl (aG ..) (ik vo v2 fQ);rw[cJ]at eP;obtain⟨j,k1,k2,eD⟩:=aq.sK (eP.ir [0,5,2,3,1]);obtain⟨gC,iU⟩:=aq.k9 [blk1 b (ik vo v2 fQ),po,p2] (l:=[j]) (eD.ir [1,2,3,0]);refine⟨v1,_,j,_,rfl,gC,k2,⟨vo,v2,fQ,po,p2,RO,_,iU,h.o,lE,h.eo,?_,λr hr=>(h.ho r hr).sub k2,?_⟩,(xf.el.sub k1).ea,?_,?_⟩
 ·rw[kf.acX,<-h.ea]
  exact acg RA (λr=>r.1) λz=>!kh cY z
 ·intro r hr
  exact(h.ha r (cH.1 hr).1).sub k2
 ·rw[kf.BI,<-h.ea,<-acg RA (λr=>r.1) λz=>kh cY z,fS,fS]
  rfl
 ·intro r hr
  obtain⟨x,hx,rfl⟩:=aV.1 hr;exact(h.ha x (cH.1 hx).1).sub k2
theorem Um{x:Rv}{s:CN}{mark:Int}(hs:aq mm [p,q])(h:y5 p q b B)(hx:Ia q (.slice s.1 x.l.length s.2) x.l)(zu:x.l.length<=100000)(hl:B.o7.length<=1000)(hm:0<=mark):
  bi tP 180 [cx b,.a (x.L s),i64 mark] mm λr m'=>∃p' q',r=[i64 0]/\aq m' [p',q']/\cL q q'/\y5 p' q' b (B.nX x mark):=by
 obtain⟨vo,va,fQ,po,pa,RO,RA,h⟩:=h;have bM:aq mm [blk1 b (ik vo va fQ),po,pa,q]:=hs.tQ h.sp;have hb:mm b=some (ik vo va fQ):=bM.get (a:=blk1 b (ik vo va fQ)) (by simp) (aG ..);have hol:RA.length=B.o7.length:=by rw[<-h.ea,aH]
 refine c7 awC Tryz.func180 ?_;refine bt (Dq (mark:=mark) hb) ?_;conv=>whnf
 rw[if_neg (by omega)];refine xN ?_;refine aP (ud (hx.sub (bM.sub)) (by omega)) ?_;rintro _ m1⟨v1,p1,rfl,bZ,xf⟩;obtain⟨a1,c1,rfl⟩:=xf.il.ia.shape;have dy:aq m1 [p1,blk1 b (ik vo va fQ),po,pa,q]:=aq.jN (a:=[p1]) bZ bM;have kW:m1 b=some (ik vo va fQ):=dy.get (a:=blk1 b (ik vo va fQ)) (by simp) (aG ..);refine⟨_,aF kW rfl,h.a.ea.one,?_⟩;refine .mk _ (AL (t:=Gd) (e:=((x,(a1,c1)),mark)) (by simp[CV.cs,Is,EU,LB.cz,eB.cells])) ?_;rintro _ _⟨b5,mo,rfl,rfl⟩
 first|refine⟨yt kW (aD.bT _ mo),?_⟩|skip
 refine .mk _ (Az (t:=Gd) (i:=3) (x:=((x,(a1,c1)),mark)) dy rfl mo h.a (by omega)) ?_;rintro _ m4⟨y',p',rfl,eP,tZ⟩;have OV:m4 b=some (ik vo va fQ):=eP.get (a:=blk1 b (ik vo va fQ)) (by simp) (aG ..);refine⟨_,_,_,OV,⟨by simp,by simp⟩,?_⟩;have eD:=eP.gu (i:=1) rfl (aG ..) (ik vo y' fQ);rw[cJ]at eD;obtain⟨j,k1,k2,gC⟩:=aq.sK (eD.ir [0,4,1,2,3]);obtain⟨iU,k8⟩:=aq.k9 [blk1 b (ik vo y' fQ),po,p'] (l:=[j]) (gC.ir [1,2,3,0]);refine⟨_,j,rfl,iU,k2,vo,y',fQ,po,p',RO,_,k8,h.o,tZ,h.eo,?_,λr hr=>(h.ho r hr).sub k2,?_⟩
 ·rw[bD,h.ea];rfl
 ·intro r hr
  rcases aR.1 hr with hr|hr
  ·exact(h.ha r hr).sub k2
  ·rw[aL.1 hr]
   exact xf.il.ia.sub k1
theorem Un{x:gX}{s:iS}{mark:Int}(hS:cK q)(hs:aq mm [p,q])(h:y5 p q b B)(hx:gy q x s)(ho:qx x)(hd:XO x)(hkd:(x.ca.map nJ).flatten.length<=9000000)(hl:B.dE.length<500)(hm:0<=mark):
  bi tP 184 [cx b,mT x s,i64 mark] mm λr m'=>∃p' q',r=[i64 (if dR x then 0 else 3)]/\aq m' [p',q']/\cL q q'/\y5 p' q' b (B.send x mark):=by
 have hbq:=h;obtain⟨vo,va,fQ,po,pa,RO,RA,h⟩:=h;have bM:aq mm [blk1 b (ik vo va fQ),po,pa,q]:=hs.tQ h.sp;have hb:mm b=some (ik vo va fQ):=bM.get (a:=blk1 b (ik vo va fQ)) (by simp) (aG ..);have hol:RO.length=B.dE.length:=by rw[<-h.eo,aH]
 have hqm:cL q mm:=bM.sub (by simp);unfold kf.send;refine c7 aDw Tryz.func184 ?_;refine bt (Dq (mark:=0) hb) ?_;conv=>whnf
 rw[if_neg (by omega)];refine xN ?_;refine aP (Qp (hS.sub hqm) (hx.sub hqm) ho hkd) ?_;rintro _ m1⟨v1,p1,rfl,bZ,xf⟩;have dy:aq m1 [p1,blk1 b (ik vo va fQ),po,pa,q]:=aq.jN (a:=[p1]) bZ bM;by_cases hr:dR x=true;rotate_left
 ·have hr:dR x=false:=by simpa using hr
  simp only[hr]at xf⊢;refine xY ?_;exact⟨p,q,rfl,(aq.jN (a:=[p1]) bZ hs).ir [1,2],cL.refl _,hbq⟩
 simp only[hr,oN]at xf⊢;have rg:=nD hr;have OU:=acL hd;have hlen:=acK hx.Th hx.dg.ok rg hkd;have yC:=T7 hr hx.Th hx.dg.ok λc hc=>(ho.k c hc).u;refine xN ?_;have kW:m1 b=some (ik vo va fQ):=dy.get (a:=blk1 b (ik vo va fQ)) (by simp) (aG ..);refine bt (Dq (mark:=mark) kW) ?_;conv=>whnf
 rw[if_neg (by omega)];refine xN ?_;refine aP (UB (hS.sub (dy.sub)) (xf.lb.sub (dy.sub)) OU (by omega)) ?_;rintro _ m2⟨s',p2,rfl,eP,nT,ez,_⟩;conv=>whnf
 rw[yC]at nT ez⊢;have eD:aq m2 [p2,p1,blk1 b (ik vo va fQ),po,pa,q]:=aq.jN (a:=[p2]) eP dy;have oM:m2 b=some (ik vo va fQ):=eD.get (a:=blk1 b (ik vo va fQ)) (by simp) (aG ..);refine⟨_,aF oM rfl,h.o.ea.one,?_⟩;have hmx:LB.cz (hmL ((x,s'),mark))=Cp ((x,s'),mark):=U1 _;have h32:p32 x.jI=x.jI:=akz hx.Th;refine .mk _ (AL (t:=E5) (e:=((x,s'),mark)) (by rw[show E5.enc ((x,s'),mark)=Cp ((x,s'),mark) from rfl,<-hmx];simp only[hmL,h32];rfl)) ?_;rintro _ _⟨b5,mo,rfl,rfl⟩;refine⟨yt oM (aD.bT _ mo),?_⟩;refine .mk _ (Az (t:=E5) (i:=3) (x:=((x,s'),mark)) eD rfl mo h.o (by omega)) ?_;rintro _ m6⟨y',p',rfl,gC,tZ⟩;have Xl:m6 b=some (ik vo va fQ):=gC.get (a:=blk1 b (ik vo va fQ)) (by simp) (aG ..);refine⟨_,_,_,Xl,⟨by simp,by simp⟩,?_⟩;obtain⟨ya,yc,rfl⟩:=tZ.el.shape;have iU:=gC.gu (i:=2) rfl (aG ..) (ik (.slice ya (RO++[((x,s'),mark)]).length yc) va fQ);rw[cJ]at iU;have Te:=iU.get (a:=blk1 b (ik (.slice ya (RO++[((x,s'),mark)]).length yc) va fQ)) (by simp) (aG ..);refine xM Te ?_;refine⟨λhq=>?_,λ_=>?_⟩
 ·have:=ah hq
  rw[ax]at this;simp at this;omega
 obtain⟨j,k1,k2,k8⟩:=aq.sK (iU.ir [0,5,2,3,4]);obtain⟨zv,nr⟩:=aq.k9 [blk1 b (ik (.slice ya (RO++[((x,s'),mark)]).length yc) va fQ),p',pa] (l:=[j]) (k8.ir [1,2,3,0]);refine⟨_,j,rfl,zv,k2,_,va,fQ,p',pa,_,RA,nr,tZ,h.a,?_,h.ea,?_,λr hr=>(h.ha r hr).sub k2⟩
 ·rw[bD,h.eo];rfl
 ·intro r hr
  rcases aR.1 hr with hr|hr
  ·exact(h.ho r hr).sub k2
  ·rw[aL.1 hr]
   exact nT.sub k1
end
section
variable {mm p q:aD}{b:Nat}{B:kf}
end
abbrev Pt:=Int×Int
def R0(p:Pt):List Value:=[.int .u64 p.1,.int .i64 p.2]
theorem Co:fp R0 2:=⟨λ_=>rfl,λx u hu=>by simp[R0]at hu;rcases hu with rfl|rfl<;>rfl,by decide⟩
def vX(a b:Pt):Bool:=decide (a.1<b.1\/(a.1=b.1/\a.2<b.2))
def Et(a b:Pt):Int:=Qb [sP a.1 b.1,sP a.2 b.2]
structure Rc where
 jv:Int
 (AO:Int)
 (xm:Int)
deriving DecidableEq
def Rc.ok(c:Rc):Bool:=(rB c.jv 1 8&&rB c.AO 1 16)&&rB c.xm 1 c.jv
theorem Rc.lj{c:Rc}:c.ok=true↔(1<=c.jv/\c.jv<=8)/\(1<=c.AO/\c.AO<=16)/\(1<=c.xm/\c.xm<=c.jv):=by
 simp only[Rc.ok,aB,B6,and_assoc]
abbrev Rc.L(c:Rc):LB:=[.one (.int .i64 c.jv),.one (.int .i64 c.AO),.one (.int .i64 c.xm)]
abbrev Yb:Ty Pt:={enc:=R0,s:=2,sl:=202,el:=435,by':=16,ts:=_,ti:=_,ok:=Co,h1:=rfl,h2:=rfl,h3:=rfl,h4:=rfl,h5:=rfl,h6:=rfl,h7:=by decide,h8:=by decide}
abbrev Ptl:=Gl Yb
abbrev V6:=Gw Yb
abbrev Pta:=Ga Yb
abbrev Ptv(x:Pt):CV:=.a [.one (.int .u64 x.1),.one (.int .i64 x.2)]
variable{n x:Int}
theorem vR:eN tP 84 [i64 n,i64 x] m [bR (rB n 1 x)]:=by
 refine ap Tryz.func84 ?_;refine⟨λh=>?_,λh=>?_⟩<;>conv=>whnf
 all_goals exact⟨by rw[rB,h];rfl,rfl⟩
variable{c:Rc}
theorem Ek:eN tP 50 [.a c.L] m [bR c.ok]:=by
 refine ap Tryz.func50 ?_;refine bt (vR) ?_;conv=>whnf
 unfold Rc.ok;apply bI<;>intro h
 ·refine bt (vR) ?_
  apply bI<;>intro h2
  ·refine bt (vR) ?_
   exact⟨by rw[h,h2];rfl,rfl⟩
  ·exact⟨by rw[h,h2];rfl,rfl⟩
 ·exact⟨by rw[h];rfl,rfl⟩
abbrev eO(c:Rc)(d st se:Int)(lv:Value):Obj:=.cells #[.int .i64 c.jv,.int .i64 c.AO,.int .i64 c.xm,.int .u32 d,.int .i32 st,.int .u32 se,lv] 204
theorem agh(h:c.ok=true):bi tP 53 [.a c.L] m λr m'=>∃b,m b=none/\r=[cx b,i64 0]/\m'=m.set b (eO c 0 0 0 (.slice none 0 0)):=by
 refine c7 c53 Tryz.func53 ?_;refine bt (Ek) ?_;conv=>whnf
 rw[h];refine xN ?_;intro b hb;exact⟨b,hb,rfl,rfl⟩
theorem UF{x:Pt}(hb:m b=some (.cells #[.int .u64 n] 47)):eN tP 331 [Ptv x,cx b] m [bR (decide (n<=x.1))]:=by
 refine ap Tryz.func331 ?_;refine xM hb ?_;exact rR
open Go.Proofs Go.Shelf Go.Sort Go.Lib
def ai2:Go.Shelf.Ren:=⟨rF [(6,406),(14,444),(15,219),(20,469),(21,470),(22,471),(23,472),(24,473),(25,474),(26,475),(27,476),(28,304),(29,305),(46,491),(47,356),(48,357),(49,492),(50,493),(57,502)],rF [(0,0),(3,3),(4,4),(5,5),(9,9),(22,202),(24,435),(25,504),(39,247),(45,402),(46,403),(50,339),(53,193),(55,47),(66,456),(70,459),(76,487),(77,428)],λn=>n⟩
theorem ac0:SlLaysF0.n6 tP ai2:=by repeat' first|kernel_rfl|exact λ_=>rfl|(apply brs<;>kernel_rfl)|decide|constructor
instance:Inhabited Pt:=⟨(0,0)⟩
theorem JV:wP tP 406:=ac0.f6.enters rfl
theorem TO{cf:Pt->Pt->Int}(hO:SWO (ltOf cf))(hT:∀x y,(ltOf cf) x y=false->(ltOf cf) y x=false->x=y){g:Nat}(hcf:∀x y,bi tP g [Ptv x,Ptv y] iI λr _=>r=[i64 (cf x y)])
  {m p:aD}{l:List aD}{i:Nat} (hS:cK m) (hs:aq m l) (hi:l[i]?=some p) {v:Value}{E:List Pt} (hv:V6 p v E) (hl:E.length<=1000000000):
  bi tP 406 [.v v,Aj g] m λr m'=>∃p',r=[]/\aq m' (l.set i p')/\V6 p' v (E.mergeSort λx y=>!ltOf cf y x):=
 xO (ρ:=ai2) JV ac0 (k:=2) Tryz.isAgg435 Tryz.sizeOf435 Co hO hT (parts:=λx=>[.one (.int .u64 x.1),.one (.int .i64 x.2)]) (λ_=>rfl) (λ_=>⟨rfl,rfl,trivial⟩) hcf hS hs hi hv hl
variable{a:Pt}
theorem Ze{b:Pt}:bi tP 407 [Ptv a,Ptv b] m λr m'=>r=[i64 (Et a b)]/\cL m m':=by
 refine c7 aC7 Tryz.func407 ?_;refine fU (wJ) ?_;refine bt (qu) ?_;refine .mk _ (IN) ?_;rintro _ _⟨b1,kW,rfl,rfl⟩;refine bt (adO (Il.Je (aD.bg ..)) (by simp)) ?_;exact⟨rfl,aD.bT _ kW⟩
theorem A1{b:Pt}:vX a b=true↔a.1<b.1\/(a.1=b.1/\a.2<b.2):=by simp[vX]
theorem Ba:ltOf Et=vX:=by
 funext a b
 rw[nV,A1];simp only[ltOf,bA];by_cases h1:a.1<b.1
 ·simp[Et,Qb,sP,h1]
 by_cases h2:b.1<a.1
 ·simp[Et,Qb,sP,h1,h2];omega
 by_cases h3:a.2<b.2
 ·simp[Et,Qb,sP,h1,h2,h3];omega
 by_cases h4:b.2<a.2
 ·simp[Et,Qb,sP,h1,h2,h3,h4]
 ·simp[Et,Qb,sP,h1,h2,h3,h4]
theorem A0{b:Pt}:vX a b=false↔¬(a.1<b.1\/(a.1=b.1/\a.2<b.2)):=by rw[<-A1];simp
theorem Ub:Go.Sort.SWO vX where
 irrefl x:=by rw[A0];omega
 trans x y z h1 h2:=by rw[A1]at*;omega
 ntrans x y z h1 h2:=by rw[A0]at*;omega
theorem M5{x y:Pt}(h1:vX x y=false)(h2:vX y x=false):x=y:=by
 rw[A0]at h1 h2
 grind
variable{i:Nat}{v:Value}
theorem Yx{l:List aD}(hS:cK m)(hs:aq m l)(hi:l[i]?=some p) {E:List Pt} (hv:V6 p v E) (hl:E.length<=1000000000):
  bi tP 406 [.v v,Aj 407] m λr m'=>∃p',r=[]/\aq m' (l.set i p')/\V6 p' v (E.mergeSort λx y=>!vX y x):=by
 have h:=TO (cf:=Et) (by rw[Ba];exact Ub) (by rw[Ba];exact λx y=>M5) (g:=407) (λx y=>Ze.mono λr m' h=>h.1) hS hs hi hv hl;rw[Ba]at h;exact h
def agq(n i:Nat):Pt:=((ao.uW [110,48+n,97+i]:Nat),(n:Nat))
def Ju(v n:Nat):List Pt:=(List.range v).map (agq n)
def M3(n v:Nat):List Pt:=(List.range' 1 n).flatMap (Ju v)
def ja(c:Rc):List Pt:=(M3 c.jv.toNat c.AO.toNat).mergeSort λx y=>!vX y x
theorem K0(n v:Nat):M3 (n+1) v=M3 n v++Ju v (n+1):=by
 simp[M3,List.range'_concat,Nat.add_comm]
theorem YU(v n:Nat):Ju (v+1) n=Ju v n++[agq n v]:=by simp[Ju,List.range_succ]
theorem GX(n v:Nat):(M3 n v).length=n*v:=by
 induction n with
 |zero=>simp[M3]
 |succ n ih=>rw[K0,ax,ih];simp[Ju,lG]
theorem acd(c:Rc):(ja c).length=c.jv.toNat*c.AO.toNat:=by rw[ja,eW,GX]
theorem ac3(hS:cK m)(hc:c.ok=true)(hs:aq mm [blk1 b (eO c 0 1 0 (.slice none 0 0)),m]):
  bi tP 377 [cx b] mm λr m'=>r=[]/\∃lv p,aq m' [blk1 b (eO c 0 1 0 lv),p,m]/\V6 p lv (ja c):=by
 obtain⟨⟨n1,n2⟩,⟨v1,v2⟩,_⟩:=Rc.lj.1 hc;obtain⟨n,rn,en⟩:∃n:Nat,c.jv=n/\c.jv.toNat=n:=⟨c.jv.toNat,by omega,rfl⟩;obtain⟨v,rv,ev⟩:∃v:Nat,c.AO=v/\c.AO.toNat=v:=⟨c.AO.toNat,by omega,rfl⟩;refine c7 aDc Tryz.func377 ?_;refine .mk (ι:=Nat) (λk=>n-k) (λk mm=>k<=n/\∃lv p,aq mm [blk1 b (eO c 0 1 0 lv),p,m]/\V6 p lv (M3 k v)) (λk=>[(0,.c (cx b)),(2,.c (i64 ((k+1:Nat):Int)))]) (λ_=>[]) 0 ⟨by omega,_,iI,(hs.cA).fm (List.Perm.swap ..),Gw.nil _⟩ ?_ ?_
 ·exact Cr
 rintro k mm⟨hk,lv,p,bM,hp⟩;have hb:=bM.get (a:=blk1 b (eO c 0 1 0 lv)) (by simp) (aG ..);refine xM hb ?_;apply bI<;>intro h1
 ·have jc:=ah h1
  have U5:k<n:=by omega
  refine xM hb ?_;refine .mk (ι:=Nat) (λi=>v-i) (λi mm=>i<=v/\∃lv p,aq mm [blk1 b (eO c 0 1 0 lv),p,m]/\V6 p lv (M3 k v++Ju i (k+1))) (λi=>[(0,.c (cx b)),(2,.c (i64 ((k+1:Nat):Int))),(17,.c (i64 c.AO)),(18,.c (i64 i))]) (λ_=>[]) 0 ⟨by omega,lv,p,bM,by simpa [Ju]using hp⟩ ?_ ?_
  ·exact Cr
  rintro i mm⟨hi,lv,p,bM,hp⟩;have hb:=bM.get (a:=blk1 b (eO c 0 1 0 lv)) (by simp) (aG ..);apply bI<;>intro h2
  ·have iD:=ah h2
   refine⟨_,aF hb rfl,hp.el.ea.one,?_⟩;refine .mk _ (ami) ?_;rintro _ _⟨b1,kW,rfl,rfl⟩;have e1:IntKind.u8.wrap (48+IntKind.u8.wrap ((k+1:Nat):Int))=((48+(k+1):Nat):Int):=by rw[wu8 (n:=((k+1:Nat):Int)) (by omega) (by omega),wu8 (by omega) (by omega)];omega
   have e2:IntKind.u8.wrap (97+IntKind.u8.wrap (i:Int))=((97+i:Nat):Int):=by rw[wu8 (n:=(i:Int)) (by omega) (by omega),wu8 (by omega) (by omega)];omega
   rw[e1,e2];refine⟨yt hb (aD.bT _ kW),?_⟩;refine aP (GY (l:=[110,48+(k+1),97+i]) (Lb.awU (l:=nc [110,48+(k+1),97+i]) (aD.bg ..) rfl).la (by simp) (by simp;omega)) ?_;rintro _ m2⟨rfl,bZ⟩;have dy:=bM.grow ((aD.bT _ kW).trans bZ);refine⟨yt (bM.grow (aD.bT _ kW) |>.get (a:=blk1 b (eO c 0 1 0 lv)) (by simp) (aG ..)) bZ,?_⟩;refine .mk _ (AL (t:=Yb) (e:=agq (k+1) i) rfl) ?_;rintro _ _⟨b2,oM,rfl,rfl⟩;refine⟨yt (dy.get (a:=blk1 b (eO c 0 1 0 lv)) (by simp) (aG ..)) (aD.bT _ oM),?_⟩;refine .mk _ (Az (t:=Yb) (i:=1) dy rfl oM hp (by rw[ax,GX];simp[Ju];have:=cS v (show k<=8 by omega);omega)) ?_;rintro _ m4⟨Qt,p',rfl,eP,tZ⟩;refine⟨_,_,_,eP.get (a:=blk1 b (eO c 0 1 0 lv)) (by simp) (aG ..),⟨by simp,by simp⟩,?_⟩;have eD:=eP.set (b:=b) (aG ..) (eO c 0 1 0 Qt);rw[cJ]at eD;refine⟨i+1,⟨by omega,Qt,p',eD,?_⟩,by omega,?_⟩
   ·rw[YU,<-aX];exact tZ
   exact Cr
  ·have iD:=aj h2
   obtain rfl:i=v:=by omega
   refine⟨k+1,⟨by omega,lv,p,bM,?_⟩,by omega,?_⟩
   ·rw[K0];exact hp
   exact Cr
 ·have jc:=aj h1
  obtain rfl:k=n:=by omega
  refine⟨_,aF hb rfl,hp.el.ea.one,?_⟩;refine aP (Yx (i:=1) (hS.sub (bM.sub)) bM rfl hp (by rw[GX];have:=cS v (show k<=8 by omega);omega)) ?_;rintro _ m2⟨p',rfl,bZ,tZ⟩;refine⟨rfl,lv,p',bZ,?_⟩;rw[ja,en,ev];exact tZ
theorem ai9(w:World):(callFunc 483 #[]).run Tryz.prog w= .ok (.value (.tuple #[])) w:=run_call_mark0 Tryz.func483 (by kernel_rfl) (by kernel_rfl) (by kernel_rfl) .disable (by kernel_rfl) w
theorem ai8(w:World):(callFunc 485 #[]).run Tryz.prog w= .ok (.value (.tuple #[])) w:=run_call_mark0 Tryz.func485 (by kernel_rfl) (by kernel_rfl) (by kernel_rfl) .enable (by kernel_rfl) w
theorem aoR(a:Addr)(w:World):(callFunc 486 #[.pointer (some a)]).run Tryz.prog w= .ok (.value (.tuple #[])) w:=run_call_marked Tryz.func486 (by kernel_rfl) (by kernel_rfl) (by kernel_rfl) .acquire (by kernel_rfl) a w
theorem aoQ(a:Addr)(w:World):(callFunc 488 #[.pointer (some a)]).run Tryz.prog w= .ok (.value (.tuple #[])) w:=run_call_marked Tryz.func488 (by kernel_rfl) (by kernel_rfl) (by kernel_rfl) .releaseMerge (by kernel_rfl) a w
theorem ao8(a:Addr)(w:World)(hc:w.cell? a=some (.int .i32 0))(hz:w.frozen? a=false):
  Calls Tryz.prog 465 #[.pointer (some a)] w λe w'=>e= .returned (.tuple #[])/\w'=w.setCell a (.int .i32 1):=by
 have hd:=ai9;have he:=ai8;have ha:=aoR;have aBg:=run_call_cas_hit (P:=Tryz.prog) Tryz.func484 (by kernel_rfl) (by kernel_rfl) (by kernel_rfl) .i32 (by kernel_rfl) (y:=1) hc hz;have Vg:(w.setCell a (.int .i32 1)).cell? a=some (.int .i32 1):=World.cell?_setCell_same w a _ hc;have Rn:=run_convert_to_unsafe (P:=Tryz.prog) (src:=567) (dst:=471) Tryz.underlying567 Tryz.underlying471 (by kernel_rfl) Vg
 go_enter Tryz.func465,Tryz.ntmps465
 go_wp2
 first|go_end0|(simp only[Exit.inBlock,Exit.then];refine bodyPost_ret (results_none rfl _ _ _) rfl ?_)|refine bodyPost_ret (results_none rfl _ _ _) rfl ?_
 exact rR
theorem aoS(a:Addr)(w:World)(hc:w.cell? a=some (.int .i32 0))(hz:w.frozen? a=false):
  Calls Tryz.prog 441 #[.pointer (some a)] w λe w'=>e= .returned (.tuple #[])/\w'=w.setCell a (.int .i32 1):=by
 go_enter Tryz.func441,Tryz.ntmps441
 go_wp2_with (go_at_call 465;refine(ao8 a _ (by go_simp) (by go_simp)).mono ?_;rintro e w'⟨rfl,rfl⟩)
 go_end0
 grind
theorem ahd(a:Addr)(w:World)(hc:w.cell? a=some (.int .i32 1))(hz:w.frozen? a=false):
  Calls Tryz.prog 466 #[.pointer (some a)] w λe w'=>e= .returned (.tuple #[])/\w'=w.setCell a (.int .i32 0):=by
 have hd:=ai9;have he:=ai8;have hr:=aoQ;have aBp:=run_call_add (P:=Tryz.prog) Tryz.func489 (by kernel_rfl) (by kernel_rfl) (by kernel_rfl) .i32 (by kernel_rfl) (y:=-1) (s:=0) hc hz (by simp[go_sem];rfl);have Rn:=run_convert_to_unsafe (P:=Tryz.prog) (src:=567) (dst:=471) Tryz.underlying567 Tryz.underlying471 (by kernel_rfl) hc
 go_enter Tryz.func466,Tryz.ntmps466
 go_wp2
 go_end0
 exact rR
theorem acp(a:Addr)(u:FrameMode)(w:World)(hc:w.cell? a=some (.int .i32 1))(hz:w.frozen? a=false):
  CallsD Tryz.prog 442 #[.pointer (some a)] u w λe u' w'=>u'=u/\(e= .returned (.tuple #[])/\w'=w.setCell a (.int .i32 0)):=by
 go_enter_d Tryz.func442,Tryz.ntmps442
 go_wp2_with (go_at_call 466;refine(ahd a _ (by go_simp) (by go_simp)).mono ?_;rintro e w'⟨rfl,rfl⟩)
 go_end0
 grind
theorem agw(a:Addr)(x:Value)(u:FrameMode)(w:World)(hc:w.cell? a=some x)(hz:w.frozen? a=false):
  CallsD Tryz.prog 443 #[.pointer (some a),.bool true] u w λe u' w'=>u'=u/\(e= .returned (.tuple #[])/\w'=w.drew.setCell a (.int .u32 1)):=by
 have Vg:w.drew.cell? a=some x:=by go_simp
 have hz':w.drew.frozen? a=false:=by go_simp
 have dI:=run_call_store (P:=Tryz.prog) Tryz.func467 (by kernel_rfl) (by kernel_rfl) (by kernel_rfl) (by kernel_rfl) (k:=.u32) (y:=1) Vg hz'
 go_enter_d Tryz.func443,Tryz.ntmps443
 go_wp2
 go_region_calls
 all_goals (go_end0;exact⟨rfl,rfl⟩)
variable{W:World}{arr:Array Value}{T:TypeId}
theorem iO(hW:mg m W){o:Nat}(hb:m b=some (.cells arr T))(hv:arr[o]?=some v):W.cell? ⟨b,o,none⟩=some v:=by
 simp[World.cell?,hW _ _ hb,hv]
theorem zx(hW:mg m W){o:Nat}(hb:m b=some (.cells arr T)):W.frozen? ⟨b,o,none⟩=false:=by
 simp[World.frozen?,hW _ _ hb]
theorem Bv(hW:mg m W){o:Nat}{x:Value}(hb:m b=some (.cells arr T))(hx:arr[o]?=some x):cr m W (m.set b (.cells (arr.setIfInBounds o v) T)) (W.setCell ⟨b,o,none⟩ v):=by
 have h1:=hW _ _ hb;refine cr.setObj hW hb (h:=W.heap.modify b _) (by simp) ?_ λy hy=>?_
 ·grind
 grind
theorem Y2{f:FuncId}{fn:Func}(h1:Tryz.prog.funcs[f]?=some fn) (h2:(fn.name== "runtime.NumGoroutine")=false) (h3:fn.body.isSome=true):wP Tryz.prog f:=λargs w=>by
 obtain⟨c,hb⟩:=mh.1 h3
 have OS:¬fn.name= "runtime.NumGoroutine" :=by simpa using h2
 simp[callFunc,h1,hb,OS]
theorem YA{lv0:Value}{R:aD->Value->Prop}(hb:m b=some (eO c 0 0 0 lv0))(hL:bi Tryz.prog 377 [cx b] (m.set b (eO c 0 1 0 lv0)) λr m'=>r=[]/\∃lv,m' b=some (eO c 0 1 0 lv)/\R m' lv):
  bi Tryz.prog 405 [.v (.pointer (some ⟨b,3,none⟩)),.v (.func (.func 377) #[.pointer (some ⟨b,0,none⟩)] #[])] m λr m'=>r=[]/\∃m1 lv,R m1 lv/\m1 b=some (eO c 0 1 0 lv)/\m'=m1.set b (eO c 1 0 0 lv):=by
 refine⟨Y2 Tryz.func405 (by kernel_rfl) (by kernel_rfl),λEP W hW=>?_⟩;have h0:=iO hW (o:=3) hb rfl;have h1:=iO hW (o:=4) hb rfl;have h3:=iO hW (o:=6) hb rfl;have f0:=zx hW (o:=3) hb;have f1:=zx hW (o:=4) hb;have a1:cr m W (m.set b (eO c 0 1 0 lv0)) (W.setCell ⟨b,4,none⟩ (.int .i32 1)):=Bv hW (o:=4) (v:=.int .i32 1) hb rfl;have hl:=run_call_load (P:=Tryz.prog) Tryz.func440 (by kernel_rfl) (by kernel_rfl) (by kernel_rfl) .u32 (by kernel_rfl) (w:=W.setCell ⟨b,4,none⟩ (.int .i32 1)) (a:=⟨b,3,none⟩) (x:=0) ((World.cell?_setCell_other _ ⟨b,4,none⟩ ⟨b,3,none⟩ _ (by simp)).trans h0);have apL:∀(x:Bool) (w:World),(Op.unary .not (.bool x)).run Tryz.prog w= .ok (.bool (!x)) w:=λ_ _=>rfl
 show Calls Tryz.prog 405 #[.pointer (some ⟨b,3,none⟩),.func (.func 377) #[.pointer (some ⟨b,0,none⟩)] #[]] W _
 go_enter_defers Tryz.func405,Tryz.ntmps405
 go_wp2_with (go_at_call 441;refine(aoS ⟨b,4,none⟩ _ (by go_simp) (by go_simp)).mono ?_;rintro e w'⟨rfl,rfl⟩)
 go_wp2_with (first|(go_at_call 377;refine(hL.2 (by simp[CV.ok,Value.oneCell']) _ a1.jF).mono ?_;rintro e w2⟨r2,m2,rfl,jK,⟨rfl,lv,vD,hR⟩,ZL⟩)|go_in)
 have a3:cr m2 w2 (m2.set b (eO c 1 1 0 lv)) (w2.drew.setCell ⟨b,3,none⟩ (.int .u32 1)):=(cr.drew (cr.refl ZL.jF)).trans (Bv (cr.drew (cr.refl ZL.jF)).jF (o:=3) (v:=.int .u32 1) vD rfl);have Ah:(m2.set b (eO c 1 1 0 lv)) b=some (eO c 1 1 0 lv):=aD.bg ..;have a4:cr (m2.set b (eO c 1 1 0 lv)) (w2.drew.setCell ⟨b,3,none⟩ (.int .u32 1)) ((m2.set b (eO c 1 1 0 lv)).set b (eO c 1 0 0 lv)) ((w2.drew.setCell ⟨b,3,none⟩ (.int .u32 1)).setCell ⟨b,4,none⟩ (.int .i32 0)):=Bv a3.jF (o:=4) (v:=.int .i32 0) Ah rfl;rw[aD.set_set]at a4;refine leaves_cons (f:=443) (args:=#[.pointer (some ⟨b,3,none⟩),.bool true]) (by simp) (by simp[go_sem]) ?_;refine(agw ⟨b,3,none⟩ (.int .u32 0) .returning _ (iO ZL.jF vD rfl) (zx ZL.jF vD)).mono ?_;rintro e u' w''⟨rfl,rfl,rfl⟩;refine leaves_cons (f:=442) (args:=#[.pointer (some ⟨b,4,none⟩)]) (by simp[settle]) (by simp[go_sem]) ?_;refine(acp ⟨b,4,none⟩ _ _ (iO a3.jF Ah rfl) (zx a3.jF Ah)).mono ?_;rintro e u' w''⟨rfl,rfl,rfl⟩;have a5:=((a1.trans ZL).trans a3).trans a4;refine⟨.tuple #[],by simp[results,Tryz.results405],[],_,rfl,(by simp),⟨rfl,m2,lv,hR,vD,rfl⟩,a5⟩
theorem aja{o:Nat}(hb:gR m b o=some (.int .u32 x)):eN Tryz.prog 404 [.v (.pointer (some ⟨b,o,none⟩))] m [bR (!decide (x=0))]:=by
 refine ap Tryz.func404 ?_;refine aj1 (aem (P:=Tryz.prog) Tryz.func440 (by rfl) (by rfl) (by kernel_rfl) .u32 (by kernel_rfl) hb) ?_;rintro _ _⟨rfl,rfl⟩;exact⟨by rw[<-qO];rfl,rfl⟩
theorem WB{fv:Value}(hb:m b=some (eO c 1 0 0 lv)):eN Tryz.prog 376 [.v (.pointer (some ⟨b,3,none⟩)),.v fv] m []:=by
 refine ap Tryz.func376 ?_;refine bt (aja (aF hb rfl)) ?_;refine xN ?_;exact rR
theorem agA{lv0:Value}{R:aD->Value->Prop}(hb:m b=some (eO c 0 0 0 lv0))(hL:bi Tryz.prog 377 [cx b] (m.set b (eO c 0 1 0 lv0)) λr m'=>r=[]/\∃lv,m' b=some (eO c 0 1 0 lv)/\R m' lv):
  bi Tryz.prog 376 [.v (.pointer (some ⟨b,3,none⟩)),.v (.func (.func 377) #[.pointer (some ⟨b,0,none⟩)] #[])] m λr m'=>r=[]/\∃m1 lv,R m1 lv/\m1 b=some (eO c 0 1 0 lv)/\m'=m1.set b (eO c 1 0 0 lv):=by
 refine ap Tryz.func376 ?_;refine bt (aja (aF hb rfl)) ?_;refine xY ?_;refine aP (YA hb hL) ?_;rintro _ m'⟨rfl,h⟩;exact⟨rfl,h⟩
abbrev ayt:TyL Pt:={Yb with lb:=λx=>[.one (.int .u64 x.1),.one (.int .i64 x.2)],lok:=λx=>⟨rfl,rfl,trivial⟩,lsz:=λx=>rfl,lcl:=λx=>rfl,z:=(0,0),hz:=rfl}
theorem ayI:as8 ayt (λb:Nat=>#[.pointer (some ⟨b,0,none⟩)]) (λb=>[cx b]) 330:={}
theorem JE{E:List Pt}{F:Nat}{p:Pt->Bool}(hv:Pta m v E)(hF:∀e∈E,eN tP F [Ptv e,cx b] m [bR (p e)])(hl:E.length<=100000000):eN tP 330 [.v v,(l5 F b)] m [i64 (sH p E)]:=ayI.ix (x:=b) hv hF hl
theorem Rs{n:Nat}(hn:n<=1000000):
  bi tP 378 [.v (.slice none 0 0),.v (.int .i64 n)] m λr m'=>∃v p,r=[.v v]/\aq m' [p,m]/\V6 p v []:=by
 obtain⟨ti,t1,t2⟩:∃ti,tt.get 202=some ti/\ti.k= .slice 435:=⟨_,rfl,rfl⟩;obtain⟨ei,g1,g2,g3,g4⟩:∃ti,tt.get 435=some ti/\ti.size=2/\ti.bytes=16/\LB.cz ti.zero=R0 (0,0):=⟨_,rfl,rfl,rfl,rfl⟩;refine ap Tryz.func378 ?_;refine⟨λh=>absurd h (by(simp;try omega)),λ_=>?_⟩;refine .mk _ (sR eR (by rfl) rfl) ?_;rintro _ _⟨rfl,rfl⟩;conv=>whnf
 have e:IntKind.i64.wrap ((n:Int)-IntKind.i64.wrap (((0:Nat):Int)-((0:Nat):Int)))=(n:Int):=by rw[wi (n:=((0:Nat):Int)-((0:Nat):Int)) (by omega) (by omega),wi];omega
 rw[e];apply bI<;>intro h
 ·have h':=ah h
  refine .mk _ (sR eR (by rfl) rfl) ?_;rintro _ _⟨rfl,rfl⟩
  repeat refine xS ?_
  refine .mk _ (aaK (n:=0) (c:=0) (a:=none) (l:=[]) eR t1 t2 g1 Tf rfl (by rw[g2];decide) rfl (.inl ⟨0,rfl,by simp⟩) (by omega) (by omega) (by rw[g3];omega) (by omega)) ?_;rintro _ _⟨b,C,hb,hC,rfl,rfl⟩
  repeat refine xS ?_
  intro o' h1 h2;obtain rfl:o'=0:=by have:=h1 (by omega);simpa using this
  refine⟨_,blk1 b _,rfl,(aq.one m).new hb _,.inr ⟨b,0,C,0,_,rfl,aG ..,rfl,lF _,?_,by intro j u hu;simp at hu,by simp⟩⟩;simp only[oQ,kr,dM,cW,g4];have hz:(R0 (0,0)).length=2:=rfl;rw[hz];omega
 ·have h':=aj h
  exact⟨_,iI,rfl,(aq.one m).cA,Gw.nil _⟩
structure SY(m:aD)(v:Value)(ps:List (Value×List Pt)):Prop where
 eF:gq m 1 v (ps.map (·.1))
 la:∀p∈ps,Pta m p.1 p.2
variable{ps:List (Value×List Pt)}
theorem SY.shape(h:SY m v ps):∃a c,v= .slice a ps.length c:=by
 rcases h.eF with⟨c,rfl,e⟩|⟨b,o,c,n,arr,t,fr,rfl,_,e,_⟩
 ·simp_all
 grind
theorem SY.real(h:SY m v ps)(hi:i<ps.length):∃b o c,v= .slice (some ⟨b,o,none⟩) ps.length c/\∀(i:Nat) (hi:i<ps.length),gR m b (o+i)=some ps[i].1:=by
 rcases h.eF with⟨c,rfl,e⟩|⟨b,o,c,n,arr,t,fr,rfl,g1,e,_,g2,_⟩
 ·simp_all
 ·have:ps.length=n:=by simpa using e
  exact⟨b,o,c,by rw[this],λj hj=>aF g1 (g2 j _ (by simp[hj]))⟩
def l9(ps:List (Value×List Pt)):List Pt:=(ps.map (·.2)).flatten
theorem wL(h:i<ps.length):l9 (ps.take i)++ps[i].2=l9 (ps.take (i+1)):=by
 rw[au h,l9,l9,bD,gk];simp
theorem Sw(i:Nat):(l9 (ps.take i)).length<=(l9 ps).length:=by
 have e:l9 ps=l9 (ps.take i)++l9 (ps.drop i):=by
  rw[l9,l9,l9,<-gk,<-bD,dL]
 grind
theorem J1(h:SY m v ps)(hb:(l9 ps).length<=1000000)(hn:ps.length<=1000000):
  bi tP 332 [.v v] m λr m'=>∃v' p,r=[.v v']/\aq m' [p,m]/\V6 p v' (l9 ps):=by
 obtain⟨a,c,rfl⟩:=h.shape;refine ap Tryz.func332 ?_;refine .mk (ι:=Nat) (λi=>ps.length-i) (λi mm=>i<=ps.length/\mm=m) (λi=>[(0,.c (.v (.slice a ps.length c))),(3,.c (i64 (l9 (ps.take i)).length)),(9,.c (.v (.slice a ps.length c))),(10,.c (i64 ps.length)),(11,.c (i64 i))]) (λ_=>[]) 0 ⟨by omega,rfl⟩ ?_ ?_
 ·exact Cr
 rintro i mm⟨hi,he⟩;subst mm;apply bI<;>intro h1
 ·have jc:=ah h1
  have bH:i<ps.length:=by omega
  obtain⟨b,o,c',e,nT⟩:=h.real bH;cases e;have AG:=h.la ps[i] (by simp);obtain⟨ai,ci,hvi⟩:=AG.shape;have hc:=nT i bH;rw[hvi]at hc;have hle:=Sw (ps:=ps) (i+1);rw[<-wL bH,ax]at hle
  repeat refine xS ?_
  refine⟨_,hc,rfl,?_⟩;conv=>whnf
  have e3:IntKind.i64.wrap (((l9 (ps.take i)).length:Int)+(ps[i].2.length:Int))=((l9 (ps.take (i+1))).length:Int):=by
   rw[<-wL bH,ax,wi];omega
  rw[e3];refine⟨λh=>absurd h (by(simp;try omega)),λ_=>?_⟩;refine⟨i+1,⟨by omega,rfl⟩,by omega,?_⟩;exact Cr
 ·have jc:=aj h1
  obtain rfl:i=ps.length:=by omega
  rw[aJ];refine aP (Rs (n:=(l9 ps).length) (by omega)) ?_;rintro _ m2⟨v2,p2,rfl,bZ,lD⟩;refine .mk (ι:=Nat×Value) (λi=>ps.length-i.1) (λ⟨i,x⟩ mm=>i<=ps.length/\∃p,aq mm [p,m]/\V6 p x (l9 (ps.take i))) (λ⟨i,x⟩=>[(6,.c (.v x)),(25,.c (.v (.slice a ps.length c))),(26,.c (i64 ps.length)),(27,.c (i64 i))]) (λ_=>[]) (0,v2) ⟨by omega,p2,bZ,by simpa [l9]using lD⟩ ?_ ?_
  ·exact Cr
  rintro⟨i,x⟩ mm ⟨hi,p,hs,hx⟩;apply bI<;>intro h2
  ·have iD:=ah h2
   have bH:i<ps.length:=by omega
   obtain⟨b,o,c',e,nT⟩:=h.real bH;cases e;have AG:=h.la ps[i] (by simp);have hle:=Sw (ps:=ps) (i+1);rw[<-wL bH,ax]at hle;have hc:gR mm b (o+i)=some ps[i].1:=nH (nT i bH) (hs.at (i:=1) rfl)
   repeat refine xS ?_
   refine⟨_,hc,AG.one,?_⟩;refine .mk _ (amn (t:=Yb) (i:=0) hs rfl hx (AG.sub (hs.at (i:=1) rfl)) (by omega)) ?_;rintro _ m3⟨v3,p3,rfl,dy,tX⟩;refine⟨(i+1,v3),⟨by omega,p3,dy,?_⟩,by simp only;omega,?_⟩
   ·rw[wL bH]at tX;exact tX
   ·exact Cr
  ·have iD:=aj h2
   obtain rfl:i=ps.length:=by omega
   rw[aJ]at hx;exact⟨x,p,rfl,hs,hx⟩
theorem SY.Je{n:Nat}{t:TypeId}{fr:Nat×Nat}(h:m b=some (.cells (ps.map (·.1)).toArray t fr))(hn:ps.length=n)(hl:∀p∈ps,Pta m p.1 p.2):SY m (.slice (some ⟨b,0,none⟩) n n) ps:=by
 refine⟨.inr ⟨b,0,n,n,_,_,_,rfl,h,by simp[hn],aW _,λj u hu=>by simpa using hu,λu hu=>?_⟩,λp hp=>hl p hp⟩;obtain⟨p,hp,rfl⟩:=aV.1 hu;exact(hl p hp).one
theorem aam{x y:Value}:bF tP (.buildSlice 476 2 [0,1]) [.v x,.v y] m λr m'=>∃b,m b=none/\r=[.v (.slice (some ⟨b,0,none⟩) 2 2)]/\m'=m.set b (.cells #[x,y] 202):=by
 obtain⟨ti,t1,t2⟩:∃ti,tt.get 202=some ti/\ti.k= .slice 435:=⟨_,rfl,rfl⟩;exact dm (n:=2) eR (show tt.get 476=some ⟨.slice 202,1,24,[.one (.slice none 0 0)],false⟩ by rfl) rfl (show tt.get 202=some ⟨.slice 435,1,24,[.one (.slice none 0 0)],false⟩ by rfl) rfl rfl (by simp[CV.cs]) (by simp) (by simp)
theorem oD{l:List Int}(hv:Ia m v l)(hl:l.length<=100000000):eN tP 172 [.v v,i64 x] m [bR (l.contains x)]:=by
 obtain⟨a,c,rfl⟩:=hv.shape
 have key:eN tP 256 [.v (.slice a l.length c),i64 x] m [i64 (QX (λy=>x==y) l)]:=by
  refine ap Tryz.func256 ?_;refine .mk (ι:=Nat) (λi=>l.length-i) (λi mm=>i<=l.length/\(∀y∈l.take i,(x==y)=false)/\mm=m) (λi=>[(0,.c (.v (.slice a l.length c))),(1,.c (i64 x)),(7,.c (i64 l.length)),(8,.c (i64 i))]) (λ_=>[]) 0 ⟨by omega,by simp,rfl⟩ ?_ ?_
  ·exact Cr
  rintro i mm⟨hi,cM,he⟩;subst mm;apply bI<;>intro h
  ·have h':=ah h
   have bH:i<l.length:=by omega
   obtain⟨bl,ol,c',hh,hg⟩:=hv.real bH;injection hh with eK _ fN;subst eK;have hg:=hg i bH;have dI:l.take (i+1)=l.take i++[l[i]]:=au bH
   repeat refine xS ?_
   refine⟨_,hg,rfl,?_⟩;apply bI<;>intro h2
   ·exact⟨by rw[WY bH cM h2],rfl⟩
   ·refine⟨i+1,⟨by omega,λy hy=>?_,rfl⟩,by omega,?_⟩
    ·rw[dI]at hy
     rcases aR.1 hy with hy|hy
     ·exact cM y hy
     ·rw[aL.1 hy];exact h2
    ·exact Cr
  ·have h':=aj h
   obtain rfl:i=l.length:=by omega
   rw[aJ]at cM;exact⟨by rw[LN cM],rfl⟩
 refine ap Tryz.func172 ?_;refine bt (key) ?_;conv=>whnf
 rw[List.contains_eq_any_beq,<-EI];exact rR
def CO(p:aD)(b:Nat)(c:Rc):Prop:=∃lv q,aq p [blk1 b (eO c 1 0 0 lv),q]/\V6 q lv (ja c)
def jY(p:aD)(b:Nat)(c:Rc):Prop:=aq p [blk1 b (eO c 0 0 0 (.slice none 0 0))]\/CO p b c
theorem jY.cases(hs:aq mm [p,m])(hr:jY p b c):aq mm [blk1 b (eO c 0 0 0 (.slice none 0 0)),m]\/∃lv q,aq mm [blk1 b (eO c 1 0 0 lv),q,m]/\V6 q lv (ja c):=by
 rcases hr with h|⟨lv,q,h,hq⟩
 ·exact .inl (hs.tQ h)
 ·exact .inr ⟨lv,q,hs.tQ h,hq⟩
theorem jY.laid{q:aD}{l:List aD}(hs:aq mm (blk1 b (eO c 1 0 0 lv)::q::l))(hq:V6 q lv (ja c)):∃p,aq mm (p::l)/\CO p b c:=by
 refine⟨_,hs.jo,lv,q,?_,hq⟩;exact aq.abk (aq.one _) hs.dj
theorem PY(hS:cK m)(hc:c.ok=true)(hs:aq mm [p,m])(hr:jY p b c):
  bi tP 329 [cx b] mm λr m'=>∃lv q,r=[.v lv]/\aq m' [blk1 b (eO c 1 0 0 lv),q,m]/\V6 q lv (ja c):=by
 rcases hr.cases hs with bM|⟨lv,q,bM,hq⟩
 ·have hb:=bM.get (a:=blk1 b (eO c 0 0 0 (.slice none 0 0))) (by simp) (aG ..)
  have bZ:=bM.set (b:=b) (aG ..) (eO c 0 1 0 (.slice none 0 0));rw[cJ]at bZ;refine ap Tryz.func329 ?_;refine xN ?_;refine .mk _ (df (cs:=[.pointer (some ⟨b,0,none⟩)]) (by simp[Value.oneCell'])) ?_;rintro _ _⟨rfl,rfl⟩;refine aP (agA (R:=λm' lv=>∃q,aq m' [blk1 b (eO c 0 1 0 lv),q,m]/\V6 q lv (ja c)) hb ((ac3 hS hc bZ).mono λr m' ⟨h1,lv,q,h2,h3⟩=>⟨h1,lv,h2.get (a:=blk1 b (eO c 0 1 0 lv)) (by simp) (aG ..),q,h2,h3⟩)) ?_;rintro _ m'⟨rfl,m1,lv,⟨q,h2,h3⟩,h4,rfl⟩;have eD:=h2.set (b:=b) (aG ..) (eO c 1 0 0 lv);rw[cJ]at eD;refine⟨_,aF (eD.get (a:=blk1 b (eO c 1 0 0 lv)) (by simp) (aG ..)) rfl,h3.el.ea.one,?_⟩;exact⟨lv,q,rfl,eD,h3⟩
 ·have hb:=bM.get (a:=blk1 b (eO c 1 0 0 lv)) (by simp) (aG ..)
  refine ap Tryz.func329 ?_;refine xN ?_;refine .mk _ (df (cs:=[.pointer (some ⟨b,0,none⟩)]) (by simp[Value.oneCell'])) ?_;rintro _ _⟨rfl,rfl⟩;refine bt (WB hb) ?_;refine⟨_,aF hb rfl,hq.el.ea.one,?_⟩;exact⟨lv,q,rfl,bM,hq⟩
def iM(n:Int):List Int->List Int->List Int
 |dE,[]=>dE
 |dE,x::l=>iM n (if decide ((dE.length:Int)<n)&& !dE.contains x then dE++[x]else dE) l
def x7(n:Int)(dE:List Int)(x:Int):List Int:=if decide ((dE.length:Int)<n)&& !dE.contains x then dE++[x]else dE
theorem G1(n:Int):∀(l dE:List Int) (x:Int),iM n dE (l++[x])=x7 n (iM n dE l) x
 |[],dE,x=>rfl
 |y::l,dE,x=>G1 n l _ x
theorem Dn(n:Int):∀(l dE:List Int),(iM n dE l).length<=dE.length+l.length
 |[],dE=>aW _
 |y::l,dE=>by
  have h:=Dn n l (x7 n dE y)
  have h2:(x7 n dE y).length<=dE.length+1:=by
   unfold x7
   split<;>simp
  show(iM n (x7 n dE y) l).length<=_
  simp only[ae];omega
def sB(c:Rc)(part:Int):List Int:=
 if part<0\/7<part then[]else
  let i:=(max (sH (λp=>decide (part*2305843009213693952<=p.1)) (ja c)) 0).toNat
  iM c.xm [] (((ja c).drop i++(ja c).take i).map (·.2))
theorem PW(hc:c.ok=true):0<(ja c).length/\(ja c).length<=128:=by
 obtain⟨⟨n1,n2⟩,⟨v1,v2⟩,_⟩:=Rc.lj.1 hc;rw[acd];exact⟨Nat.mul_pos (by omega) (by omega),Nat.mul_le_mul (show c.jv.toNat<=8 by omega) (show c.AO.toNat<=16 by omega)⟩
variable{part:Int}
theorem Zh(h:part<0\/7<part):sB c part=[]:=by unfold sB;rw[aC h]
theorem Qw{mm:aD}{b:Nat}{c:Rc}{part:Int}{Q:aD->Prop}(hc:c.ok=true)(hp: -9223372036854775808<=part/\part<=9223372036854775807)(h0:part<0\/7<part->Q mm)
  (auc:∀b5 o,mm b5=none->bi tP 329 [cx b] (mm.set b5 o) λr m'=>∃lv m2,r=[.v lv]/\aq m' [blk1 b5 o,m2]/\m2 b=some (eO c 1 0 0 lv)/\Pta m2 lv (ja c)/\Q m2):
  bi tP 257 [cx b,i64 part] mm λr m'=>∃v q m2,r=[.v v]/\aq m' [q,m2]/\Q m2/\Io q v (sB c part):=by
 refine c7 aDn Tryz.func257 ?_;refine bt (aas hp) ?_;by_cases NX:part<0\/7<part
 ·rw[aC NX]
  intro b5 mo;refine⟨_,_,_,aD.bg ..,⟨by decide,by simp⟩,?_⟩;refine xY ?_;conv=>whnf
  rw[aD.set_set];refine⟨_,iI,mm,rfl,(((aq.one mm).new mo _).drop).cA,h0 NX,?_⟩;rw[Zh NX];exact Io.nil _
 rw[if_neg NX];intro b5 mo;refine⟨_,_,_,aD.bg ..,⟨by decide,by simp⟩,?_⟩;refine xN ?_;conv=>whnf
 rw[aD.set_set];refine aP (auc b5 (.cells #[.int .u64 (part*2305843009213693952)] 47) mo) ?_;rintro _ m2⟨lv,mq,rfl,eP,hmb,hq,hQ⟩;obtain⟨l1,l2⟩:=PW hc;obtain⟨bl,ol,cl,rfl,-⟩:=hq.real l1;refine .mk _ (df (cs:=[.pointer (some ⟨b5,0,none⟩)]) (by simp[Value.oneCell'])) ?_;rintro _ _⟨rfl,rfl⟩;have rO:=(hq.sub (eP.sub (a:=mq))).el l1;refine bt (JE (p:=λx=>decide (part*2305843009213693952<=x.1)) rO.ea (λe _=>UF (eP.get (a:=blk1 b5 _) (by simp) (aG ..))) (by omega)) ?_;conv=>whnf
 obtain⟨i,hi,ei⟩:∃i:Nat,i<(ja c).length/\max (sH (λx=>decide (part*2305843009213693952<=x.1)) (ja c)) 0=i:=by
  rcases lY (λx:Pt=>decide (part*2305843009213693952<=x.1)) (ja c)with⟨e,_⟩|⟨i,hi,e,_⟩
  ·exact⟨0,by omega,by rw[e];rfl⟩
  ·exact⟨i,hi,by rw[e];omega⟩
 rw[ei];have w3:(ja c).length<=cl:=(acU (by decide) rO).resolve_right (by omega);have et:((i:Nat):Int).toNat=i:=aA i
 repeat refine xS ?_
 intro o1 q1 q2;rw[et]at q1;obtain rfl:o1=ol+i*2:=by have:=q1 (by omega);simpa using this
 repeat refine xS ?_
 intro o2 q1 q2;obtain rfl:o2=ol:=by have:=q1 (by omega);simpa using this
 conv=>whnf
 rw[et,aiH,aiH];refine .mk _ (aam) ?_;rintro _ _⟨b6,Xl,rfl,rfl⟩;have EK:Ptl (m2.set b6 (.cells #[.slice (some ⟨bl,o2+i*2,none⟩) ((ja c).length-i) (cl-i),.slice (some ⟨bl,o2,none⟩) i cl] 202)) (.slice (some ⟨bl,o2,none⟩) (ja c).length cl) (ja c):=rO.sub (aD.bT _ Xl);have g1:Ptl _ _ ((ja c).drop i):=Co.post EK (i:=i) (by omega) λ_=>rfl;have g2:Ptl _ _ ((ja c).take i):=Co.pre EK (i:=i) (c':=cl) (by omega) (by omega);have eD:=λo=>eP.grow (aD.bT o Xl);refine aP (J1 (ps:=[(_,(ja c).drop i),(_,(ja c).take i)]) (SY.Je (aD.bg ..) rfl (by simp only[aU,fG,rH];rintro p (rfl|rfl);exact g1.ea;exact g2.ea)) (by simp[l9];omega) (by simp)) ?_;rintro _ m3⟨v,pc,rfl,gC,hpc⟩;have iU:=aq.under (a:=[pc]) gC (eD _);have ec:l9 [((Value.slice (some ⟨bl,o2+i*2,none⟩) ((ja c).length-i) (cl-i)),(ja c).drop i),(Value.slice (some ⟨bl,o2,none⟩) i cl,(ja c).take i)]=(ja c).drop i++(ja c).take i:=by simp[l9]
 rw[ec]at hpc
 have el:sB c part=iM c.xm [] (((ja c).drop i++(ja c).take i).map (·.2)):=by
  unfold sB;rw[if_neg NX];simp only[ei,aA]
 have hlen:((ja c).drop i++(ja c).take i).length<=128:=by simp;omega
 rw[el];generalize (ja c).drop i++(ja c).take i=E at hpc hlen;obtain⟨ac,cc,rfl⟩:=hpc.el.ea.shape;replace iU:=iU.ir [0,2]
 refine .mk (ι:=Nat×Value) (λj=>E.length-j.1) (λ⟨j,y⟩ mm=>j<=E.length/\∃py,aq mm [py,pc,mq]/\Io py y (iM c.xm [] ((E.take j).map (·.2))))
  (λ⟨j,y⟩=>[(0,.c (cx b)),(9,.c (.v y)),(32,.c (.v (.slice ac E.length cc))),(33,.c (i64 E.length)),(34,.c (i64 j))]) (λ_=>[]) (0,.slice none 0 0) ⟨by omega,iI,iU.cA,Io.nil _⟩ ?_ ?_
 ·exact Cr
 rintro⟨j,y⟩ mm ⟨hj,py,k8,hy⟩;apply bI<;>intro h
 ·have h':=ah h
  have bH:j<E.length:=by omega
  have hb:=k8.get (a:=mq) (by simp) hmb;obtain⟨b9,o9,c9,hh,hg⟩:=(hpc.el.ea.sub (k8.sub)).real bH;injection hh with eK _ fN;subst eK;have hg:=hg j bH;have dI:E.take (j+1)=E.take j++[E[j]]:=au bH;have CU:=Dn c.xm ((E.take j).map (·.2)) [];rw[aH,aK,cW]at CU
  have vd:iM c.xm [] ((E.take (j+1)).map (·.2))=x7 c.xm (iM c.xm [] ((E.take j).map (·.2))) E[j].2:=by
   rw[dI,bD];exact G1 ..
  generalize E[j]=x at hg vd;generalize iM c.xm [] ((E.take j).map (·.2))=dE at hy CU vd;obtain⟨ya,yc,rfl⟩:=hy.il.ia.shape
  repeat refine xS ?_
  refine⟨[.one (.int .u64 x.1),.one (.int .i64 x.2)],⟨rfl,rfl,trivial⟩,rfl,by simp only[bK,aA];exact hg,?_⟩;refine xM hb ?_;conv=>whnf
  unfold x7 at vd;apply bI<;>intro h2
  ·rw[h2,bj]at vd
   refine bt (oD ((hy.il.sub (k8.sub)).ia) (by omega)) ?_;apply bI<;>intro h3
   ·rw[h3,aC rfl]at vd
    refine .mk _ (qa) ?_;rintro _ _⟨b7,Te,rfl,rfl⟩;refine .mk _ (Es k8 Te hy (by omega)) ?_;rintro _ m9⟨y',py',rfl,zv,I7⟩;refine⟨(j+1,y'),⟨by omega,py',zv,by rw[vd];exact I7⟩,by simp only;omega,?_⟩;exact Cr
   ·rw[h3,if_neg (by decide)]at vd
    refine⟨(j+1,_),⟨by omega,py,k8,by rw[vd];exact hy⟩,by simp only;omega,?_⟩;exact Cr
  ·rw[h2,fH,if_neg (by decide)]at vd
   refine⟨(j+1,_),⟨by omega,py,k8,by rw[vd];exact hy⟩,by simp only;omega,?_⟩;exact Cr
 ·have h':=aj h
  obtain rfl:j=E.length:=by omega
  conv=>whnf
  rw[aJ]at hy;exact⟨y,py,mq,rfl,k8.ir [0,2],hQ,hy⟩
theorem Lw(hS:cK m)(hc:c.ok=true)(hs:aq mm [p,m])(hr:jY p b c)(hp: -9223372036854775808<=part/\part<=9223372036854775807):
  bi tP 257 [cx b,i64 part] mm λr m'=>∃v p' q,r=[.v v]/\aq m' [p',q,m]/\jY p' b c/\Io q v (sB c part)/\(0<=part/\part<=7->CO p' b c):=by
 refine(Qw (Q:=λm2=>∃p',aq m2 [p',m]/\jY p' b c/\(0<=part/\part<=7->CO p' b c)) hc hp (λ_=>⟨p,hs,hr,by omega⟩) λb5 o mo=>?_).mono ?_
 ·obtain⟨q0,NP,bZ,yC⟩:=((hs.new mo o).ir [1,0,2]).fb
  refine(PY (hS.sub (NP m (by simp))) hc bZ hr).mono λr m' ⟨lv,q,h1,h2,h3⟩=>?_;have h4:aq m' [blk1 b5 o,blk1 b (eO c 1 0 0 lv),q,m]:=(yC _ [_,_] h2).ir [2,0,1,3];obtain⟨q1,mQ,dy,alL⟩:=h4.fb;have h5:aq q1 [blk1 b (eO c 1 0 0 lv),q,m]:=alL q1 [] (aq.one q1);obtain⟨p',h6,h7⟩:=jY.laid h5 h3;exact⟨lv,q1,h1,dy,h5.get (a:=blk1 b (eO c 1 0 0 lv)) (by simp) (aG ..),h3.el.ea.sub (h5.sub),p',h6,.inr h7,λ_=>h7⟩
 ·rintro r m'⟨v,q,m2,rfl,h1,⟨p',h2,h3,h5⟩,h4⟩
  exact⟨v,p',q,rfl,(aq.under (a:=[q]) h1 h2).ir [1,0,2],h3,h4,h5⟩
theorem DE(hc:c.ok=true)(part:Int):(sB c part).length<=128:=by
 obtain⟨_,l2⟩:=PW hc;unfold sB;split
 ·simp
 ·have:=Dn c.xm (((ja c).drop (max (sH (λp=>decide (part*2305843009213693952<=p.1)) (ja c)) 0).toNat++(ja c).take (max (sH (λp=>decide (part*2305843009213693952<=p.1)) (ja c)) 0).toNat).map (·.2)) []
  grind
def l4(c:Rc)(n part:Int):Bool:=(sB c part).contains n
theorem Bf(hS:cK m)(hc:c.ok=true)(hs:aq mm [p,m])(hr:jY p b c)(hp: -9223372036854775808<=part/\part<=9223372036854775807):
  bi tP 198 [cx b,i64 n,i64 part] mm λr m'=>∃p',r=[bR (l4 c n part)]/\aq m' [p',m]/\jY p' b c/\(0<=part/\part<=7->CO p' b c):=by
 refine ap Tryz.func198 ?_;refine aP (Lw hS hc hs hr hp) ?_;rintro _ m1⟨v,p',q,rfl,bM,qn,hq,wz⟩;have:=DE hc part;refine bt (oD (hq.il.sub (bM.sub)).ia (by omega)) ?_;exact⟨p',rfl,bM.ir [0,2],qn,wz⟩
def wW(c:Rc)(k:ByteArray):List Int:=if kZ (jR k)then sB c (qI k)else[]
def sJ(c:Rc)(n:Int)(k:ByteArray):Bool:=(wW c k).contains n
def ko(c:Rc)(k:ByteArray)(n:Int):List Int:=(wW c k).filter λx=>!decide (x=n)
theorem zr(hc:c.ok=true)(k:ByteArray):(wW c k).length<=128:=by
 unfold wW;split
 ·exact DE hc _
 ·simp
section
variable {mm m p:aD}{b:Nat}{c:Rc}
theorem GJ{k:ByteArray}(hS:cK m)(hc:c.ok=true)(hs:aq mm [p,m])(hr:jY p b c)(hk:k.size<=1000000):
  bi tP 173 [cx b,.v (.string k)] mm λr m'=>∃v p' q,r=[.v v]/\aq m' [p',q,m]/\jY p' b c/\Io q v (wW c k):=by
 refine ap Tryz.func173 ?_;refine bt (iB hk) ?_;conv=>whnf
 unfold wW;apply bI<;>intro h
 ·have h':kZ (jR k)=false:=by simpa using h
  rw[h'];exact⟨_,p,iI,rfl,hs.cA.ir [1,0,2],hr,Io.nil _⟩
 ·have h':kZ (jR k)=true:=by simpa using h
  rw[h'];have hp:=K7 k;refine aP (K6 hk) ?_;rintro _ m1⟨rfl,bM⟩;refine aP (Lw hS hc (hs.grow bM) hr (by omega)) ?_;rintro _ m2⟨v,p',q,rfl,bZ,jK,hq,_⟩;exact⟨v,p',q,rfl,bZ,jK,hq⟩
theorem tN{k:ByteArray}{n:Int}(hS:cK m)(hc:c.ok=true)(hs:aq mm [p,m])(hr:jY p b c)(hk:k.size<=1000000):
  bi tP 108 [cx b,i64 n,.v (.string k)] mm λr m'=>∃p',r=[bR (sJ c n k)]/\aq m' [p',m]/\jY p' b c:=by
 refine ap Tryz.func108 ?_;refine aP (GJ hS hc hs hr hk) ?_;rintro _ m1⟨v,p',q,rfl,bM,qn,hq⟩;have:=zr hc k;refine bt (oD (hq.il.sub (bM.sub)).ia (by omega)) ?_;exact⟨p',rfl,bM.ir [0,2],qn⟩
theorem Nc{m:aD}{x n:Int}{b5:Nat}(hb:m b5=some (.cells #[.int .i64 n] 3)):eN tP 183 [i64 x,cx b5] m [bR (decide (x=n))]:=by
 refine ap Tryz.func183 ?_;refine xM hb ?_;exact⟨by rw[<-qO],rfl⟩
theorem P7{k:ByteArray}{n:Int}(hS:cK m)(hc:c.ok=true)(hs:aq mm [p,m])(hr:jY p b c)(hk:k.size<=1000000):
  bi tP 112 [cx b,.v (.string k),i64 n] mm λr m'=>∃v p' q,r=[.v v]/\aq m' [p',q,m]/\jY p' b c/\Io q v (ko c k n):=by
 refine c7 aDH Tryz.func112 ?_;intro b5 mo;obtain⟨q0,NP,bM,yC⟩:=((hs.new mo (.cells #[.int .i64 n] 3)).ir [1,0,2]).fb;refine aP (GJ (hS.sub (NP m (by simp))) hc bM hr hk) ?_;rintro _ m2⟨v,p',q,rfl,bZ,jK,hq⟩;refine .mk _ (df (cs:=[.pointer (some ⟨b5,0,none⟩)]) (by simp[Value.oneCell'])) ?_;rintro _ _⟨rfl,rfl⟩;have dy:aq m2 [p',q,blk1 b5 (.cells #[.int .i64 n] 3),m]:=yC _ [_,_] bZ;obtain⟨q1,mQ,eP,Vh⟩:=(dy.ir [1,0,2,3]).fb;have:=zr hc k;refine aP (Iz (pr:=λx=>decide (x=n)) eP hq.it (λm' hm e _=>Nc (hm _ _ (mQ (blk1 b5 (.cells #[.int .i64 n] 3)) (by simp) _ _ (aG ..)))) (by omega)) ?_;rintro _ m3⟨v',p2,rfl,eD,pY⟩;have gC:aq m3 [p2,p',blk1 b5 (.cells #[.int .i64 n] 3),m]:=Vh _ [_] eD;exact⟨v',p',p2,rfl,gC.ir [1,0,3],jK,pY.io⟩
end
structure fw where
 c:Rc
 w:Bk
 (n:Int)
 s:jf
 (A:List Af)
 (nb:Nat)
 (ns:Nat)
 (B:kf)
 l:List kl
 (bQ:Int)
 (dO:Int)
structure Jg where
 a:Nat
 (br:Nat)
 (bs:Nat)
 (bb:Nat)
 (bf:Nat)
abbrev Sq(c:Rc)(w:Bk):LB:=[.one (.int .i64 c.jv),.one (.int .i64 c.AO),.one (.int .i64 c.xm),.one (.int .i64 w.gM),.one (.int .i64 w.cap),.one (.int .i64 w.dG),.one (.int .i64 w.gI)]
abbrev iq(X:Jg)(N:fw)(lv:Value):Obj:=.cells #[.int .i64 N.c.jv,.int .i64 N.c.AO,.int .i64 N.c.xm,.int .i64 N.w.gM,.int .i64 N.w.cap,.int .i64 N.w.dG,.int .i64 N.w.gI,.int .i64 N.n,.pointer (some ⟨X.br,0,none⟩),.pointer (some ⟨X.bs,0,none⟩),.pointer (some ⟨X.bb,0,none⟩),lv,.int .i64 N.bQ,.int .i64 N.dO] 147
structure J8(p q:aD)(v:Value)(l:List kl)(R:List AM):Prop where
 o:Seo p v R
 (e:R.map (·.1)=l)
 a:∀r∈R,qZ q r.1 r.2
variable{R:List AM}
theorem J8.sub{q:aD}{l:List kl}(h:J8 p q v l R)(hs:cL q q'):J8 p q' v l R:=⟨h.o,h.e,λr hr=>(h.a r hr).sub hs⟩
structure NdP(p q:aD)(X:Jg)(qt:Int)(N:fw)(lv:Value)(pr ps pf pb pl:aD)(R:List AM):Prop where
 sp:aq p [blk1 X.a (iq X N lv),pr,ps,pf,pb,pl]
 r:jY pr X.br N.c
 s:SQ ps q X.bs X.bf N.s
 f:FA pf X.bf qt N.nb N.ns N.A
 b:y5 pb q X.bb N.B
 l:J8 pl q lv N.l R
def y0(p q:aD)(X:Jg)(qt:Int)(N:fw):Prop:=∃lv pr ps pf pb pl R,NdP p q X qt N lv pr ps pf pb pl R
structure nS(mm q:aD)(X:Jg)(qt:Int)(N:fw)(lv:Value)(pr ps pf pb pl:aD)(R:List AM):Prop where
 sp:aq mm [blk1 X.a (iq X N lv),pr,ps,pf,pb,pl,q]
 r:jY pr X.br N.c
 s:SQ ps q X.bs X.bf N.s
 f:FA pf X.bf qt N.nb N.ns N.A
 b:y5 pb q X.bb N.B
 l:J8 pl q lv N.l R
variable {mm p q:aD}{X:Jg}{qt:Int}{N:fw}
theorem y0.sub(h:y0 p q X qt N)(hs:cL q q'):y0 p q' X qt N:=by
 obtain⟨lv,pr,ps,pf,pb,pl,R,h⟩:=h;exact⟨lv,pr,ps,pf,pb,pl,R,h.sp,h.r,h.s.sub hs,h.f,h.b.grow hs,h.l.sub hs⟩
theorem y0.op(h:y0 p q X qt N)(hs:aq mm [p,q]):∃lv pr ps pf pb pl R,nS mm q X qt N lv pr ps pf pb pl R:=by
 obtain⟨lv,pr,ps,pf,pb,pl,R,h⟩:=h;exact⟨lv,pr,ps,pf,pb,pl,R,aq.tQ hs h.sp,h.r,h.s,h.f,h.b,h.l⟩
structure tD(m' q:aD)(X:Jg)(qt:Int)(N:fw):Prop where
 ex:∃p' q',aq m' [p',q']/\cL q q'/\y0 p' q' X qt N
variable{ps pr pb pl:aD}
theorem tD.of(h:nS m' q' X qt N lv pr ps pf pb pl R)(hq:cL q q'):tD m' q X qt N:=by
 obtain⟨h2,h3⟩:=aq.k9 [blk1 X.a (iq X N lv),pr,ps,pf,pb,pl] (l:=[q']) h.sp;exact⟨_,q',h2,hq,lv,pr,ps,pf,pb,pl,R,h3,h.r,h.s,h.f,h.b,h.l⟩
theorem tD.lB{q0:aD}(h:tD m' q X qt N)(hq:cL q0 q):tD m' q0 X qt N:=by
 obtain⟨p',q',h1,h2,h3⟩:=h.ex;exact⟨p',q',h1,hq.trans h2,h3⟩
theorem tD.cR(hs:aq mm [p,q])(h:y0 p q X qt N):tD mm q X qt N:=⟨p,q,hs,cL.refl _,h⟩
section
variable {lv:Value}{pr ps pf pb pl:aD}{R:List AM}
theorem nS.o(h:nS mm q X qt N lv pr ps pf pb pl R):mm X.a=some (iq X N lv):=h.sp.get (a:=blk1 X.a (iq X N lv)) (by simp) (aG ..)
theorem nS.gM(h:nS mm q X qt N lv pr ps pf pb pl R):cL q mm:=h.sp.sub (by simp)
theorem nS.sr(h:nS mm q X qt N lv pr ps pf pb pl R):∃bl lv sv,SR mm X.bs X.bf N.s bl lv sv:=h.s.lU (h.sp.sub) h.gM
theorem nS.up{m' p1:aD}(h:nS mm q X qt N lv pr ps pf pb pl R)(hs:aq m' [p1,mm]):∃q',cL q q'/\cL p1 q'/\nS m' q' X qt N lv pr ps pf pb pl R:=by
 have h1:aq m' [p1,blk1 X.a (iq X N lv),pr,ps,pf,pb,pl,q]:=aq.jN (a:=[p1]) hs h.sp;obtain⟨q',ha,hb,h2⟩:=aq.sK (h1.ir [0,7,1,2,3,4,5,6]);exact⟨q',hb,ha,h2.ir [1,2,3,4,5,6,0],h.r,h.s.sub hb,h.f,h.b.grow hb,h.l.sub hb⟩
theorem nS.grow{m':aD}(h:nS mm q X qt N lv pr ps pf pb pl R)(hs:cL mm m'):nS m' q X qt N lv pr ps pf pb pl R:=⟨h.sp.grow hs,h.r,h.s,h.f,h.b,h.l⟩
end
theorem qk{w:Bk}:eN tP 25 [.a (Sq c w)] m [bR (c.ok&&w.ok)]:=by
 refine ap Tryz.func25 ?_;refine bt (Ek) ?_;apply bI<;>intro h;rotate_left
 ·exact⟨by rw[h];rfl,rfl⟩
 rw[h,bj];refine bt (nP) ?_;exact rR
section
variable {lv:Value}
theorem A7(h:mm X.a=some (iq X N lv)):eN tP 55 [cx X.a] mm [bR true]:=by
 refine ap Tryz.func55 ?_;refine xY ?_;refine xM h ?_;exact rR
theorem yg(h:mm X.a=some (iq X N lv)):eN tP 42 [cx X.a] mm [cx X.bs]:=by
 refine ap Tryz.func42 ?_;refine xN ?_;refine xM h ?_;exact rR
end
def fw.send(N:fw)(x:gX):fw:={N with B:=N.B.send x (N.s.R.length:Nat)}
def fw.nX(N:fw)(x:Rv):fw:={N with B:=N.B.nX x (N.s.R.length:Nat)}
structure IY(x:gX):Prop where
 ok:qx x
 (d:XO x)
 k:(x.ca.map nJ).flatten.length<=9000000
theorem nS.box(h:nS mm q X qt N lv pr ps pf pb pl R):∃j,aq j [pb,q]/\aq mm [j,blk1 X.a (iq X N lv),pr,ps,pf,pl]:=
 aq.ad9 (k:=[pb,q]) (h.sp.ir [4,6,0,1,2,3,5])
theorem nS.aeQ{S4 j:aD}{B:kf}(h:nS mm q X qt N lv pr ps pf pb pl R)(hs:aq m' [j,blk1 X.a (iq X N lv),pr,ps,pf,pl])(h1:aq j [S4,q'])(h2:cL q q')(h3:y5 S4 q' X.bb B):nS m' q' X qt {N with B:=B} lv pr ps pf S4 pl R:=
 ⟨(aq.tQ hs h1).ir [2,3,4,5,0,6,1],h.r,h.s.sub h2,h.f,h3,h.l.sub h2⟩
structure NdB(m' q:aD)(X:Jg)(qt:Int)(N:fw)(lv:Value)(pr ps pf pl:aD)(R:List AM):Prop where
 ex:∃S4 q',cL q q'/\nS m' q' X qt N lv pr ps pf S4 pl R
theorem NdB.l(h:NdB m' q X qt N lv pr ps pf pl R):tD m' q X qt N:=by
 obtain⟨S4,q',h1,h2⟩:=h.ex;exact .of h2 h1
section
variable {lv:Value}{pr ps pf pb pl:aD}{R:List AM}
theorem Ew{x:gX}{s:iS}(hS:cK q)(hn:nS mm q X qt N lv pr ps pf pb pl R)(hx:gy q x s)(ho:IY x)(hl:N.B.dE.length<500):
  bi tP 114 [cx X.a,mT x s] mm λr m'=>r=[]/\NdB m' q X qt (N.send x) lv pr ps pf pl R:=by
 obtain⟨bl,lv2,sv,AF⟩:=hn.sr;obtain⟨j,hj,bM⟩:=hn.box;refine c7 awS Tryz.func114 ?_;refine xM hn.o ?_;refine xM hn.o ?_;refine fU (KM AF) ?_;refine aP (bi.frame bM (Un hS hj hn.b hx ho.ok ho.d ho.k hl (by omega))) ?_;rintro _ m2⟨j',⟨S4,q',rfl,h1,h2,h3⟩,bZ⟩;exact⟨rfl,⟨S4,q',h2,hn.aeQ bZ h1 h2 h3⟩⟩
theorem Hd{x:gX}{s:iS}(hS:cK q)(hs:aq mm [p,q])(h:y0 p q X qt N)(hx:gy q x s)(ho:IY x)(hl:N.B.dE.length<500):
  bi tP 114 [cx X.a,mT x s] mm λr m'=>r=[]/\tD m' q X qt (N.send x):=by
 obtain⟨lv,pr,ps,pf,pb,pl,R,hn⟩:=h.op hs;exact(Ew hS hn hx ho hl).mono λr m' ⟨h1,h2⟩=>⟨h1,h2.l⟩
theorem Qh{x:Rv}{s:CN}(hn:nS mm q X qt N lv pr ps pf pb pl R)(hx:Ia q (.slice s.1 x.l.length s.2) x.l)(zu:x.l.length<=100000)(hl:N.B.o7.length<=1000)(he:x.err=0):
  bi tP 111 [cx X.a,i64 x.id,.v (.slice s.1 x.l.length s.2)] mm λr m'=>r=[]/\NdB m' q X qt (N.nX x) lv pr ps pf pl R:=by
 obtain⟨bl,lv2,sv,AF⟩:=hn.sr;obtain⟨j,hj,bM⟩:=hn.box;refine c7 aDI Tryz.func111 ?_;refine xM hn.o ?_;refine xM hn.o ?_;refine fU (KM AF) ?_;obtain⟨xi,xe,xl⟩:=x;simp only at he hx zu;subst he;refine aP (bi.frame bM (Um (x:=⟨xi,0,xl⟩) (s:=s) hj hn.b hx zu hl (by omega))) ?_;rintro _ m2⟨j',⟨S4,q',rfl,h1,h2,h3⟩,bZ⟩;exact⟨rfl,⟨S4,q',h2,hn.aeQ bZ h1 h2 h3⟩⟩
theorem Hc{x:Rv}{s:CN}(hs:aq mm [p,q])(h:y0 p q X qt N)(hx:Ia q (.slice s.1 x.l.length s.2) x.l)(zu:x.l.length<=100000)(hl:N.B.o7.length<=1000)(he:x.err=0):
  bi tP 111 [cx X.a,i64 x.id,.v (.slice s.1 x.l.length s.2)] mm λr m'=>r=[]/\tD m' q X qt (N.nX x):=by
 obtain⟨lv,pr,ps,pf,pb,pl,R,hn⟩:=h.op hs;exact(Qh hn hx zu hl he).mono λr m' ⟨h1,h2⟩=>⟨h1,h2.l⟩
end
structure pO(qt:Int)(j k:Nat)(N:fw):Prop where
 fi:FI qt N.A N.s
 (qr:0<=qt/\qt<=9223372036854775807)
 rl:N.s.P.length+N.s.R.length<=j
 al:∀a∈N.A,a.l.length<=6700*j
 an:N.A.length+(if N.s.R=[]then 1 else 0)<=k
 nb:N.nb<=10000000*(j+k)
 (ns:N.ns<=k)
 nm:Eg N.A
 (g:N.s.g+1<=k)
variable {mm p q:aD}{X:Jg}{qt:Int}{N:fw}{j k:Nat}
theorem pO.sm(h:pO qt j k N)(hj:j<=1300)(hk:k<=500):Sm 1000 N.A N.nb N.ns:=by
 have h1:=h.an;have h2:=h.nb;have h3:=h.ns;have hle:10000000*(j+k)<=10000000*1800:=iV _ (by omega);exact⟨λa ha=>by have:=h.al a ha;have:6700*j<=6700*1300:=iV _ hj;omega,by omega,by omega,by omega,by omega⟩
theorem pO.ll(h:pO qt j k N):N.s.L.length<=j:=bq (abN _) h.rl
theorem pO.gl(h:pO qt j k N):∀x∈N.s.L,ki x:=h.fi.gl
theorem pO.up{j' k':Nat}(h:pO qt j k N)(hj:j<=j')(hk:k<=k'):pO qt j' k' N:=
 ⟨h.fi,h.qr,bq h.rl hj,λa ha=>bq (h.al a ha) (iV _ hj),bq h.an hk,bq h.nb (iV _ (by omega)),bq h.ns hk,h.nm,bq h.g hk⟩
theorem acD{n:ByteArray}{l:List Nat}(hn:n.size<=1000000)(h:Eg A):Eg (kL A n l):=by
 induction A with
 |nil=>intro a ha;simp[kL]at ha;rw[ha];exact hn
 |cons x A ih=>
  have hx:=h x (by simp);have ih:=ih λa ha=>h a (by simp[ha]);unfold kL;split
  ·intro a ha
   rcases aU.1 ha with rfl|ha
   ·exact hx
   ·exact h a (by simp[ha])
  ·intro a ha
   rcases aU.1 ha with rfl|ha
   ·exact hx
   ·exact ih a ha
theorem afb{n:ByteArray}{l:List Nat}(h:bS A n≠none):(kL A n l).length=A.length:=by
 induction A with
 |nil=>exact absurd rfl h
 |cons x A ih=>
  unfold kL;split
  ·simp
  ·rename_i ga
   rw[ae,ae,ih];rw[bS,List.find?_cons_of_neg (by simpa [eq_comm]using ga)]at h;exact h
def fw.put(N:fw)(x:Kd):fw:={N with s:=N.s.put x,A:=kL N.A (gK N.s.g) (z6 (Fr.wr (nJ x))),nb:=N.nb+(Fr.wr (nJ x)).length}
theorem KX{x:Kd}(h:rq qt A s x=0):sW s x.1 x.2=0/\¬H7 qt A x:=by
 unfold rq at h
 grind
theorem pO.put(h:pO qt j k N){x:Kd}(hu:yZ x.2.1)(he:rq qt N.A N.s x=0):pO qt (j+1) k (N.put x):=by
 obtain⟨h1,h2⟩:=KX he;obtain⟨k1,k2,k3⟩:=Ef h1;have hx:ki x:=⟨k1,hu,k2⟩;have Xd:=hx.len;have hwl:=C3 (l:=nJ x) (by omega);obtain⟨t1,t2,t3⟩:=F0 (gK N.s.g) (z6 (Fr.wr (nJ x))) N.A;rw[vL]at t3;have hrl:=h.rl;have hnb:=h.nb;have han:=h.an;refine⟨h.fi.put k3 hx h2,h.qr,?_,λa ha=>bq (t3 _ h.al a ha) (by omega),?_,?_,h.ns,acD (by rw[SB];omega) h.nm,h.g⟩
 ·show N.s.P.length+(N.s.R++[x]).length<=j+1
  grind
 ·show(kL N.A (gK N.s.g) (z6 (Fr.wr (nJ x)))).length+(if N.s.R++[x]=[]then 1 else 0)<=k
  rw[if_neg (by simp)];by_cases hR:N.s.R=[]
  ·grind
  ·rcases h.fi.lg with⟨_,e⟩|⟨sf,e,_⟩
   ·grind
   ·rw[afb (by rw[e];simp)];omega
 ·show N.nb+(Fr.wr (nJ x)).length<=_
  omega
section
variable {lv:Value}{pr ps pf pb pl:aD}{R:List AM}
theorem nS.sto(h:nS mm q X qt N lv pr ps pf pb pl R):∃j,aq j [ps,pf,q]/\aq mm [j,blk1 X.a (iq X N lv),pr,pb,pl]:=
 aq.ad9 (k:=[ps,pf,q]) (h.sp.ir [2,3,6,0,1,4,5])
theorem nS.ME{m' j':aD}{A:List Af}{nb ns:Nat}{s:jf}(h:nS mm q X qt N lv pr ps pf pb pl R)(hs:aq m' [j',blk1 X.a (iq X N lv),pr,pb,pl])(hL:oJ j' q X.bs X.bf qt nb ns A s):tD m' q X qt {N with s:=s,A:=A,nb:=nb,ns:=ns}:=by
 obtain⟨p2,Va,q2,h1,h2,h3,h4⟩:=hL.ex;have h5:=aq.tQ hs h1;have h6:nS m' q2 X qt {N with s:=s,A:=A,nb:=nb,ns:=ns} lv pr p2 Va pb pl R:=⟨h5.ir [3,4,0,1,5,6,2],h.r,h3,h4,h.b.grow h2,h.l.sub h2⟩;exact .of h6 h2
end
end Go.E.Y
namespace Go.E
open Go.Proofs
end Go.E
namespace Go.E.Y
open Go.Proofs
variable{m:aD}{bf:Nat}
theorem aiJ.toQ{m':aD}{bs nb ns:Nat}{q:Int}{A:List Af}{s:jf}(h:aiJ m' m bs bf q nb ns A s):oJ m' m bs bf q nb ns A s:=by
 obtain⟨p,pf,h1,h2,h3⟩:=h.ex;obtain⟨bl,lv,sv,ps,g,h4,h5,h6⟩:=h2;have h7:aq m' [blk1 bs (cP bf s.g lv bl sv),blk1 bl (eU bf (gK s.g) s.R.length s.cY),ps,g,pf,m]:=aq.tQ h1 h4;obtain⟨q1,ha,hb,h8⟩:=aq.sK (h7.ir [3,5,0,1,2,4]);exact sD (h8.ir [1,2,3,4,0]) hb (h5.sub ha) h6 h3
open Go.Proofs Go.Shelf Go.Sort Go.Lib
open Go.Proofs Go.Shelf Go.Sort Go.Lib
section
variable {m:aD}{v w:Value}{L C:List Kd}
end
section
variable {m:aD}{v:Value}{L:List Kd}{part:Int}
end
section
variable {m:aD}{v:Value}{L:List Kd}{y:gX}{t:iS}
def iL(a b:Int)(x:Kd):gX:=⟨7,a,b,0,0,fX,[],[],[x]⟩
theorem YT{a b:Int}{x:Kd}{ad:Option Addr}{c:Nat}(hS:cK m)(hv:Na m (.slice ad x.2.2.length c) x.2.2)(hx:jg x)(hk:x.1.size<=1000000):
  bi tP 113 [i64 a,i64 b,kyV x ad c] m λr m'=>∃s',r=[mT (if dR (iL a b x)then iL a b x else fP) s',i64 (if dR (iL a b x)then 0 else 3)]/\cL m m'/\gy m' (if dR (iL a b x)then iL a b x else fP) s':=by
 obtain⟨k,u,E⟩:=x;have hn:E.length<=1000:=hx.n;refine ap Tryz.func113 ?_;refine .mk _ (FX (k:=k) (u:=u) (s:=(ad,E.length,c)) hx.u.1) ?_;rintro _ _⟨b5,mo,rfl,rfl⟩;have B8:=aD.bT (.cells (fj (k,u,(ad,E.length,c))).toArray 177) mo;have hky:lu (m.set b5 (.cells (fj (k,u,(ad,E.length,c))).toArray 177)) (.slice (some ⟨b5,0,none⟩) 1 1) [(k,u,E)]:=⟨[(k,u,(ad,E.length,c))],(Ko.blk1 (aD.bg ..)).el.ea,dC.one ⟨rfl,rfl,hx.u.1,hv.sub B8⟩⟩;have nT:gy (m.set b5 (.cells (fj (k,u,(ad,E.length,c))).toArray 177)) (iL a b (k,u,E)) ⟨(none,0),(none,0),(some ⟨b5,0,none⟩,1)⟩:=⟨rfl,(Io.nil _).il.ia,(I0.nil _).dl.da,hky⟩;refine bt (nG (x:=iL a b (k,u,E)) (s:=⟨(none,0),(none,0),(some ⟨b5,0,none⟩,1)⟩) (hS.sub B8) nT ⟨by simpa [iL]using hx,by simpa [iL]using hk,by simpa [iL]using hn,by simp[iL],by simp[iL],by simp[iL]⟩) ?_;by_cases h:dR (iL a b (k,u,E))=true
 ·rw[h]
  refine xN ?_;exact⟨_,rfl,B8,nT⟩
 ·have h:dR (iL a b (k,u,E))=false:=by simpa using h
  rw[h];refine xY ?_;exact⟨⟨(none,0),(none,0),(none,0)⟩,rfl,B8,Hf _⟩
end
theorem aCY:aDV tyN (λb:Nat=>#[.pointer (some ⟨b,0,none⟩)]) (λb=>[cx b]) 260 333:={}
theorem uB{mm p:aD}{v:Value}{E:List En}{F b:Nat}{pr:En->Bool}(hs:aq mm [p,m])(hv:No p v E)(hF:∀m',cL m m'->∀e∈E,eN tP F [Nv e,cx b] m' [bR (pr e)])(hl:E.length<=10000000):
  bi tP 260 [.v v,l5 F b] mm λr m'=>∃v' p',r=[.v v']/\aq m' [p',m]/\No p' v' (E.filter λe=>!pr e):=aCY.dl ayJ (x:=b) hs hv hF hl
abbrev XM:=Int×Int×Int
def yG(o:XM)(e:En):Bool:=decide (o.1=4)||(!decide (o.1=1)&&decide (e.1=o.2.1))
def nj(o:XM)(E:List En):List En:=E.filter λe=>!yG o e
def Jy(o:XM)(E:List En):List Dt:=AD (E.filter (yG o))
def E3(o:XM):Bool:=decide (o.1=1)||decide (o.1=2)
def xc(u:List Int)(n:Int):Int×Int:=if tk u n=18446744073709551615 then(0,13)else(tk u n+1,0)
def wa:Ev:=((0,0,0),(0,0),[])
def Jc(c:Ct)(n:Int)(o:XM):Ct×Ev×Int:=
 if E3 o=false then(if Jy o c.2=[]then((fx,[]),wa,4)else((c.1,nj o c.2),((o.1,0,0),(0,0),Jy o c.2),0))
 else if (xc c.1 n).2≠0 then((fx,[]),wa,13)
 else if 40<=(nj o c.2).length then((fx,[]),wa,5)
 else((wR c.1 n (xc c.1 n).1,nY (nj o c.2++[(o.2.1,n,(xc c.1 n).1,o.2.2)])),(o,(n,(xc c.1 n).1),Jy o c.2),0)
abbrev evL(e:Ev)(a:Option Addr)(c:Nat):LB:=[.one (.int .i64 e.1.1),.one (.int .i64 e.1.2.1),.one (.int .i64 e.1.2.2),.one (.int .i64 e.2.1.1),.one (.int .u64 e.2.1.2),.one (.slice a e.2.2.length c)]
section
variable {m:aD}
abbrev akB(o:XM):CV:=.a [.one (.int .i64 o.1),.one (.int .i64 o.2.1),.one (.int .i64 o.2.2)]
abbrev Jw(o:XM):Obj:=.cells (LB.cz [.one (.int .i64 o.1),.one (.int .i64 o.2.1),.one (.int .i64 o.2.2)]).toArray 58
theorem L0{o:XM}{e:En}:eN tP 262 [akB o,Nv e] m [bR (yG o e)]:=by
 refine ap Tryz.func262 ?_;conv=>whnf
 unfold yG;rw[qO];apply bI<;>intro h
 ·exact⟨by rw[h];rfl,rfl⟩
 rw[h,nW];apply bI<;>intro h
 ·have h':¬o.1=1:=by simpa using h
  exact⟨by rw[aY h',qO];rfl,rfl⟩
 ·have h':o.1=1:=by simpa using h
  exact⟨by rw[bB h'];rfl,rfl⟩
theorem Pz{o:XM}{e:En}{b:Nat}(hb:m b=some (Jw o)):eN tP 261 [Nv e,cx b] m [bR (yG o e)]:=by
 refine ap Tryz.func261 ?_;refine⟨[.one (.int .i64 o.1),.one (.int .i64 o.2.1),.one (.int .i64 o.2.2)],⟨rfl,rfl,rfl,trivial⟩,rfl,dQ.Wl [] [] hb rfl,?_⟩;refine bt (L0) ?_;exact rR
theorem Py{o:XM}{e:En}{b:Nat}(hb:m b=some (Jw o)):eN tP 263 [Nv e,cx b] m [bR (!yG o e)]:=by
 refine ap Tryz.func263 ?_;refine⟨[.one (.int .i64 o.1),.one (.int .i64 o.2.1),.one (.int .i64 o.2.2)],⟨rfl,rfl,rfl,trivial⟩,rfl,dQ.Wl [] [] hb rfl,?_⟩;refine bt (L0) ?_;exact rR
theorem RU{o:XM}{u:List Int}{a:Option Addr}{c:Nat}{E:List En}(hS:cK m)(hv:Na m (.slice a E.length c) E)(hl:E.length<=1000000):
  bi tP 175 [iY u a E.length c,akB o] m λr m'=>∃v1 v2 p q,r=[.v v1,.v v2]/\aq m' [p,q,m]/\No p v1 (nj o E)/\Do q v2 (Jy o E):=by
 refine c7 aDz Tryz.func175 ?_;intro b hb;have MS:=(aq.one m).new hb (Jw o);have hb0:(m.set b (Jw o)) b=some (Jw o):=aD.bg ..;refine aP (l7 (hv.sub (aD.bT _ hb)) (by omega)) ?_;rintro _ m1⟨v1,p1,rfl,bM,xf⟩;refine .mk _ (df (cs:=[.pointer (some ⟨b,0,none⟩)]) (by simp[Value.oneCell'])) ?_;rintro _ _⟨rfl,rfl⟩;have aAs:=bM;refine aP (uB (pr:=yG o) bM xf (λm' hm e _=>Pz (hm _ _ hb0)) (by omega)) ?_;rintro _ m2⟨v2,p2,rfl,bZ,lE⟩;have dy:aq m2 [p2,blk1 b (Jw o),m]:=aq.jN (a:=[p2]) bZ MS;have oM:m2 b=some (Jw o):=dy.get (a:=blk1 b (Jw o)) (by simp) (aG ..);refine aP (l7 (hv.sub (dy.sub)) (by omega)) ?_;rintro _ m4⟨v3,p3,rfl,eP,UZ⟩;refine .mk _ (df (cs:=[.pointer (some ⟨b,0,none⟩)]) (by simp[Value.oneCell'])) ?_;rintro _ _⟨rfl,rfl⟩;refine aP (uB (pr:=λe=>!yG o e) eP UZ (λm' hm e _=>Py (hm _ _ oM)) (by omega)) ?_;rintro _ m5⟨v5,p5,rfl,eD,hp5⟩;have e5:(E.filter λe=>!(λe=>!yG o e) e)=E.filter (yG o):=by simp
 rw[e5]at hp5;have gC:aq m5 [p5,p2,blk1 b (Jw o),m]:=aq.jN (a:=[p5]) eD dy;obtain⟨a5,c5,rfl⟩:=hp5.el.shape;refine aP (Lv (hS.sub (gC.sub)) (hp5.el.ea.sub (gC.sub)) (by have:=bC (yG o) E;omega)) ?_;rintro _ m7⟨v7,p7,rfl,iU,hp7⟩;have k8:aq m7 [p7,p5,p2,blk1 b (Jw o),m]:=aq.jN (a:=[p7]) iU gC;exact⟨v2,v7,p2,p7,rfl,k8.ir [2,0,4],lE,hp7⟩
theorem aet{o:XM}{n:Int}{u:List Int}{a:Option Addr}{c:Nat}{E:List En}(hS:cK m)(hv:Na m (.slice a E.length c) E)(hu:yZ u)(hI:∀e∈E,CS e)(hl:E.length<=1000)(hr:dA u E=true)(adJ:E8 o.1 o.2.1 o.2.2=true)(hn:1<=n/\n<=8):
  bi tP 109 [iY u a E.length c,i64 n,akB o] m λr m'=>∃x ev e a1 c1 a2 c2 p,(x,ev,e)=Jc (u,E) n o/\r=[iY x.1 a1 x.2.length c1,.a (evL ev a2 c2),i64 e]/\aq m' [p,m]/\Na m' (.slice a1 x.2.length c1) x.2/\Da m' (.slice a2 ev.2.2.length c2) ev.2.2:=by
 have hF:Jc (u,E) n o=if E3 o=false then(if Jy o E=[]then((fx,[]),wa,4)else((u,nj o E),((o.1,0,0),(0,0),Jy o E),0))else if (xc u n).2≠0 then((fx,[]),wa,13)else if 40<=(nj o E).length then((fx,[]),wa,5)else((wR u n (xc u n).1,nY (nj o E++[(o.2.1,n,(xc u n).1,o.2.2)])),(o,(n,(xc u n).1),Jy o E),0):=rfl
 generalize Jc (u,E) n o=z at*
 have uK:∀e,z=((fx,[]),wa,e)->∀mm q,aq mm [q,m]->∃x ev e' a1 c1 a2 c2 p,(x,ev,e')=z/\[iY fx none 0 0,.a (evL wa none 0),i64 e]=[iY x.1 a1 x.2.length c1,.a (evL ev a2 c2),i64 e']/\aq mm [p,m]/\Na mm (.slice a1 x.2.length c1) x.2/\Da mm (.slice a2 ev.2.2.length c2) ev.2.2:=λe h mm q hs=>by
  subst h;exact⟨(fx,[]),wa,e,none,0,none,0,q,rfl,rfl,hs,Na.nil _,Da.nil _⟩
 have auJ:S7 n=true:=NG.2 hn
 have vd:Ll u n=[VG (if (xc u n).2=0 then n else 0) (xc u n).1,i64 (xc u n).2]:=by
  unfold Ll xc;rw[if_neg (by rw[auJ];decide)]
  split<;>rfl
 have hz:List.take 0 (List.replicate 8 (0:Int))++(u++List.drop (0+8) (List.replicate 8 0))=u:=by simp
 refine c7 aDK Tryz.func109 ?_;refine bt (vd▸Tz (m:=m) (v:=u) (n:=n) hu.v8 ⟨by omega,by omega⟩) ?_;refine aP (RU (o:=o) hS hv (by omega)) ?_;rintro _ m1⟨v1,v2,p1,q1,rfl,bM,xf,mQ⟩;obtain⟨a1,c1,rfl⟩:=xf.el.shape;obtain⟨a2,c2,rfl⟩:=mQ.el.shape;have NT:cL m m1:=bM.sub (by simp);have FQ:(xc u n).2=0\/(xc u n).2=13:=by unfold xc;split<;>simp
 have aAi:(nj o E).length<=1000:=bq (bC _ _) hl;have hD2:=mQ.el.ea.sub (bM.sub);have hD1:=xf.el.ea.sub (bM.sub);generalize nj o E=S at*;generalize Jy o E=F at*;have h11:¬((xc u n).2==11)=true:=by rcases FQ with h|h<;>rw[h]<;>decide
 generalize xc u n=dt at*;obtain⟨dk,de⟩:=dt;simp only at hF FQ h11;by_cases k1:o.1=1
 case' pos=>
  have had:E3 o=true:=by simp[E3,k1]
  refine⟨λ_=>?_,λh=>absurd h (by simp[k1])⟩;refine bt (pV (u:=u) (hS.sub NT) (hv.sub NT) hI (by omega)) ?_;conv=>whnf
  rw[hr];refine xN ?_;refine bt (Hp) ?_;conv=>whnf
  rw[adJ];refine xN ?_;refine⟨λh=>absurd h (by exact h11),λ_=>?_⟩;conv=>whnf
 case' neg=>
  refine⟨λh=>absurd h (by simp[k1]),λ_=>?_⟩;refine bt (pV (u:=u) (hS.sub NT) (hv.sub NT) hI (by omega)) ?_;conv=>whnf
  rw[hr];refine xN ?_;refine bt (Hp) ?_;conv=>whnf
  rw[adJ];refine xN ?_;refine⟨λh=>absurd h (by exact h11),λ_=>?_⟩;by_cases k2:o.1=2;rotate_left
  ·have had:E3 o=false:=by simp[E3,k1,k2]
   rw[aC had]at hF;refine⟨λ_=>?_,λh=>absurd h (by simp[k2])⟩;apply bI<;>intro h
   ·have h0:F=[]:=cB (by have:((F.length:Nat):Int)=0:=(by simpa using h);omega)
    rw[aC h0]at hF;refine xY ?_;exact uK 4 hF _ _ (bM.ir [0,2])
   ·have h0:¬F=[]:=λe=>by subst e;simp at h
    rw[if_neg h0]at hF;refine⟨λ_=>?_,λh=>absurd h (by simp[k2])⟩;exact⟨(u,S),((o.1,0,0),(0,0),F),0,a1,c1,a2,c2,p1,hF.symm,by simp,bM.ir [0,2],hD1,hD2⟩
  have had:E3 o=true:=by simp[E3,k2]
  refine⟨λh=>absurd h (by simp[k2]),λ_=>?_⟩;refine⟨λh=>absurd h (by simp[k2]),λ_=>?_⟩;conv=>whnf
 all_goals
  rw[if_neg (by rw[had];decide)]at hF;apply bI<;>intro h;rotate_left
  ·have h0:¬de=0:=by simpa using h
   have h13:de=13:=FQ.resolve_left h0;rw[aC h0]at hF;refine⟨λ_=>?_,λh=>absurd h (by simp[h0])⟩;conv=>whnf
   rw[show(dk,de).2=13 from h13];exact uK 13 hF _ _ (bM.ir [0,2])
  have h0:de=0:=by simpa using h
  rw[if_neg (by simp[h0])]at hF;apply bI<;>intro h
  ·have h40:40<=S.length:=by have:=ah h;omega
   rw[aC h40]at hF;refine xY ?_;exact uK 5 hF _ _ (bM.ir [0,2])
  have h40:¬ 40<=S.length:=by have:=aj h;omega
  rw[if_neg h40]at hF;refine⟨λh=>absurd h (by simp[h0]),λ_=>?_⟩;conv=>whnf
  rw[aC h0];refine .mk _ (FW (e:=(o.2.1,n,dk,o.2.2))) ?_;rintro _ _⟨b5,mo,rfl,rfl⟩;refine .mk _ (Wx (i:=0) bM rfl mo xf (by omega)) ?_;rintro _ m5⟨v5,p5,rfl,eD,hp5⟩;have eD:aq m5 [p5,q1,m]:=eD;refine aP (yb (hS.sub (eD.sub)) (hp5.el.ea.sub (eD.sub)) (by simp;omega)) ?_;rintro _ m6⟨v6,p6,rfl,gC,hp6⟩;obtain⟨a6,c6,rfl⟩:=hp6.el.shape;have iU:aq m6 [p6,p5,q1,m]:=aq.jN (a:=[p6]) gC eD;refine fU (Tx (v:=u) (n:=n) (k:=dk) ⟨by omega,by omega⟩) ?_;have hz2:List.take 0 (List.replicate 8 (0:Int))++(wR u n dk++List.drop (0+8) (List.replicate 8 0))=wR u n dk:=by simp
  subst h0;exact⟨_,_,0,a6,c6,a2,c2,p6,hF.symm,by simp,iU.ir [0,3],hp6.el.ea.sub (iU.sub),mQ.el.ea.sub (iU.sub)⟩
end
abbrev Ln:=Int×Int
def Xq(x:Ln):List Value:=[.int .i64 x.1,.int .u64 x.2]
theorem aer:fp Xq 2:=⟨λ_=>rfl,λx u hu=>by simp[Xq]at hu;rcases hu with rfl|rfl<;>rfl,by decide⟩
abbrev abm:Ty Ln:={enc:=Xq,s:=2,sl:=53,el:=236,by':=16,ts:=_,ti:=_,ok:=aer,h1:=rfl,h2:=rfl,h3:=rfl,h4:=rfl,h5:=rfl,h6:=rfl,h7:=by decide,h8:=by decide}
section
variable {m:aD}{u:List Int}{a:Option Addr}{c:Nat}{E:List En}
end
structure vF where
 kind:Int
 (id:Int)
 (key:ByteArray)
 (op:Int×Int×Int)
 (dr:Int)
 (AB:gX)
abbrev vF.L(x:vF)(s:iS):LB:=.one (.int .i64 x.kind):: .one (.int .i64 x.id):: .one (.string x.key):: .one (.int .i64 x.op.1):: .one (.int .i64 x.op.2.1):: .one (.int .i64 x.op.2.2):: .one (.int .u64 x.dr)::x.AB.L s
abbrev JD(x:vF)(s:iS):CV:=.a (x.L s)
structure vC(m:aD)(x:vF)(s:iS):Prop where
 je:gy m x.AB s
 (ok:qx x.AB)
 (k:x.key.size<=1000000)
def wK(x:vF):Bool:=rB x.id 1 1099511627776&&kZ (jR x.key)
def Uh(x:vF):vF:=
 if x.kind=1 then⟨x.kind,x.id,x.key,x.op,0,fP⟩
 else if x.kind=2 then⟨x.kind,x.id,x.key,(0,0,0),0,fP⟩
 else if x.kind=4 then⟨x.kind,0,ByteArray.empty,(0,0,0),x.dr,fP⟩
 else if x.kind=5 then⟨x.kind,0,ByteArray.empty,(0,0,0),0,x.AB⟩
 else⟨x.kind,0,ByteArray.empty,(0,0,0),0,fP⟩
def WA(x:vF)(s:iS):iS:=if x.kind=5 then s else⟨(none,0),(none,0),(none,0)⟩
def PH(x y:vF):Bool:=(x.kind==y.kind)&&((x.id==y.id)&&(decide (x.key=y.key)&&(decide (x.op=y.op)&&((x.dr==y.dr)&&GF x.AB y.AB))))
def S5(x:vF):Bool:=
 if x.kind=1 then wK x&&E8 x.op.1 x.op.2.1 x.op.2.2
 else if x.kind=2 then wK x
 else if x.kind=5 then dR x.AB
 else rB x.kind 1 8
def aaL(x:vF):Bool:=S5 x&&PH x (Uh x)
section
variable {m:aD}{x y:vF}{s t:iS}
theorem B7(hk:x.key.size<=1000000):eN tP 104 [JD x s] m [bR (wK x)]:=by
 refine ap Tryz.func104 ?_;conv=>whnf
 unfold wK rB
 repeat' (first|(refine⟨λh=>?_,λh=>?_⟩<;>conv=>whnf)|fail)
 all_goals first|exact⟨by simp_all<;>omega,rfl⟩|skip
 refine bt (iB hk) ?_;exact⟨by simp_all,rfl⟩
theorem Zo(hd:x.AB.jI.length=32):eN tP 107 [JD x s] m [JD (Uh x) (WA x s)]:=by
 refine c7 aDL Tryz.func107 ?_;conv=>whnf
 unfold Uh WA;have hz:nc fX=List.replicate 32 (0:Int):=rfl;apply bI<;>intro h
 ·have h1:x.kind=1:=by simpa using h
  conv=>whnf
  rw[aC h1,if_neg (by omega)];exact rR
 have h1:¬x.kind=1:=by simpa using h
 rw[if_neg h1];apply bI<;>intro h
 ·have h2:x.kind=2:=by simpa using h
  conv=>whnf
  rw[aC h2,if_neg (by omega)];exact rR
 have h2:¬x.kind=2:=by simpa using h
 rw[if_neg h2];apply bI<;>intro h
 ·have h2:x.kind=4:=by simpa using h
  conv=>whnf
  rw[aC h2,if_neg (by omega)];exact rR
 have h2:¬x.kind=4:=by simpa using h
 rw[if_neg h2];apply bI<;>intro h
 ·have h2:x.kind=5:=by simpa using h
  conv=>whnf
  rw[aC h2,aC h2];exact rR
 have h2:¬x.kind=5:=by simpa using h
 conv=>whnf
 rw[if_neg h2,if_neg h2];exact rR
theorem agv(h:vC m x s):vC m (Uh x) (WA x s):=by
 have hn:gy m fP ⟨(none,0),(none,0),(none,0)⟩:=⟨rfl,(Io.nil m).il.ia,(I0.nil m).dl.da,lu.nil m⟩;have ho:qx fP:=⟨by simp[fP],by simp[fP],by simp[fP],by simp[fP],by simp[fP],by simp[fP]⟩;unfold Uh WA;by_cases h5:x.kind=5
 ·rw[if_neg (by omega),if_neg (by omega),if_neg (by omega),aC h5,aC h5]
  exact⟨h.je,h.ok,show ByteArray.empty.size<=1000000 by decide⟩
 rw[if_neg h5];have h0:ByteArray.empty.size<=1000000:=by decide
 repeat' split
 all_goals first|exact⟨hn,ho,h.k⟩|exact⟨hn,ho,h0⟩|contradiction
theorem UQ(hx:vC m x s)(hy:vC m y t):eN tP 106 [JD x s,JD y t] m [bR (PH x y)]:=by
 refine ap Tryz.func106 ?_;conv=>whnf
 unfold PH
 iterate 2 (refine⟨λh=>?_,λh=>?_⟩;rotate_left;(conv=>whnf);exact⟨by rw[h];rfl,rfl⟩;rw[h,bj];conv=>whnf)
 rw[KG]
 iterate 1 (refine⟨λh=>?_,λh=>?_⟩;rotate_left;(conv=>whnf);exact⟨by rw[h];rfl,rfl⟩;rw[h,bj];conv=>whnf)
 have eo:rD [.one (.int .i64 x.op.1),.one (.int .i64 x.op.2.1),.one (.int .i64 x.op.2.2)] [.one (.int .i64 y.op.1),.one (.int .i64 y.op.2.1),.one (.int .i64 y.op.2.2)]=decide (x.op=y.op):=by
  obtain⟨a,b,c⟩:=x.op;obtain⟨a',b',c'⟩:=y.op;rw[nV];simp only[rD,ceq,aB,gU,mj,bA,cV]
 rw[eo]
 iterate 2 (refine⟨λh=>?_,λh=>?_⟩;rotate_left;(conv=>whnf);exact⟨by rw[h];rfl,rfl⟩;rw[h,bj];conv=>whnf)
 refine bt (A2 hx.je hy.je hx.ok) ?_;exact rR
theorem nK{ok:Bool}(hx:vC m x s):
  Tl c64 (AU 9 (yX Tryz.f64)) (Mm tt.get Tryz.f64.results.toList λr m'=>r=[bR (ok&&PH x (Uh x))]/\m'=m)
   [(1,.p 0 0),(3,.c (bR ok))] [(67,x.L s)] m []:=by
 refine .at ?_;apply bI<;>intro h;rotate_left
 ·exact⟨by rw[h];rfl,rfl⟩
 rw[h,bj];refine fU (Zo hx.je.Th) ?_;refine bt (UQ hx (agv hx)) ?_;exact rR
theorem QQ(hS:cK m)(hx:vC m x s):eN tP 64 [JD x s] m [bR (aaL x)]:=by
 refine c7 c64 Tryz.func64 ?_;conv=>whnf
 unfold aaL;apply bI<;>intro h0
 ·have ZO:1<=x.kind:=by simpa using h0
  apply bI<;>intro h
  ·have h1:x.kind=1:=by simpa using h
   rw[show S5 x=(wK x&&E8 x.op.1 x.op.2.1 x.op.2.2) by unfold S5;rw[aC h1]];refine bt (B7 hx.k) ?_;apply bI<;>intro h5
   ·rw[h5,bj]
    refine bt (Hp) ?_;have tl:=nK (m:=m) (s:=s) (ok:=E8 x.op.1 x.op.2.1 x.op.2.2) hx
    conv at tl=>whnf
    refine .via _ _ ?_ tl;exact Cr
   ·rw[h5,fH]
    have tl:=nK (m:=m) (s:=s) (ok:=false) hx
    conv at tl=>whnf
    refine .via _ _ ?_ tl;exact Cr
  have h1:¬x.kind=1:=by simpa using h
  apply bI<;>intro h
  ·have h2:x.kind=2:=by simpa using h
   rw[show S5 x=wK x by unfold S5;rw[if_neg h1,aC h2]];refine bt (B7 hx.k) ?_;have tl:=nK (m:=m) (s:=s) (ok:=wK x) hx
   conv at tl=>whnf
   refine .via _ _ ?_ tl;exact Cr
  have h2:¬x.kind=2:=by simpa using h
  apply bI<;>intro h
  ·have h3:x.kind=5:=by simpa using h
   rw[show S5 x=dR x.AB by unfold S5;rw[if_neg h1,if_neg h2,aC h3]];refine bt (nG hS hx.je hx.ok) ?_;have tl:=nK (m:=m) (s:=s) (ok:=dR x.AB) hx
   conv at tl=>whnf
   refine .via _ _ ?_ tl;exact Cr
  have h3:¬x.kind=5:=by simpa using h
  rw[show S5 x=decide (x.kind<=8) by unfold S5;rw[if_neg h1,if_neg h2,if_neg h3,rB,bB ZO,bj]];have tl:=nK (m:=m) (s:=s) (ok:=decide (x.kind<=8)) hx
  conv at tl=>whnf
  refine .via _ _ ?_ tl;exact Cr
 ·have ZO:¬ 1<=x.kind:=by simpa using h0
  have h1:¬x.kind=1:=by omega
  have h2:¬x.kind=2:=by omega
  have h3:¬x.kind=5:=by omega
  rw[show S5 x=false by unfold S5;rw[if_neg h1,if_neg h2,if_neg h3,rB,aY ZO,fH]];refine⟨λh=>absurd h (by simpa using h1),λ_=>?_⟩;refine⟨λh=>absurd h (by simpa using h2),λ_=>?_⟩;refine⟨λh=>absurd h (by simpa using h3),λ_=>?_⟩;have tl:=nK (m:=m) (s:=s) (ok:=false) hx
  conv at tl=>whnf
  refine .via _ _ ?_ tl;exact Cr
end
variable {mm p q:aD}{X:Jg}{qt:Int}{N:fw}{j k:Nat}
structure NdT(N:fw):Prop where
 (c:N.c.ok=true)
 w:N.w.ok=true
 n:1<=N.n/\N.n<=N.c.jv
theorem NdT.n8(h:NdT N):1<=N.n/\N.n<=8:=by
 have:=(Rc.lj.1 h.c).1;have:=h.n;omega
section
variable {lv:Value}{pr ps pf pb pl:aD}{R:List AM}
theorem nS.MQ(h:nS mm q X qt N lv pr ps pf pb pl R):∃j,aq j [pr,q]/\aq mm [j,blk1 X.a (iq X N lv),ps,pf,pb,pl]:=
 aq.ad9 (k:=[pr,q]) (h.sp.ir [1,6,0,2,3,4,5])
theorem nS.Em{m' j' pr' q':aD}(h:nS mm q X qt N lv pr ps pf pb pl R)(hs:aq m' [j',blk1 X.a (iq X N lv),ps,pf,pb,pl])(h1:aq j' [pr',q'])(h2:cL q q')(h3:jY pr' X.br N.c):nS m' q' X qt N lv pr' ps pf pb pl R:=
 ⟨(aq.tQ hs h1).ir [2,0,3,4,5,6,1],h3,h.s.sub h2,h.f,h.b.grow h2,h.l.sub h2⟩
theorem nS.ba(h:nS mm q X qt N lv pr ps pf pb pl R):aq mm [q,blk1 X.a (iq X N lv),pr,ps,pf,pb,pl]:=h.sp.ir [6,0,1,2,3,4,5]
theorem nS.ba'{m' q':aD}(h:nS mm q X qt N lv pr ps pf pb pl R)(hs:aq m' [q',blk1 X.a (iq X N lv),pr,ps,pf,pb,pl])(hq:cL q q'):nS m' q' X qt N lv pr ps pf pb pl R:=
 ⟨hs.ir [1,2,3,4,5,6,0],h.r,h.s.sub hq,h.f,h.b.grow hq,h.l.sub hq⟩
theorem nS.cl(h:nS mm q X qt N lv pr ps pf pb pl R):∃p,aq mm [p,q]/\y0 p q X qt N:=by
 obtain⟨h2,h3⟩:=aq.k9 [blk1 X.a (iq X N lv),pr,ps,pf,pb,pl] (l:=[q]) h.sp;exact⟨_,h2,lv,pr,ps,pf,pb,pl,R,h3,h.r,h.s,h.f,h.b,h.l⟩
end
structure XL where
 err:Int
 (ev:Ev)
 (ln:List Ln)
abbrev agk(r:XL)(ea:Option Addr)(ec:Nat)(la:Option Addr)(lc:Nat):LB:=[.one (.int .i64 r.err),.one (.int .i64 r.ev.1.1),.one (.int .i64 r.ev.1.2.1),.one (.int .i64 r.ev.1.2.2),.one (.int .i64 r.ev.2.1.1),.one (.int .u64 r.ev.2.1.2),.one (.slice ea r.ev.2.2.length ec),.one (.slice la r.ln.length lc)]
structure NdR(m' q:aD)(X:Jg)(qt:Int)(N:fw)(y:XL)(r:List CV):Prop where
 ex:∃p' q' ea ec la lc,r=[.a (agk y ea ec la lc)]/\aq m' [p',q']/\cL q q'/\y0 p' q' X qt N/\Ga abm q' (.slice la y.ln.length lc) y.ln
theorem NdR.uK{m':aD}{e:Int}(h:tD m' q X qt N):NdR m' q X qt N ⟨e,wa,[]⟩ [.a (agk ⟨e,wa,[]⟩ none 0 none 0)]:=by
 obtain⟨p',q',h1,h2,h3⟩:=h.ex;exact⟨p',q',none,0,none,0,rfl,h1,h2,h3,Ga.nil _⟩
def fw.push(N:fw)(qe:Int)(x:Kd):fw:=if dR (iL N.n qe x)then N.send (iL N.n qe x)else N
def fw.x5(N:fw)(l:List Int)(x:Kd):fw:=l.foldl (λN t=>N.push t x) N
def lW(qt:Int)(N:fw)(x:vF):fw×XL:=
 if sJ N.c N.n x.key=false then(N,⟨12,wa,[]⟩)
 else if (Jc (gh N.s.L x.key) N.n x.op).2.2≠0 then(N,⟨(Jc (gh N.s.L x.key) N.n x.op).2.2,wa,[]⟩)
 else if rq qt N.A N.s (x.key,(Jc (gh N.s.L x.key) N.n x.op).1)≠0 then(N,⟨rq qt N.A N.s (x.key,(Jc (gh N.s.L x.key) N.n x.op).1),wa,[]⟩)
 else(((N.put (x.key,(Jc (gh N.s.L x.key) N.n x.op).1)).nX ⟨x.id,0,[]⟩).x5 (ko N.c x.key N.n) (x.key,(Jc (gh N.s.L x.key) N.n x.op).1),⟨0,(Jc (gh N.s.L x.key) N.n x.op).2.1,[]⟩)
theorem GB(N:fw)(x:gX):(N.send x).B.dE.length<=N.B.dE.length+1:=by
 show(N.B.send x _).dE.length<=_
 unfold kf.send
 grind
structure y7(N M:fw)(n:Nat):Prop where
 (e:M={N with B:=M.B})
 l:M.B.dE.length<=N.B.dE.length+n
theorem ab8(N:fw)(t:Int)(x:Kd):y7 N (N.push t x) 1:=by
 unfold fw.push;split
 ·exact⟨rfl,GB N _⟩
 ·exact⟨rfl,by omega⟩
theorem y7.trans{M M':fw}{a b:Nat}(h:y7 N M a)(h':y7 M M' b):y7 N M' (a+b):=by
 refine⟨?_,by have:=h.l;have:=h'.l;omega⟩;have h1:=h.e;have h2:=h'.e;rw[h2,h1]
theorem rL(x:Kd):∀(l:List Int) (N:fw),y7 N (N.x5 l x) l.length
 |[],N=>⟨rfl,by simp[fw.x5]⟩
 |t::l,N=>by
  have:=(ab8 N t x).trans (rL x l (N.push t x));rw[Nat.add_comm]at this;exact this
theorem ab9{a b:Int}{x:Kd}(h:ki x):IY (iL a b x):=by
 have hk:=h.key;have hl:=h.len;have hm:∀c∈(iL a b x).ca,c=x:=λc hc=>aL.1 hc;refine⟨⟨λc hc=>by rw[hm c hc];exact h.arg,λc hc=>by rw[hm c hc];omega,λc hc=>by rw[hm c hc];exact h.arg.n,by show([x]:List Kd).length<=_;simp,by show([]:List Int).length<=_;simp,by show([]:List (List Nat)).length<=_;simp⟩,⟨?_,by show ∀d∈([]:List (List Nat)),_;simp⟩,?_⟩
 ·show ∀n∈fX,n<256
  intro n hn;simp[fX]at hn;omega
 ·show(List.map nJ [x]).flatten.length<=_
  simp;omega
theorem Vm{L:List Kd}(h:∀x∈L,ki x)(k:ByteArray):dA (gh L k).1 (gh L k).2=true:=by
 cases e:vj L k with
 |none=>
  rw[gh,e];have h1:AD []=[]:=by simp[AD,TW,uP,gL]
  show dA fx []=true
  unfold dA;rw[h1];decide
 |some c=>rw[gh,e];exact(h _ (L6 e)).r
theorem Xt{u:List Int}{E:List En}{n:Int}{o:XM}{k:ByteArray}(hu:yZ u)(hE:∀e∈E,CS e)(hl:E.length<=1000)(hn:1<=n/\n<=8)(ho:I o.2.1/\I o.2.2):jg (k,(Jc (u,E) n o).1):=by
 have dI:∀e∈nj o E,CS e:=λe he=>hE e (cH.1 he).1;have W9:(nj o E).length<=1000:=bq (bC _ _) hl;unfold Jc;split
 ·split
  ·exact⟨pg,by simp,by simp⟩
  ·exact⟨hu,dI,W9⟩
 split
 ·exact⟨pg,by simp,by simp⟩
 rename_i hd;split
 ·exact⟨pg,by simp,by simp⟩
 rename_i h40
 have hU:U (xc u n).1:=by
  have h1:U (tk u n):=ad6 hu.v8 n;unfold xc at hd⊢
  split at hd
  ·exact absurd hd (by simp)
  ·rename_i h2
   rw[if_neg h2];have h2:¬tk u n=18446744073709551615:=h2
   show 0<=tk u n+1/\tk u n+1<18446744073709551616
   unfold U at h1;omega
 refine⟨⟨?_,λx hx=>?_⟩,λe he=>?_,?_⟩
 ·show(wR u n _).length=8
  unfold wR;split
  ·rw[fc];exact hu.1
  ·exact hu.1
 ·have hx:x∈wR u n (xc u n).1:=hx
  unfold wR at hx
  split at hx
  ·rcases fa hx with hx|rfl
   ·exact hu.2 x hx
   ·have h2:U (u.getD (n-1).toNat 0):=by
     rw[aI]
     cases e:u[(n-1).toNat]? with
     |none=>exact⟨by decide,by decide⟩
     |some y=>exact hu.2 y (dJ e)
    have hU:=hU;unfold U at hU h2;unfold BC;omega
  ·exact hu.2 x hx
 ·have he:e∈nY (nj o E++[(o.2.1,n,(xc u n).1,o.2.2)]):=he
  have he:=(qR _ _).mem_iff.1 he;rcases aR.1 he with he|he
  ·exact dI e he
  ·rw[aL.1 he]
   exact⟨ho.1,by unfold I;simp only;omega,hU,ho.2⟩
 ·show(nY _).length<=1000
  rw[zg,ax,eV]
  show(nj o E).length+1<=1000
  have h40:¬ 40<=(nj o E).length:=h40;omega
theorem ajf{o:XM}(h:E8 o.1 o.2.1 o.2.2=true):I o.2.1/\I o.2.2:=by
 unfold E8 at h;unfold I
 grind
theorem Qj{x:vF}{s:iS}(hg:jZ q)(hs:aq mm [p,q])(h:y0 p q X qt N)(hT:NdT N)(hI:pO qt j k N)(hj:j<=1260)(hk:k<=500)(hx:vC q x s)(adJ:E8 x.op.1 x.op.2.1 x.op.2.2=true)(ho:N.B.dE.length+(ko N.c x.key N.n).length<500)(Rp:N.B.o7.length<=1000):
  bi tP 65 [cx X.a,JD x s] mm λr m'=>NdR m' q X qt (lW qt N x).1 (lW qt N x).2 r:=by
 obtain⟨lv,pr,ps,pf,pb,pl,R,hn⟩:=h.op hs;have EM:=hx.k;refine c7 c65 Tryz.func65 ?_;refine xM hn.o ?_;refine xM hn.o ?_;obtain⟨j1,LR,bM⟩:=hn.MQ;refine aP (bi.frame bM (tN (k:=x.key) (n:=N.n) hg.j8 hT.c LR hn.r EM)) ?_;rintro _ m1⟨j2,⟨pr',rfl,bZ,jK⟩,dy⟩;have ml:=hn.Em dy bZ (cL.refl _) jK;obtain⟨dE,hF⟩:∃o,lW qt N x=o:=⟨_,rfl⟩;rw[hF];unfold lW at hF;by_cases h1:sJ N.c N.n x.key=true;rotate_left
 ·have h1:sJ N.c N.n x.key=false:=by simpa using h1
  rw[aC h1]at hF;rw[h1];refine xY ?_;subst hF;obtain⟨p1,eP,hn4⟩:=ml.cl;exact .uK (tD.cR eP hn4)
 rw[if_neg (by rw[h1];decide)]at hF;rw[h1];refine xN ?_;obtain⟨bl1,lv1,sv1,ak2⟩:=ml.sr;have hgA:=qo (λx hx=>(hI.gl x hx).arg) x.key;have hgR:=Vm hI.gl x.key;refine xM ml.o ?_;refine aP (Db ak2 (k:=x.key) (by have:=hI.ll;omega) (by have:=hgA.n;simp only at this;omega)) ?_;rintro _ m2⟨a2,c2,p2,rfl,eP,lD⟩;obtain⟨q2,rO,lE,kV⟩:=ml.up eP;generalize gh N.s.L x.key=was at*;obtain⟨wu,wE⟩:=was;simp only at hgA hgR lD hF⊢;refine xM kV.o ?_;have hwn:wE.length<=1000:=hgA.n;refine aP (bi.frame kV.ba (aet (n:=N.n) (o:=x.op) (u:=wu) (hg.j8.sub rO) (lD.ea.sub lE) hgA.u hgA.e hwn hgR adJ hT.n8)) ?_;rintro _ m3⟨q3,⟨c',ev,e,a1,c1,a2,c2,p3,hdo,rfl,eD,hna,hda⟩,gC⟩;have adx:cL q2 q3:=eD.sub (by simp);have LQ:=kV.ba' gC adx;have EK:=rO.trans adx;have HZ:=Xt (k:=x.key) hgA.u hgA.e hwn hT.n8 (ajf adJ);rw[<-hdo]at hF HZ;simp only at hF;obtain⟨cu,cE⟩:=c';simp only at hF hna⊢;apply bI<;>intro h2
 ·have h2:e≠0:=by simpa using h2
  rw[aC h2]at hF;subst hF;obtain⟨p1,iU,hn7⟩:=LQ.cl;exact .uK ((tD.cR iU hn7).lB EK)
 have h2:e=0:=by simpa using h2
 rw[if_neg (by simp[h2])]at hF;refine xM LQ.o ?_;obtain⟨j4,hj4,iU⟩:=LQ.sto;refine aP (bi.frame iU (AT (k:=x.key) (u:=cu) (hg.sub EK) hj4 LQ.s LQ.f (hI.sm (by omega) hk) hna HZ EM hI.qr (by have:=hI.rl;omega) (by have:=hI.ll;omega))) ?_;rintro _ m4⟨j5,u9,k8⟩;rcases u9 with⟨e1,rfl,hLq⟩|⟨e1,rfl,hLq⟩
 ·rw[aC e1]at hF
  have Tc:=LQ.ME k8 hLq;refine⟨λ_=>?_,λh=>absurd h (by simpa using e1)⟩;subst hF;exact .uK (Tc.lB EK)
 rw[if_neg (by simpa using e1)]at hF;have Tc:=LQ.ME k8 hLq;obtain⟨p4,q4,zv,apE,hn4⟩:=Tc.ex;refine xN ?_;refine aP (Hc (x:=⟨x.id,0,[]⟩) (s:=(none,0)) zv hn4 (Io.nil _).il.ia (by simp) Rp rfl) ?_;rintro _ m5⟨rfl,hL5⟩;obtain⟨p5,q5,nr,apD,w6⟩:=hL5.ex
 have hgl:ki (x.key,(cu,cE)):=by
  obtain⟨k1,k2,k3⟩:=Ef (KX e1).1;exact⟨k1,HZ.u,k2⟩
 have aus:Na q5 (.slice a1 cE.length c1) cE:=hna.sub (apE.trans apD);have hN5:((N.put (x.key,(cu,cE))).nX ⟨x.id,0,[]⟩).n=N.n/\((N.put (x.key,(cu,cE))).nX ⟨x.id,0,[]⟩).c=N.c/\((N.put (x.key,(cu,cE))).nX ⟨x.id,0,[]⟩).B.dE.length=N.B.dE.length:=⟨rfl,rfl,rfl⟩;have w6:y0 p5 q5 X qt ((N.put (x.key,(cu,cE))).nX ⟨x.id,0,[]⟩):=w6;have hF5:dE=(((N.put (x.key,(cu,cE))).nX ⟨x.id,0,[]⟩).x5 (ko N.c x.key N.n) (x.key,(cu,cE)),⟨0,ev,[]⟩):=hF.symm;generalize ((N.put (x.key,(cu,cE))).nX ⟨x.id,0,[]⟩)=N5 at*;obtain⟨en,ec,eo⟩:=hN5;have NM:=EK.trans (apE.trans apD);obtain⟨lv5,pr5,ps5,pf5,pb5,pl5,R5,I9⟩:=w6.op nr;refine xM I9.o ?_;refine xM I9.o ?_;obtain⟨j6,hj6,u7⟩:=I9.MQ;refine aP (bi.frame u7 (P7 (k:=x.key) (n:=N5.n) (hg.sub NM).j8 (by rw[ec];exact hT.c) hj6 I9.r EM)) ?_;rintro _ m7⟨j7,⟨v7,pr7,q7,rfl,JJ,hr7,hv7⟩,NL⟩;obtain⟨q8,ha8,hb8,Zu⟩:=aq.sK (JJ.ir [1,2,0]);have JO:=I9.Em NL (Zu.ir [1,0]) hb8 hr7;rw[ec,en]at hv7;have hlen:=zr hT.c x.key;have hol:(ko N.c x.key N.n).length<=128:=bq (bC _ _) hlen;have hv8:=hv7.il.ia.sub ha8;generalize ko N.c x.key N.n=l at*;obtain⟨av,cv,rfl⟩:=hv8.shape;obtain⟨p8,ahq,tj⟩:=JO.cl;refine .mk (ι:=Nat) (λi=>l.length-i) (λi mm=>i<=l.length/\tD mm q8 X qt (N5.x5 (l.take i) (x.key,(cu,cE)))) (λi=>[(0,.c (cx X.a)),(3,.p 0 0),(4,.p 1 0),(5,.p 2 0),(7,.p 3 0),(83,.c (.v (.slice av l.length cv))),(84,.c (i64 l.length)),(85,.c (i64 i))]) (λi=>[(67,x.L s),(55,agk ⟨0,wa,[]⟩ none 0 none 0),(111,[.bG .u64 8 cu,.one (.slice a1 cE.length c1)]),(52,evL ev a2 c2)]) 0 ⟨by omega,tD.cR ahq tj⟩ ?_ ?_
 ·exact Cr
 rintro i m9⟨hi,hL9⟩;obtain⟨p9,q9,ak5,hq9,tj⟩:=hL9.ex;have HW:=rL (x.key,(cu,cE)) (l.take i) N5;have hbn:(N5.x5 (l.take i) (x.key,(cu,cE))).n=N5.n:=by rw[HW.e]
 have Xj:=HW.l;rw[aK]at Xj;apply bI<;>intro h
 ·have h':=ah h
  have bH:i<l.length:=by omega
  obtain⟨b2,ol,c',hh,js⟩:=(hv8.sub (hq9.trans (ak5.sub))).real bH;injection hh with eK _ fN;subst eK;have js:=js i bH
  have dI:(N5.x5 (l.take (i+1)) (x.key,(cu,cE)))=(N5.x5 (l.take i) (x.key,(cu,cE))).push l[i] (x.key,(cu,cE)):=by
   rw[au bH,fw.x5,iT];rfl
  generalize N5.x5 (l.take i) (x.key,(cu,cE))=N9 at*;generalize l[i]=t at*;obtain⟨lv9,pr9,ps9,pf9,pb9,pl9,R9,NS⟩:=tj.op ak5
  repeat refine xS ?_
  refine⟨_,by simp only[bK,aA];exact js,rfl,?_⟩;refine xM NS.o ?_;have hqq:=hb8.trans hq9;refine aP (bi.frame NS.ba (YT (a:=N9.n) (b:=t) (x:=(x.key,(cu,cE))) ((hg.sub NM).j8.sub hqq) (aus.sub hqq) HZ EM)) ?_;rintro _ m10⟨q10,⟨s10,rfl,UY,apQ⟩,atZ⟩;have alh:=NS.ba' atZ UY;obtain⟨p11,apv,adG⟩:=alh.cl;have hps:N9.push t (x.key,(cu,cE))=if dR (iL N9.n t (x.key,(cu,cE)))then N9.send (iL N9.n t (x.key,(cu,cE)))else N9:=rfl
  rw[hps]at dI;have Zv:=hq9.trans UY;by_cases hr:dR (iL N9.n t (x.key,(cu,cE)))=true
  ·rw[aC hr]at dI
   rw[aC hr]at apQ;rw[aC hr,aC hr];refine xY ?_;refine aP (Hd ((hg.sub NM).j8.sub (hqq.trans UY)) apv adG apQ (ab9 hgl) (by omega)) ?_;rintro _ m11⟨rfl,avt⟩;refine⟨i+1,⟨by omega,by rw[dI];exact avt.lB Zv⟩,by omega,?_⟩;exact Cr
  ·rw[if_neg hr]at dI
   rw[if_neg hr,if_neg hr];refine xN ?_;refine⟨i+1,⟨by omega,by rw[dI];exact(tD.cR apv adG).lB Zv⟩,by omega,?_⟩;exact Cr
 ·have h':=aj h
  obtain rfl:i=l.length:=by omega
  rw[aJ]at tj;subst hF5;exact⟨p9,q9,a2,c2,none,0,rfl,ak5,(NM.trans hb8).trans hq9,tj,Ga.nil _⟩
variable {mm p q:aD}{X:Jg}{qt:Int}{N:fw}{j k:Nat}
variable {mm p q:aD}{X:Jg}{qt:Int}{N:fw}{j k:Nat}
section
variable {lv:Value}{pr ps pf pb pl:aD}{R:List AM}
end
variable {mm p q:aD}{X:Jg}{qt:Int}{N:fw}{j k:Nat}
section
variable {lv:Value}{pr ps pf pb pl:aD}{R:List AM}
end
variable {mm p q:aD}{X:Jg}{qt:Int}{N:fw}{j k:Nat}
def G8(N:fw)(y:gX):Bool:=
 if y.kind=7 then sJ N.c N.n (NF y.ca)&&sJ N.c y.fr (NF y.ca)else l4 N.c N.n y.part&&l4 N.c y.fr y.part
theorem Qi{y:gX}{s:iS}(hS:cK q)(hs:aq mm [p,q])(h:y0 p q X qt N)(hT:NdT N)(hy:gy q y s)(hr:dR y=true):
  bi tP 124 [cx X.a,mT y s] mm λr m'=>r=[bR (G8 N y)]/\tD m' q X qt N:=by
 obtain⟨lv,pr,ps,pf,pb,pl,R,hn⟩:=h.op hs;have hR:=nD hr;have hp:=hR.p;unfold G8;refine c7 aDF Tryz.func124 ?_;apply bI<;>intro h1
 ·have h1:y.kind=7:=by simpa using h1
  rw[aC h1]
  have Vf:∃x,y.ca=[x]:=by
   have:=hR.ok;unfold Vo at this;rw[if_neg (by omega),if_neg (by omega),if_neg (by omega),if_neg (by omega),aC h1]at this;simp only[aB,bA]at this;exact I3.1 this.1.1
  obtain⟨x,hx⟩:=Vf;have ZB:NF y.ca=x.1:=by rw[hx];rfl
  rw[ZB];have hc:=(hy.sub hn.gM).ca;have hlen:y.ca.length=1:=by rw[hx];rfl
  have EM:x.1.size<=1000000:=by have:=lQ hR.ca x (by rw[hx];simp);omega
  obtain⟨rs,hR1,hK⟩:=hc;have hrl:=hK.len;rw[hlen]at hrl hR1;obtain⟨b2,o2,c2,hh,hg⟩:=hR1.real (i:=0) (by omega);have hkk:=(hK.je 0 (by omega) (by omega)).k;have hg:=fZ (j:=0) (hg 0 (by omega)) rfl;have e0:y.ca[0]'(by omega)=x:=by simp[hx]
  rw[e0]at hkk;generalize rs[0]'(by omega)=r at*;injection hh with eK _ fN;conv=>whnf
  rw[hlen,eK]
  repeat refine xS ?_
  refine⟨_,by simpa [bK]using hg,rfl,?_⟩;refine xM hn.o ?_;refine xM hn.o ?_;conv=>whnf
  rw[hkk];obtain⟨j1,LR,bM⟩:=hn.MQ;refine aP (bi.frame bM (tN (k:=x.1) (n:=N.n) hS hT.c LR hn.r EM)) ?_;rintro _ m1⟨j2,⟨pr',rfl,bZ,jK⟩,dy⟩
  try refine⟨λ_ h=>(by cases h),?_⟩
  have ml:=hn.Em dy bZ (cL.refl _) jK;apply bI<;>intro h2;rotate_left
  ·obtain⟨p5,eD,w6⟩:=ml.cl
   exact⟨by rw[h2];rfl,tD.cR eD w6⟩
  rw[h2,bj];refine xM ml.o ?_;obtain⟨j6,hj6,gC⟩:=ml.MQ;refine aP (bi.frame gC (tN (k:=x.1) (n:=y.fr) hS hT.c hj6 ml.r EM)) ?_;rintro _ m7⟨j7,⟨pr7,rfl,iU,hr7⟩,k8⟩
  try refine⟨λ_ h=>(by cases h),?_⟩
  have JO:=ml.Em k8 iU (cL.refl _) hr7;obtain⟨p5,eD,w6⟩:=JO.cl;exact⟨rfl,tD.cR eD w6⟩
 ·have h1:¬y.kind=7:=by simpa using h1
  rw[if_neg h1];refine xM hn.o ?_;refine xM hn.o ?_;obtain⟨j1,LR,bM⟩:=hn.MQ;refine aP (bi.frame bM (Bf (part:=y.part) (n:=N.n) hS hT.c LR hn.r (by omega))) ?_;rintro _ m1⟨j2,⟨pr',rfl,bZ,jK,_⟩,dy⟩
  try refine⟨λ_ h=>(by cases h),?_⟩
  have ml:=hn.Em dy bZ (cL.refl _) jK;apply bI<;>intro h2;rotate_left
  ·obtain⟨p5,eD,w6⟩:=ml.cl
   exact⟨by rw[h2];rfl,tD.cR eD w6⟩
  rw[h2,bj];refine xM ml.o ?_;obtain⟨j6,hj6,gC⟩:=ml.MQ;refine aP (bi.frame gC (Bf (part:=y.part) (n:=y.fr) hS hT.c hj6 ml.r (by omega))) ?_;rintro _ m7⟨j7,⟨pr7,rfl,iU,hr7,_⟩,k8⟩
  try refine⟨λ_ h=>(by cases h),?_⟩
  have JO:=ml.Em k8 iU (cL.refl _) hr7;obtain⟨p5,eD,w6⟩:=JO.cl;exact⟨rfl,tD.cR eD w6⟩
variable {mm p q:aD}{X:Jg}{qt:Int}{N:fw}{j k:Nat}
section
variable {m:aD}{x:kl}{s:CN}{v:Value}{L:List Kd}{y:gX}{t:iS}
end
variable {mm p q:aD}{X:Jg}{qt:Int}{N:fw}{j k:Nat}
variable {mm p q:aD}{X:Jg}{qt:Int}{N:fw}{j k:Nat}
def A9(qt:Int)(N:fw)(x:Kd):fw×Int:=(if yp qt N.A N.s x then N.put (x.1,(jw N.s x).1)else N,Hn qt N.A N.s x)
variable {mm p q:aD}{X:Jg}{qt:Int}{N:fw}{j k:Nat}
abbrev Cq(e:Int):XL:=⟨e,wa,[]⟩
structure NdZ(N:fw):Prop where
 o:N.B.dE.length<=300
 (an:N.B.o7.length<=900)
 (l:N.l.length<=100)
 (bQ:0<=N.bQ)
 (dO:0<=N.dO/\N.dO<=1000000)
variable {mm p q:aD}{X:Jg}{qt:Int}{N:fw}{j k:Nat}
theorem Gs{bs bl:Nat}{s:jf}{lv sv:Value}(h:SR m bs bf s bl lv sv):eN tP 57 [fy bs] m [i64 s.cY]:=by
 refine ap Tryz.func57 ?_;refine xN ?_;refine xM h.o ?_;refine bt (Hr h.lg) ?_;exact rR
def fw.AA(N:fw):fw:={N with B:=N.B.left (N.s.cY:Nat)}
def fw.Nb(N:fw):List gX:=N.B.Nb (N.s.cY:Nat)
def fw.uo(N:fw):fw:={N with B:=N.B.acX (N.s.cY:Nat)}
def fw.BI(N:fw):List Rv:=N.B.BI (N.s.cY:Nat)
theorem Lh(hs:aq mm [p,q])(h:y0 p q X qt N)(hl:N.B.dE.length<=1000):
  bi tP 31 [cx X.a] mm λr m'=>∃v p' q' R,r=[.v v]/\aq m' [p',q']/\cL q q'/\y0 p' q' X qt N.AA/\Ga Yc q' v R/\R.map (·.1)=N.Nb/\∀r∈R,gy q' r.1 r.2:=by
 obtain⟨lv,pr,ps,pf,pb,pl,R,hn⟩:=h.op hs;obtain⟨bl,lv2,sv,AF⟩:=hn.sr;obtain⟨j,hj,bM⟩:=hn.box;refine c7 c31 Tryz.func31 ?_;refine bt (A7 hn.o) ?_;refine xN ?_;refine xM hn.o ?_;refine xM hn.o ?_;refine fU (Gs AF) ?_;refine aP (bi.frame bM (Y0 (cY:=(N.s.cY:Nat)) hj hn.b hl)) ?_;rintro _ m2⟨j',⟨v,S4,q',RR,rfl,h1,h2,h3,h4,h5,h6⟩,bZ⟩;obtain⟨p5,eD,w6⟩:=(hn.aeQ bZ h1 h2 h3).cl;exact⟨v,p5,q',RR,rfl,eD,h2,w6,h4,h5,h6⟩
theorem Hb(hs:aq mm [p,q])(h:y0 p q X qt N)(hl:N.B.o7.length<=1000):
  bi tP 30 [cx X.a] mm λr m'=>∃v p' q' R,r=[.v v]/\aq m' [p',q']/\cL q q'/\y0 p' q' X qt N.uo/\Ga Yd q' v R/\R.map (·.1)=N.BI/\∀r∈R,Ia q' (.slice r.2.1 r.1.l.length r.2.2) r.1.l:=by
 obtain⟨lv,pr,ps,pf,pb,pl,R,hn⟩:=h.op hs;obtain⟨bl,lv2,sv,AF⟩:=hn.sr;obtain⟨j,hj,bM⟩:=hn.box;refine c7 c30 Tryz.func30 ?_;refine bt (A7 hn.o) ?_;refine xN ?_;refine xM hn.o ?_;refine xM hn.o ?_;refine fU (Gs AF) ?_;refine aP (bi.frame bM (Uk (cY:=(N.s.cY:Nat)) hj hn.b hl)) ?_;rintro _ m2⟨j',⟨v,S4,q',RR,rfl,h1,h2,h3,h4,h5,h6⟩,bZ⟩;obtain⟨p5,eD,w6⟩:=(hn.aeQ bZ h1 h2 h3).cl;exact⟨v,p5,q',RR,rfl,eD,h2,w6,h4,h5,h6⟩
variable {mm p q:aD}{X:Jg}{qt:Int}{N:fw}{j k:Nat}
def agR(c:Rc)(w:Bk)(n:Int)(s:jf)(A:List Af)(nb ns:Nat):fw:=⟨c,w,n,s,A,nb,ns,⟨[],[]⟩,[],0,0⟩
variable{c:Rc}{w:Bk}
theorem Uw{pf:aD}{nb ns kk g K:Nat}{n:Int}{A:List Af}{P R:List Kd}(hg:jZ m)(hs:aq mm [pf,m])(hf:FA pf bf qt nb ns A)(hk:Sm kk A nb ns)(hn:Eg A)(hc:CI qt A g P R K)(hgb:g<=900000)(hq:0<=qt/\qt<=9223372036854775807)(hK:K<=10000000)(hP:P.length+R.length<=20000)(h1:c.ok=true)(h2:w.ok=true)(h3:1<=n/\n<=c.jv):
  bi tP 28 [.a (Sq c w),i64 n,fy bf] mm λr m'=>∃X ub A' p' q',r=[cx X.a,i64 0]/\X.bf=bf/\aq m' [p',q']/\cL m q'/\y0 p' q' X qt (agR c w n (eE g P R K) A' nb ub)/\FI qt A' (eE g P R K)/\ub<=ns+1/\Gr A A' 0/\(bS A (gK g)=none->A'=A):=by
 have aAG:=(Rc.lj.1 h1).1;refine c7 c28 Tryz.func28 ?_;refine bt (qk) ?_;conv=>whnf
 rw[h1,h2];refine xN ?_;apply bI<;>intro h
 ·exfalso
  have:=ah h;omega
 apply bI<;>intro h
 ·exfalso
  have:=ah h;omega
 refine aP (TP hg hs hf hk hn hc hgb hq hK hP) ?_;rintro _ m1⟨bs,ub,A',rfl,hL,HT,NQ,Xe,hA⟩;obtain⟨p1,pf1,q1,bM,mQ,xf,Xg⟩:=hL.toQ.ex;refine xN ?_;refine aP (agh h1) ?_;rintro _ _⟨br,hbr,rfl,rfl⟩;have bZ:=bM.new hbr (eO c 0 0 0 (.slice none 0 0));refine aP (Y1) ?_;rintro _ m3⟨bb,pb,rfl,dy,hB⟩
 try refine⟨λ_ h=>(by cases h),?_⟩
 have eP:aq m3 [pb,blk1 br (eO c 0 0 0 (.slice none 0 0)),p1,pf1,q1]:=aq.jN (a:=[pb]) dy bZ;intro a ha;have eD:=eP.new ha (iq ⟨a,br,bs,bb,bf⟩ (agR c w n (eE g P R K) A' nb ub) (.slice none 0 0));have gC:=eD.cA.ir [1,3,4,5,2,0,6];have hO:nS _ q1 ⟨a,br,bs,bb,bf⟩ qt (agR c w n (eE g P R K) A' nb ub) (.slice none 0 0) (blk1 br (eO c 0 0 0 (.slice none 0 0))) p1 pf1 pb iI []:=⟨gC,.inl (aq.one _),xf,Xg,hB.grow (λx o h=>by simp[iI]at h),Gw.nil _,rfl,by simp⟩;obtain⟨p6,iU,hn7⟩:=hO.cl;exact⟨⟨a,br,bs,bb,bf⟩,ub,A',p6,q1,rfl,rfl,iU,mQ,hn7,HT,NQ,Xe,hA⟩
inductive eT where
 |up (X:Jg) (N:fw)
 |down (bf nb ns:Nat) (A:List Af)
def eT.fv:eT->Value
 | .up X _=>.pointer (some ⟨X.bf,0,none⟩)
 | .down bf _ _ _=>.pointer (some ⟨bf,0,none⟩)
def eT.nv:eT->Value
 | .up X _=>.pointer (some ⟨X.a,0,none⟩)
 | .down _ _ _ _=>.pointer none
def M2(q:aD)(qt:Int)(p:aD):eT->Prop
 | .up X N=>y0 p q X qt N
 | .down bf nb ns A=>FA p bf qt nb ns A
theorem M2.sub{q':aD}{s:eT}(h:M2 q qt p s)(hs:cL q q'):M2 q' qt p s:=by
 cases s with
 |up X N=>exact y0.sub h hs
 |down bf nb ns A=>exact h
abbrev Rtd:=Int×Ran
abbrev tdL(r:Rtd):LB:=[.one (.int .i64 r.1),.one (.int .i64 r.2.1.id),.one (.int .i64 r.2.1.err),.one (.slice r.2.2.1 r.2.1.l.length r.2.2.2)]
def arP(r:Rtd):List Value:=LB.cz (tdL r)
theorem amp:fp arP 4:=⟨λ_=>rfl,λx u hu=>by simp[arP,LB.cz,eB.cells]at hu;rcases hu with rfl|rfl|rfl|rfl<;>rfl,by decide⟩
abbrev akw:Ty Rtd:={enc:=arP,s:=4,sl:=39,el:=95,by':=48,ts:=_,ti:=_,ok:=amp,h1:=rfl,h2:=rfl,h3:=rfl,h4:=rfl,h5:=rfl,h6:=rfl,h7:=by decide,h8:=by decide}
def fvs(S:List eT)(i:Nat):Value:=(S[i]?.map eT.fv).getD (.pointer none)
def nvs(S:List eT)(i:Nat):Value:=(S[i]?.map eT.nv).getD (.pointer none)
abbrev LA(c:Rc)(w:Bk)(vN:Value)(f n:Nat->Value)(tv:Value):Obj:=.cells #[.int .i64 c.jv,.int .i64 c.AO,.int .i64 c.xm,.int .i64 w.gM,.int .i64 w.cap,.int .i64 w.dG,.int .i64 w.gI,vN,f 0,f 1,f 2,f 3,f 4,f 5,f 6,f 7,n 0,n 1,n 2,n 3,n 4,n 5,n 6,n 7,tv] 41
abbrev qq(c:Rc)(w:Bk)(na:Nat)(S:List eT)(tv:Value):Obj:=LA c w (.pointer (some ⟨na,0,none⟩)) (fvs S) (nvs S) tv
structure NN where
 c:Rc
 w:Bk
 (qt:Int)
 (S:List eT)
 vN:mi
 Yj:List (Int×Rv)
structure aDY(p q:aD)(ca na:Nat)(C:NN)(tv:Value)(RT:List Rtd)(pn pt:aD)(ps:List aD):Prop where
 sp:aq p (blk1 ca (qq C.c C.w na C.S tv)::pn::pt::ps)
 vN:aaQ pn na C.vN
 t:Gw akw pt tv RT
 (te:RT.map (λr=>(r.1,r.2.1))=C.Yj)
 ta:∀r∈RT,Ia q (.slice r.2.2.1 r.2.1.l.length r.2.2.2) r.2.1.l
 s:PL (M2 q C.qt) ps C.S
 n:C.S.length=C.c.jv.toNat
 ok:C.c.ok=true
def apP(p q:aD)(ca na:Nat)(C:NN):Prop:=∃tv RT pn pt ps,aDY p q ca na C tv RT pn pt ps
structure cN(mm q:aD)(ca na:Nat)(C:NN)(tv:Value)(RT:List Rtd)(pn pt:aD)(ps:List aD):Prop where
 sp:aq mm (blk1 ca (qq C.c C.w na C.S tv)::pn::pt::q::ps)
 vN:aaQ pn na C.vN
 t:Gw akw pt tv RT
 (te:RT.map (λr=>(r.1,r.2.1))=C.Yj)
 ta:∀r∈RT,Ia q (.slice r.2.2.1 r.2.1.l.length r.2.2.2) r.2.1.l
 s:PL (M2 q C.qt) ps C.S
 n:C.S.length=C.c.jv.toNat
 ok:C.c.ok=true
structure apT(m' q:aD)(ca na:Nat)(C:NN):Prop where
 ex:∃p' q',aq m' [p',q']/\cL q q'/\apP p' q' ca na C
section
variable {mm p q pn pt:aD}{ca na i:Nat}{C:NN}{tv:Value}{RT:List Rtd}{ps:List aD}
theorem N0{qt:Int}{q':aD}{l:List eT}(h:PL (M2 q qt) ps l)(hs:cL q q'):PL (M2 q' qt) ps l:=h.mono λ_ _ h=>h.sub hs
theorem apP.op(h:apP p q ca na C)(hs:aq mm [p,q]):∃tv RT pn pt ps,cN mm q ca na C tv RT pn pt ps:=by
 obtain⟨tv,RT,pn,pt,ps,h⟩:=h;have h1:=aq.tQ hs h.sp
 exact⟨tv,RT,pn,pt,ps,h1.fm (by
  simp only[db]
  exact(((dY (l₁:=ps) (l₂:=[q])).cons _).cons _).cons _),h.vN,h.t,h.te,h.ta,h.s,h.n,h.ok⟩
theorem cN.cl(h:cN mm q ca na C tv RT pn pt ps):∃p',aq mm [p',q]/\apP p' q ca na C:=by
 have h1:aq mm ((blk1 ca (qq C.c C.w na C.S tv)::pn::pt::ps)++[q]):=h.sp.fm (by
  simp only[db]
  exact(((dY (l₁:=[q]) (l₂:=ps)).cons _).cons _).cons _)
 obtain⟨h2,h3⟩:=aq.k9 _ h1;exact⟨_,h2,tv,RT,pn,pt,ps,h3,h.vN,h.t,h.te,h.ta,h.s,h.n,h.ok⟩
theorem cN.l{q0:aD}(h:cN mm q ca na C tv RT pn pt ps)(hq:cL q0 q):apT mm q0 ca na C:=by
 obtain⟨p',h1,h2⟩:=h.cl;exact⟨p',q,h1,hq,h2⟩
theorem cN.o(h:cN mm q ca na C tv RT pn pt ps):mm ca=some (qq C.c C.w na C.S tv):=h.sp.get (a:=blk1 ca (qq C.c C.w na C.S tv)) (by simp) (aG ..)
theorem cN.gM(h:cN mm q ca na C tv RT pn pt ps):cL q mm:=h.sp.sub (by simp)
theorem cN.grow{m':aD}(h:cN mm q ca na C tv RT pn pt ps)(hs:cL mm m'):cN m' q ca na C tv RT pn pt ps:=⟨h.sp.grow hs,h.vN,h.t,h.te,h.ta,h.s,h.n,h.ok⟩
theorem amu{q':aD}(h:∀r∈RT,Ia q (.slice r.2.2.1 r.2.1.l.length r.2.2.2) r.2.1.l)(hs:cL q q'):∀r∈RT,Ia q' (.slice r.2.2.1 r.2.1.l.length r.2.2.2) r.2.1.l:=λr hr=>(h r hr).sub hs
theorem cN.xn{m' x:aD}(h:cN mm q ca na C tv RT pn pt ps)(hs:aq m' [x,mm]):∃q',cL q q'/\cL x q'/\cN m' q' ca na C tv RT pn pt ps:=by
 have h1:aq m' (x::blk1 ca (qq C.c C.w na C.S tv)::pn::pt::q::ps):=aq.jN (a:=[x]) hs h.sp;have h2:aq m' (x::q::blk1 ca (qq C.c C.w na C.S tv)::pn::pt::ps):=h1.fm (List.Perm.cons _ (ks (l₁:=[blk1 ca (qq C.c C.w na C.S tv),pn,pt]) (l₂:=ps)));obtain⟨q',ha,hb,h3⟩:=aq.sK h2;exact⟨q',hb,ha,h3.fm (ks (l₁:=[blk1 ca (qq C.c C.w na C.S tv),pn,pt]) (l₂:=ps)).symm,h.vN,h.t,h.te,amu h.ta hb,N0 h.s hb,h.n,h.ok⟩
theorem cN.node{s:eT}(h:cN mm q ca na C tv RT pn pt ps)(hi:C.S[i]?=some s):∃pi j,M2 q C.qt pi s/\aq j [pi,q]/\aq mm (j::blk1 ca (qq C.c C.w na C.S tv)::pn::pt::ps.eraseIdx i)/\ps[i]?=some pi:=by
 obtain⟨h1,rfl⟩:=aQ.1 hi;have hl:=h.s.len;have h2:i<ps.length:=by omega
 have h3:ps[i]?=some ps[i]:=az h2;have h4:=h.sp.pick (i:=i+4) (a:=ps[i]) (by simp);have h5:aq mm (ps[i]::q::blk1 ca (qq C.c C.w na C.S tv)::pn::pt::ps.eraseIdx i):=h4.fm (List.Perm.cons _ (ks (l₁:=[blk1 ca (qq C.c C.w na C.S tv),pn,pt]) (l₂:=ps.eraseIdx i)));obtain⟨j,h6,h7⟩:=aq.ad9 (k:=[ps[i],q]) h5;exact⟨ps[i],j,h.s.get h2 h1,h6,h7,h3⟩
theorem RC{f:eT->Value}{S:List eT}{s s':eT}(hi:S[i]?=some s) (hf:f s'=f s):(λk:Nat=>((S.set i s')[k]?.map f).getD (.pointer none))= λk:Nat=>(S[k]?.map f).getD (.pointer none):=by
 funext k
 by_cases hk:i=k
 ·subst hk
  rw[y1 (aQ.1 hi).1,hi];simp[hf]
 ·rw[LK hk]
theorem cN.oF{m' j' q' pi pi':aD}{s s':eT}(h:cN mm q ca na C tv RT pn pt ps)(hi:C.S[i]?=some s) (hp:ps[i]?=some pi) (hs:aq m' (j'::blk1 ca (qq C.c C.w na C.S tv)::pn::pt::ps.eraseIdx i)) (hj:aq j' [pi',q']) (hq:cL q q') (qW:M2 q' C.qt pi' s') (hf:s'.fv=s.fv) (hn:s'.nv=s.nv):cN m' q' ca na {C with S:=C.S.set i s'} tv RT pn pt (ps.set i pi'):=by
 have h1:aq m' (pi'::q'::blk1 ca (qq C.c C.w na C.S tv)::pn::pt::ps.eraseIdx i):=aq.tQ hs hj;have h2:aq m' (pi'::blk1 ca (qq C.c C.w na C.S tv)::pn::pt::q'::ps.eraseIdx i):=h1.fm (List.Perm.cons _ (ks (l₁:=[blk1 ca (qq C.c C.w na C.S tv),pn,pt]) (l₂:=ps.eraseIdx i)).symm);have h3:aq m' (blk1 ca (qq C.c C.w na C.S tv)::pn::pt::q'::ps.set i pi'):=aq.Gb (l:=blk1 ca (qq C.c C.w na C.S tv)::pn::pt::q'::ps) (i:=i+4) (p:=pi) (by simpa using hp) h2;have e1:fvs (C.S.set i s')=fvs C.S:=RC hi hf;have e2:nvs (C.S.set i s')=nvs C.S:=RC hi hn;refine⟨?_,h.vN,h.t,h.te,amu h.ta hq,(N0 h.s hq).set qW,by rw[fc];exact h.n,h.ok⟩
 show aq m' (blk1 ca (LA C.c C.w _ (fvs (C.S.set i s')) (nvs (C.S.set i s')) tv)::_)
 rw[e1,e2];exact h3
end
abbrev asS(c:Rc)(w:Bk)(vN:Value)(f n:Nat->Value)(tv:Value):Array Value:=#[.int .i64 c.jv,.int .i64 c.AO,.int .i64 c.xm,.int .i64 w.gM,.int .i64 w.cap,.int .i64 w.dG,.int .i64 w.gI,vN,f 0,f 1,f 2,f 3,f 4,f 5,f 6,f 7,n 0,n 1,n 2,n 3,n 4,n 5,n 6,n 7,tv]
theorem arS{vN tv u:Value}{f n:Nat->Value}{i:Nat}(hi:i<8):(asS c w vN f n tv).setIfInBounds (8+i) u=asS c w vN (λj=>if j=i then u else f j) n tv:=by
 match i,hi with
 |0,_=>rfl
 |1,_=>rfl
 |2,_=>rfl
 |3,_=>rfl
 |4,_=>rfl
 |5,_=>rfl
 |6,_=>rfl
 |7,_=>rfl
theorem aia{vN tv u:Value}{f n:Nat->Value}{i:Nat}(hi:i<8):(asS c w vN f n tv).setIfInBounds (16+i) u=asS c w vN f (λj=>if j=i then u else n j) tv:=by
 match i,hi with
 |0,_=>rfl
 |1,_=>rfl
 |2,_=>rfl
 |3,_=>rfl
 |4,_=>rfl
 |5,_=>rfl
 |6,_=>rfl
 |7,_=>rfl
structure KB(mm:aD)(ca na:Nat)(c:Rc)(w:Bk)(S:List eT)(tv:Value):Prop where
 b:mm ca=some (qq c w na S tv)
 n:S.length=c.jv.toNat
 ok:c.ok=true
section
variable {mm:aD}{ca na i:Nat}{c:Rc}{w:Bk}{S:List eT}{tv:Value}{n:Int}{X:Jg}{N:fw}
theorem KB.le(h:KB mm ca na c w S tv):1<=c.jv/\c.jv<=8:=(Rc.lj.1 h.ok).1
theorem KB.lt(h:KB mm ca na c w S tv){s:eT}(hi:S[i]?=some s):i<8/\((i:Int)+1<=c.jv):=by
 have h1:=(aQ.1 hi).1;have h2:=h.le;have h3:=h.n;omega
theorem azp{c:Rc}{w:Bk}{vN tv:Value}{f n:Nat->Value}{i:Nat}(hi:i<8):(#[.int .i64 c.jv,.int .i64 c.AO,.int .i64 c.xm,.int .i64 w.gM,.int .i64 w.cap,.int .i64 w.dG,.int .i64 w.gI,vN,f 0,f 1,f 2,f 3,f 4,f 5,f 6,f 7,n 0,n 1,n 2,n 3,n 4,n 5,n 6,n 7,tv]:Array Value)[16+i]?=some (n i):=by
 match i,hi with
 |0,_=>rfl
 |1,_=>rfl
 |2,_=>rfl
 |3,_=>rfl
 |4,_=>rfl
 |5,_=>rfl
 |6,_=>rfl
 |7,_=>rfl
theorem avu{c:Rc}{w:Bk}{vN tv:Value}{f n:Nat->Value}{i:Nat}(hi:i<8):(#[.int .i64 c.jv,.int .i64 c.AO,.int .i64 c.xm,.int .i64 w.gM,.int .i64 w.cap,.int .i64 w.dG,.int .i64 w.gI,vN,f 0,f 1,f 2,f 3,f 4,f 5,f 6,f 7,n 0,n 1,n 2,n 3,n 4,n 5,n 6,n 7,tv]:Array Value)[8+i]?=some (f i):=by
 match i,hi with
 |0,_=>rfl
 |1,_=>rfl
 |2,_=>rfl
 |3,_=>rfl
 |4,_=>rfl
 |5,_=>rfl
 |6,_=>rfl
 |7,_=>rfl
theorem ams{ca:Nat}{mm:aD}{c:Rc}{w:Bk}{vN tv:Value}{f n:Nat->Value}(h:mm ca=some (LA c w vN f n tv)):dQ mm ca 0 (LB.cz (Sq c w)):=
 ⟨_,_,_,h,λj u hu=>by
  rw[cD]
  match j,hu with
  |0,hu=>exact hu
  |1,hu=>exact hu
  |2,hu=>exact hu
  |3,hu=>exact hu
  |4,hu=>exact hu
  |5,hu=>exact hu
  |6,hu=>exact hu
  |j+7,hu=>simp[LB.cz,eB.cells]at hu⟩
theorem avD{s:eT}(h:S[i]?=some s):nvs S i=s.nv:=by rw[nvs,h];rfl
theorem arO{s:eT}(h:S[i]?=some s):fvs S i=s.fv:=by rw[fvs,h];rfl
theorem ct(h:KB mm ca na c w S tv):eN tP 33 [cx ca] mm [bR true]:=by
 refine ap Tryz.func33 ?_;conv=>whnf
 refine xY ?_;conv=>whnf
 refine xM h.b ?_;conv=>whnf
 exact rR
theorem afH(h:KB mm ca na c w S tv):eN tP 37 [cx ca,i64 n] mm [bR (decide (1<=n)&&decide (n<=c.jv))]:=by
 refine ap Tryz.func37 ?_;conv=>whnf
 first|refine fU (ct h) ?_ |refine bt (ct h) ?_
 conv=>whnf
 refine xY ?_;conv=>whnf
 apply bI<;>intro h1
 ·refine xM h.b ?_
  conv=>whnf
  have h1:decide (1<=n)=true:=h1;rw[h1];exact rR
 ·have h1:decide (1<=n)=false:=h1
  rw[h1];exact rR
theorem ry(h:KB mm ca na c w S tv){s:eT}(hi:S[i]?=some s):eN tP 37 [cx ca,i64 ((i:Int)+1)] mm [bR true]:=by
 have h1:=h.lt hi;have h2:=afH (n:=(i:Int)+1) h;rw[bB (by omega),bB h1.2]at h2;exact h2
theorem N4(h:KB mm ca na c w S tv)(hn:n<1\/c.jv<n):eN tP 37 [cx ca,i64 n] mm [bR false]:=by
 have h2:=afH (n:=n) h;rw[show(decide (1<=n)&&decide (n<=c.jv))=false by simp;omega]at h2;exact h2
theorem aN(h:KB mm ca na c w S tv){s:eT}(hi:S[i]?=some s):eN tP 15 [cx ca,i64 ((i:Int)+1)] mm [.v s.nv]:=by
 have h8:=(h.lt hi).1;refine ap Tryz.func15 ?_;conv=>whnf
 first|refine fU (ry h hi) ?_ |refine bt (ry h hi) ?_
 conv=>whnf
 refine xN ?_;conv=>whnf
 have e:IntKind.i64.wrap ((i:Int)+1-1)=(i:Int):=by rw[wi];omega
 rw[e]
 repeat (refine xS ?_;conv=>whnf)
 have hc:gR mm ca (16+i)=some s.nv:=aF h.b (by rw[<-avD hi];exact azp h8);refine⟨s.nv,by simp only[bK,aA,cD];exact hc,by cases s<;>rfl,?_⟩;conv=>whnf
 exact rR
theorem y9(h:KB mm ca na c w S tv)(hn:n<1\/c.jv<n):eN tP 15 [cx ca,i64 n] mm [.v (.pointer none)]:=by
 refine ap Tryz.func15 ?_;conv=>whnf
 first|refine fU (N4 h hn) ?_ |refine bt (N4 h hn) ?_
 conv=>whnf
 refine xY ?_;conv=>whnf
 exact rR
theorem N6(h:KB mm ca na c w S tv)(hi:S[i]?=some (.up X N)):eN tP 29 [cx ca,i64 ((i:Int)+1)] mm [i64 0]:=by
 refine ap Tryz.func29 ?_;conv=>whnf
 first|refine fU (ct h) ?_ |refine bt (ct h) ?_
 conv=>whnf
 refine xN ?_;conv=>whnf
 first|refine fU (ry h hi) ?_ |refine bt (ry h hi) ?_
 conv=>whnf
 refine xN ?_;conv=>whnf
 first|refine fU (aN h hi) ?_ |refine bt (aN h hi) ?_
 conv=>whnf
 refine xN ?_;conv=>whnf
 exact rR
theorem anX(h:KB mm ca na c w S tv)(hn:n<1\/c.jv<n):eN tP 29 [cx ca,i64 n] mm [i64 11]:=by
 refine ap Tryz.func29 ?_;conv=>whnf
 first|refine fU (ct h) ?_ |refine bt (ct h) ?_
 conv=>whnf
 refine xN ?_;conv=>whnf
 first|refine fU (N4 h hn) ?_ |refine bt (N4 h hn) ?_
 conv=>whnf
 refine xY ?_;conv=>whnf
 exact rR
theorem oo(h:KB mm ca na c w S tv):eN tP 18 [cx ca] mm [.a (Sq c w)]:=by
 refine ap Tryz.func18 ?_;conv=>whnf
 refine xN ?_;conv=>whnf
 refine⟨Sq c w,⟨rfl,rfl,rfl,rfl,rfl,rfl,rfl,trivial⟩,rfl,ams h.b,?_⟩;conv=>whnf
 exact rR
theorem ajt(h:KB mm ca na c w S tv):eN tP 14 [cx ca] mm [cx na]:=by
 refine ap Tryz.func14 ?_;conv=>whnf
 refine xN ?_;conv=>whnf
 refine xM h.b ?_;conv=>whnf
 exact rR
end
section
variable {mm q pn pt:aD}{ca na i:Nat}{C:NN}{tv:Value}{RT:List Rtd}{ps:List aD}{n:Int}{X:Jg}{N:fw}
theorem cN.kb(h:cN mm q ca na C tv RT pn pt ps):KB mm ca na C.c C.w C.S tv:=⟨h.o,h.n,h.ok⟩
theorem cN.one(h:cN mm q ca na C tv RT pn pt ps):tv.oneCell'=true:=h.t.ea.one
def upB(s:eT):Bool:=match s with
 | .up _ _=>true
 | .down _ _ _ _=>false
def upN(S:List eT):Nat:=(S.filter upB).length
theorem aqk{S:List eT}{s:eT}(h:S[i]?=some s):upN (S.take (i+1))=upN (S.take i)+(if upB s then 1 else 0):=by
 obtain⟨h1,rfl⟩:=aQ.1 h;unfold upN;rw[au h1,aaB,ax,List.filter_cons,List.filter_nil]
 split<;>rfl
theorem alT{S:List eT}{c:Rc}{w:Bk}(h:KB mm ca na c w S tv):bi tP 16 [cx ca] mm λr m'=>∃v l p,r=[.v v]/\aq m' [p,mm]/\Io p v l/\l.length=upN S:=by
 have h8:=h.le;have hn:=h.n;refine ap Tryz.func16 ?_;conv=>whnf
 refine .mk (ι:=Nat×Value) (λi=>8-i.1) (λ⟨i,v⟩ m'=>i<=8/\∃p l,aq m' [p,mm]/\Io p v l/\l.length=upN (S.take i)) (λ⟨i,v⟩=>[(0,.c (cx ca)),(3,.c (.v v)),(5,.c (i64 i))]) (λ_=>[]) (0,.slice none 0 0) ⟨by omega,iI,[],(aq.one mm).cA,Io.nil _,by simp[upN]⟩ ?_ ?_
 ·conv=>whnf
  exact Ra
 rintro⟨i,v⟩ m2 ⟨hi,p,l,hs,hv,hl⟩;have hle:upN (S.take i)<=8:=bq (bC _ _) (by rw[aK];omega);conv=>whnf
 apply bI<;>intro h1
 ·have h1:=ah h1
  have hk:KB m2 ca na c w S tv:=⟨hs.sub (a:=mm) (by simp) _ _ h.b,h.n,h.ok⟩;have e:IntKind.i64.wrap ((i:Int)+1)=(i:Int)+1:=wi;conv=>whnf
  rw[e];by_cases bH:i<S.length
  ·have qW:S[i]?=some S[i]:=az bH
   have Ac:=aqk qW
   first|refine fU (aN hk qW) ?_ |refine bt (aN hk qW) ?_
   conv=>whnf
   cases W9:S[i]with
   |up X N=>
    rw[W9]at Ac;refine xY ?_;conv=>whnf
    rw[e];refine .mk _ (qa) ?_;rintro _ _⟨b5,mo,rfl,rfl⟩;conv=>whnf
    refine .mk _ (Es hs mo hv (by omega)) ?_;rintro _ m3⟨y',p',rfl,bZ,tZ⟩;conv=>whnf
    refine⟨(i+1,y'),⟨by omega,p',_,bZ,tZ,by rw[Ac,ax,hl];rfl⟩,by simp only;omega,?_⟩;conv=>whnf
    exact Ra
   |down bf nb ns A=>
    rw[W9]at Ac;refine xN ?_;conv=>whnf
    refine⟨(i+1,v),⟨by omega,p,l,hs,hv,by rw[Ac,hl];rfl⟩,by simp only;omega,?_⟩;conv=>whnf
    exact Ra
  ·first|refine fU (y9 (n:=(i:Int)+1) hk (by omega)) ?_ |refine bt (y9 (n:=(i:Int)+1) hk (by omega)) ?_
   conv=>whnf
   refine xN ?_;conv=>whnf
   refine⟨(i+1,v),⟨by omega,p,l,hs,hv,by rw[hl,bP (by omega),bP (by omega)]⟩,by simp only;omega,?_⟩;conv=>whnf
   exact Ra
 ·have h1:=aj h1
  conv=>whnf
  exact⟨v,l,p,rfl,hs,hv,by rw[hl,bP (by omega)]⟩
theorem alt{m:aD}{v:Value}{E:List Rtd}(hv:Ga akw m v E)(hl:E.length<=10000000):bi tP 38 [.v v] m λr m'=>∃v' p,r=[.v v']/\aq m' [p,m]/\Gw akw p v' E:=by
 obtain⟨a,c,rfl⟩:=hv.shape;refine ap Tryz.func38 ?_;conv=>whnf
 cases a with
 |none=>
  obtain rfl:=hv.none;refine xY ?_;conv=>whnf
  exact⟨_,iI,rfl,(aq.one m).cA,Gw.nil _⟩
 |some a=>
  refine xN ?_;conv=>whnf
  refine .mk _ (an1 hv) ?_;rintro _ _⟨b,hb,rfl,rfl⟩;conv=>whnf
  refine .mk _ (an2 hv hb hl) ?_;rintro _ m'⟨v',p,rfl,hs,pY⟩;conv=>whnf
  exact⟨v',p,rfl,hs,pY⟩
theorem anM(hC:cN mm q ca na C tv RT pn pt ps)(hl:RT.length<=1000000)(hll:∀r∈RT,r.2.1.l.length<=1000000):
  bi tP 17 [cx ca] mm λr m'=>∃v p R',r=[.v v]/\aq m' [p,mm]/\Gw akw p v R'/\R'.map (λr=>(r.1,r.2.1))=C.Yj:=by
 have hRl:RT.length=C.Yj.length:=by rw[<-hC.te,aH]
 refine ap Tryz.func17 ?_;conv=>whnf
 refine xN ?_;conv=>whnf
 refine⟨_,aF hC.o rfl,hC.one,?_⟩;conv=>whnf
 refine aP (alt (hC.t.el.ea.sub (hC.sp.sub)) (by omega)) ?_;rintro _ m1⟨v1,p1,rfl,bM,lZ⟩;conv=>whnf
 obtain⟨av,cv,rfl⟩:=lZ.el.shape;refine .mk (ι:=Nat) (λi=>RT.length-i) (λi m'=>i<=RT.length/\∃p1 q1 Ri,aq m' [p1,q1]/\cL mm q1/\Gw akw p1 (.slice av RT.length cv) Ri/\Ri.map (λr=>(r.1,r.2.1))=C.Yj/\∀r∈Ri,Ia q1 (.slice r.2.2.1 r.2.1.l.length r.2.2.2) r.2.1.l/\r.2.1.l.length<=1000000) (λi=>[(3,.c (.v (.slice av RT.length cv))),(13,.c (i64 RT.length)),(14,.c (i64 i))]) (λ_=>[]) 0 ⟨by omega,p1,mm,RT,bM,cL.refl _,lZ,hC.te,λr hr=>⟨(hC.ta r hr).sub hC.gM,hll r hr⟩⟩ ?_ ?_
 ·conv=>whnf
  exact Ra
 rintro i m2⟨hi,p2,q2,Ri,bZ,rO,hy,hye,hya⟩;have HP:Ri.length=RT.length:=by rw[hRl,<-hye,aH]
 conv=>whnf
 apply bI<;>intro h
 ·have h':=ah h
  have bH:i<RT.length:=by omega
  have DP:i<Ri.length:=by omega
  obtain⟨bl,ol,c2,hh,hg⟩:=hy.el.ea.real DP;injection hh with eK _ fN;subst eK;have hg:=hg i DP;have hx:=hya Ri[i] (aO DP);have oY:=λx u hj hx=>amp.setCell (u:=u) (x:=x) hy DP (j:=3) hj hx;have hid:(Ri.set i Ri[i])=Ri:=vG _
  have hmp:∀r:Rtd,(r.1,r.2.1)=(Ri[i].1,Ri[i].2.1)->(Ri.set i r).map (λr=>(r.1,r.2.1))=C.Yj:=λr h=>by
   rw[<-hye,Ap,h];have:=be (List.map (λr:Rtd=>(r.1,r.2.1))) hid;rw[Ap]at this;exact this
  generalize hr:Ri[i]=r at*;obtain⟨nd,x,s⟩:=r;conv=>whnf
  repeat (refine xS ?_;conv=>whnf)
  have hc5:gR m2 bl (ol+i*4+3)=some (.slice s.1 x.l.length s.2):=by
   obtain⟨arr,t,fr,q1,q2⟩:=hg.sub (bZ.sub (a:=p2));exact aF q1 (q2 3 _ rfl)
  refine xL (hc5) ?_;conv=>whnf
  refine aP (ud (hx.1.sub (bZ.sub (a:=q2))) (bq hx.2 (by decide))) ?_;rintro _ m3⟨v3,p3,rfl,dy,UZ⟩;conv=>whnf
  have dy:aq m3 [p3,p2,q2]:=aq.jN (a:=[p3]) dy bZ;obtain⟨a3,c3,rfl⟩:=UZ.il.ia.shape;obtain⟨arr,g1,g2,g3⟩:=oY (nd,x,(a3,c3)) (.slice a3 x.l.length c3) (by omega) rfl;obtain⟨q4,ha,hb,eP⟩:=aq.sK (dy.ir [0,2,1]);have eD:aq m3 [p2,q4]:=eP.ir [1,0]
  repeat (refine xS ?_;conv=>whnf)
  refine⟨_,_,_,eD.sub (a:=p2) (by simp) _ _ g1,⟨by simp only[bK,aA];exact g2,by simp⟩,?_⟩;simp only[bK,aA];conv=>whnf
  refine⟨i+1,⟨by omega,_,q4,_,eD.set g1 (.cells (arr.setIfInBounds (ol+i*4+3) (.slice a3 x.l.length c3)) 95),rO.trans hb,g3,hmp _ rfl,λr hr=>?_⟩,by omega,?_⟩
  ·rcases fa hr with hr|rfl
   ·exact⟨(hya r hr).1.sub hb,(hya r hr).2⟩
   ·exact⟨UZ.il.ia.sub ha,hx.2⟩
  ·conv=>whnf
   exact Ra
 ·have h':=aj h
  conv=>whnf
  exact⟨_,p2,Ri,rfl,aq.lB bZ rO,hy,hye⟩
structure aDX(m' q:aD)(ca na:Nat)(C:NN)(y:XL)(r:List CV):Prop where
 ex:∃p' q' ea ec la lc,r=[.a (agk y ea ec la lc)]/\aq m' [p',q']/\cL q q'/\apP p' q' ca na C/\Ga abm q' (.slice la y.ln.length lc) y.ln
def NN.at(C:NN)(i:Nat)(s:eT):NN:={C with S:=C.S.set i s}
theorem alW{D:fw->XL->Prop}{x:vF}{s:iS}(hC:cN mm q ca na C tv RT pn pt ps)(hi:C.S[i]?=some (.up X N)) (hx:x.kind≠5) (h32:x.AB.jI.length=32)
  (hD:∀{j pi:aD},aq j [pi,q]->y0 pi q X C.qt N->bi tP 35 [cx X.a,JD x s] j λr m'=>∃N' y,D N' y/\NdR m' q X C.qt N' y r):
  bi tP 13 [cx ca,i64 ((i:Int)+1),JD x s] mm λr m'=>∃N' y,D N' y/\aDX m' q ca na (C.at i (.up X N')) y r:=by
 obtain⟨pi,j,h1,h2,h3,h4⟩:=hC.node hi;refine c7 c13 Tryz.func13 ?_;conv=>whnf
 first|refine fU (N6 hC.kb hi) ?_ |refine bt (N6 hC.kb hi) ?_
 conv=>whnf
 refine xN ?_;conv=>whnf
 refine⟨λh=>absurd h (by(simpa using hx)),λ_=>?_⟩;conv=>whnf
 first|refine fU (aN hC.kb hi) ?_ |refine bt (aN hC.kb hi) ?_
 conv=>whnf
 refine aP (bi.frame h3 (hD h2 h1)) ?_;rintro _ m'⟨j',⟨N',y,hd,hr⟩,hs⟩;conv=>whnf
 obtain⟨p',q',ea,ec,la,lc,rfl,g1,g2,g3,g4⟩:=hr.ex;conv=>whnf
 have hB:=hC.oF hi h4 hs g1 g2 (s':=.up X N') g3 rfl rfl;obtain⟨p5,k1,k2⟩:=hB.cl;exact⟨N',y,hd,p5,q',ea,ec,la,lc,rfl,k1,g2,k2,g4⟩
end
end Go.E.Y
