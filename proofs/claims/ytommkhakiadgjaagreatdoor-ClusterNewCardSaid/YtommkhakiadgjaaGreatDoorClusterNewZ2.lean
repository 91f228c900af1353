import Derived.Test.YtommkhakiadgjaaGreatDoorClusterNewZ1
import Derived.Laws.CopyRow
import Derived.Lib.AppendZerosOnto
import Derived.Lib.ConvBytes
import Derived.Laws.LoneSync
import Derived.Lib.Overlaps
import Derived.Test.YtommkhakiadgjaaGreatDoorProg
import Derived.MapKept
import Derived.Laws.StructEq
import Derived.Laws.NewFold
import Derived.Sort.Walk0
set_option maxHeartbeats 40000000
set_option maxRecDepth 100000
set_option linter.unusedVariables false
noncomputable section
namespace Go.E
abbrev Fl:=List (Nat×SV)
abbrev KY:=Fl->mM->aD->List Nat->Prop
abbrev iA(fl:Fl)(L:mM)(m:aD)(x:List Nat):St:=⟨rm fl,L,m,x⟩
def fSV(y:SV)(K:SV->Prop):Prop:=
 match y with
 | .c x=>K (.c x)
 | .t l=>K (.t l)
 | .p h o=>K (.p h o)
 | .q h o d=>K (.q h o d)
 | .sl h o d n c=>K (.sl h o d n c)
 | .tt=>K .tt
 | .ff=>K .ff
 | .un=>K .un
 | .any=>K .any
variable{y:SV}
theorem Cj{K:SV->Prop}(h:fSV y K):K y:=by cases y<;>exact h
def L8{α:Type}:List α->(List α->Prop)->Prop
 |[],K=>K []
 |a::r,K=>L8 r λr'=>K (a::r')
theorem sO{α:Type}:∀{l:List α}{K:List α->Prop},L8 l K->K l
 |[],_,h=>h
 |a::r,K,h=>sO (l:=r) (K:=λr'=>K (a::r')) h
def fFl:Fl->(Fl->Prop)->Prop
 |[],K=>K []
 |(j,y)::r,K=>fSV y λy=>fFl r λr'=>K ((j,y)::r')
theorem yJ:∀{l:Fl}{K:Fl->Prop},fFl l K->K l
 |[],_,h=>h
 |(j,y)::r,K,h=>yJ (l:=r) (K:=λr'=>K ((j,y)::r')) (Cj h)
def GV(d:Option Nat)(y:SV)(fl:Fl)(K:Fl->Prop):Prop:=
 match d with
 |none=>K fl
 |some d=>K ((d,y)::fl)
theorem vi(fl:Fl)(d:Nat)(y:SV):rm ((d,y)::fl)=fO (rm fl) (some d) y:=funext λ_=>rfl
variable{fl:Fl}
theorem KU{d:Option Nat}{K:Fl->Prop}(h:GV d y fl K):∃xv,K xv/\rm xv=fO (rm fl) d y:=by
 cases d with
 |none=>exact⟨fl,h,rfl⟩
 |some d=>exact⟨_,h,vi ..⟩
def al3(T:lz)(L:mM)(m:aD)(t:TypeId)(x:SV)(K:SV->List Nat->Prop):Prop:=
 match T t with
 |none=>False
 |some i=>match x with
  | .p h off=>match zo L h with
   |none=>False
   |some (_,c)=>match i.k.agg with
    |true=>match LB.sub c off i.size with
     |some d=>K (.c (.a d)) []
     |none=>False
    |false=>match LB.get c off with
     |some y=>K (.c (.v y)) []
     |none=>False
  | .q h off d=>match zo L h with
   |none=>False
   |some (_,c)=>match i.k.agg with
    |true=>LB.Ak c off d i.size λe=>K (.c (.a e)) []
    |false=>LB.Am c off d λy=>K (.c (.v y)) []
  | .c (.v (.pointer (some ⟨b,off,none⟩)))=>match i.k.agg with
   |true=>∃c:LB,LB.ok c/\LB.size c=i.size/\dQ m b off (LB.cz c)/\K (.c (.a c)) [b]
   |false=>∃y,gR m b off=some y/\(y.oneCell'=true)/\K (.c (.v y)) [b]
  |_=>False
def ajK(T:lz)(fl:Fl)(L:mM)(m:aD)(x:List Nat)(op:Op)(K:SV->List Nat->Prop):Prop:=
 match op with
 | .load t xo=>al3 T L m t (ev (iA fl L m x) xo) K
 | .convert src dst xo=>match rj T src dst with
  |true=>ael L m (ev (iA fl L m x) xo) K
  |false=>Ij T src dst (ev (iA fl L m x) xo) λz=>K z []
 |op=>Rw T (iA fl L m x) op K
theorem ad7(T:lz)(fl:Fl)(L:mM)(m:aD)(x:List Nat)(op:Op)(K:SV->List Nat->Prop):ajK T fl L m x op K=Rw T (iA fl L m x) op K:=by
 cases op<;>rfl
def Np(T:lz)(L:mM)(m:aD)(t:TypeId)(x y:SV)(K:mM->aD->Prop):Prop:=
 match T t with
 |none=>False
 |some i=>match x with
  | .p h off=>match zo L h with
   |none=>False
   |some (t',c)=>match y with
    | .c (.v z)=>bif Nat.beq i.size 1 then(match LB.set c off z with|some d=>K (L.set h (t',d)) m|none=>False)else False
    | .tt=>bif Nat.beq i.size 1 then(match LB.set c off (.bool true)with|some d=>K (L.set h (t',d)) m|none=>False)else False
    | .ff=>bif Nat.beq i.size 1 then(match LB.set c off (.bool false)with|some d=>K (L.set h (t',d)) m|none=>False)else False
    | .c (.a v)=>bif Nat.beq i.size (LB.size v)then(match LB.YS c off v with|some d=>K (L.set h (t',d)) m|none=>False)else False
    |_=>False
  | .q h off e=>match zo L h with
   |none=>False
   |some (t',c)=>match y with
    | .c (.v z)=>bif Nat.beq i.size 1 then LB.vu c off e z (λd=>K (L.set h (t',d)) m)else False
    | .tt=>bif Nat.beq i.size 1 then LB.vu c off e (.bool true) (λd=>K (L.set h (t',d)) m)else False
    | .ff=>bif Nat.beq i.size 1 then LB.vu c off e (.bool false) (λd=>K (L.set h (t',d)) m)else False
    | .c (.a v)=>bif Nat.beq i.size (LB.size v)then LB.Bq c off e v (λd=>K (L.set h (t',d)) m)else False
    |_=>False
  | .c (.v (.pointer (some ⟨b,off,none⟩)))=>match y with
   | .c (.v z)=>bif Nat.beq i.size 1 then(∃arr t' fr,m b=some (.cells arr t' fr)/\(off<arr.size/\¬(fr.1<=off/\off<fr.2))/\K L (m.set b (.cells (arr.setIfInBounds off z) t' fr)))else False
   | .tt=>bif Nat.beq i.size 1 then(∃arr t' fr,m b=some (.cells arr t' fr)/\(off<arr.size/\¬(fr.1<=off/\off<fr.2))/\K L (m.set b (.cells (arr.setIfInBounds off (.bool true)) t' fr)))else False
   | .ff=>bif Nat.beq i.size 1 then(∃arr t' fr,m b=some (.cells arr t' fr)/\(off<arr.size/\¬(fr.1<=off/\off<fr.2))/\K L (m.set b (.cells (arr.setIfInBounds off (.bool false)) t' fr)))else False
   | .c (.a v)=>bif Nat.beq i.size (LB.size v)then(∃arr t' fr,m b=some (.cells arr t' fr)/\(off+LB.size v<=arr.size/\∀j,j<LB.size v->¬(fr.1<=off+j/\off+j<fr.2))/\K L (m.set b (.cells (arr.toList.take off++(LB.cz v++arr.toList.drop (off+LB.size v))).toArray t' fr)))else False
   |_=>False
  |_=>False
def Qo(L:mM)(m:aD)(x:List Nat)(t:TypeId)(c:LB)(ext:Bool)(K:SV->mM->aD->List Nat->Prop):Prop:=
 match ext with
 |false=>K (.p L.length 0) (L++[(t,c)]) m x
 |true=>∀b,m b=none->K (.c (.v (.pointer (some ⟨b,0,none⟩)))) L (m.set b (.cells (LB.cz c).toArray t)) x
def ajc(P:Program)(T:lz)(fl:Fl)(L:mM)(m:aD)(x:List Nat)(op:Op)(ext:Bool)(cR:Kp)(K:SV->mM->aD->List Nat->Prop):Prop:=
 match op with
 | .alloc t=>match T t with
  |some i=>Qo L m x t i.zero ext K
  |none=>False
 | .box t y=>match ev (iA fl L m x) y with
  | .c (.a c)=>Qo L m x t c ext K
  | .c (.v z)=>Qo L m x t [.one z] ext K
  | .tt=>Qo L m x t [.one (.bool true)] ext K
  | .ff=>Qo L m x t [.one (.bool false)] ext K
  |_=>False
 | .store t xo y=>match cR with
  | .all=>False
  | .none=>Np T L m t (ev (iA fl L m x) xo) (ev (iA fl L m x) y) λL m=>K .un L m []
  | .xa h=>bif sV h (ev (iA fl L m x) xo)then Np T L m t (ev (iA fl L m x) xo) (ev (iA fl L m x) y) (λL m=>K .un L m x)else False
  | .new n=>bif pu n (ev (iA fl L m x) xo)then Np T L m t (ev (iA fl L m x) xo) (ev (iA fl L m x) y) (λL m=>K .un L m x)else False
 | .call ⟨.value (.func f),args,_⟩=>match jQ (args.toList.map (ev (iA fl L m x)))with
  |Option.none=>False
  |some cs=>match cR with
   | .all=>nR P f cs m λr m'=>N8 x m m'/\K (lS r) L m' x
   | .none=>nR P f cs m λr m'=>K (lS r) L m' []
   | .xa _=>False
   | .new _=>False
 | .call ⟨.value (.tmp t),args,_⟩=>match rm fl t with
  | .c (.v (.func (.func f) first captured))=>bif sY first.toList&&sY captured.toList then(match jQ (args.toList.map (ev (iA fl L m x)))with
   |Option.none=>False
   |some cs=>match cR with
    | .all=>nR P f (first.toList.map CV.v++cs++captured.toList.map CV.v) m λr m'=>N8 x m m'/\K (lS r) L m' x
    | .none=>nR P f (first.toList.map CV.v++cs++captured.toList.map CV.v) m λr m'=>K (lS r) L m' []
    | .xa _=>False
    | .new _=>False)else False
  |_=>False
 |op=>match Dk op with
  |Option.none=>False
  |some (p,xs)=>match jQ (xs.map (ev (iA fl L m x)))with
   |Option.none=>False
   |some cs=>match cR with
    | .all=>CM P p cs m λr m'=>N8 x m m'/\K (Di p r) L m' x
    | .none=>CM P p cs m λr m'=>K (Di p r) L m' []
    | .xa _=>False
    | .new _=>False
theorem acA(P:Program)(T:lz)(fl:Fl)(L:mM)(m:aD)(x:List Nat)(op:Op)(ext:Bool)(cR:Kp)(K:SV->mM->aD->List Nat->Prop):
  ajc P T fl L m x op ext cR K=Qe P T (iA fl L m x) op ext cR K:=by
 cases op<;>rfl
variable{op:BinOp}{K':SV->Prop}
theorem Zq{y:Operand}{k k':IntKind}{a b:Int}{K:SV->Prop}(kk:∀z,K z->K' z)(h:Zr op y k k' a b K):Zr op y k k' a b K':=by
 unfold Zr at h⊢
 cases op<;>simp only at h⊢ <;>grind
theorem abj{t:TK}{a b:Value}{K K':Bool->Prop}(kk:∀z,K z->K' z)(h:vEq t a b K):vEq t a b K':=by
 unfold vEq at h⊢
 grind
variable{x:SV}
theorem aek{op:UnOp}{K:SV->Prop}(kk:∀z,K z->K' z)(h:fUn op x K):fUn op x K':=by
 unfold fUn at h⊢
 grind
theorem ZX{K:SV->Prop}(kk:∀z,K z->K' z)(h:ZY x K):ZY x K':=by
 unfold ZY at h⊢
 grind
variable{T:lz}
theorem Vu{s d:TypeId}{K:SV->Prop}(kk:∀z,K z->K' z)(h:Ij T s d x K):Ij T s d x K':=by
 unfold Ij at h⊢
 grind
variable{t:TypeId}
theorem Fh{f:Nat}{K:SV->Prop}(kk:∀z,K z->K' z)(h:pE T t x f K):pE T t x f K':=by
 unfold pE at h⊢
 cases hT:T t with
 |none=>simp[hT]at h
 |some i=>
  simp only[hT]at h⊢
  cases hk:i.k<;>simp only[hk]at h⊢
  rename_i fs
  cases hn:zo fs f with
  |none=>simp[hn]at h
  |some p=>
   obtain⟨off,ft⟩:=p;simp only[hn]at h⊢
   cases hf:T ft with
   |none=>simp[hf]at h
   |some fi=>
    simp only[hf]at h⊢
    cases hb:Nat.blt 0 fi.size with
    |false=>simp[hb]at h
    |true=>
     simp only[hb,cond_true]at h⊢
     split at h<;>first|exact kk _ h|exact h.elim
theorem Ff{io:Operand}{i:SV}{K:SV->Prop}(kk:∀z,K z->K' z)(h:pD T t io x i K):pD T t io x i K':=by
 unfold pD at h⊢
 (repeat' split at h)<;>first|exact h.elim|(simp only[*];first|exact kk _ h|exact⟨h.1,kk _ h.2⟩)|exact kk _ h|exact⟨h.1,kk _ h.2⟩
theorem YF{a b:ByteArray}{K:SV->Prop}(kk:∀z,K z->K' z)(h:abO op a b K):abO op a b K':=by
 cases op<;>first|exact kk _ h|exact⟨h.1,kk _ h.2⟩|exact h
theorem RP{f:Nat}{K:SV->Prop}(kk:∀z,K z->K' z)(h:D3 T t x f K):D3 T t x f K':=by
 unfold D3 at h⊢
 (repeat' split at h)<;>first|exact h.elim|exact kk _ h|(simp only[*];done)|(simp only[*];exact kk _ h)
theorem LB.rS:∀{c:LB}{o d:Nat}{K K':Value->Prop} (_:∀z,K z->K' z) (_:LB.Am c o d K),LB.Am c o d K'
 |[],_,_,_,_,_,h=>h
 | .one _::_,0,_,_,_,_,h=>h
 | .one _::r,o+1,d,K,K',kk,h=>LB.rS (c:=r) (o:=o) kk h
 | .bG k n l::r,o,d,K,K',kk,h=>by
  simp only[LB.Am]at h⊢
  cases hb:Nat.blt o n with
  |true=>simp only[hb,cond_true]at h⊢;cases o<;>exact⟨h.1,kk _ h.2⟩
  |false=>simp only[hb,cond_false]at h⊢;exact LB.rS kk h
 | .fq n l::r,o,d,K,K',kk,h=>by
  simp only[LB.Am]at h⊢
  cases hb:Nat.blt o n with
  |true=>simp only[hb,cond_true]at h⊢;cases o<;>exact⟨h.1,kk _ h.2⟩
  |false=>simp only[hb,cond_false]at h⊢;exact LB.rS kk h
theorem LB.aaj:∀{c:LB}{o d z:Nat}{K K':LB->Prop} (_:∀z,K z->K' z) (_:LB.Ak c o d z K),LB.Ak c o d z K'
 |[],_,_,_,_,_,_,h=>h
 | .one _::_,0,_,_,_,_,_,h=>h
 | .one _::r,o+1,d,z,K,K',kk,h=>LB.aaj (c:=r) (o:=o) kk h
 | .bG k n l::r,o,d,z,K,K',kk,h=>by
  simp only[LB.Ak]at h⊢
  cases hb:Nat.blt o n with
  |true=>simp only[hb,cond_true]at h⊢;cases o<;>exact⟨h.1,kk _ h.2⟩
  |false=>simp only[hb,cond_false]at h⊢;exact LB.aaj kk h
 | .fq n l::r,o,d,z,K,K',kk,h=>by
  simp only[LB.Ak]at h⊢
  cases hb:Nat.blt o n with
  |true=>simp only[hb,cond_true]at h⊢;cases o<;>exact⟨h.1,kk _ h.2⟩
  |false=>simp only[hb,cond_false]at h⊢;exact LB.aaj kk h
theorem LB.Z9:∀{c:LB}{o d:Nat}{x:Value}{K K':LB->Prop} (_:∀z,K z->K' z) (_:LB.vu c o d x K),LB.vu c o d x K':=by
 intro c
 induction c with
 |nil=>intro o d x K K' kk h;exact h
 |cons s r ih=>
  intro o d x K K' kk h
  cases s with
  |one y=>
   cases o with
   |zero=>exact h
   |succ o=>exact ih (o:=o) (λz hz=>kk _ hz) h
  |bG k n l=>
   unfold LB.vu at h⊢
   grind
  |fq n l=>
   unfold LB.vu at h⊢
   grind
theorem LB.aaa:∀{c:LB}{o d:Nat}{x:LB}{K K':LB->Prop} (_:∀z,K z->K' z) (_:LB.Bq c o d x K),LB.Bq c o d x K':=by
 intro c
 induction c with
 |nil=>intro o d x K K' kk h;exact h
 |cons s r ih=>
  intro o d x K K' kk h
  cases s with
  |one y=>
   cases o with
   |zero=>exact h
   |succ o=>exact ih (o:=o) (λz hz=>kk _ hz) h
  |bG k n l=>
   unfold LB.Bq at h⊢
   grind
  |fq n l=>
   unfold LB.Bq at h⊢
   grind
variable{s:St}
theorem Vs{K K':SV->List Nat->Prop}(kk:∀z y,K z y->K' z y)(h:Ii T s t x K):Ii T s t x K':=by
 unfold Ii at h⊢
 (repeat' split at h)<;>first|exact h.elim|exact kk _ _ h|(simp only[*];done)|((try simp only[*]);first|exact kk _ _ h|exact LB.rS (λ_ hz=>kk _ _ hz) h|exact LB.aaj (λ_ hz=>kk _ _ hz) h|(obtain⟨c,h1,h2,h3,h4⟩:=h;exact⟨c,h1,h2,h3,kk _ _ h4⟩)|(obtain⟨c,h1,h2,h3⟩:=h;exact⟨c,h1,h2,kk _ _ h3⟩))
theorem RM{io:Operand}{i:SV}{K:SV->Prop}(kk:∀z,K z->K' z)(h:DZ T t io x i K):DZ T t io x i K':=by
 unfold DZ at h⊢
 (repeat' split at h)<;>first|exact h.elim|exact kk _ h|exact⟨h.1,kk _ h.2⟩|(simp only[*];done)|((try simp only[*]);first|exact kk _ h|exact⟨h.1,kk _ h.2⟩|exact⟨h.1,LB.aaj (λ_ hz=>kk _ hz) h.2⟩|exact⟨h.1,LB.rS (λ_ hz=>kk _ hz) h.2⟩|exact⟨⟨trivial,trivial⟩,kk _ h.2⟩|exact⟨⟨trivial,trivial⟩,LB.aaj (λ_ hz=>kk _ hz) h.2⟩|exact⟨⟨trivial,trivial⟩,LB.rS (λ_ hz=>kk _ hz) h.2⟩)
theorem JU{b:Builtin}{xB:List TypeId}{args:List SV}{K:SV->Prop}(kk:∀z,K z->K' z)(h:vp T b xB args K):vp T b xB args K':=by
 unfold vp at h⊢
 (repeat' split at h)<;>first|exact h.elim|exact kk _ h|(simp only[*];done)|(simp only[*];exact kk _ h)
theorem aml{parts:List (Nat×Operand)}{K:SV->Prop}(kk:∀z,K z->K' z)(h:D4 T s t parts K):D4 T s t parts K':=by
 unfold D4 at h⊢
 grind
theorem mc{x:Option SV}{d m:Nat}{K K':Nat->Prop}(kk:∀z,K z->K' z)(h:oE x d m K):oE x d m K':=by
 unfold oE at h⊢
 grind
theorem RJ{lo hi mx:Option SV}{K:SV->Prop}(kk:∀z,K z->K' z)(h:DY T t x lo hi mx K):DY T t x lo hi mx K':=by
 unfold DY at h⊢
 cases ho:ahK hi mx with
 |false=>simp[ho]at h
 |true=>
  simp only[ho,cond_true]at h⊢
  (repeat' split at h)<;>first|exact h.elim|((try simp only[*]);first|exact mc (λ_ h=>mc (λ_ h=>mc (λ_ h=>λo' h1 h2=>kk _ (h o' h1 h2)) h) h) h|exact mc (λ_ h=>mc (λ_ h=>mc (λ_ h=>kk _ h) h) h) h|exact mc (λ_ h=>mc (λ_ h=>kk _ h) h) h)
theorem X8{t:TK}{yo:Operand}{a b:Value}{K K':Bool->Prop}(kk:∀z,K z->K' z)(h:TD t yo a b K):TD t yo a b K':=by
 unfold TD at h⊢
 split at h
 ·grind
 ·exact abj kk h
theorem Z0{yo:Operand}{K:SV->Prop}(kk:∀z,K z->K' z)(h:Z1 T op t yo x y K):Z1 T op t yo x y K':=by
 unfold Z1 at h⊢
 split at h
 ·exact Zq kk h
 ·exact YF kk h
 ·grind
 ·rename_i h1 h2 h3
  cases hx:x.toV with
  |none=>simp[hx]at h
  |some vx=>
   cases hy:y.toV with
   |none=>simp[hx,hy]at h
   |some vy=>
    simp only[hx,hy]at h⊢
    cases hT:T t with
    |none=>simp[hT]at h
    |some i=>
     simp only[hT]at h⊢
     split at h<;>first|exact X8 (λ_ hz=>kk _ hz) h|exact h.elim
theorem ZR{op:Op}{K K':SV->List Nat->Prop}(kk:∀z y,K z y->K' z y)(h:Rw T s op K):Rw T s op K':=by
 unfold Rw at h⊢
 split at h
 ·grind
 ·grind
 ·grind
 ·exact Vs kk h
 ·exact ZX (λ_ h=>kk _ _ h) h
 ·exact Z0 (λ_ h=>kk _ _ h) h
 ·exact aek (λ_ h=>kk _ _ h) h
 ·rename_i src dst x
  cases hc:rj T src dst with
  |true=>
   simp only[hc]at h⊢;unfold ael at h⊢
   split at h
   ·exact kk _ _ h
   ·rcases h with⟨h0,h⟩|⟨ns,h1,b,o,h2,h3,h4⟩
    ·exact .inl ⟨h0,kk _ _ h⟩
    ·exact .inr ⟨ns,h1,b,o,h2,h3,kk _ _ h4⟩
   ·split at h
    ·exact h.elim
    ·rename_i hn
     (try simp only[hn])
     obtain⟨ns,h1,h2,h3⟩:=h;exact⟨ns,h1,h2,kk _ _ h3⟩
   ·exact h.elim
  |false=>
   simp only[hc]at h⊢;exact Vu (λ_ h=>kk _ _ h) h
 ·exact RP (λ_ h=>kk _ _ h) h
 ·exact Fh (λ_ h=>kk _ _ h) h
 ·exact Ff (λ_ h=>kk _ _ h) h
 ·exact RM (λ_ h=>kk _ _ h) h
 ·grind
 ·exact aml (λ_ h=>kk _ _ h) h
 ·exact RJ (λ_ h=>kk _ _ h) h
 ·exact JU (λ_ h=>kk _ _ h) h
 omega
variable{K':SV->mM->aD->List Nat->Prop}
theorem Dy{c:LB}{ext:Bool}{K:SV->mM->aD->List Nat->Prop}(kk:∀a b c d,K a b c d->K' a b c d)(h:JA s t c ext K):JA s t c ext K':=by
 cases ext with
 |false=>exact kk _ _ _ _ h
 |true=>exact λb hb=>kk _ _ _ _ (h b hb)
variable{A B:Prop}
theorem jX{b:Bool}(k:A->B)(h:bif b then A else False):bif b then B else False:=by
 grind
theorem yl{K K':mM->aD->Prop}(kk:∀a b,K a b->K' a b)(h:ym T s t x y K):ym T s t x y K':=by
 unfold ym at h⊢
 cases hT:T t with
 |none=>simp[hT]at h
 |some i=>
  simp only[hT]at h⊢
  split at h
  ·rename_i hh off
   cases hn:zo s.L hh with
   |none=>simp[hn]at h
   |some p=>
    obtain⟨t',c⟩:=p;simp only[hn]at h⊢
    split at h<;>first|exact h.elim|(refine jX (λh=>?_) h;split at h<;>first|exact h.elim|(simp only[*];exact kk _ _ h)|exact kk _ _ h)
  ·rename_i hh off e
   cases hn:zo s.L hh with
   |none=>simp[hn]at h
   |some p=>
    obtain⟨t',c⟩:=p;simp only[hn]at h⊢
    split at h<;>first|exact h.elim|exact jX (λh=>LB.Z9 (λ_ h=>kk _ _ h) h) h|exact jX (λh=>LB.aaa (λ_ h=>kk _ _ h) h) h
  ·split at h<;>first|exact h.elim|exact jX (λ⟨a,b,c,h1,h2,h3⟩=>⟨a,b,c,h1,h2,kk _ _ h3⟩) h
  ·exact h.elim
variable{K':List CV->aD->Prop}{f:FuncId}{args:List CV}{m:aD}{P:Program}
theorem nR.mono{K:List CV->aD->Prop}(k:∀r m',K r m'->K' r m')(h:nR P f args m K):nR P f args m K':=by
 rcases h with⟨R,h1,h2⟩|⟨R,h1,h2⟩
 ·exact .mk R h1 λr m' hr=>k r m' (h2 r m' hr)
 ·exact .ext R h1 λr m' hr=>k r m' (h2 r m' hr)
theorem CM.mono{p:dF}{K:List CV->aD->Prop}(k:∀r m',K r m'->K' r m')(h:CM P p args m K):CM P p args m K':=by
 obtain⟨R,h1,h2⟩:=h;exact⟨R,h1,λr m' hr=>k r m' (h2 r m' hr)⟩
theorem Y7{op:Op}{ext:Bool}{cR:Kp}{K K':SV->mM->aD->List Nat->Prop}(kk:∀a b c d,K a b c d->K' a b c d)(h:Qe P T s op ext cR K):Qe P T s op ext cR K':=by
 unfold Qe at h⊢
 split at h
 ·rename_i t
  cases hT:T t with
  |none=>simp[hT]at h
  |some i=>simp only[hT]at h⊢;exact Dy kk h
 ·rename_i t y
  split at h<;>first|exact h.elim|exact Dy kk h|(simp only[*];exact Dy kk h)
 ·cases cR with
  |all=>exact h
  |none=>exact yl (λ_ _ h=>kk _ _ _ _ h) h
  |xa hh=>exact jX (λh=>yl (λ_ _ h=>kk _ _ _ _ h) h) h
  |new hh=>exact jX (λh=>yl (λ_ _ h=>kk _ _ _ _ h) h) h
 ·rename_i f args _
  try simp only at h⊢
  cases hc:jQ (args.toList.map (ev s))with
  |none=>simp[hc]at h
  |some cs=>
   simp only[hc]at h⊢
   cases cR with
   |all=>exact nR.mono (λ_ _ h=>⟨h.1,kk _ _ _ _ h.2⟩) h
   |none=>exact nR.mono (λ_ _ h=>kk _ _ _ _ h) h
   |xa hh=>exact h
   |new hh=>exact h
 ·rename_i t args _
  try simp only at h⊢
  split at h
  ·rename_i f first captured hf
   (try simp only[hf])
   refine jX (λh=>?_) h
   cases hc:jQ (args.toList.map (ev s))with
   |none=>simp[hc]at h
   |some cs=>
    simp only[hc]at h⊢
    cases cR with
    |all=>exact nR.mono (λ_ _ h=>⟨h.1,kk _ _ _ _ h.2⟩) h
    |none=>exact nR.mono (λ_ _ h=>kk _ _ _ _ h) h
    |xa hh=>exact h
    |new hh=>exact h
  omega
 ·cases hp:Dk op with
  |none=>simp[hp]at h
  |some q=>
   obtain⟨p,xs⟩:=q;simp only[hp]at h⊢
   cases hc:jQ (xs.map (ev s))with
   |none=>simp[hc]at h
   |some cs=>
    simp only[hc]at h⊢
    cases cR with
    |all=>exact CM.mono (λ_ _ h=>⟨h.1,kk _ _ _ _ h.2⟩) h
    |none=>exact CM.mono (λ_ _ h=>kk _ _ _ _ h) h
    |xa hh=>exact h
    |new hh=>exact h
def F4(c:fD)(o:Oper)(cR:Kp)(K:KY):KY:=λfl L m x=>
 match sM c.T o.op with
 |true=>ajK c.T fl L m x o.op λsv bs=>fSV sv λsv=>L8 (bs++x) λx'=>GV o.dst sv fl λxv=>K xv L m x'
 |false=>ajc c.P c.T fl L m x o.op (aen c o.dst) cR λsv L' m' x'=>fSV sv λsv=>L8 L' λL'=>GV o.dst sv fl λxv=>K xv L' m' x'
def vE(K:KY):St->Prop:=λs=>∃fl L m x,s=iA fl L m x/\K fl L m x
variable{x:List Nat}
theorem vE.mk{K:KY}{L:mM}(h:K fl L m x):vE K (iA fl L m x):=⟨fl,L,m,x,rfl,h⟩
theorem vE.put{K:KY}{L:mM}{d:Option Nat}(h:GV d y fl λxv=>K xv L m x):vE K ⟨fO (rm fl) d y,L,m,x⟩:=by
 obtain⟨xv,h1,h2⟩:=KU h;exact⟨xv,L,m,x,by rw[<-h2],h1⟩
variable{K':St->Prop}{c:fD}
theorem rX{o:Oper}{cR:Kp}{K:KY}(hk:∀s,vE K s->K' s){L:mM}(h:F4 c o cR K fl L m x):C2 c o cR (iA fl L m x) K':=by
 unfold F4 at h;unfold C2
 cases hf:sM c.T o.op with
 |true=>
  simp only[hf]at h⊢;rw[ad7]at h;refine ZR (λsv bs h=>?_) h;exact hk _ (vE.put (sO (Cj h)))
 |false=>
  simp only[hf]at h⊢;rw[acA]at h;refine Y7 (λsv L' m' x' h=>?_) h;exact hk _ (vE.put (sO (Cj h)))
def XV(c:fD)(am:List Oper)(o:Oper)(cR:Kp)(K:KY):KY:=λfl L m x=>
 match o.guard with
 |none=>F4 c o cR K fl L m x
 |some (j,w)=>match LY am j with
  |none=>False
  |some d=>match rm fl d with
   | .tt=>bif w then F4 c o cR K fl L m x else GV o.dst .un fl λxv=>K xv L m x
   | .ff=>bif w then(GV o.dst .un fl λxv=>K xv L m x)else F4 c o cR K fl L m x
   | .un=>GV o.dst .un fl λxv=>K xv L m x
   | .c (.v (.bool b))=>
    (b=true->bif w then F4 c o cR K ((d,.tt)::fl) L m x else GV o.dst .un ((d,.tt)::fl) λxv=>K xv L m x)/\
    (b=false->bif w then(GV o.dst .un ((d,.ff)::fl) λxv=>K xv L m x)else F4 c o cR K ((d,.ff)::fl) L m x)
   |_=>False
theorem Kk{am:List Oper}{o:Oper}{cR:Kp}{K:KY}(hk:∀s,vE K s->K' s){L:mM}(h:XV c am o cR K fl L m x):xop c am o cR (iA fl L m x) K':=by
 unfold XV at h;unfold xop
 cases hg:o.guard with
 |none=>simp only[hg]at h⊢;exact rX hk h
 |some p=>
  obtain⟨j,w⟩:=p;simp only[hg]at h⊢
  cases hs:LY am j with
  |none=>simp[hs]at h
  |some d=>
   simp only[hs]at h⊢
   split at h
   ·rename_i e
    simp only[e]
    cases w with
    |true=>exact rX hk h
    |false=>exact hk _ (vE.put h)
   ·rename_i e
    simp only[e]
    cases w with
    |true=>exact hk _ (vE.put h)
    |false=>exact rX hk h
   ·rename_i e
    simp only[e];exact hk _ (vE.put h)
   ·rename_i b e
    simp only[e];refine⟨λeb=>?_,λeb=>?_⟩
    ·have h:=h.1 eb
     rw[<-vi]
     cases w with
     |true=>exact rX hk h
     |false=>exact hk _ (vE.put h)
    ·have h:=h.2 eb
     rw[<-vi]
     cases w with
     |true=>exact hk _ (vE.put h)
     |false=>exact rX hk h
   ·exact h.elim
def wOp(c:fD)(am:List Oper)(o:Oper)(_:List Oper)(ih:KY):KY:=λfl L m x=>
 match vI am (rm fl) o with
 |some (l,args)=>match jQ (args.map (ev (iA fl L m x)))with
  |none=>False
  |some cs=>V0 c.P l cs m λr' m'=>fSV (lS r') λsv=>GV o.dst sv fl λxv=>ih xv L m' []
 |none=>XV c am o .none ih fl L m x
def Kj(c:fD)(am l:List Oper)(K:KY):KY:=List.rec (motive:=λ_=>KY) K (wOp c am) l
theorem Tn(c:fD)(am:List Oper)(o:Oper)(r:List Oper)(K:KY)(fl:Fl)(L:mM)(m:aD)(x:List Nat):Kj c am (o::r) K fl L m x=(match vI am (rm fl) o with
 |some (l,args)=>match jQ (args.map (ev (iA fl L m x)))with
  |none=>False
  |some cs=>V0 c.P l cs m λr' m'=>fSV (lS r') λsv=>GV o.dst sv fl λxv=>Kj c am r K xv L m' []
 |none=>XV c am o .none (Kj c am r K) fl L m x):=rfl
theorem AN{c:fD}{am:List Oper}{K:KY}{K':St->Prop}(hk:∀s,vE K s->K' s):∀{l:List Oper}{fl:Fl}{L:mM}{m:aD}{x:List Nat},Kj c am l K fl L m x->O5 c am l K' (iA fl L m x)
 |[],_,_,_,_,h=>hk _ (vE.mk h)
 |o::r,fl,L,m,x,h=>by
  rw[Tn]at h;simp only[O5]
  cases hy:vI am (rm fl) o with
  |none=>
   simp only[hy]at h⊢;exact Kk (K:=Kj c am r K) (λs ⟨_,_,_,_,e,h⟩=>by subst e;exact AN hk (l:=r) h) h
  |some q=>
   obtain⟨l,args⟩:=q;simp only[hy]at h⊢
   cases hc:jQ (args.map (ev (iA fl L m x)))with
   |none=>simp[hc]at h
   |some cs=>
    simp only[hc]at h⊢;obtain⟨R,h1,h2⟩:=h;refine⟨R,h1,λr' m' hr=>?_⟩;obtain⟨xv,g1,g2⟩:=KU (Cj (h2 r' m' hr));have:=AN hk (l:=r) g1;rw[iA,g2]at this;exact this
def asP(c:fD)(am:List Oper)(ms:List Nat)(s0:St)(i:Nat)(k:Ks)(r:OT)(ih:KY):KY:=λfl L m x=>
 match zo am i with
  |some o=>bif ov c.T s0 ms i o (iA fl L m x) r.co then XV c am o (JB s0 k) ih fl L m x else False
  |none=>False
def wOr(_ _:OT)(a b:KY):KY:=λfl L m x=>a fl L m x/\b fl L m x
def O4(c:fD)(am:List Oper)(ms:List Nat)(s0:St)(t:OT)(K:KY):KY:=OT.rec (motive:=λ_=>KY) K (asP c am ms s0) wOr t
theorem aa2(c:fD)(am:List Oper)(ms:List Nat)(s0:St)(i:Nat)(k:Ks)(r:OT)(K:KY)(fl:Fl)(L:mM)(m:aD)(x:List Nat):O4 c am ms s0 (.op i k r) K fl L m x=(match zo am i with
  |some o=>bif ov c.T s0 ms i o (iA fl L m x) r.co then XV c am o (JB s0 k) (O4 c am ms s0 r K) fl L m x else False
  |none=>False):=rfl
theorem vK{c:fD}{am:List Oper}{ms:List Nat}{s0:St}{K:KY}{K':St->Prop}(hk:∀s,vE K s->K' s):∀{t:OT}{fl:Fl}{L:mM}{m:aD}{x:List Nat},O4 c am ms s0 t K fl L m x->rh c am ms s0 t K' (iA fl L m x)
 | .nil,_,_,_,_,h=>hk _ (vE.mk h)
 | .or a b,_,_,_,_,h=>⟨vK hk (t:=a) h.1,vK hk (t:=b) h.2⟩
 | .op i k r,fl,L,m,x,h=>by
  rw[aa2]at h;simp only[rh]
  cases hn:zo am i with
  |none=>simp[hn]at h
  |some o=>
   simp only[hn]at h⊢
   cases hl:ov c.T s0 ms i o (iA fl L m x) r.co with
   |false=>simp[hl]at h
   |true=>
    simp only[hl,cond_true]at h⊢;exact Kk (K:=O4 c am ms s0 r K) (λs ⟨_,_,_,_,e,h⟩=>by subst e;exact vK hk (t:=r) h) h
def akm(y x:eB)(K:Prop):Prop:=
 match y with
 | .one y=>match x with
  | .one x=>y=x/\K
  |_=>False
 | .bG k n l=>match x with
  | .bG k' n' l'=>bif wY k k'&&Nat.beq n n' then l=l'/\K else False
  |_=>False
 | .fq n l=>match x with
  | .fq n' l'=>bif Nat.beq n n' then l=l'/\K else False
  |_=>False
def lbY:LB->LB->Prop->Prop
 |[],[],K=>K
 |y::r,x::r',K=>akm y x (lbY r r' K)
 |_,_,_=>False
def aiX(y x:SV)(K:Prop):Prop:=
 match x with
 | .c (.a c)=>match y with
  | .c (.a d)=>lbY d c K
  |_=>False
 | .c (.v v)=>match y with
  | .c (.v z)=>z=v/\K
  | .tt=>Value.bool true=v/\K
  | .ff=>Value.bool false=v/\K
  |_=>False
 |x=>Gv y x K
def TQ:Fl->Fl->Prop->Prop
 |[],_,K=>K
 |(j,x)::r,fl,K=>aiX (rm fl j) x (TQ r fl K)
def acS:mM->mM->Prop->Prop
 |_,[],K=>K
 |(t,c)::r,(t',c')::r',K=>bif Nat.beq t t' then lbY c c' (acS r r' K)else False
 |[],_::_,_=>False
def LeY(fl:Fl)(L:mM)(fr:Fl)(L1:mM):Prop:=bif vB L1.length fr then TQ fr fl (acS L L1 True)else False
theorem Bw{a:Option Addr}{K:Prop}(h:K):SU a a K:=by
 cases a with
 |none=>exact h
 |some ad=>
  obtain⟨b,o,sp⟩:=ad
  cases sp with
  |none=>exact⟨rfl,rfl,h⟩
  |some s=>exact⟨rfl,h⟩
variable{v:Value}
theorem Ky{K:Prop}(h:K):X7 v v K:=by
 cases v<;>simp only[X7,QI,cond_true]<;>first|exact⟨rfl,h⟩|exact⟨trivial,h⟩|exact Bw h|exact Bw ⟨rfl,rfl,h⟩|exact Bw ⟨trivial,trivial,h⟩
variable{K':Prop}
theorem akl{y x:eB}{K:Prop}(k:K->K')(h:akm y x K):abK y x K':=by
 unfold akm at h;unfold abK
 split at h
 ·split at h
  ·obtain⟨rfl,h⟩:=h;exact Ky (k h)
  grind
 ·grind
 grind
theorem acZ:∀{y x:LB}{K K':Prop} (_:K->K') (_:lbY y x K),lbK y x K'
 |[],[],_,_,k,h=>k h
 |y::r,x::r',_,_,k,h=>akl (λh=>acZ k h) h
 |[],_::_,_,_,_,h=>h.elim
 |_::_,[],_,_,_,h=>h.elim
theorem TS{x:SV}{K:Prop}(k:K->K')(hx:∀c,x≠.c c)(h:Gv y x K):Gv y x K':=by
 cases x with
 |c z=>exact absurd rfl (hx z)
 |p hh o=>cases y<;>first|exact h.elim|exact jX k h
 |q hh o d=>cases y<;>first|exact h.elim|exact jX (λh=>⟨h.1,k h.2⟩) h
 |sl hh o d n c=>cases y<;>first|exact h.elim|exact jX (λh=>⟨h.1,h.2.1,h.2.2.1,k h.2.2.2⟩) h
 |t l=>cases y<;>first|exact h.elim|exact⟨h.1,k h.2⟩
 |tt=>cases y<;>first|exact h.elim|exact k h
 |ff=>cases y<;>first|exact h.elim|exact k h
 |un=>cases y<;>first|exact h.elim|exact k h
 |any=>exact k h
theorem af9{x:SV}{K:Prop}(k:K->K')(h:aiX y x K):Gv y x K':=by
 cases x with
 |c z=>
  cases z with
  |a c=>cases y with
   |c w=>cases w with
    |a d=>exact acZ k h
    |v _=>exact h.elim
   |_=>exact h.elim
  |v v=>cases y with
   |c w=>cases w with
    |a d=>exact h.elim
    |v z=>obtain⟨rfl,h⟩:=h;exact Ky (k h)
   |tt=>obtain⟨rfl,h⟩:=h;exact⟨rfl,k h⟩
   |ff=>obtain⟨rfl,h⟩:=h;exact⟨rfl,k h⟩
   |_=>exact h.elim
 |_=>exact TS k (by intro c;simp) h
theorem PC:∀{fr fl:Fl}{K K':Prop} (_:K->K') (_:TQ fr fl K),MJ fr (rm fl) K'
 |[],_,_,_,k,h=>k h
 |(j,x)::r,fl,_,_,k,h=>af9 (λh=>PC (fr:=r) k h) h
theorem WN:∀{L L1:mM}{K K':Prop} (_:K->K') (_:acS L L1 K),Lu L L1 K'
 |[],[],_,_,k,h=>k h
 |_::_,[],_,_,k,h=>k h
 |(t,c)::r,(t',c')::r',_,_,k,h=>jX (λh=>acZ (λh=>WN k h) h) h
 |[],_::_,_,_,_,h=>h.elim
theorem LeY.k{L:mM}{fr:Fl}{L1:mM}(h:LeY fl L fr L1):LeK (iA fl L m x) fr L1 m:=
 jX (λh=>PC (λh=>WN (λ_=>cL.refl _) h) h) h
inductive afd (X:(Exit->KY)->KY) (Q:Exit->KY) (fl:Fl) (L:mM) (m:aD):Prop
 |mk {ι:Type} (μ:ι->Nat) (Inv:ι->aD->Prop) (fr:ι->Fl) (Lo:ι->mM) (i0:ι) (h0:Inv i0 m) (hk:LeY fl L (fr i0) (Lo i0))
  (step:∀i m,Inv i m->fFl (fr i) λfl=>L8 (Lo i) λL=>X (λe xv L' m' x'=>match e with
   | .normal=>∃j,Inv j m'/\μ j<μ i/\LeY xv L' (fr j) (Lo j)
   |e=>Q e xv L' m' x') fl L m [])
def abD(o:Operand)(y:SV)(fl:Fl)(K:Fl->Prop):Prop:=
 match o with
 | .tmp t=>K ((t,y)::fl)
 |_=>K fl
theorem KK{o:Operand}{K:Fl->Prop}(h:abD o y fl K)(L:mM)(m:aD)(x:List Nat):∃xv,K xv/\iA xv L m x=TV (iA fl L m x) o y:=by
 cases o<;>first|exact⟨fl,h,rfl⟩|exact⟨_,h,by simp only[TV,iA,vi]⟩
abbrev CQ:=(Exit->KY)->KY
def aom:CQ:=λQ=>Q .normal
def T1(c:fD)(id:Nat)(am:Array Oper)(pG:Bool)(K:KY):Fl->mM->aD->Prop:=λfl L m=>match pG with
 |false=>Kj c am.toList am.toList K fl L m []
 |true=>bif sL (iA fl L m []) am.toList then O4 c am.toList (c.ord id).ms (iA fl L m []) (c.ord id).od K fl L m []else False
inductive V3 (X:Fl->mM->aD->Prop):Fl->mM->aD->Prop
 |at {fl:Fl}{L:mM}{m:aD} (h:X fl L m):V3 X fl L m
 |via {fl:Fl}{L:mM}{m:aD} (fl1:Fl) (L1:mM) (hk:LeY fl L fl1 L1) (h:V3 X fl1 L1 m):V3 X fl L m
def afV(c:fD)(id:Nat)(am:Array Oper)(pG:Bool):CQ:=λQ fl L m _=>match c.cut id with
 |false=>T1 c id am pG (Q .normal) fl L m
 |true=>V3 (T1 c id am pG (Q .normal)) fl L m
def asN(_ _:Code)(x y:CQ):CQ:=λQ=>x (λe=>match e with
 | .normal=>y Q
 |e=>Q e)
def aoq(o:Operand)(_ _:Code)(a b:CQ):CQ:=λQ fl L m x=>match ev (iA fl L m x) o with
 | .tt=>a Q fl L m x
 | .ff=>b Q fl L m x
 | .c (.v (.bool bb))=>(bb=true->abD o .tt fl λfl=>a Q fl L m x)/\(bb=false->abD o .ff fl λfl=>b Q fl L m x)
 |_=>False
def aj7(id:Nat)(_:Code)(b:CQ):CQ:=λQ=>b (λe=>match e with
 | .exit j=>bif Nat.beq j id then Q .normal else Q (.exit j)
 |e=>Q e)
def aon(_:Code)(b:CQ):CQ:=λQ fl L m _=>afd b Q fl L m
abbrev RY:=Operand->Array Tmp->Code->Code->CQ
def aj5(rf:RY)(g:Operand)(ps:Array Tmp)(x y:Code)(_ _:CQ):CQ:=rf g ps x y
def aop(id:Nat):CQ:=λQ=>Q (.exit id)
def aj4(sc:Code->CQ)(b:Code)(_:CQ):CQ:=sc b
def aj6(_:Nat):CQ:=λQ=>Q .normal
def aoo(l:Nat):CQ:=λQ=>Q (.goto l)
def asO:CQ:=λQ=>Q .ret
def afW(_:String):CQ:=λ_ _ _ _ _=>False
def qT(c:fD)(sc:Code->CQ)(rf:RY)(code:Code):CQ:=Code.rec (motive:=λ_=>CQ) aom (afV c) asN aoq aj7 aon (aj5 rf) aop (aj4 sc) aj6 aoo asO afW code
def QJY(l:Nat)(J:KY)(Q:Exit->KY):Exit->KY
 | .goto l'=>λfl L m x=>bif Nat.beq l' l then J fl L m x else False
 |e=>Q e
inductive aiF (X:Code->CQ) (b:Code) (Q:Exit->KY) (fl:Fl) (L:mM) (m:aD) (x:List Nat):Prop
 |mk (l:Nat) (fb:Code) (hf:findLabel b l=some fb) {ι:Type} (μ:ι->Nat) (Inv:ι->aD->Prop) (fr:ι->Fl) (Lo:ι->mM)
  (first:X b (QJY l (λxv L' m' x'=>∃j,Inv j m'/\LeY xv L' (fr j) (Lo j)) Q) fl L m x)
  (pass:∀i m,Inv i m->fFl (fr i) λfl=>L8 (Lo i) λL=>X fb (QJY l (λxv L' m' x'=>∃j,Inv j m'/\μ j<μ i/\LeY xv L' (fr j) (Lo j)) Q) fl L m [])
def zk:Fl->List Tmp->List CV->Fl
 |fl,p::ps,x::xs=>zk ((p,.c x)::fl) ps xs
 |fl,_,_=>fl
theorem Ce:∀(ps:List Tmp) (xs:List CV) (fl:Fl),rm (zk fl ps xs)=sw (rm fl) ps xs
 |[],xs,fl=>by cases xs<;>rfl
 |p::ps,[],fl=>rfl
 |p::ps,x::xs,fl=>by
  simp only[zk,sw];rw[Ce ps xs,vi]
def awX(X:Code->CQ)(body:Code)(J:aD->Prop):Exit->KY
 | .normal=>λfl L m _=>match L with
  |[]=>X body (λe=>match e with
   | .normal=>λ_ _ m _=>J m
   |_=>λ_ _ _ _=>False) fl [] m []
  |_::_=>False
 |_=>λ_ _ _ _=>False
inductive aiG (P:Program) (X:Code->CQ) (g:Operand) (ps:Array Tmp) (Ti body:Code) (Q:Exit->KY) (fl:Fl) (L:mM) (m:aD):Prop
 |mk (gf:FuncId) (captured:Array Value) (hg:ev (iA fl L m []) g= .c (.v (.func (.func gf) #[] captured))) (yA:sY captured.toList=true) (hL:L=[])
  {ι:Type} (Inv:ι->aD->Prop) (i0:ι) (h0:Inv i0 m) (El:ι->List CV->ι->Prop) (hEl:∀i x j,El i x j->x.length=ps.size)
  (round:∀i x j m,Inv i m->El i x j->fFl (zk fl ps.toList x) λfl=>X Ti (awX X body (Inv j)) fl [] m [])
  (Fin:aD->Prop)
  (UP:∀(l:Nat) (o:Obj),m l=none->(∀i x j m,Inv i m->El i x j->m l=none->CL P l x (m.set l o) λr m'=>r=[.v (.bool true)]/\∃m1,Inv j m1/\m1 l=none/\m'=m1.set l o)->
   bi P gf (.v (.func (.yield l) #[] #[])::captured.toList.map CV.v) (m.set l o) λr m'=>∃m1,Fin m1/\m1 l=none/\m'=m1.set l o)
  (fb:∀m1,Fin m1->Q .normal fl [] m1 [])
def aa1(c:fD)(code:Code):CQ:=qT c (λ_ _ _ _ _ _=>False) (λ_ _ _ _ _ _ _ _ _=>False) code
def Tl(c:fD)(code:Code):CQ:=qT c (λb=>aiF (aa1 c) b) (λg ps x y Q fl L m _=>aiG c.P (aa1 c) g ps x y Q fl L m) code
section
variable {sc:Code->CQ}{rf:RY}
theorem aa0(c:fD)(x y:Code)(Q:Exit->KY):qT c sc rf (.seq x y) Q=qT c sc rf x (λe=>match e with
 | .normal=>qT c sc rf y Q
 |e=>Q e):=rfl
theorem Tk(c:fD)(id:Nat)(b:Code)(Q:Exit->KY):qT c sc rf (.block id b) Q=qT c sc rf b (λe=>match e with
 | .exit j=>bif Nat.beq j id then Q .normal else Q (.exit j)
 |e=>Q e):=rfl
theorem XS(c:fD)(o:Operand)(a b:Code)(Q:Exit->KY)(fl:Fl)(L:mM)(m:aD)(x:List Nat):qT c sc rf (.cond o a b) Q fl L m x=(match ev (iA fl L m x) o with
 | .tt=>qT c sc rf a Q fl L m x
 | .ff=>qT c sc rf b Q fl L m x
 | .c (.v (.bool bb))=>(bb=true->abD o .tt fl λfl=>qT c sc rf a Q fl L m x)/\(bb=false->abD o .ff fl λfl=>qT c sc rf b Q fl L m x)
 |_=>False):=rfl
theorem O2(c:fD)(id:Nat)(am:Array Oper)(pG:Bool)(Q:Exit->KY)(fl:Fl)(L:mM)(m:aD)(x:List Nat):qT c sc rf (.region id am pG) Q fl L m x=(match c.cut id with
 |false=>T1 c id am pG (Q .normal) fl L m
 |true=>V3 (T1 c id am pG (Q .normal)) fl L m):=rfl
theorem XR(c:fD)(b:Code)(Q:Exit->KY)(fl:Fl)(L:mM)(m:aD)(x:List Nat):qT c sc rf (.loop b) Q fl L m x=afd (qT c sc rf b) Q fl L m:=rfl
end
theorem KO{id:Nat}{am:Array Oper}{pG:Bool}{K:KY}{K':St->Prop}(hk:∀s,vE K s->K' s){L:mM}(h:T1 c id am pG K fl L m):T2 c id am pG K' (iA fl L m x):=by
 unfold T1 at h;unfold T2
 cases pG with
 |false=>exact AN hk h
 |true=>
  simp only at h⊢
  cases hf:sL (iA fl L m []) am.toList with
  |false=>simp[hf]at h
  |true=>
   have yz:sL (iA fl L m x) am.toList=true:=by rw[<-Og (x:=[])];exact hf
   simp only[hf,yz,cond_true]at h⊢;rw[<-F3 (x:=[])];exact vK hk h
theorem V3.spec{id:Nat}{am:Array Oper}{pG:Bool}{K:KY}{K':St->Prop}(hk:∀s,vE K s->K' s){L:mM}(h:V3 (T1 c id am pG K) fl L m):∀{x:List Nat},XAt (T2 c id am pG K') (iA fl L m x):=by
 induction h with
 | «at» h=>exact .at (KO hk h)
 |via fl1 L1 hl _ ih=>exact .via _ _ _ hl.k ih
theorem afi{c:fD}{sc:Code->CQ}{sc':Code->(Exit->St->Prop)->St->Prop}{rf:RY}{rf':RF}(hsc:∀(b:Code) {Q:Exit->KY}{Q':Exit->St->Prop} (_:∀e s,vE (Q e) s->Q' e s) {fl:Fl}{L:mM}{m:aD}{x:List Nat},sc b Q fl L m x->sc' b Q' (iA fl L m x))
  (hrf:∀g ps x y {Q:Exit->KY}{Q':Exit->St->Prop} (_:∀e s,vE (Q e) s->Q' e s) {fl:Fl}{L:mM}{m:aD}{xx:List Nat},rf g ps x y Q fl L m xx->rf' g ps x y Q' (iA fl L m xx)):
  ∀(code:Code) {Q:Exit->KY}{Q':Exit->St->Prop} (_:∀e s,vE (Q e) s->Q' e s) {fl:Fl}{L:mM}{m:aD}{x:List Nat},qT c sc rf code Q fl L m x->zZ c sc' rf' code Q' (iA fl L m x):=by
 intro code
 induction code with
 |skip=>intro Q Q' hq fl L m x h;exact hq _ _ (vE.mk h)
 |label l=>intro Q Q' hq fl L m x h;exact hq _ _ (vE.mk h)
 |exit id=>intro Q Q' hq fl L m x h;exact hq _ _ (vE.mk h)
 |goto l=>intro Q Q' hq fl L m x h;exact hq _ _ (vE.mk h)
 |ret=>intro Q Q' hq fl L m x h;exact hq _ _ (vE.mk h)
 |refuse why=>intro Q Q' hq fl L m x h;exact h.elim
 |rangeFunc f ps x y _ _=>intro Q Q' hq fl L m xx h;exact hrf f ps x y hq h
 |scope b _=>intro Q Q' hq fl L m x h;exact hsc b hq h
 |seq x y ihx ihy=>
  intro Q Q' hq fl L m xx h;rw[aa0]at h;refine ihx (λe s ⟨fl,L,m,x,e',h⟩=>?_) h;subst e'
  cases e<;>first|exact ihy hq h|exact hq _ _ (vE.mk h)
 |block id b ih=>
  intro Q Q' hq fl L m xx h;rw[Tk]at h;refine ih (λe s ⟨fl,L,m,x,e',h⟩=>?_) h;subst e'
  cases e with
  |exit j=>
   simp only at h⊢
   cases hb:Nat.beq j id with
   |true=>simp only[hb,cond_true]at h⊢;exact hq _ _ (vE.mk h)
   |false=>simp only[hb,cond_false]at h⊢;exact hq _ _ (vE.mk h)
  |_=>exact hq _ _ (vE.mk h)
 |cond o a b iha ihb=>
  intro Q Q' hq fl L m x h;rw[XS]at h;simp only[zZ]
  split at h
  ·rename_i e;simp only[e];exact iha hq h
  ·rename_i e;simp only[e];exact ihb hq h
  ·rename_i bb e
   simp only[e];refine⟨λeb=>?_,λeb=>?_⟩
   ·obtain⟨xv,h1,h2⟩:=KK (h.1 eb) L m x
    rw[<-h2];exact iha hq h1
   ·obtain⟨xv,h1,h2⟩:=KK (h.2 eb) L m x
    rw[<-h2];exact ihb hq h1
  ·exact h.elim
 |region id am pG=>
  intro Q Q' hq fl L m x h;rw[O2]at h;simp only[zZ]
  cases hc:c.cut id with
  |false=>simp only[hc]at h⊢;exact KO (hq .normal) h
  |true=>simp only[hc]at h⊢;exact h.spec (hq .normal)
 |loop b ih=>
  intro Q Q' hq fl L m x h;rw[XR]at h;obtain⟨μ,Inv,fr,Lo,i0,h0,hk,step⟩:=h;refine ajU.mk (ι:=_×aD) (λi=>μ i.1) (λi=>Inv i.1 i.2) (λi=>fr i.1) (λi=>Lo i.1) (λi=>i.2) (i0,m) h0 hk.k ?_;rintro⟨i,m1⟩ hi;have hs:=yJ (step i m1 hi);have hs:=sO (l:=Lo i) hs;refine ih (λe s ⟨fl,L,m,x,e',h⟩=>?_) hs;subst e'
  cases e with
  |normal=>
   obtain⟨j,h1,h2,h3⟩:=h;exact⟨(j,m),h1,h2,h3.k⟩
  |_=>exact hq _ _ (vE.mk h)
variable{Q:Exit->KY}{Q':Exit->St->Prop}
theorem vJ(code:Code)(hq:∀e s,vE (Q e) s->Q' e s){L:mM}(h:aa1 c code Q fl L m x):XT c code Q' (iA fl L m x):=
 afi (λ_ _ _ _ _ _ _ _ h=>h.elim) (λ_ _ _ _ _ _ _ _ _ _ _ h=>h.elim) code hq h
theorem QJY.spec{l:Nat}{J:KY}{J':St->Prop}(hq:∀e s,vE (Q e) s->Q' e s)(hj:∀s,vE J s->J' s):∀e s,vE (QJY l J Q e) s->QJ l J' Q' e s:=by
 rintro e s⟨fl,L,m,x,e',h⟩;subst e'
 cases e with
 |goto l'=>
  simp only[QJY]at h;simp only[QJ]
  cases hb:Nat.beq l' l with
  |true=>simp only[hb,cond_true]at h⊢;exact hj _ (vE.mk h)
  |false=>simp[hb]at h
 |_=>exact hq _ _ (vE.mk h)
theorem XQ(code:Code)(hq:∀e s,vE (Q e) s->Q' e s){L:mM}(h:Tl c code Q fl L m x):xwp c code Q' (iA fl L m x):=by
 refine afi (λb Q Q' hq fl L m x h=>?_) (λg ps Ti body Q Q' hq fl L m x h=>?_) code hq h
 ·obtain⟨l,fb,hf,μ,Inv,fr,Lo,first,pass⟩:=h
  refine V1.mk l fb hf (ι:=_×aD) (λi=>μ i.1) (λi=>Inv i.1 i.2) (λi=>fr i.1) (λi=>Lo i.1) (λi=>i.2) ?_ ?_
  ·refine vJ b (QJY.spec hq ?_) first
   rintro s⟨fl,L,m,x,e',j,h1,h2⟩;subst e';exact⟨(j,m),h1,h2.k⟩
  ·rintro⟨i,m1⟩ hi
   have hs:=yJ (pass i m1 hi);have hs:=sO (l:=Lo i) hs;refine vJ fb (QJY.spec hq ?_) hs;rintro s⟨fl,L,m,x,e',j,h1,h2,h3⟩;subst e';exact⟨(j,m),h1,h2,h3.k⟩
 ·obtain⟨gf,captured,hg,yA,hL,Inv,i0,h0,El,hEl,round,Fin,UP,fb⟩:=h
  refine V2.mk gf captured hg yA hL Inv i0 h0 El hEl (λi y j m hi hy=>?_) Fin UP (λm1 hF=>hq _ _ (vE.mk (fb m1 hF)));have hs:=yJ (round i y j m hi hy)
  have e:(⟨sw (iA fl L m x).fr ps.toList y,[],m,[]⟩:St)=iA (zk fl ps.toList y) [] m []:=by
   show(⟨sw (rm fl) ps.toList y,[],m,[]⟩:St)=⟨rm (zk fl ps.toList y),[],m,[]⟩
   rw[Ce]
  rw[e];refine vJ Ti (λe s ⟨fl,L,m,x,e',h⟩=>?_) hs;subst e'
  cases e with
  |normal=>
   cases L with
   |cons _ _=>exact h.elim
   |nil=>
    refine vJ body (λe s ⟨fl,L,m,x,e',h⟩=>?_) h;subst e'
    cases e<;>exact h
  |_=>exact h.elim
def AU(id:Nat):Code->Code
 | .seq x y=>match AU id x with
  | .skip=>AU id y
  |r=>.seq r y
 | .region i o d=>bif Nat.beq i id then .region i o d else .skip
 |_=>.skip
def u6:Nat->List CV->Fl
 |_,[]=>[]
 |k,x::r=>(k,.c x)::u6 (k+1) r
theorem EH:∀(args:List CV) (k i:Nat),rm (u6 k args) (k+i)=(match zo args i with|some x=>.c x|none=>.any)
 |[],k,i=>rfl
 |x::r,k,0=>by simp[u6,rm,zo]
 |x::r,k,i+1=>by
  have ga:Nat.beq (k+(i+1)) k=false:=by
   cases hb:Nat.beq (k+(i+1)) k with
   |false=>rfl
   |true=>have:=bu hb;omega
  have:=EH r (k+1) i;simp only[u6,rm,zo,ga,cond_false];rw[show k+(i+1)=k+1+i by omega];exact this
theorem adm(args:List CV):LM args=rm (u6 0 args):=by
 funext i
 have:=EH args 0 i;rw[cD]at this;rw[this];rfl
def Mm(T:lz)(rs:List ResultVar)(R:List CV->aD->Prop):Exit->KY
 | .ret=>λfl L m x=>O3 T (iA fl L m x) rs λr=>R r m
 | .normal=>λfl L m x=>O3 T (iA fl L m x) rs λr=>R r m
 |_=>λ_ _ _ _=>False
variable{R:List CV->aD->Prop}
theorem ce{code:Code}{rs:List ResultVar}(h:fFl (u6 0 args) λfl=>Tl c code (Mm T rs R) fl [] m []):xwp c code (amr T rs R) ⟨LM args,[],m,[]⟩:=by
 rw[adm];refine XQ code (λe s ⟨fl,L,m,x,e',h⟩=>?_) (yJ h);subst e'
 cases e<;>first|exact h|exact h.elim
def ig(a b:aD):aD:=λx=>match a x with
 |some o=>some o
 |none=>b x
def gY:List aD->aD
 |[]=>iI
 |a::r=>ig a (gY r)
def Dj(a b:aD):Prop:=∀x,a x=none\/b x=none
variable{a b:aD}
theorem Dj.symm(h:Dj a b):Dj b a:=λx=>(h x).symm
def aq(m:aD)(l:List aD):Prop:=cL (gY l) m/\l.Pairwise Dj
theorem eQ:∀{l:List aD}{x:Nat}{o:Obj},gY l x=some o->∃a∈l,a x=some o
 |[],_,_,h=>by cases h
 |a::r,x,o,h=>by
  simp only[gY,ig]at h
  split at h
  ·rename_i u hu;cases h;exact⟨a,by simp,hu⟩
  ·obtain⟨b,hb,hx⟩:=eQ h
   exact⟨b,by simp[hb],hx⟩
theorem jE:∀{l:List aD},l.Pairwise Dj->∀{a:aD},a∈l->∀{x:Nat}{o:Obj},a x=some o->gY l x=some o
 |[],_,a,ha,_,_,_=>by cases ha
 |b::r,hp,a,ha,x,o,hx=>by
  rw[bh]at hp;simp only[gY,ig];rcases aU.1 ha with rfl|ha
  ·rw[hx]
  ·have:b x=none:=by
    rcases hp.1 a ha x with h|h
    ·exact h
    ·rw[hx]at h;cases h
   rw[this];exact jE hp.2 ha hx
theorem pM:∀{l:List aD}{x:Nat},gY l x=none↔∀a∈l,a x=none
 |[],x=>by simp[gY,iI]
 |a::r,x=>by
  simp only[gY,ig,aU,Fq]
  cases h:a x with
  |none=>simp[pM (l:=r)]
  |some o=>simp
variable{l:List aD}
theorem aax{l':List aD}(hp:l.Pairwise Dj)(h:l.Perm l'):gY l=gY l':=by
 have tZ:l'.Pairwise Dj:=h.pairwise hp (λh=>h.symm)
 funext x
 cases hx:gY l x with
 |none=>
  symm
  rw[pM]at hx⊢;exact λa ha=>hx a (h.mem_iff.2 ha)
 |some o=>
  obtain⟨a,ha,AH⟩:=eQ hx;exact(jE tZ (h.mem_iff.1 ha) AH).symm
theorem aq.fm{l':List aD}(h:aq m l)(hp:l.Perm l'):aq m l':=
 ⟨by rw[<-aax h.2 hp];exact h.1,hp.pairwise h.2 (λh=>h.symm)⟩
theorem aq.one(m:aD):aq m [m]:=⟨λx o h=>by obtain⟨a,ha,hx⟩:=eQ h;rw[aL.1 ha]at hx;exact hx,by simp⟩
theorem aq.sub(h:aq m l)(ha:a∈l:=by simp):cL a m:=λ_ _ hx=>h.1 _ _ (jE h.2 ha hx)
variable{x:Nat}{o:Obj}
theorem aq.get(h:aq m l)(ha:a∈l)(hx:a x=some o):m x=some o:=h.sub ha _ _ hx
theorem aq.none{m:aD}{l:List aD}(h:aq m l){x:Nat}(hx:m x= .none):∀a∈l,a x= .none:=λa ha=>by
 cases AH:a x with
 |none=>rfl
 |some o=>have:=h.get ha AH;rw[hx]at this;cases this
theorem aq.drop(h:aq m (a::l)):aq m l:=by
 have hp:=bh.1 h.2;refine⟨λx o hx=>?_,hp.2⟩;obtain⟨b,hb,HW⟩:=eQ hx;exact h.get (by simp[hb]) HW
theorem aq.cA(h:aq m l):aq m (iI::l):=⟨h.1,by rw[bh];exact⟨λ_ _ _=>.inl rfl,h.2⟩⟩
theorem Zn(a:aD):ig a iI=a:=by funext x;simp only[ig,iI];cases a x<;>rfl
theorem ED(a b c:aD):ig (ig a b) c=ig a (ig b c):=by funext x;simp only[ig];cases a x<;>simp
theorem Bb:ig a b x=none↔a x=none/\b x=none:=by simp only[ig];cases a x<;>simp
theorem aq.jo(h:aq m (a::b::l)):aq m (ig a b::l):=by
 obtain⟨h1,h2⟩:=h;simp only[bh,aU,Fq]at h2;refine⟨by simp only[gY]at h1⊢;rw[ED];exact h1,?_⟩;rw[bh];refine⟨λc hc x=>?_,h2.2.2⟩;rw[Bb];rcases h2.1.2 c hc x with h'|h'
 ·rcases h2.2.1 c hc x with H4|H4
  ·grind
  grind
 grind
theorem aq.abk(h:aq m (ig a b::l))(hd:Dj a b):aq m (a::b::l):=by
 obtain⟨h1,h2⟩:=h;rw[bh]at h2;refine⟨by simp only[gY]at h1⊢;rw[<-ED];exact h1,?_⟩;simp only[bh,aU,Fq];refine⟨⟨hd,λc hc x=>?_⟩,λc hc x=>?_,h2.2⟩
 ·rcases h2.1 c hc x with h'|h'
  ·exact .inl (Bb.1 h').1
  grind
 ·rcases h2.1 c hc x with h'|h'
  ·exact .inl (Bb.1 h').2
  grind
theorem aq.dj(h:aq m (a::b::l)):Dj a b:=by
 have:=h.2;simp only[bh,aU,Fq]at this;exact this.1.1
variable{m1:aD}
theorem cr.Bm{WM:aD}{fb:List aD}{W W':World}(hs:aq m (m1::fb))(hW:mg m W)(h:cr m1 W WM W'):∃m',aq m' (WM::fb)/\cr m W m' W':=by
 have zw:∀a∈fb,∀x o,a x=some o->m x=some o/\m1 x=none/\x<W.heap.size:=by
  intro a ha x o hx;have h1:=hs.get (bO _ ha) hx;refine⟨h1,?_,hW.lt h1⟩;rcases(bh.1 hs.2).1 a ha x with h'|h'
  ·exact h'
  grind
 have hp:(WM::fb).Pairwise Dj:=by
  rw[bh];refine⟨λa ha x=>?_,(bh.1 hs.2).2⟩
  cases hx:a x with
  |none=>exact .inr rfl
  |some o=>
   obtain⟨_,h2,h3⟩:=zw a ha x o hx;exact .inl (h.frame x h3 h2).1
 refine⟨gY (WM::fb),⟨cL.refl _,hp⟩,⟨?_,h.size,h.tape,h.os,h.output,?_,λs=>h.drawn (s.lB (aW _) λb hb=>hs.none hb m1 (by simp))⟩⟩
 ·intro x o hx
  obtain⟨a,ha,AH⟩:=eQ hx;rcases aU.1 ha with rfl|ha
  ·exact h.jF x o AH
  ·obtain⟨h1,h2,h3⟩:=zw a ha x o AH
   rw[(h.frame x h3 h2).2];exact hW x o h1
 ·intro x hx hm
  have hm:=hs.none hm;have h1:=hm m1 (by simp);obtain⟨k1,k2⟩:=h.frame x hx h1;refine⟨?_,k2⟩;rw[pM]
  grind
theorem mg.part{fb:List aD}{W:World}(hs:aq m (m1::fb))(hW:mg m W):mg m1 W:=hW.sub (hs.sub)
theorem bi.frame{fb:List aD}(hs:aq m (m1::fb))(h:bi P f args m1 R):
  bi P f args m λr m'=>∃WM,R r WM/\aq m' (WM::fb):=by
 refine⟨h.1,λha W hW=>(h.2 ha W (hW.part hs)).mono λe W' ⟨r,WM,h1,h2,h3,h4⟩=>?_⟩;obtain⟨m',h5,h6⟩:=h4.Bm hs hW
 grind
def blk1(b:Nat)(o:Obj):aD:=λx=>if x=b then some o else none
theorem aG(b:Nat)(o:Obj):blk1 b o b=some o:=by simp[blk1]
variable{b:Nat}
theorem aan{u:Obj}(h:blk1 b o x=some u):x=b/\o=u:=by
 unfold blk1 at h;split at h
 ·grind
 ·cases h
theorem aao:blk1 b o x=none↔x≠b:=by unfold blk1;split<;>simp_all
theorem pB:ig (blk1 b o) m=m.set b o:=by
 funext x;simp only[ig,blk1,aD.set];split<;>simp_all
theorem aq.new(h:aq m l)(hb:m b= .none)(o:Obj):aq (m.set b o) (blk1 b o::l):=by
 refine⟨λx u hx=>?_,?_⟩
 ·obtain⟨a,ha,AH⟩:=eQ hx
  rcases aU.1 ha with rfl|ha
  ·obtain⟨rfl,rfl⟩:=aan AH;exact aD.bg ..
  ·exact aD.bT _ hb _ _ (h.get ha AH)
 rw[bh];refine⟨λa ha x=>?_,h.2⟩;by_cases e:x=b
 ·subst e;exact .inr (h.none hb a ha)
 ·exact .inl (aao.2 e)
theorem aq.set(h:aq m (a::l))(hb:a b=some o)(o':Obj):aq (m.set b o') (a.set b o'::l):=by
 have h2:=bh.1 h.2;refine⟨λx u hx=>?_,?_⟩
 ·obtain⟨c,hc,hcx⟩:=eQ hx
  by_cases e:x=b
  ·subst e
   rcases aU.1 hc with rfl|hc
   ·rw[aD.bg]at hcx⊢;exact hcx
   ·rcases h2.1 c hc x with h'|h'
    ·grind
    grind
  ·rw[aD.eH _ _ e]
   rcases aU.1 hc with rfl|hc
   ·rw[aD.eH _ _ e]at hcx;exact h.get (by simp) hcx
   ·exact h.get (by simp[hc]) hcx
 ·rw[bh]
  refine⟨λc hc x=>?_,h2.2⟩;by_cases e:x=b
  ·subst e
   rcases h2.1 c hc x with h'|h'
   ·grind
   grind
  ·rw[aD.eH _ _ e];exact h2.1 c hc x
theorem cJ(b:Nat)(o o':Obj):(blk1 b o).set b o'=blk1 b o':=by funext x;simp only[blk1,aD.set];split<;>simp_all
section
variable {P:Program}{T:lz}
theorem mu(hT:fW P T){t e:TypeId}{ti ei:TI}(ht:T t=some ti)(hk:ti.k= .slice e)(he:T e=some ei){m:aD}:
  bF P (.buildSlice t 0 []) [] m λr m'=>∃b,m b=none/\r=[.v (.slice (some ⟨b,0,none⟩) 0 0)]/\m'=m.set b (.cells #[] e):=by
 intro ez ty W hW;obtain⟨j,hj,JP,_,z,hz,hzc⟩:=(hT e ei he).WX;have hu:=(hT t ti ht).slice hk;refine⟨[.v (.slice (some ⟨W.heap.size,0,none⟩) 0 0)],m.set W.heap.size (.cells #[] e),W.alloc (.cells #[] e),?_,?_,⟨W.heap.size,hW.none (aW _),rfl,rfl⟩,(cr.refl hW).alloc _⟩
 ·simp[dF.run,dF.dE,dF.Fz,cond_false,gm,CV.val,Instr.buildSlice,run_underlying hu,sizeOf,typeInfo,hj,newRow,Instr.fill]
  grind
 ·intro x hx
  simp at hx;subst hx;rfl
end
section
variable {P:Program}{T:lz}
theorem cr.setObj{m:aD}{W:World}(hW:mg m W){b:Nat}{o:Obj}(hb:m b=some o){o':Obj}{h:Array Obj}(hs:h.size=W.heap.size)(h1:h[b]?=some o') (h2:∀x,x≠b->h[x]?=W.heap[x]?):
  cr m W (m.set b o') {W with heap:=h}:=by
 refine⟨λx u hx=>?_,by show W.heap.size<=h.size;omega,rfl,rfl,rfl,λx hx hm=>?_,λ_=>aW _⟩
 ·by_cases e:x=b
  ·subst e;rw[aD.bg]at hx;cases hx;exact h1
  ·rw[aD.eH _ _ e]at hx;exact(h2 x e).trans (hW x u hx)
 ·have e:x≠b:=λe=>by subst e;rw[hb]at hm;cases hm
  exact⟨by rw[aD.eH _ _ e];exact hm,h2 x e⟩
end
theorem Im{α:Type}:∀(l:List α) (i:Nat) (a:α),l[i]?=some a->(a::l.eraseIdx i).Perm l
 |[],_,_,h=>by simp at h
 |x::l,0,a,h=>by simp at h;subst h;exact .refl _
 |x::l,i+1,a,h=>by
  simp only[List.eraseIdx_cons_succ];exact(List.Perm.swap x a _).trans ((Im l i a (by simpa using h)).cons x)
theorem PF{α:Type}:∀(l:List α) (i:Nat) (a:α),i<l.length->(l.set i a).Perm (a::l.eraseIdx i)
 |[],_,_,h=>by simp at h
 |x::l,0,a,h=>.refl _
 |x::l,i+1,a,h=>by
  simp only[List.eraseIdx_cons_succ,List.set_cons_succ];exact((PF l i a (by simpa using h)).cons x).trans (List.Perm.swap a x _)
variable{i:Nat}
theorem aq.pick(h:aq m l)(hi:l[i]?=some a):aq m (a::l.eraseIdx i):=by
 exact h.fm (Im l i a hi).symm
variable{p:aD}
theorem aq.Gb(hi:l[i]?=some p) (h:aq m (a::l.eraseIdx i)):aq m (l.set i a):=
 h.fm (PF l i a (aQ.1 hi).1).symm
theorem aq.at(h:aq m l)(hi:l[i]?=some p):cL p m:=h.sub (dJ hi)
variable{α:Type}
theorem abJ{l:List α}{p:α}(h:l[i]?=some p) (q:α):(l.set i q)[i]?=some q:=y1 (aQ.1 h).1
variable{j:Nat}
theorem BO{l:List α}{p:α}(h:l[j]?=some p) (ZD:i≠j) (q:α):(l.set i q)[j]?=some p:=by rw[LK ZD];exact h
theorem aq.gu(h:aq m l)(hi:l[i]?=some p)  (hb:p b=some o) (o':Obj):aq (m.set b o') (l.set i (p.set b o')):=
 aq.Gb hi ((h.pick hi).set hb o')
theorem bi.at(hs:aq m l)(hi:l[i]?=some p) (h:bi P f args p R):
  bi P f args m λr m'=>∃p',R r p'/\aq m' (l.set i p'):=
 (h.frame (hs.pick hi)).mono λ_ _ ⟨p',h1,h2⟩=>⟨p',h1,aq.Gb hi h2⟩
theorem bF.mono{p:dF}{R':List CV->aD->Prop}(h:bF P p args m R)(k:∀r m',R r m'->R' r m'):bF P p args m R':=λha ty W hW=>
 let ⟨r,m',W',h1,h2,h3,h4⟩:=h ha ty W hW
 ⟨r,m',W',h1,h2,k _ _ h3,h4⟩
variable{m':aD}
theorem aq.under{a:List aD}(h:aq m' (a++[m]))(hs:aq m l):aq m' (a++l):=by
 obtain⟨h1,h2⟩:=h;rw[cm]at h2;refine⟨λx o hx=>?_,?_⟩
 ·obtain⟨c,hc,hcx⟩:=eQ hx
  rcases aR.1 hc with hc|hc
  ·exact h1 _ _ (jE (cm.2 h2) (by simp[hc]) hcx)
  ·exact h1 _ _ (jE (cm.2 h2) (a:=m) (by simp) (hs.get hc hcx))
 ·rw[cm]
  refine⟨h2.1,hs.2,λx hx y hy z=>?_⟩;rcases h2.2.2 x hx m (by simp) z with h'|h'
  ·grind
  ·exact .inr (hs.none h' y hy)
theorem aq.Vn{q:aD}{ls:List aD}(hs:aq m l)(hi:l[i]?=some q) (h:aq q ls):aq m (ls++l.eraseIdx i):=by
 have hp:=hs.pick hi;have hd:=bh.1 hp.2;refine⟨λx o hx=>?_,?_⟩
 ·obtain⟨c,hc,hcx⟩:=eQ hx
  rcases aR.1 hc with hc|hc
  ·exact hs.at hi _ _ (h.get hc hcx)
  ·exact hp.get (by simp[hc]) hcx
 ·rw[cm]
  refine⟨h.2,hd.2,λa ha b hb x=>?_⟩;rcases hd.1 b hb x with h'|h'
  ·exact .inl (h.none h' a ha)
  grind
theorem aq.dV(h:aq m l)(i:Nat):aq m (l.eraseIdx i):=by
 by_cases hi:i<l.length
 ·exact(h.pick (i:=i) (az hi)).drop
 ·rw[List.eraseIdx_of_length_le (by omega)];exact h
section
variable {P:Program}{T:lz}
theorem kC(hT:fW P T){t e tx:TypeId}{ti ei xi:TI}(ht:T t=some ti)(hk:ti.k= .slice e)(he:T e=some ei)(hx:T tx=some xi)(hz:(LB.cz ei.zero).length=ei.size){v x:Value}{c news:List Value}{m p:aD}{l:List aD}{i:Nat}
  (hs:aq m l) (hi:l[i]?=some p) (hv:mf p e ei.size v c) (hg:s5 m ei.size xi.k x news) (alK:(2*(fg v+fg x)+768)*ei.bytes<=281474976710656) (kW:fg v+fg x<=9223372036854775807):
  bF P (.builtin .append [t,tx]) [.v v,.v x] m λr m'=>∃v' p',r=[.v v']/\aq m' (l.set i p')/\Apd p e ei.size v (c++news) (fg x) v' p':=by
 have auh:mf m e ei.size v c:=hv.sub (hs.at hi);intro ha ty W hW;obtain⟨r,m',W',h1,h2,⟨v',rfl,HZ⟩,h4⟩:=E2 hT ht hk he hx hz auh hg alK kW ha ty W hW;have qW:=hs.pick hi;have hp:=bh.1 qW.2
 have hvb:∀b,lp v=some b->∃o,p b=some o:=by
  intro b hb;rcases hv with⟨rfl,_⟩|⟨b',o',c,n,arr,rfl,qB,_⟩
  ·simp[lp]at hb
  ·simp only[lp,aM]at hb;subst hb;exact⟨_,qB⟩
 let p':aD:=λx=>if lp v'=some x then m' x else if lp v=some x then none else p x
 have tZ:∀x o,p' x=some o->m' x=some o/\(lp v'=some x\/p x=some o):=by
  intro x o hx;simp only[p']at hx;by_cases e1:lp v'=some x
  ·grind
  ·rw[if_neg e1]at hx
   by_cases e2:lp v=some x
   ·grind
   ·rw[if_neg e2]at hx
    exact⟨HZ.cR x o (hs.at hi _ _ hx) e2,.inr hx⟩
 have hdj:(p'::l.eraseIdx i).Pairwise Dj:=by
  rw[bh];refine⟨λa haa x=>?_,hp.2⟩
  cases hx:p' x with
  |none=>exact .inl rfl
  |some o=>
   refine .inr ?_;obtain⟨_,q|q⟩:=tZ x o hx
   ·rcases HZ.new x q with h'|h'
    ·obtain⟨u,hu⟩:=hvb x h'
     rcases hp.1 a haa x with H4|H4
     ·rw[hu]at H4;cases H4
     ·exact H4
    ·exact qW.none h' a (by simp[haa])
   ·rcases hp.1 a haa x with H4|H4
    ·rw[q]at H4;cases H4
    ·exact H4
 refine⟨[.v v'],gY (p'::l.eraseIdx i),W',h1,h2,⟨v',p',rfl,aq.Gb hi ⟨cL.refl _,hdj⟩,?_,?_,?_,HZ.len⟩,?_⟩
 ·exact HZ.ux.cR λb hb=>by simp[p',hb]
 ·intro b o hb ga
  simp only[p'];by_cases e1:lp v'=some b
  ·rw[aC e1];exact HZ.cR b o (hs.at hi _ _ hb) ga
  grind
 ·intro b hb
  rcases HZ.new b hb with h'|h'
  ·grind
  ·exact .inr (qW.none h' p (by simp))
 ·refine h4.H9 λx o hx=>?_
  obtain⟨a,haa,AH⟩:=eQ hx;rcases aU.1 haa with rfl|haa
  ·grind
  ·refine HZ.cR x o (qW.get (by simp[haa]) AH) λhb=>?_
   obtain⟨u,hu⟩:=hvb x hb;rcases hp.1 a haa x with H4|H4
   ·grind
   grind
end
def bc(l:List Int):List Value:=l.map (Value.int .u8)
theorem Mh(a b:List Int):bc (a++b)=bc a++bc b:=by simp[bc]
theorem Ed(a:List Int):(bc a).length=a.length:=by simp[bc]
theorem VW{a:List Int}:∀u∈bc a,u.oneCell'=true:=by
 intro u hu;simp only[bc,aV]at hu;obtain⟨a,_,rfl⟩:=hu;rfl
theorem ark{a:List Int}{u:Value}(h:(bc a)[j]?=some u):∃n,a[j]?=some n/\u= .int .u8 n:=by
 simp only[bc,cj,uE]at h
 grind
def Lb(m:aD)(v:Value)(l:List Int):Prop:=gq m 1 v (bc l)
variable{l:List Int}
theorem Lb.len(h:Lb m v l):fg v=l.length:=by have:=gq.len h;rw[Ed]at this;omega
theorem Lb.sub(h:Lb m v l)(hs:cL m m'):Lb m' v l:=gq.sub h hs
theorem Lb.nil(m:aD)(c:Nat):Lb m (.slice none 0 c) []:=.inl ⟨c,rfl,rfl⟩
theorem Lb.one(h:Lb m v l):v.oneCell'=true:=gq.one h
theorem Lb.cases(h:Lb m v l):(∃c,v= .slice none 0 c/\l=[])\/∃b o c arr t fr,v= .slice (some ⟨b,o,none⟩) l.length c/\m b=some (.cells arr t fr)/\l.length<=c/\(∀j n,l[j]?=some n->arr[o+j]?=some (.int .u8 n)):=by
 rcases h with⟨c,rfl,h⟩|⟨b,o,c,n,arr,t,fr,rfl,h1,h2,h3,h4,h5⟩
 ·exact .inl ⟨c,rfl,by simpa [bc]using h⟩
 ·rw[Ed,eG]at h2
  subst h2;exact .inr ⟨b,o,c,arr,t,fr,rfl,h1,h3,λj n hj=>h4 j _ (by simp[bc,hj])⟩
theorem Lb.shape(h:Lb m v l):∃a c,v= .slice a l.length c:=by
 rcases h.cases with⟨c,rfl,rfl⟩|⟨b,o,c,arr,t,fr,rfl,_⟩<;>exact⟨_,_,rfl⟩
theorem Lb.real(h:Lb m v l)(hl:l≠[]):∃b o c,v= .slice (some ⟨b,o,none⟩) l.length c:=by
 rcases h.cases with⟨c,rfl,rfl⟩|⟨b,o,c,arr,t,fr,rfl,_⟩
 ·grind
 grind
variable{o n:Nat}{fr:Nat×Nat}{arr:Array Value}
theorem Lb.mk{c:Nat}(h1:m b=some (.cells arr t fr))(hn:l.length=n)(h2:n<=c)(h3:∀j n,l[j]?=some n->arr[o+j]?=some (.int .u8 n)):Lb m (.slice (some ⟨b,o,none⟩) n c) l:=
 .inr ⟨b,o,c,n,arr,t,fr,rfl,h1,by rw[Ed,hn,eG],h2,λj u hu=>by obtain⟨n,h4,rfl⟩:=ark hu;exact h3 j n h4,VW⟩
theorem Lb.range{c:Nat}(h:Lb m (.slice (some ⟨b,o,none⟩) n c) l):dQ m b o (l.map (Value.int .u8)):=by
 rcases h with⟨c',h,_⟩|⟨b',o',c',n',arr,t,fr,h,h1,h2,h3,h4,h5⟩
 ·cases h
 ·cases h;exact⟨arr,t,fr,h1,h4⟩
variable{off:Nat}
theorem aF(h:m b=some (.cells arr t fr))(hv:arr[off]?=some v):gR m b off=some v:=by simp only[gR,h];exact hv
theorem nH(h:gR m b o=some v)(hs:cL m m'):gR m' b o=some v:=by
 unfold gR at h⊢
 cases hb:m b with
 |none=>simp[hb]at h
 |some u=>rw[hb]at h;rw[hs _ _ hb];exact h
theorem akJ{A c B:List Value}{u:Value}(hA:A.length=off)(hu:c[j]?=some u):(A++(c++B)).toArray[off+j]?=some u:=by
 grind
theorem dQ.sub{l:List Value}(h:dQ m b o l)(hs:cL m m'):dQ m' b o l:=by
 obtain⟨arr,t,fr,h1,h2⟩:=h;exact⟨arr,t,fr,hs _ _ h1,h2⟩
theorem dQ.Wl(A B:LB){c:LB}(h:m b=some (.cells (LB.cz (A++(c++B))).toArray t fr))(hA:(LB.cz A).length=off):dQ m b off (LB.cz c):=
 ⟨_,_,_,h,λj u hu=>by rw[LB.jW,LB.jW];exact akJ hA hu⟩
theorem Lb.awU(h:m b=some (.cells (bc l).toArray t fr))(hn:l.length=n):Lb m (.slice (some ⟨b,0,none⟩) n n) l:=
 Lb.mk h hn (aW _) λj n hj=>by simp[bc,hj]
def La(m:aD)(v:Value)(l:List Int):Prop:=Lb m v l\/(l=[]/\∃a,v= .slice (some a) 0 0)
theorem Lb.la(h:Lb m v l):La m v l:=.inl h
theorem La.sub(h:La m v l)(hs:cL m m'):La m' v l:=h.imp (·.sub hs) id
theorem La.shape(h:La m v l):∃a c,v= .slice a l.length c:=by
 rcases h with h|⟨rfl,a,rfl⟩
 ·exact h.shape
 simp_all
theorem La.len(h:La m v l):fg v=l.length:=by obtain⟨a,c,rfl⟩:=h.shape;rfl
theorem La.one(h:La m v l):v.oneCell'=true:=by obtain⟨a,c,rfl⟩:=h.shape;rfl
theorem La.vh{e:TypeId}(h:La m v l):s5 m 1 (.slice e) v (bc l):=.inl ⟨e,rfl,h.imp id λ⟨h1,h2⟩=>⟨by rw[h1];rfl,h2⟩⟩
theorem La.lb(h:La m v l)(hl:l≠[]):Lb m v l:=h.elim id λh=>absurd h.1 hl
def by8(l:List Int):List UInt8:=l.map λn=>UInt8.ofNat n.toNat
theorem KF:∀(l:List Int) (r:ByteArray),(l.foldl (λr n=>r.push (UInt8.ofNat n.toNat)) r).data.toList=r.data.toList++by8 l
 |[],r=>by simp[by8]
 |x::l,r=>by
  simp only[gd];rw[KF l];simp[by8,ByteArray.push]
theorem Gn(l:List Int):(tH l).data.toList=by8 l:=by
 rw[tH,KF];rfl
abbrev cx(b:Nat):CV:=.v (.pointer (some ⟨b,0,none⟩))
abbrev aoW:CV:=.v (.pointer none)
theorem xM{q K:Value->Prop}(h:m b=some (.cells arr t fr))(k:K v)(hv:arr[off]?=some v:=by rfl) (hq:q v:=by rfl):∃v,gR m b off=some v/\q v/\K v:=⟨v,aF h hv,hq,k⟩
section
variable {P:Program}{T:lz}
theorem aD.PE{m:aD}{b:Nat}{o:Obj}(h:m b=some o):m.set b o=m:=by
 funext x;by_cases e:x=b
 ·subst e;rw[aD.bg,h]
 ·rw[aD.eH _ _ e]
theorem VL(hT:fW P T){t e tx:TypeId}{ti ei:TI}(ht:T t=some ti)(hk:ti.k= .slice e)(he:T e=some ei)(hz:ei.size=1){m:aD}{b o n c:Nat}{arr:Array Value}{te:TypeId}(hb:m b=some (.cells arr te))(jH:o+n<=arr.size)
  {x:Value}{news:List Value} (hx:gq m 1 x news):
  bF P (.builtin .copy [t,tx]) [.v (.slice (some ⟨b,o,none⟩) n c),.v x] m λr m'=>r=[.v (.int .i64 ((min news.length n:Nat):Int))]/\m'=m.set b (.cells (arr.toList.take o++news.take n++arr.toList.drop (o+(news.take n).length)).toArray te):=by
 intro ez ty W hW;obtain⟨j,hj,JP,_⟩:=(hT e ei he).WX;have hu:=(hT t ti ht).slice hk;have yD:=hW _ _ hb;rcases hx with⟨c',rfl,rfl⟩|⟨b',o',c',n',CH,t',fr',rfl,h1,h2,h3,h4,h5⟩
 ·refine⟨_,_,W,?_,?_,⟨rfl,rfl⟩,?_⟩
  ·simp[dF.run,dF.dE,dF.Fz,cond_false,CV.val,gm,Builtin.copy_,run_underlying hu,Builtin.lenOf,Builtin.firstCells,sizeOf,typeInfo,hj,storeCells]
   rfl
  ·intro y hy;simp at hy;subst hy;rfl
  ·simp only[List.take_nil,cO,cW,gO,dL,iw]
   rw[aD.PE hb];exact cr.refl hW
 ·have ZA:n'=news.length:=by omega
  subst ZA
  have hr:=run_copy_row (P:=P) W t tx ty e b o n c ⟨b',o',none⟩ news.length c' arr te (news.take n) hu (by rw[hj];simp[JP,hz]) yD (by simp[Nat.min_comm]) (λj v hv=>by
   rw[ii,iO (hW _ _ h1)];refine h4 j v ?_;have hl:=(aQ.1 hv).1;simp only[aK]at hl;rw[bN,aC (by omega)]at hv
   exact hv) (by simp;omega) (λv hv=>h5 v (bX hv))
  refine⟨_,_,_,?_,?_,⟨rfl,rfl⟩,(cr.refl hW).setRow hb _⟩
  ·simp only[dF.run,dF.dE,dF.Fz,cond_false,aZ,lK,CV.val,gm]
   refine hr.trans ?_;simp only[aK,Nat.min_comm];rfl
  ·intro y hy;simp at hy;subst hy;rfl
end
section
variable {P:Program}{T:lz}
theorem sR(hT:fW P T){t e:TypeId}{ti:TI}(ht:T t=some ti)(hk:ti.k= .slice e){m:aD}{a:Option Addr}{n c:Nat}:
  bF P (.builtin .cap [t]) [.v (.slice a n c)] m λr m'=>r=[.v (.int .i64 c)]/\m=m':=by
 intro _ ty W hW;refine⟨[.v (.int .i64 c)],m,W,?_,?_,⟨rfl,rfl⟩,cr.refl hW⟩
 ·simp[dF.run,dF.dE,dF.Fz,cond_false,CV.val,gm,Builtin.cap_,run_underlying ((hT t ti ht).slice hk)];rfl
 ·intro x hx;simp at hx;subst hx;rfl
theorem df{f:FuncId}{n:Nat}{cs:List Value}{m:aD}(ox:∀x∈cs,x.oneCell'=true):
  bF P (.makeFunc (.func f) n) (cs.map CV.v) m λr m'=>r=[.v (.func (.func f) (cs.take n).toArray (cs.drop n).toArray)]/\m=m':=by
 intro _ ty W hW;refine⟨[.v (.func (.func f) (cs.take n).toArray (cs.drop n).toArray)],m,W,?_,?_,⟨rfl,rfl⟩,cr.refl hW⟩
 ·simp[dF.run,dF.dE,dF.Fz,cond_false,CV.val,gm,Instr.makeFunc,Function.comp_def]
 ·intro x hx;simp at hx;subst hx;rfl
theorem adh{d:TypeDesc}{k:IntKind}(h:TK.of d= .int k):d= .int k:=by
 cases d<;>simp[TK.of]at h;subst h;rfl
theorem aaK(hT:fW P T){t e tn:TypeId}{ti ei ni:TI}{kn:IntKind}(ht:T t=some ti)(hk:ti.k= .slice e)(he:T e=some ei)(hn:T tn=some ni)(U5:ni.k= .int kn)(JL:0<ei.size){m:aD}{v:Value}{a:Option Addr}{n c k:Nat}{l:List Value}
  (hv:v= .slice a n c) (hl:gq m ei.size v l) (h0:0<k) (hg:c<n+k) (hb:(2*(n+k)+768)*ei.bytes<=281474976710656) (kW:n+k<=9223372036854775807):
  bF P (.builtin .append [t,tn]) [.v v,.v (.int .i64 k)] m λr m'=>∃b C,m b=none/\n+k<=C/\r=[.v (.slice (some ⟨b,0,none⟩) (n+k) C)]/\
   m'=m.set b (.cells (l.toArray++Builtin.zeroCells (LB.cz ei.zero).toArray k++Builtin.zeroCells (LB.cz ei.zero).toArray (C-(n+k))) e):=by
 intro _ ty W hW;subst hv;obtain⟨j,hj,JP,hjb,z,hjz,hzc⟩:=(hT e ei he).WX;have W9:=(hT t ti ht).slice hk;obtain⟨d,h1,h2⟩:=(hT tn ni hn).desc;rw[U5]at h2;have hd:=adh h2;subst hd
 have Bg:(Builtin.firstCells j.size n (.slice a n c)).run P W.drew= .ok l.toArray W.drew:=by
  rw[JP];rcases hl with⟨c',e',rfl⟩|⟨b,o,c',n',arr,t',fr,e',g1,g2,_,g3,g4⟩
  ·cases e';simp[Builtin.firstCells]
  ·cases e'
   refine run_firstCells_some W.drew ei.size n _ n c l g2 (λi u hu=>?_);rw[ii];have hW1:W.drew.heap[b]?=some (.cells arr t' fr):=hW _ _ g1;rw[iO hW1]
   grind
 have hbk:k*ei.bytes<=281474976710656:=bq (cS _ (by omega)) hb;have lm:=Lib.run_append_grow_zeros W t tn ty e j z .i64 kn W9 h1 hj hjz a n c l Bg k h0 (by omega) hg (by omega) (by rw[hjb];exact hbk) (by rw[hjb];exact bq (cS _ (Hh hg)) hb);have yA:=grownCap_ge W (n+k) c e;generalize grownCap W (n+k) c e=C at lm yA;rw[hzc]at lm;exact⟨[.v (.slice (some ⟨W.heap.size,0,none⟩) (n+k) C)],_,_,lm,(by intro y hy;simp at hy;subst hy;rfl),⟨W.heap.size,C,hW.none (aW _),yA,rfl,rfl⟩,(cr.refl hW).drew.alloc _⟩
end
def jR(s:ByteArray):List Nat:=s.data.toList.map UInt8.toNat
theorem ue(s:ByteArray):(jR s).length=s.size:=by simp[jR]
theorem amf(s:ByteArray):∀x∈jR s,x<256:=by
 intro x hx;simp only[jR,aV]at hx;obtain⟨a,_,rfl⟩:=hx;exact a.toNat_lt
section
variable {P:Program}{T:lz}
theorem Cy(hT:fW P T){t t' e:TypeId}{ti' ti ei:TI}(ht':T t'=some ti')(ht:T t=some ti)(hk:ti.k= .slice e)(he:T e=some ei)(hek:ei.k= .int .u8){m:aD}{s:ByteArray}:
  bF P (.conv t' t) [.v (.string s)] m λr m'=>∃b c o,m b=none/\r=[.v (.slice (some ⟨b,0,none⟩) s.size c)]/\m'=m.set b o/\Lb m' (.slice (some ⟨b,0,none⟩) s.size c) ((jR s).map λ(n:Nat)=>(n:Int)):=by
 intro ez ty W hW;have hu:=(hT t ti ht).slice hk
 have hue:P.underlying e=some (.int .u8):=by
  obtain⟨d,h1,h2⟩:=(hT e ei he).desc;rw[hek]at h2
  cases d<;>simp[TK.of]at h2
  rw[h1,h2]
 obtain⟨d',hs,_⟩:=(hT t' ti' ht').desc;have hr:=Lib.run_convert_string_bytes (P:=P) W t' t e s hs hu hue;have Ad:=Lib.bytesWorld_size W e s;refine⟨_,m.set W.heap.size (.cells (Lib.bytesCells W e s) e ((Lib.bytesCells W e s).size,(Lib.bytesCells W e s).size+1)),Lib.bytesWorld W e s,?_,?_,⟨W.heap.size,grownCap W s.size 0 e,_,hW.none (aW _),rfl,rfl,?_⟩,?_⟩
 ·simpa [dF.run,dF.dE,dF.Fz,cond_false,gm,CV.val]using hr
 ·intro x hx
  simp at hx;subst hx;rfl
 ·have yA:=grownCap_ge W s.size 0 e
  refine Lb.mk (aD.bg ..) (by simp[jR]) yA (λj n hj=>?_);rw[cj]at hj;obtain⟨x,hx,rfl⟩:=uE.1 hj;simp only[jR,cj]at hx;obtain⟨y,hy,rfl⟩:=uE.1 hx;have hl:=(aQ.1 hy).1;rw[cD,Lib.bytesCells,fI (by simpa using hl),Array.getElem?_map]
  grind
 ·refine⟨?_,by rw[Ad];omega,rfl,rfl,rfl,?_,λ_=>Nat.le_succ _⟩
  ·intro x u hx
   by_cases ex:x=W.heap.size
   ·subst ex;rw[aD.bg]at hx;cases hx;exact Lib.bytesWorld_at_new W e s
   ·rw[aD.eH _ _ ex]at hx
    rw[Lib.bytesWorld_at_old W e s x (hW.lt hx)];exact hW _ _ hx
  ·intro x hx hm
   exact⟨by rw[aD.eH _ _ (by omega)];exact hm,Lib.bytesWorld_at_old W e s x hx⟩
end
section
variable {P:Program}{f:FuncId}{fn:Func}
theorem aj1{args:List CV}{m:aD}{R K:List CV->aD->Prop}(h:zV P f args m R)(k:∀r m',R r m'->K r m'):nR P f args m K:=.ext R h k
theorem aem(hf:P.funcs[f]?=some fn) (Q6:(fn.name== "runtime.NumGoroutine")=false) (hb:fn.body.isNone=true) (hn:Extern.findNext fn=none) (k:IntKind)
  (he:Extern.find fn=some (Extern.Atomic.loadT (.int k))) {m:aD}{b off:Nat}{x:Int} (hc:gR m b off=some (.int k x)):
  zV P f [.v (.pointer (some ⟨b,off,none⟩))] m λr m'=>r=[.v (.int k x)]/\m'=m:=by
 intro _ W hW
 have oY:W.cell? ⟨b,off,none⟩=some (.int k x):=by
  unfold gR at hc
  cases hm:m b with
  |none=>simp[hm]at hc
  |some o=>
   cases o with
   |cells arr t fr=>
    simp only[hm]at hc;rw[iO (hW _ _ hm)];exact hc
   |_=>simp[hm]at hc
 exact⟨[.v (.int k x)],m,W,run_call_load hf Q6 hb hn k he oY,(by intro y hy;simp at hy;subst hy;rfl),⟨rfl,rfl⟩,cr.refl hW⟩
theorem ah4(hf:P.funcs[f]?=some fn) (Q6:(fn.name== "runtime.NumGoroutine")=false) (hb:fn.body.isNone=true) (hn:Extern.findNext fn=none)
  (he:Extern.find fn=some (Extern.Atomic.update (Op.intArith .add) .u64 true)) {m:aD}{b off:Nat}{x y:Int}{arr:Array Value}{t:TypeId} (hm:m b=some (.cells arr t (0,0))) (hx:arr[off]?=some (.int .u64 x)):
  zV P f [.v (.pointer (some ⟨b,off,none⟩)),.v (.int .u64 y)] m λr m'=>r=[.v (.int .u64 (IntKind.u64.wrap (x+y)))]/\m'=m.set b (.cells (arr.setIfInBounds off (.int .u64 (IntKind.u64.wrap (x+y)))) t (0,0)):=by
 intro _ W hW;have hg:=hW _ _ hm;have oY:W.cell? ⟨b,off,none⟩=some (.int .u64 x):=by rw[iO hg];exact hx
 have hz:W.frozen? ⟨b,off,none⟩=false:=by simp[World.frozen?,hg]
 have jG:W.setCell ⟨b,off,none⟩ (.int .u64 (IntKind.u64.wrap (x+y)))=W.setRow b (arr.setIfInBounds off (.int .u64 (IntKind.u64.wrap (x+y)))):=setCell_eq_setRow W b off arr t (0,0) _ hg;have hs:(Op.intArith .add .u64 x y).run P W= .ok (.int .u64 (IntKind.u64.wrap (x+y))) W:=by simp[Op.intArith]
 have hr:=run_call_add hf Q6 hb hn .u64 he oY hz hs;rw[jG]at hr;exact⟨[.v (.int .u64 (IntKind.u64.wrap (x+y)))],_,_,hr,(by intro y hy;simp at hy;subst hy;rfl),⟨rfl,rfl⟩,(cr.refl hW).setRow hm _⟩
end
section
variable {P:Program}{T:lz}
theorem VK(hT:fW P T){t e tx:TypeId}{ti ei:TI}(ht:T t=some ti)(hk:ti.k= .slice e)(he:T e=some ei){m:aD}{b o n c b' o' n' c':Nat}{arr CH:Array Value}{te t':TypeId}{fr':Nat×Nat}(hb:m b=some (.cells arr te))(jH:o+min n' n*ei.size<=arr.size)
  {news:List Value} (qB:m b'=some (.cells CH t' fr')) (hlen:news.length=min n' n*ei.size) (h4:∀j u,news[j]?=some u->CH[o'+j]?=some u) (h5:∀u∈news,u.oneCell'=true):
  bF P (.builtin .copy [t,tx]) [.v (.slice (some ⟨b,o,none⟩) n c),.v (.slice (some ⟨b',o',none⟩) n' c')] m λr m'=>r=[.v (.int .i64 ((min n' n:Nat):Int))]/\m'=m.set b (.cells (arr.toList.take o++(news++arr.toList.drop (o+news.length))).toArray te):=by
 intro ez ty W hW;obtain⟨j,hj,JP,_⟩:=(hT e ei he).WX;have hu:=(hT t ti ht).slice hk;have yD:=hW _ _ hb;have hld:=run_loadCells_list (P:=P) W ⟨b',o',none⟩ news (λj v hv=>by rw[ii,iO (hW _ _ qB)];exact h4 j v hv);rw[hlen]at hld;have dI:=run_storeCells_at P b o te news 0 arr W yD (by rw[hlen];omega) h5;refine⟨[.v (.int .i64 ((min n' n:Nat):Int))],_,_,?_,?_,⟨rfl,rfl⟩,(cr.refl hW).setRow hb _⟩
 ·simp only[dF.run,dF.dE,dF.Fz,cond_false,aZ,lK,CV.val,gm]
  have hm:Nat.min n' n=min n' n:=rfl;simp only[gO,aX]at dI;simp[Builtin.copy_,run_underlying hu,Builtin.lenOf,Builtin.firstCells,sizeOf,typeInfo,hj,JP,hm,hld,dI];rfl
 ·intro y hy;simp at hy;subst hy;rfl
theorem qw(hT:fW P T){t e:TypeId}{ti ei:TI}(ht:T t=some ti)(hk:ti.k= .slice e)(he:T e=some ei)(hz:(LB.cz ei.zero).length=ei.size)(ox:∀u∈LB.cz ei.zero,u.oneCell'=true){m:aD}{b o n c:Nat}{arr:Array Value}{te:TypeId}(hb:m b=some (.cells arr te))(hn:0<n)(jH:o+n*ei.size<=arr.size):
  bF P (.builtin .clear [t]) [.v (.slice (some ⟨b,o,none⟩) n c)] m λr m'=>r=[]/\∃zs,zs.length=n*ei.size/\(∀u∈zs,u.oneCell'=true)/\m'=m.set b (.cells (arr.toList.take o++zs++arr.toList.drop (o+n*ei.size)).toArray te):=by
 intro ez ty W hW;obtain⟨j,hj,JP,_,z,hjz,hzc⟩:=(hT e ei he).WX;have hu:=(hT t ti ht).slice hk;have yD:=hW _ _ hb;have akX:z.cells.size=ei.size:=by rw[hzc];simpa using hz
 have hzl:(Builtin.zeroCells z.cells n).toList.length=n*ei.size:=by rw[cq,kr,akX]
 have hzo:∀u∈(Builtin.zeroCells z.cells n).toList,u.oneCell'=true:=by
  intro u hu;rw[Array.mem_toList_iff,Builtin.zeroCells,Array.mem_map]at hu;obtain⟨i,hi,rfl⟩:=hu;have hi2:=Array.mem_range.1 hi;have bH:i%z.cells.size<z.cells.size:=fo _ (by rcases Nat.eq_zero_or_pos z.cells.size with h|h;simp[h]at hi2;exact h)
  grind
 have dI:=run_storeCells_at P b o te (Builtin.zeroCells z.cells n).toList 0 arr W yD (by rw[hzl];omega) hzo;simp only[gO]at dI;obtain⟨k,rfl⟩:∃k,n=k+1:=⟨n-1,by omega⟩;have wn:(zeroValue e).run P W= .ok z W:=by simp[zeroValue,typeInfo,hj,hjz]
 rw[hzl]at dI;refine⟨[],_,_,?_,(by intro y hy;cases hy),⟨rfl,(Builtin.zeroCells z.cells (k+1)).toList,hzl,hzo,rfl⟩,(cr.refl hW).setRow hb _⟩;simp only[dF.run,dF.dE,dF.Fz,cond_false,aZ,lK,CV.val,gm];simp[Builtin.clear_,run_underlying hu,wn,dI]
theorem Z2{f:FuncId}{fn:Func}(hT:fW P T)(hf:P.funcs[f]?=some fn) (Q6:(fn.name== "runtime.NumGoroutine")=false) (hb:fn.body.isNone=true) (hn:Extern.findNext fn=none)
  {t tr e:TypeId}{ti ei:TI} (ht:T t=some ti) (hk:ti.k= .slice e) (he:T e=some ei) (hx:Extern.find fn=some (Extern.SlicesOverlaps.overlaps #[t,t] #[tr]))
  {m:aD}{b b' o o' n n' c c':Nat}{arr CH:Array Value}{te te':TypeId}{fr':Nat×Nat} (h1:m b=some (.cells arr te)) (h2:m b'=some (.cells CH te' fr')) (ga:b≠b') (JL:CH.size≠0):
  zV P f [.v (.slice (some ⟨b,o,none⟩) n c),.v (.slice (some ⟨b',o',none⟩) n' c')] m λr m'=>r=[.v (.bool false)]/\m'=m:=by
 intro _ W hW;obtain⟨j,hj,JP,_⟩:=(hT e ei he).WX;have hu:=(hT t ti ht).slice hk;have g1:=hW _ _ h1;have g2:=hW _ _ h2
 have hr:=Lib.run_overlaps_apart (P:=P) W t tr e hu j.size (λw=>by simp[sizeOf,typeInfo,hj]) ⟨b,o,none⟩ ⟨b',o',none⟩ n c n' c' ga te te' arr.size CH.size
  (by unfold World.shape?;rw[g1]) (by unfold World.shape?;rw[g2]) JL (by simp[World.frozen?,g1]) (by simp[World.frozen?,g1])
 exact⟨[.v (.bool false)],m,W,by simp only[aZ,lK,CV.val,gm];rw[run_callFunc_extern hf Q6 hb hn hx];exact be (λr:Result Value=>r.andThen λv w'=>Result.ok (Next.value v) w') hr,(by intro y hy;simp at hy;subst hy;rfl),⟨rfl,rfl⟩,cr.refl hW⟩
end
section
variable {α:Type}{enc:α->List Value}{s:Nat}
structure fp(enc:α->List Value)(s:Nat):Prop where
 len:∀x,(enc x).length=s
 one:∀x,∀u∈enc x,u.oneCell'=true
 pos:0<s
theorem fp.wC(h:fp enc s):∀(E:List α),(E.flatMap enc).length=E.length*s
 |[]=>by simp
 |x::E=>by rw[dw,ax,h.len,h.wC E,ae,lG];omega
theorem fp.DW(h:fp enc s){E:List α}:∀u∈E.flatMap enc,u.oneCell'=true:=λu hu=>by
 obtain⟨x,_,hx⟩:=iu.1 hu;exact h.one x u hx
theorem fp.at(h:fp enc s):∀{E:List α}{i j:Nat}{u:Value} (hi:i<E.length),(enc E[i])[j]?=some u->(E.flatMap enc)[i*s+j]?=some u
 |x::E,0,j,u,_,hu=>by
  have hl:=(aQ.1 hu).1;rw[dw,aT (by simpa using hl)];simpa using hu
 |x::E,i+1,j,u,hi,hu=>by
  have ih:=h.at (E:=E) (i:=i) (j:=j) (u:=u) (by simpa using hi) (by simpa using hu);rw[dw,bJ (by rw[h.len,lG];omega),h.len,lG,show i*s+s+j-s=i*s+j by omega];exact ih
theorem fp.take(h:fp enc s):∀(E:List α) (i:Nat),(E.flatMap enc).take (i*s)=(E.take i).flatMap enc
 |[],i=>by simp
 |x::E,0=>by simp
 |x::E,i+1=>by
  rw[dw,List.take_succ_cons,dw,lG,gj,h.len,bP (by rw[h.len];omega),show i*s+s-s=i*s by omega,h.take E i]
theorem fp.drop(h:fp enc s):∀(E:List α) (i:Nat),(E.flatMap enc).drop (i*s)=(E.drop i).flatMap enc
 |[],i=>by simp
 |x::E,0=>by simp
 |x::E,i+1=>by
  rw[dw,List.drop_succ_cons,lG,gQ,h.len,kG (by rw[h.len];omega),bV,show i*s+s-s=i*s by omega,h.drop E i]
theorem fp.count(h:fp enc s){E:List α}{n:Nat}(e:(E.flatMap enc).length=n*s):E.length=n:=by
 rw[h.wC]at e;exact Nat.eq_of_mul_eq_mul_right h.pos e
theorem fp.shape(h:fp enc s){m:aD}{v:Value}{E:List α}(hl:gq m s v (E.flatMap enc)):∃a c,v= .slice a E.length c:=by
 rcases hl with⟨c,rfl,e⟩|⟨b,o,c,n,arr,t,fr,rfl,_,e,_⟩
 ·have:E.length=0:=h.count (n:=0) (by rw[e];simp)
  simp_all
 ·exact⟨_,c,by rw[h.count e]⟩
theorem fp.real(h:fp enc s){m:aD}{v:Value}{E:List α}(hl:gq m s v (E.flatMap enc)){i:Nat}(hi:i<E.length):∃b o c,v= .slice (some ⟨b,o,none⟩) E.length c/\∀j (hj:j<E.length),dQ m b (o+j*s) (enc E[j]):=by
 rcases hl with⟨c,rfl,e⟩|⟨b,o,c,n,arr,t,fr,rfl,g1,e,_,g2,_⟩
 ·have:E.length=0:=h.count (n:=0) (by rw[e];simp)
  omega
 ·refine⟨b,o,c,by rw[h.count e],λj hj=>⟨arr,t,fr,g1,λk u hu=>?_⟩⟩
  rw[gi];exact g2 _ _ (h.at hj hu)
theorem fp.row(h:fp enc s){p:aD}{T:TypeId}{b o n c:Nat}{E:List α}(hl:mf p T s (.slice (some ⟨b,o,none⟩) n c) (E.flatMap enc)):∃arr,p b=some (.cells arr T (0,0))/\E.length=n/\n<=c/\o+c*s<=arr.size/\(∀j u,(E.flatMap enc)[j]?=some u->arr[o+j]?=some u):=by
 rcases hl with⟨e,_⟩|⟨b',o',c',n',arr,e,h1,h2,h3,h4,h5,_⟩
 ·cases e
 ·cases e
  exact⟨arr,h1,h.count h2,h3,h4,h5⟩
theorem fp.mk'(h:fp enc s){p:aD}{T:TypeId}{b o n c:Nat}{arr:Array Value}{E:List α}(h1:p b=some (.cells arr T (0,0)))(h2:E.length=n)(h3:n<=c)(h4:o+c*s<=arr.size)(h5:∀j u,(E.flatMap enc)[j]?=some u->arr[o+j]?=some u):mf p T s (.slice (some ⟨b,o,none⟩) n c) (E.flatMap enc):=
 .inr ⟨b,o,c,n,arr,rfl,h1,by rw[h.wC,h2],h3,h4,h5,h.DW⟩
theorem fp.cut(h:fp enc s){p:aD}{T:TypeId}{b o n c:Nat}{E:List α}(hl:mf p T s (.slice (some ⟨b,o,none⟩) n c) (E.flatMap enc)){i:Nat}(hi:i<=n):mf p T s (.slice (some ⟨b,o,none⟩) i c) ((E.take i).flatMap enc):=by
 obtain⟨arr,h1,h2,h3,h4,h5⟩:=h.row hl;refine h.mk' h1 (by rw[aK];omega) (by omega) h4 λj u hu=>h5 j u ?_;rw[<-h.take]at hu
 grind
theorem fp.pre(h:fp enc s){m:aD}{b o n c c':Nat}{E:List α}(hl:gq m s (.slice (some ⟨b,o,none⟩) n c) (E.flatMap enc)){i:Nat}(hi:i<=n)(hc:i<=c':=by omega):gq m s (.slice (some ⟨b,o,none⟩) i c') ((E.take i).flatMap enc):=by
 rcases hl with⟨c',e,_⟩|⟨b',o2,c2,n',arr,t,fr,e,g1,g2,g3,g4,g5⟩
 ·cases e
 ·cases e
  refine .inr ⟨b,o,c',i,arr,t,fr,rfl,g1,by rw[h.wC,aK,h.count g2,gH hi],hc,λj u hu=>g4 j u ?_,h.DW⟩;rw[<-h.take,bN]at hu
  grind
theorem acU{m:aD}{a:Option Addr}{n c:Nat}{l:List Value}(hp:0<s)(hl:gq m s (.slice a n c) l):n<=c\/n=0:=by
 rcases hl with⟨c',e,h⟩|⟨b',o2,c2,n',arr,t,fr,e,g1,g2,g3,g4,g5⟩
 ·grind
 grind
theorem uU{arr:Array Value}{cs:List Value}{a j:Nat}{u:Value}(jH:a+cs.length<=arr.size):(arr.toList.take a++(cs++arr.toList.drop (a+cs.length))).toArray[j]?=some u↔if j<a then arr[j]?=some u else if j<a+cs.length then cs[j-a]?=some u else arr[j]?=some u:=by
 rw[bz]
 grind
theorem fp.set(h:fp enc s){p:aD}{T:TypeId}{b o n c:Nat}{E:List α}(hl:mf p T s (.slice (some ⟨b,o,none⟩) n c) (E.flatMap enc)){i:Nat}(hi:i<E.length)(x:α):
  ∃arr,p b=some (.cells arr T (0,0))/\o+i*s+s<=arr.size/\mf (p.set b (.cells (arr.toList.take (o+i*s)++(enc x++arr.toList.drop (o+i*s+s))).toArray T (0,0))) T s (.slice (some ⟨b,o,none⟩) n c) ((E.set i x).flatMap enc):=by
 obtain⟨arr,h1,h2,h3,h4,h5⟩:=h.row hl;have aut:i*s+s<=c*s:=by rw[<-lG];exact cS _ (by omega)
 refine⟨arr,h1,by omega,h.mk' (aD.bg ..) (by rw[fc];omega) h3 ?_ λj u hu=>?_⟩
 ·simp only[dM,ax,aK,cC,cq,h.len];omega
 ·have hp:=uU (arr:=arr) (cs:=enc x) (a:=o+i*s) (j:=o+j) (u:=u) (by rw[h.len];omega)
  rw[h.len]at hp;rw[hp];have EN:=(aQ.1 hu).1;rw[h.wC,fc]at EN;have hs:=h.pos;have hq:j/s<E.length:=lI (by rw[lH];exact EN);have hjd:j=j/s*s+j%s:=by rw[lH];exact(Jh j s).symm
  have Zz:=fo j hs
  have key:∀(F:List α) (hF:j/s<F.length),(F.flatMap enc)[j]?=(enc F[j/s])[j%s]?:=λF hF=>by
   cases hx:(enc F[j/s])[j%s]? with
   |none=>have:=List.getElem?_eq_none_iff.1 hx;rw[h.len]at this;omega
   |some w=>have:=h.at hF hx;rw[<-hjd]at this;exact this
  rw[key _ (by rw[fc];exact hq)]at hu;by_cases e:j/s=i
  ·subst e
   rw[jq]at hu;rw[if_neg (by omega),aC (by omega),show o+j-(o+j/s*s)=j%s by omega];exact hu
  ·rw[List.getElem_set_ne (Ne.symm e)]at hu
   have h5':=h5 j u (by rw[key _ hq];exact hu);by_cases bH:j/s<i
   ·have:j/s*s+s<=i*s:=by rw[<-lG];exact cS _ bH
    rw[aC (by omega)];exact h5'
   ·have:i*s+s<=j/s*s:=by rw[<-lG];exact cS _ (by omega)
    rw[if_neg (by omega),if_neg (by omega)];exact h5'
theorem fp.post(h:fp enc s){m:aD}{b o n c:Nat}{E:List α}(hl:gq m s (.slice (some ⟨b,o,none⟩) n c) (E.flatMap enc)){i:Nat}(hi:i<=n){o':Nat}(ho:i<n->o'=o+i*s):gq m s (.slice (some ⟨b,o',none⟩) (n-i) (c-i)) ((E.drop i).flatMap enc):=by
 rcases hl with⟨c',e,_⟩|⟨b',o2,c',n',arr,t,fr,e,g1,g2,g3,g4,g5⟩
 ·cases e
 ·cases e
  have hn:=h.count g2;refine .inr ⟨b,o',c-i,n-i,arr,t,fr,rfl,g1,by rw[h.wC,cC,hn],by omega,λj u hu=>?_,h.DW⟩;have EN:=(aQ.1 hu).1;rw[h.wC,cC,hn]at EN
  have bH:i<n:=by
   grind
  rw[<-h.drop,cT]at hu
  grind
end
theorem aq.grow{l:List aD}(h:aq m l)(hs:cL m m'):aq m' l:=⟨h.1.trans hs,h.2⟩
def jy(arr:Array Value)(o:Nat)(l:List Value):Prop:=∀j u,l[j]?=some u->arr[o+j]?=some u
variable{a b:List Value}
theorem jy.append(ha:jy arr o a)(hb:jy arr (o+a.length) b):jy arr o (a++b):=λj u hu=>by
 by_cases h:j<a.length
 ·rw[aT h]at hu;exact ha j u hu
 ·rw[bJ (by omega)]at hu
  have:=hb _ _ hu;rw[show o+a.length+(j-a.length)=o+j by omega]at this;exact this
theorem jy.left(h:jy arr o (a++b)):jy arr o a:=λj u hu=>h j u (by rw[aT (aQ.1 hu).1];exact hu)
theorem jy.right(h:jy arr o (a++b)):jy arr (o+a.length) b:=λj u hu=>by
 rw[gi];exact h (a.length+j) u (by rw[bJ (by omega),show a.length+j-a.length=j by omega];exact hu)
variable{a:Nat}{cs:List Value}
theorem jy.FG(jH:a+cs.length<=arr.size):jy (arr.toList.take a++(cs++arr.toList.drop (a+cs.length))).toArray a cs:=λj u hu=>by
 have hl:=(aQ.1 hu).1;rw[uU jH,if_neg (by omega),aC (by omega),show a+j-a=j by omega];exact hu
theorem jy.uV{l:List Value}(h:jy arr o l)(jH:a+cs.length<=arr.size)(hd:o+l.length<=a\/a+cs.length<=o):jy (arr.toList.take a++(cs++arr.toList.drop (a+cs.length))).toArray o l:=λj u hu=>by
 have hl:=(aQ.1 hu).1;rw[uU jH];rcases hd with hd|hd
 ·rw[aC (by omega)];exact h j u hu
 ·rw[if_neg (by omega),if_neg (by omega)];exact h j u hu
theorem kv(jH:a+cs.length<=arr.size):(arr.toList.take a++(cs++arr.toList.drop (a+cs.length))).toArray.size=arr.size:=by
 grind
theorem BM{mm:aD}{b:Nat}{old:Array Value}{v:LB}(Ad:LB.size v=old.size):
  (mm.set b (.cells old t fr)).set b (.cells (old.toList.take 0++(LB.cz v++old.toList.drop (0+LB.size v))).toArray t fr)=mm.set b (.cells (LB.cz v).toArray t fr):=by
 rw[aD.set_set]
 have e:(old.toList.take 0++(LB.cz v++old.toList.drop (0+LB.size v))).toArray=(LB.cz v).toArray:=by
  grind
 rw[e]
theorem Jz{k:Nat}:∀j,j<n->¬(((0,0):Nat×Nat).1<=k+j/\k+j<((0,0):Nat×Nat).2):=λj _ h=>by simp only at h;omega
abbrev u64(n:Int):CV:=.v (.int .u64 n)
abbrev i64(n:Int):CV:=.v (.int .i64 n)
abbrev bR(b:Bool):CV:=.v (.bool b)
theorem fU{r:List CV}{x:List Nat}{K:List CV->aD->Prop}(h:eN P f args m r)(k:K r m):nR P f args m λr' m'=>N8 x m m'/\K r' m':=
 bt h ⟨λ_ _=>rfl,k⟩
theorem wu{n:Int}(h0:0<=n:=by omega)(h1:n<18446744073709551616:=by omega):IntKind.u64.wrap n=n:=by rw[IntKind.wrap_u64,Int.emod_eq_of_lt h0 h1]
theorem wi{n:Int}(h0: -9223372036854775808<=n:=by omega)(h1:n<9223372036854775808:=by omega):IntKind.i64.wrap n=n:=by rw[IntKind.wrap_i64];omega
theorem qJ(h:i<1000000000000):IntKind.i64.wrap ((i:Int)+1)=((i+1:Nat):Int):=by rw[wi (by omega) (by omega)];omega
variable{p q:Prop}
theorem xS(h:q)(hp:p:=by first|omega|(simp only[bK];omega)):p/\q:=⟨hp,h⟩
theorem xF(h:q)(hp:p:=by first|with_reducible rfl|exact be (Value.int _) (qJ (by omega))|exact be (Value.int _) (wi (by omega) (by omega))|exact wi (by omega) (by omega)|rfl):p/\q:=⟨hp,h⟩
theorem xT(h:p:=by first|exact trivial|exact λ_ _ h=>h):p:=h
theorem xN(h:B)(hn:¬p:=by first|decide|simp):(p->A)/\(q->B):=⟨λhp=>absurd hp hn,λ_=>h⟩
theorem xY(h:A)(hn:¬q:=by first|decide|simp):(p->A)/\(q->B):=⟨λ_=>h,λhq=>absurd hq hn⟩
theorem xL{f g:Option α}{v:α}{q K:α->Prop}(h:g=some v)(k:K v)(e:f=g:=by first|(simp only[bK,aA];done)|(simp only[bK,aA];rfl))(hq:q v:=by rfl):∃v,f=some v/\q v/\K v:=⟨v,e.trans h,hq,k⟩
theorem Cr(h:p:=by(repeat refine xF ?_);exact xT):p:=h
theorem Ra(h:p:=by(repeat (refine xF ?_;conv=>whnf));exact xT):p:=h
theorem rR.{u,v}{α:Sort u}{β:Sort v}{a:α}{b:β}:a=a/\b=b:=⟨rfl,rfl⟩
def rF:List (Nat×Nat)->Nat->Nat
 |[],_=>0
 |x::l,n=>bif Nat.beq n x.1 then x.2 else rF l n
theorem bI(a:p)(b:q):p/\q:=⟨a,b⟩
theorem cI{k:IntKind}{a b:Int}(h:a=b):Value.int k a=Value.int k b:=be (Value.int k) h
abbrev Aj(F:Nat):CV:=.v (.func (.func F) #[] #[])
abbrev l5(F b:Nat):CV:=.v (.func (.func F) #[] #[.pointer (some ⟨b,0,none⟩)])
theorem qO(x y:Int):(x==y)=decide (x=y):=by by_cases h:x=y<;>simp[h]
section
variable {α:Type}
def sH(p:α->Bool)(E:List α):Int:=if E.any p then(E.findIdx p:Int)else-1
theorem tW{p:α->Bool}{E:List α}{i:Nat}(hi:i<E.length)(cM:∀x∈E.take i,p x=false)(h:p E[i]=true):sH p E=i:=by
 have h1:E.any p=true:=dh.2 ⟨_,aO hi,h⟩;rw[sH,aC h1]
 have:E.findIdx p=i:=by
  rw[List.findIdx_eq hi];refine⟨h,λj hj=>?_⟩;have:=cM E[j] (lw.2 ⟨j,by omega,rfl⟩);omega
 rw[this]
theorem nL{p:α->Bool}{E:List α}(cM:∀x∈E,p x=false):sH p E= -1:=by
 rw[sH,if_neg]
 grind
theorem tV(p:α->Bool)(E:List α):decide (0<=sH p E)=E.any p:=by
 unfold sH
 grind
theorem lY(p:α->Bool)(E:List α):(sH p E= -1/\∀x∈E,p x=false)\/∃(i:Nat) (h:i<E.length),sH p E=i/\p E[i]=true/\∀x∈E.take i,p x=false:=by
 by_cases h:E.any p=true
 ·refine .inr ?_
  have bH:E.findIdx p<E.length:=List.findIdx_lt_length.2 (dh.1 h);refine⟨E.findIdx p,bH,by rw[sH,aC h],List.findIdx_getElem,λx hx=>?_⟩;obtain⟨j,hj,rfl⟩:=lw.1 hx
  grind
 ·refine .inl ⟨by rw[sH,if_neg h],λx hx=>?_⟩
  grind
end
theorem bi.ret{r:List CV}(h:bi P f args m R)(k:∀r' m',R r' m'->r'=r/\cL m m'):eN P f args m r:=by
 refine⟨h.1,λha W hW=>(h.2 ha W hW).mono λe W' ⟨r',m',h1,h2,h3,h4⟩=>?_⟩;obtain⟨rfl,hs⟩:=k _ _ h3;exact⟨_,m,h1,h2,⟨rfl,rfl⟩,h4.H9 hs⟩
end Go.E
namespace Go.E.Y
open Go.Proofs
abbrev zI:eB:=.one (.int .i64 0)
abbrev zU:eB:=.one (.int .u64 0)
abbrev zP:eB:=.one (.pointer none)
abbrev zS:eB:=.one (.slice none 0 0)
abbrev zT:eB:=.one (.string ByteArray.empty)
abbrev zB:eB:=.one (.bool false)
abbrev zF:eB:=.one .nilIface
abbrev z8:eB:=.one (.int .u8 0)
abbrev z4:eB:=.one (.int .u32 0)
abbrev z3:eB:=.one (.int .i32 0)
abbrev zL(n:Nat)(x:TI):oI:=.leaf n x
abbrev zN(n:Nat)(a b:oI):oI:=.node n a b
abbrev zC(f:List (Nat×Nat))(n b:Nat)(z:LB)(q:Bool):TI:=⟨.struct f,n,b,z,q⟩
abbrev zl0:TI:=⟨.struct [(0,27),(7,34),(8,36),(16,38),(24,39)],25,216,[zI,zI,zI,zI,zI,zI,zI,zP,.fq 8 [(.pointer none),(.pointer none),(.pointer none),(.pointer none),(.pointer none),(.pointer none),(.pointer none),(.pointer none)],.fq 8 [(.pointer none),(.pointer none),(.pointer none),(.pointer none),(.pointer none),(.pointer none),(.pointer none),(.pointer none)],zS],false⟩
abbrev zl1:TI:=zC [(0,3),(1,3),(2,3),(3,3),(4,3),(5,67),(52,61)] 53 272 [zI,zI,zI,zI,zI,zI,zI,zT,zI,zI,zI,zU,zI,zI,zI,zI,zI,.bG .u8 32 (List.replicate 32 0),zS,zS,zS,zS] false
abbrev zl2:TI:=zC [(0,12),(1,12),(2,193),(3,585),(4,5),(5,5),(6,586),(7,587),(8,427),(9,588),(10,589)] 11 48 [zU,zU,z4,z8,z8,z8,z8,.one .nilFunc,zP,z3,z3] false
abbrev zl3:TI:=zC [(0,3),(1,3),(2,3),(3,3),(4,3),(5,60),(37,61),(38,62),(39,63)] 40 144 [zI,zI,zI,zI,zI,.bG .u8 32 (List.replicate 32 0),zS,zS,zS] false
abbrev zl4:TI:=zC [(0,3),(1,3),(2,9),(3,58),(6,47),(7,65)] 47 208 [zI,zI,zT,zI,zI,zI,zU,zI,zI,zI,zI,zI,.bG .u8 32 (List.replicate 32 0),zS,zS,zS] false
abbrev zl7:TI:=zC [(0,27),(7,3),(8,140),(9,113),(10,143),(11,145),(12,3),(13,3)] 14 128 [zI,zI,zI,zI,zI,zI,zI,zI,zP,zP,zP,zS,zI,zI] false
abbrev zl8:TI:=zC [(0,3),(1,3),(2,3),(3,3),(4,3),(5,61),(6,25),(10,3)] 11 104 [zI,zI,zI,zI,zI,zS,zI,zI,zI,zI,zI] false
abbrev zl9:TI:=zC [(0,3),(1,3),(2,3)] 3 24 [zI,zI,zI] true
abbrev auF:TI:=zC [(0,65),(40,3)] 41 152 [zI,zI,zI,zI,zI,.bG .u8 32 (List.replicate 32 0),zS,zS,zS,zI] false
abbrev asn:TI:=zC [(0,3),(1,47)] 2 16 [zI,zU] true
abbrev auE:TI:=zC [(0,3),(1,130),(2,135),(3,135)] 4 32 [zI,.one (.map none),zU,zU] false
abbrev auB:TI:=zC [(0,3),(1,3),(2,3),(3,49),(5,50)] 6 64 [zI,zI,zI,zI,zU,zS] false
abbrev auv:TI:=zC [(0,35),(1,3),(2,63),(3,162),(4,163)] 5 56 [zP,zI,zS,zP,zP] false
abbrev auu:TI:=zC [(0,122),(1,3),(2,3),(3,3)] 4 32 [.one (.map none),zI,zI,zI] false
abbrev aug:TI:=zC [(0,9),(1,111)] 10 104 [zT,.bG .u64 8 (List.replicate 8 0),zS] false
abbrev aud:TI:=zC [(0,29),(1,52),(7,53)] 8 96 [zI,zI,zI,zI,zI,zU,zS,zS] false
abbrev at6:TI:=zC [(0,108),(8,109)] 9 88 [.bG .u64 8 (List.replicate 8 0),zS] false
abbrev at2:TI:=zC [(0,23),(3,201),(6,202)] 7 64 [zI,zI,zI,z4,z3,z4,zS] false
abbrev at1:TI:=zC [(0,4),(1,205),(2,206),(3,3)] 4 64 [zB,zS,zS,zI] false
abbrev atX:TI:=zC [(0,35),(1,3),(2,118),(3,3)] 4 48 [zP,zI,zS,zI] false
abbrev atW:TI:=zC [(0,17),(1,17),(2,17),(3,9)] 4 40 [zP,zP,zP,zT] false
abbrev atV:TI:=zC [(0,2),(1,3),(2,4),(3,6)] 4 24 [zI,zI,zB,z8] false
abbrev atQ:TI:=zC [(0,3),(1,3),(2,47),(3,3)] 4 32 [zI,zI,zU,zI] true
abbrev atP:TI:=zC [(0,3),(1,3),(2,3),(3,3)] 4 32 [zI,zI,zI,zI] true
abbrev atJ:TI:=zC [(0,23),(3,25)] 7 56 [zI,zI,zI,zI,zI,zI,zI] true
abbrev atI:TI:=⟨.array 21 60,672,672,[.bG .u8 672 (List.replicate 672 0)],false⟩
abbrev atG:TI:=zC [(0,192),(0,195),(1,199)] 3 12 [z4,z3,z4] false
abbrev an9:TI:=zC [(0,270),(2,3),(3,3)] 4 40 [zP,zT,zI,zI] false
abbrev atD:TI:=⟨.array 32 5,32,32,[.bG .u8 32 (List.replicate 32 0)],true⟩
abbrev an7:TI:=zC [(0,4),(1,118),(2,29)] 3 40 [zB,zS,zI] false
abbrev an6:TI:=zC [(0,3),(1,29),(2,61)] 3 40 [zI,zI,zS] false
abbrev atC:TI:=⟨.array 8 193,8,32,[.bG .u32 8 (List.replicate 8 0)],true⟩
abbrev atB:TI:=zC [(0,9),(1,9),(2,353)] 3 48 [zT,zT,zF] false
abbrev atA:TI:=⟨.array 8 47,8,64,[.bG .u64 8 (List.replicate 8 0)],true⟩
abbrev aty:TI:=⟨.array 2 3,2,16,[.bG .i64 2 (List.replicate 2 0)],true⟩
abbrev att:TI:=⟨.int .u64,1,8,[zU],false⟩
abbrev atr:TI:=zC [(0,3),(1,93)] 4 48 [zI,zI,zI,zS] false
abbrev atp:TI:=zC [(0,93),(3,3)] 4 48 [zI,zI,zS,zI] false
abbrev ato:TI:=⟨.int .u8,1,1,[z8],false⟩
abbrev atn:TI:=zC [] 0 0 [] false
abbrev atm:TI:=zC [(0,132),(0,133),(0,47)] 1 8 [zU] false
abbrev arK:TI:=zC [(0,349),(1,118)] 2 32 [zP,zS] false
abbrev ati:TI:=zC [(0,192),(0,197)] 2 8 [z3,z4] false
abbrev ayq:TI:=zC [(0,118),(1,3)] 2 32 [zS,zI] false
abbrev ath:TI:=zC [(0,9),(1,12)] 2 24 [zT,zU] false
abbrev ayp:TI:=zC [(0,21),(1,193)] 2 8 [z3,z4] true
abbrev ayo:TI:=zC [(0,35),(1,9)] 2 24 [zP,zT] false
abbrev ayn:TI:=zC [(0,47),(1,47)] 2 16 [zU,zU] true
abbrev aym:TI:=zC [(0,47),(1,3)] 2 16 [zU,zI] true
abbrev ayl:TI:=zC [(0,132),(0,193)] 1 4 [z4] false
abbrev ayk:TI:=⟨.struct [(0,582)],0,0,[.fq 0 []],false⟩
abbrev avx:TI:=⟨.int .i32,1,4,[z3],false⟩
abbrev ayj:TI:=zC [(0,118)] 1 24 [zS] false
abbrev ayi:TI:=zC [(0,17)] 1 8 [zP] false
abbrev ayh:TI:=zC [(0,9)] 1 16 [zT] true
abbrev CT(n k:Nat):oI:=.leaf n ⟨.ptr k,1,8,[.one (.pointer none)],false⟩
abbrev Ny(n k:Nat):oI:=.leaf n ⟨.slice k,1,24,[.one (.slice none 0 0)],false⟩
abbrev lfI(n:Nat):oI:=.leaf n ⟨.int .i64,1,8,[.one (.int .i64 0)],false⟩
abbrev cg(n:Nat):oI:=.leaf n ⟨.func,1,8,[.one .nilFunc],false⟩
abbrev lfS(n:Nat):oI:=.leaf n ⟨.AS,1,16,[.one (.string ByteArray.empty)],false⟩
abbrev lfE(n:Nat):oI:=.leaf n ⟨.iface,1,16,[.one .nilIface],false⟩
abbrev lfB(n:Nat):oI:=.leaf n ⟨.bool,1,1,[.one (.bool false)],false⟩
abbrev tP:Program:=Tryz.prog
def tt:oI:=(zN 296 (zN 146 (zN 71 (zN 36 (zN 18 (zN 9 (zN 5 (zN 3 (zN 2 (cg 1)
 (lfI 2))
 (zN 4 (lfI 3)
 (lfB 4)))
 (zN 7 (zN 6 (zL 5 ato)
 (zL 6 ato))
 (zN 8 (zL 7 atV)
 (zL 8 atV))))
 (zN 13 (zN 11 (zN 10 (lfS 9)
 (lfS 10))
 (zN 12 (lfS 11)
 (zL 12 att)))
 (zN 15 (zN 14 (zL 13 ath)
 (zL 14 ath))
 (zN 16 (CT 15 581)
 (zN 17 (CT 16 584)
 (CT 17 591))))))
 (zN 26 (zN 22 (zN 20 (zN 19 (zL 18 ayi)
 (zL 19 ayi))
 (zN 21 (lfE 20)
 (zL 21 avx)))
 (zN 24 (zN 23 (zL 22 zl9)
 (zL 23 zl9))
 (zN 25 (zL 24 atP)
 (zL 25 atP))))
 (zN 31 (zN 28 (zN 27 (zL 26 atJ)
 (zL 27 atJ))
 (zN 29 (CT 28 41)
 (lfI 29)))
 (zN 33 (zN 32 (cg 31)
 (cg 32))
 (zN 34 (cg 33)
 (zN 35 (CT 34 124)
 (CT 35 137)))))))
 (zN 54 (zN 45 (zN 40 (zN 38 (zN 37 (zL 36 ⟨.array 8 35,8,64,[.fq 8 [(.pointer none),(.pointer none),(.pointer none),(.pointer none),(.pointer none),(.pointer none),(.pointer none),(.pointer none)]],false⟩)
 (CT 37 147))
 (zN 39 (zL 38 ⟨.array 8 37,8,64,[.fq 8 [(.pointer none),(.pointer none),(.pointer none),(.pointer none),(.pointer none),(.pointer none),(.pointer none),(.pointer none)]],false⟩)
 (Ny 39 95)))
 (zN 43 (zN 41 (zL 40 zl0)
 (zL 41 zl0))
 (zN 44 (cg 43)
 (cg 44))))
 (zN 49 (zN 47 (zN 46 (cg 45)
 (cg 46))
 (zN 48 (zL 47 att)
 (zL 48 asn)))
 (zN 51 (zN 50 (zL 49 asn)
 (Ny 50 49))
 (zN 52 (zL 51 auB)
 (zN 53 (zL 52 auB)
 (Ny 53 236))))))
 (zN 62 (zN 58 (zN 56 (zN 55 (zL 54 aud)
 (zL 55 aud))
 (zN 57 (cg 56)
 (zL 57 zl9)))
 (zN 60 (zN 59 (zL 58 zl9)
 (zL 59 atD))
 (zN 61 (zL 60 atD)
 (Ny 61 3))))
 (zN 66 (zN 64 (zN 63 (Ny 62 60)
 (Ny 63 177))
 (zN 65 (zL 64 zl3)
 (zL 65 zl3)))
 (zN 68 (zN 67 (zL 66 zl4)
 (zL 67 zl4))
 (zN 69 (cg 68)
 (zN 70 (cg 69)
 (cg 70))))))))
 (zN 108 (zN 90 (zN 79 (zN 75 (zN 73 (zN 72 (cg 71)
 (cg 72))
 (zN 74 (cg 73)
 (cg 74)))
 (zN 77 (zN 76 (Ny 75 80)
 (cg 76))
 (zN 78 (cg 77)
 (cg 78))))
 (zN 83 (zN 81 (zN 80 (zL 79 zl1)
 (zL 80 zl1))
 (zN 82 (zL 81 ⟨.array 4 9,4,64,[.fq 4 [(.string ByteArray.empty),(.string ByteArray.empty),(.string ByteArray.empty),(.string ByteArray.empty)]],true⟩)
 (cg 82)))
 (zN 85 (zN 84 (cg 83)
 (cg 84))
 (zN 87 (cg 85)
 (zN 89 (cg 87)
 (cg 89))))))
 (zN 98 (zN 94 (zN 92 (zN 91 (Ny 90 93)
 (cg 91))
 (zN 93 (zL 92 an6)
 (zL 93 an6)))
 (zN 96 (zN 95 (zL 94 atr)
 (zL 95 atr))
 (zN 97 (Ny 96 65)
 (cg 97))))
 (zN 103 (zN 101 (zN 100 (cg 98)
 (cg 100))
 (zN 102 (cg 101)
 (cg 102)))
 (zN 105 (zN 104 (cg 103)
 (cg 104))
 (zN 106 (cg 105)
 (zN 107 (cg 106)
 (zL 107 atA)))))))
 (zN 127 (zN 117 (zN 113 (zN 110 (zN 109 (zL 108 atA)
 (Ny 109 168))
 (zN 111 (zL 110 at6)
 (zL 111 at6)))
 (zN 115 (zN 114 (CT 113 165)
 (cg 114))
 (zN 116 (cg 115)
 (cg 116))))
 (zN 122 (zN 120 (zN 118 (cg 117)
 (Ny 118 5))
 (zN 121 (cg 120)
 (cg 121)))
 (zN 124 (zN 123 (zL 122 ⟨.map 126 127,1,8,[.one (.map none)],false⟩)
 (zL 123 auu))
 (zN 125 (zL 124 auu)
 (zN 126 (zL 125 aty)
 (zL 126 aty))))))
 (zN 135 (zN 131 (zN 129 (zN 128 (Ny 127 118)
 (cg 128))
 (zN 130 (cg 129)
 (zL 130 ⟨.map 9 158,1,8,[.one (.map none)],false⟩)))
 (zN 133 (zN 132 (zL 131 atn)
 (zL 132 atn))
 (zN 134 (zL 133 atn)
 (zL 134 atm))))
 (zN 140 (zN 137 (zN 136 (zL 135 atm)
 (zL 136 auE))
 (zN 139 (zL 137 auE)
 (cg 139)))
 (zN 143 (zN 142 (CT 140 204)
 (cg 142))
 (zN 144 (CT 143 208)
 (zN 145 (cg 144)
 (Ny 145 238)))))))))
 (zN 219 (zN 180 (zN 163 (zN 154 (zN 150 (zN 148 (zN 147 (zL 146 zl7)
 (zL 147 zl7))
 (zN 149 (cg 148)
 (cg 149)))
 (zN 152 (zN 151 (cg 150)
 (cg 151))
 (zN 153 (cg 152)
 (cg 153))))
 (zN 158 (zN 156 (zN 155 (cg 154)
 (cg 155))
 (zN 157 (Ny 156 9)
 (cg 157)))
 (zN 160 (zN 159 (CT 158 160)
 (zL 159 ayq))
 (zN 161 (zL 160 ayq)
 (zN 162 (cg 161)
 (CT 162 272))))))
 (zN 171 (zN 167 (zN 165 (zN 164 (CT 163 330)
 (zL 164 auv))
 (zN 166 (zL 165 auv)
 (cg 166)))
 (zN 169 (zN 168 (zL 167 atQ)
 (zL 168 atQ))
 (zN 170 (cg 169)
 (cg 170))))
 (zN 175 (zN 173 (zN 172 (cg 171)
 (CT 172 174))
 (zN 174 (zL 173 ayj)
 (zL 174 ayj)))
 (zN 177 (zN 176 (cg 175)
 (zL 176 aug))
 (zN 178 (zL 177 aug)
 (zN 179 (cg 178)
 (cg 179)))))))
 (zN 200 (zN 191 (zN 186 (zN 182 (zN 181 (cg 180)
 (cg 181))
 (zN 184 (cg 182)
 (cg 184)))
 (zN 188 (zN 187 (cg 186)
 (cg 187))
 (zN 190 (cg 188)
 (cg 190))))
 (zN 195 (zN 193 (zN 192 (cg 191)
 (zL 192 atn))
 (zN 194 (zL 193 ⟨.int .u32,1,4,[z4],false⟩)
 (zL 194 ayl)))
 (zN 197 (zN 196 (zL 195 ayl)
 (zL 196 ayp))
 (zN 198 (zL 197 ayp)
 (zN 199 (zL 198 ati)
 (zL 199 ati))))))
 (zN 208 (zN 204 (zN 202 (zN 201 (zL 200 atG)
 (zL 201 atG))
 (zN 203 (Ny 202 435)
 (zL 203 at2)))
 (zN 206 (zN 205 (zL 204 at2)
 (Ny 205 286))
 (zN 207 (Ny 206 284)
 (zL 207 at1))))
 (zN 214 (zN 212 (zN 210 (zL 208 at1)
 (cg 210))
 (zN 213 (cg 212)
 (zL 213 ⟨.array 5 3,5,40,[.bG .i64 5 (List.replicate 5 0)],true⟩)))
 (zN 216 (zN 215 (cg 214)
 (CT 215 291))
 (zN 217 (cg 216)
 (zN 218 (cg 217)
 (cg 218))))))))
 (zN 259 (zN 238 (zN 229 (zN 224 (zN 222 (zN 220 (cg 219)
 (CT 220 65))
 (zN 223 (cg 222)
 (cg 223)))
 (zN 226 (zN 225 (cg 224)
 (cg 225))
 (zN 228 (cg 226)
 (cg 228))))
 (zN 233 (zN 231 (zN 230 (cg 229)
 (cg 230))
 (zN 232 (cg 231)
 (cg 232)))
 (zN 235 (zN 234 (cg 233)
 (cg 234))
 (zN 236 (zL 235 asn)
 (zN 237 (zL 236 asn)
 (zL 237 zl8))))))
 (zN 247 (zN 243 (zN 241 (zN 240 (zL 238 zl8)
 (cg 240))
 (zN 242 (cg 241)
 (cg 242)))
 (zN 245 (zN 244 (cg 243)
 (cg 244))
 (zN 246 (cg 245)
 (cg 246))))
 (zN 254 (zN 251 (zN 249 (zL 247 att)
 (cg 249))
 (zN 252 (cg 251)
 (cg 252)))
 (zN 256 (zN 255 (cg 254)
 (cg 255))
 (zN 257 (cg 256)
 (zN 258 (cg 257)
 (cg 258)))))))
 (zN 278 (zN 269 (zN 263 (zN 261 (zN 260 (cg 259)
 (cg 260))
 (zN 262 (cg 261)
 (cg 262)))
 (zN 266 (zN 265 (cg 263)
 (cg 265))
 (zN 268 (cg 266)
 (cg 268))))
 (zN 273 (zN 271 (zN 270 (zL 269 ayo)
 (zL 270 ayo))
 (zN 272 (zL 271 an9)
 (zL 272 an9)))
 (zN 275 (zN 274 (cg 273)
 (cg 274))
 (zN 276 (cg 275)
 (zN 277 (cg 276)
 (Ny 277 127))))))
 (zN 286 (zN 282 (zN 280 (zN 279 (cg 278)
 (cg 279))
 (zN 281 (cg 280)
 (cg 281)))
 (zN 284 (zN 283 (cg 282)
 (zL 283 atp))
 (zN 285 (zL 284 atp)
 (zL 285 auF))))
 (zN 290 (zN 288 (zN 287 (zL 286 auF)
 (cg 287))
 (zN 289 (cg 288)
 (cg 289)))
 (zN 292 (zN 291 (zL 290 an7)
 (zL 291 an7))
 (zN 293 (cg 292)
 (zN 294 (cg 293)
 (cg 294))))))))))
 (zN 451 (zN 375 (zN 336 (zN 315 (zN 306 (zN 301 (zN 299 (zN 298 (cg 296)
 (cg 298))
 (zN 300 (cg 299)
 (cg 300)))
 (zN 303 (zN 302 (cg 301)
 (cg 302))
 (zN 304 (cg 303)
 (cg 304))))
 (zN 310 (zN 308 (zN 307 (cg 306)
 (cg 307))
 (zN 309 (cg 308)
 (cg 309)))
 (zN 312 (zN 311 (cg 310)
 (cg 311))
 (zN 313 (cg 312)
 (zN 314 (cg 313)
 (cg 314))))))
 (zN 327 (zN 321 (zN 318 (zN 317 (cg 315)
 (cg 317))
 (zN 320 (cg 318)
 (cg 320)))
 (zN 325 (zN 323 (cg 321)
 (cg 323))
 (zN 326 (cg 325)
 (cg 326))))
 (zN 331 (zN 329 (zN 328 (cg 327)
 (cg 328))
 (zN 330 (zL 329 atX)
 (zL 330 atX)))
 (zN 333 (zN 332 (cg 331)
 (cg 332))
 (zN 334 (cg 333)
 (zN 335 (cg 334)
 (cg 335)))))))
 (zN 358 (zN 348 (zN 342 (zN 338 (zN 337 (cg 336)
 (cg 337))
 (zN 340 (cg 338)
 (cg 340)))
 (zN 345 (zN 344 (cg 342)
 (cg 344))
 (zN 347 (cg 345)
 (cg 347))))
 (zN 352 (zN 350 (zN 349 (cg 348)
 (CT 349 351))
 (zN 351 (zL 350 arK)
 (zL 351 arK)))
 (zN 355 (zN 353 (lfE 352)
 (lfE 353))
 (zN 356 (cg 355)
 (zN 357 (cg 356)
 (cg 357))))))
 (zN 366 (zN 362 (zN 360 (zN 359 (cg 358)
 (cg 359))
 (zN 361 (cg 360)
 (cg 361)))
 (zN 364 (zN 363 (cg 362)
 (cg 363))
 (zN 365 (cg 364)
 (cg 365))))
 (zN 370 (zN 368 (zN 367 (cg 366)
 (cg 367))
 (zN 369 (cg 368)
 (cg 369)))
 (zN 372 (zN 371 (cg 370)
 (cg 371))
 (zN 373 (cg 372)
 (zN 374 (cg 373)
 (cg 374))))))))
 (zN 410 (zN 392 (zN 383 (zN 379 (zN 377 (zN 376 (cg 375)
 (cg 376))
 (zN 378 (zL 377 ayn)
 (zL 378 ayn)))
 (zN 381 (zN 380 (cg 379)
 (cg 380))
 (zN 382 (cg 381)
 (cg 382))))
 (zN 387 (zN 385 (zN 384 (zL 383 atI)
 (zL 384 atI))
 (zN 386 (cg 385)
 (cg 386)))
 (zN 389 (zN 388 (cg 387)
 (cg 388))
 (zN 390 (cg 389)
 (zN 391 (cg 390)
 (cg 391))))))
 (zN 400 (zN 396 (zN 394 (zN 393 (cg 392)
 (cg 393))
 (zN 395 (cg 394)
 (zL 395 ⟨.map 9 111,1,8,[.one (.map none)],false⟩)))
 (zN 398 (zN 397 (cg 396)
 (cg 397))
 (zN 399 (cg 398)
 (cg 399))))
 (zN 405 (zN 402 (zN 401 (cg 400)
 (cg 401))
 (zN 404 (lfI 402)
 (cg 404)))
 (zN 407 (zN 406 (cg 405)
 (cg 406))
 (zN 408 (cg 407)
 (zN 409 (cg 408)
 (cg 409)))))))
 (zN 433 (zN 420 (zN 414 (zN 412 (zN 411 (cg 410)
 (cg 411))
 (zN 413 (cg 412)
 (cg 413)))
 (zN 418 (zN 416 (cg 414)
 (cg 416))
 (zN 419 (cg 418)
 (CT 419 135))))
 (zN 426 (zN 422 (zN 421 (cg 420)
 (CT 421 47))
 (zN 424 (cg 422)
 (cg 424)))
 (zN 429 (zN 427 (cg 426)
 (CT 427 5))
 (zN 431 (cg 429)
 (zN 432 (cg 431)
 (cg 432))))))
 (zN 441 (zN 437 (zN 435 (zN 434 (cg 433)
 (zL 434 aym))
 (zN 436 (zL 435 aym)
 (cg 436)))
 (zN 439 (zN 438 (cg 437)
 (cg 438))
 (zN 440 (cg 439)
 (cg 440))))
 (zN 445 (zN 443 (zN 442 (cg 441)
 (cg 442))
 (zN 444 (zL 443 ⟨.array 16 118,16,384,[.fq 16 [(.slice none 0 0),(.slice none 0 0),(.slice none 0 0),(.slice none 0 0),(.slice none 0 0),(.slice none 0 0),(.slice none 0 0),(.slice none 0 0),(.slice none 0 0),(.slice none 0 0),(.slice none 0 0),(.slice none 0 0),(.slice none 0 0),(.slice none 0 0),(.slice none 0 0),(.slice none 0 0)]],false⟩)
 (cg 444)))
 (zN 447 (zN 446 (cg 445)
 (cg 446))
 (zN 448 (cg 447)
 (zN 449 (Ny 448 108)
 (cg 449)))))))))
 (zN 522 (zN 487 (zN 468 (zN 459 (zN 455 (zN 453 (zN 452 (cg 451)
 (cg 452))
 (zN 454 (cg 453)
 (cg 454)))
 (zN 457 (zN 456 (cg 455)
 (zL 456 att))
 (zN 458 (cg 457)
 (cg 458))))
 (zN 463 (zN 461 (zN 460 (CT 459 3)
 (cg 460))
 (zN 462 (cg 461)
 (cg 462)))
 (zN 465 (zN 464 (cg 463)
 (cg 464))
 (zN 466 (cg 465)
 (zN 467 (cg 466)
 (zL 467 ⟨.array 24 5,24,24,[.bG .u8 24 (List.replicate 24 0)],true⟩))))))
 (zN 478 (zN 474 (zN 472 (zN 470 (cg 468)
 (cg 470))
 (zN 473 (cg 472)
 (cg 473)))
 (zN 476 (zN 475 (cg 474)
 (cg 475))
 (zN 477 (Ny 476 202)
 (cg 477))))
 (zN 482 (zN 480 (zN 479 (cg 478)
 (cg 479))
 (zN 481 (cg 480)
 (cg 481)))
 (zN 484 (zN 483 (cg 482)
 (zL 483 ⟨.array 16 63,16,384,[.fq 16 [(.slice none 0 0),(.slice none 0 0),(.slice none 0 0),(.slice none 0 0),(.slice none 0 0),(.slice none 0 0),(.slice none 0 0),(.slice none 0 0),(.slice none 0 0),(.slice none 0 0),(.slice none 0 0),(.slice none 0 0),(.slice none 0 0),(.slice none 0 0),(.slice none 0 0),(.slice none 0 0)]],false⟩))
 (zN 485 (cg 484)
 (zN 486 (cg 485)
 (cg 486)))))))
 (zN 505 (zN 496 (zN 491 (zN 489 (zN 488 (CT 487 456)
 (cg 488))
 (zN 490 (cg 489)
 (cg 490)))
 (zN 494 (zN 492 (cg 491)
 (lfI 492))
 (zN 495 (cg 494)
 (CT 495 530))))
 (zN 500 (zN 498 (zN 497 (cg 496)
 (cg 497))
 (zN 499 (cg 498)
 (zL 499 ⟨.array 20 47,20,160,[.bG .u64 20 (List.replicate 20 0)],true⟩)))
 (zN 502 (zN 501 (zL 500 ⟨.array 65 5,65,65,[.bG .u8 65 (List.replicate 65 0)],true⟩)
 (cg 501))
 (zN 503 (CT 502 201)
 (zN 504 (cg 503)
 (cg 504))))))
 (zN 513 (zN 509 (zN 507 (zN 506 (cg 505)
 (cg 506))
 (zN 508 (cg 507)
 (cg 508)))
 (zN 511 (zN 510 (cg 509)
 (zL 510 atC))
 (zN 512 (zL 511 atC)
 (cg 512))))
 (zN 517 (zN 515 (zN 514 (cg 513)
 (cg 514))
 (zN 516 (cg 515)
 (cg 516)))
 (zN 519 (zN 518 (cg 517)
 (cg 518))
 (zN 520 (cg 519)
 (zN 521 (cg 520)
 (cg 521))))))))
 (zN 557 (zN 540 (zN 531 (zN 527 (zN 524 (zN 523 (cg 522)
 (cg 523))
 (zN 525 (cg 524)
 (cg 525)))
 (zN 529 (zN 528 (cg 527)
 (cg 528))
 (zN 530 (zL 529 atB)
 (zL 530 atB))))
 (zN 535 (zN 533 (zN 532 (cg 531)
 (CT 532 195))
 (zN 534 (cg 533)
 (CT 534 193)))
 (zN 537 (zN 536 (cg 535)
 (cg 536))
 (zN 538 (cg 537)
 (zN 539 (cg 538)
 (zL 539 ⟨.array 64 193,64,256,[.bG .u32 64 (List.replicate 64 0)],true⟩))))))
 (zN 548 (zN 544 (zN 542 (zN 541 (cg 540)
 (cg 541))
 (zN 543 (cg 542)
 (cg 543)))
 (zN 546 (zN 545 (cg 544)
 (cg 545))
 (zN 547 (cg 546)
 (cg 547))))
 (zN 552 (zN 550 (zN 549 (cg 548)
 (cg 549))
 (zN 551 (cg 550)
 (CT 551 553)))
 (zN 554 (zN 553 (zL 552 ayh)
 (zL 553 ayh))
 (zN 555 (zL 554 ⟨.array 64 5,64,64,[.bG .u8 64 (List.replicate 64 0)],true⟩)
 (zN 556 (CT 555 199)
 (cg 556)))))))
 (zN 574 (zN 565 (zN 561 (zN 559 (zN 558 (cg 557)
 (cg 558))
 (zN 560 (cg 559)
 (cg 560)))
 (zN 563 (zN 562 (cg 561)
 (cg 562))
 (zN 564 (cg 563)
 (cg 564))))
 (zN 569 (zN 567 (zN 566 (cg 565)
 (cg 566))
 (zN 568 (CT 567 197)
 (cg 568)))
 (zN 571 (zN 570 (CT 569 21)
 (cg 570))
 (zN 572 (cg 571)
 (zN 573 (cg 572)
 (cg 573))))))
 (zN 583 (zN 578 (zN 576 (zN 575 (cg 574)
 (cg 575))
 (zN 577 (cg 576)
 (cg 577)))
 (zN 580 (zN 579 (cg 578)
 (cg 579))
 (zN 581 (zL 580 atW)
 (zN 582 (zL 581 atW)
 (zL 582 ⟨.array 0 16,0,0,[.fq 0 []],false⟩)))))
 (zN 587 (zN 585 (zN 584 (zL 583 ayk)
 (zL 584 ayk))
 (zN 586 (zL 585 ato)
 (zL 586 ato)))
 (zN 589 (zN 588 (cg 587)
 (zL 588 avx))
 (zN 590 (zL 589 avx)
 (zN 591 (zL 590 zl2)
 (zL 591 zl2)))))))))))
theorem eR:fW Tryz.prog tt.get:=aot (by kernel_rfl) (by kernel_rfl) (by kernel_rfl)
theorem wide:Tryz.prog.follows .mixedOrders=true:=by kernel_rfl
def fY:List Nat->OT->OT
 |[],r=>r
 |i::l,r=>.op i .all (fY l r)
def oR:Nat->Nat->OT->OT
 |_,0,r=>r
 |a,n+1,r=>.op a .all (oR (Nat.succ a) n r)
def oS:Nat->List Nat->OT
 |_,[]=>.nil
 |a,[n]=>oR a n .nil
 |a,n::b::l=>oR a n (.op (Nat.add a n) .none (oS (Nat.succ (Nat.add a n)) (b::l)))
def oX:List Nat->OT
 |[]=>.nil
 |c::l=>.op (Nat.div c 2) (bif Nat.beq (Nat.mod c 2) 0 then .all else .none) (oX l)
def mG:Nat->Nat->Nat->Nat->List Nat->List Nat
 |0,_,_,_,_=>[]
 |k+1,j,p,n,l=>(λd=>(λm=>m::mG k (Nat.succ j) m (Nat.div n 10) (bif Nat.beq d 3 then l.tail else l)) (bif Nat.beq d 0 then 0 else bif Nat.beq d 1 then Nat.lor p (Nat.pow 2 (Nat.pred j))else bif Nat.beq d 2 then Nat.pred (Nat.pow 2 j)else bif Nat.beq d 4 then p else l.headD 0)) (Nat.mod n 10)
abbrev cQ(a:List Nat)(b:List (Nat×Ord))(d:List Nat):fD:=⟨Tryz.prog,tt.get,dK a,iF b,dK d⟩
def du:fD:=⟨Tryz.prog,tt.get,dK [],iF [],dK []⟩
theorem bW{c:fD}{f:FuncId}{fn:Func}{args:List CV}{m:aD}{R:List CV->aD->Prop}(hf:Tryz.prog.funcs[f]?=some fn) (hlen:Nat.ble args.length fn.ntmps=true) (h:xwp c (yX fn) (amr tt.get fn.results.toList R) ⟨LM args,[],m,[]⟩)
  (e1:c.P=Tryz.prog:=by rfl) (e2:c.T=tt.get:=by rfl) (hb:fn.body=some (yX fn):=by kernel_rfl) (hn:(fn.name== "runtime.NumGoroutine")=false:=by kernel_rfl) (ho:iE c fn.ntmps (yX fn)=true:=by kernel_rfl):bi Tryz.prog f args m R:=by
 obtain⟨P,T,a,b,d⟩:=c;dsimp only at e1 e2;subst e1 e2;exact bi.agD hf hb hn eR wide ho hlen h
def c3:fD:=cQ [11] [(2,⟨fY [0,1,2,3,4,5] (.op 6 .new (.op 7 .none (.nil))),mG 8 0 0 23001010 [51]⟩),
 (15,⟨oX [1,2,4,6,8,10,16,18,12,14,20,22,24,26,28,34,36,31,32,38,40,42,44,46,48,50,52,54,56,60,58,62,64,66],mG 34 0 0 1123111121314131312411121311111110 [31,8191,458751,8323071,268435455]⟩)] []
def c6:fD:=cQ [17] [(3,⟨oS 0 [3,1],mG 5 0 0 11200 []⟩),
 (13,⟨oX [0,2,4,6,8,10,12,14,16,20,22,19,24,27],mG 14 0 0 12131313000000 [1,211,4]⟩)] []
def c9:fD:=cQ [] [(7,⟨oS 0 [9,2,0],mG 13 0 0 1123130011100 [96,510]⟩),
 (13,⟨oS 0 [5,0],mG 6 0 0 201110 []⟩)] []
def c10:fD:=cQ [] [(8,⟨oX [0,2,6,8,4,11,12,14],mG 8 0 0 11210200 []⟩)] []
def c12:fD:=cQ [] [(7,⟨oS 0 [12,5],mG 18 0 0 234112131310001110 [32,992,32767]⟩)] []
def c13:fD:=cQ [] [(6,⟨oX [0,2,6,4,9,11],mG 6 0 0 120200 []⟩)] []
def c19:fD:=cQ [] [(18,⟨oX [0,2,4,6,8,10,12,14,16,18,20,22,24,26,28,30,32,34,36,38,40,42,44,46,48,50,52,54,56,58,60,62,64,66,68,70,72,74,76,78,80,82,84,86,88,90,92,94,96,98,100,102,104,106,108,110,112,114,117,118,120,122,124,126,129,130,132,134,136,138,142,140,144,146,148],mG 75 0 0 112311111124111111111111111111111111111111111111111111111111111111111111110 [590295810358705651711]⟩)] []
def c26:fD:=cQ [3] [] []
def c27:fD:=cQ [9] [] []
def c28:fD:=cQ [46] [(9,⟨oS 0 [6,2],mG 9 0 0 111200000 []⟩)] []
def c30:fD:=cQ [] [(3,⟨oS 0 [9,1],mG 11 0 0 12111101110 []⟩)] []
def c31:fD:=cQ [] [(3,⟨oS 0 [9,1],mG 11 0 0 12111101110 []⟩)] []
def c32:fD:=cQ [] [(11,⟨oX [0,2,4,6,8,10,12,15,16,20,19,23],mG 12 0 0 231121001110 [255]⟩)] []
def c36:fD:=cQ [] [(6,⟨oS 0 [17],mG 17 0 0 12311101111011200 [16352]⟩),
 (8,⟨oS 0 [16,0],mG 17 0 0 11231110111011100 [8190]⟩)] []
def c48:fD:=cQ [11] [] []
def c52:fD:=cQ [38] [(14,⟨oS 0 [9,2,0],mG 13 0 0 1123101011100 [510]⟩)] []
def c53:fD:=cQ [9] [] []
def c54:fD:=cQ [2] [] []
def c59:fD:=cQ [17] [] []
def c61:fD:=cQ [] [(3,⟨oS 0 [5,1],mG 7 0 0 1201110 []⟩)] []
def c62:fD:=cQ [] [(1,⟨fY [0,1,2,3,4,6,8,9,10,11,12,14,15] (.or (fY [5,7,13,16] (.op 17 .none (.op 18 .none (.op 19 .all (.nil))))) (fY [13,16,5,7] (.op 17 .none (.op 18 .none (.op 19 .all (.nil)))))),mG 20 0 0 11231030111020201110 [7936,65280]⟩),
 (3,⟨oS 0 [5,0],mG 6 0 0 201110 []⟩),
 (4,⟨oS 0 [6,0],mG 7 0 0 2001110 []⟩)] []
def c63:fD:=cQ [5] [] []
def c64:fD:=cQ [] [(9,⟨oS 0 [5,2],mG 8 0 0 11214110 []⟩)] [9]
def c65:fD:=cQ [] [(1,⟨oS 0 [10,1],mG 12 0 0 121011101110 []⟩),
 (3,⟨oS 0 [6,4,1],mG 13 0 0 2304112101110 [1535]⟩),
 (4,⟨oS 0 [7,5,0,1],mG 16 0 0 2330441121011100 [5119,14335]⟩),
 (7,⟨oS 0 [7,5],mG 13 0 0 2341120101110 [1023]⟩),
 (11,⟨oX [0,2,4,6,8,10,12,14,16,18,24,21,22],mG 13 0 0 121110101110 []⟩),
 (14,⟨oS 0 [9,4,1],mG 16 0 0 2304112301001110 [224,12287]⟩)] []
def c69:fD:=cQ [] [(1,⟨oS 0 [8],mG 8 0 0 12111010 []⟩),
 (8,⟨oS 0 [14,5],mG 20 0 0 23411211110111101110 [131071]⟩)] []
def c74:fD:=cQ [3] [] []
def c78:fD:=cQ [] [(4,⟨oS 0 [22,2],mG 25 0 0 1111111121311214111111110 [255]⟩)] []
def c79:fD:=cQ [] [(10,⟨oS 0 [11,2,0],mG 15 0 0 112311310011100 [224,2046]⟩)] []
def c87:fD:=cQ [17] [] []
def c90:fD:=cQ [] [(2,⟨oX [0,6,3,4,8,10,12,15],mG 8 0 0 20230110 [11]⟩),
 (3,⟨oS 0 [9,1],mG 11 0 0 23111111100 [255]⟩)] []
def c91:fD:=cQ [4] [(7,⟨oS 0 [7],mG 7 0 0 2011200 []⟩)] []
def c95:fD:=cQ [] [(15,⟨oS 0 [7,5,4,12,2],mG 34 0 0 1121411121311111111111111111111110 [2097151]⟩)] [15]
def c96:fD:=cQ [3] [(2,⟨oS 0 [6,2,0],mG 10 0 0 1123011100 [62]⟩)] []
def c97:fD:=cQ [6] [] []
def c99:fD:=cQ [3] [(2,⟨oS 0 [2,0,0],mG 4 0 0 2100 []⟩)] []
def aDN:fD:=cQ [] [(2,⟨oS 0 [8,2,0],mG 12 0 0 112311011100 [254]⟩),
 (6,⟨oS 0 [8,2,0],mG 12 0 0 112311011100 [254]⟩)] []
def aDM:fD:=cQ [] [(6,⟨oX [0,2,8,5,6,10,12,15,17,18],mG 10 0 0 1213301100 [22,62]⟩)] []
def aDL:fD:=cQ [] [(4,⟨fY [0,1,2,3,4,5,6] (.op 7 (.xa 3) (.op 8 .all (.op 9 (.xa 3) (.op 10 .all (.op 11 .none (.nil)))))),mG 12 0 0 121313101010 [3,207]⟩),
 (6,⟨fY [0,1,2,3,4] (.op 5 (.xa 3) (.op 6 .all (.op 7 .none (.nil)))),mG 8 0 0 12131010 [3]⟩)] []
def aDK:fD:=cQ [] [(12,⟨fY [0,1,2,3,4,5,6,7] (.op 8 (.xa 6) (.op 9 .none (.op 10 .all (.nil)))),mG 11 0 0 12330102010 [112,15]⟩),
 (18,⟨fY [0,1,2,4,6,7,8,9,10,11,12,13,14,3,5] (.op 15 (.xa 6) (.op 16 .none (.op 17 .all (.nil)))),mG 18 0 0 123300101010202010 [16320,63]⟩)] []
def aDJ:fD:=cQ [] [(4,⟨oS 0 [8,5],mG 14 0 0 23411213001110 [48,2047]⟩),
 (7,⟨oS 0 [7,2,0],mG 11 0 0 11230011100 [126]⟩)] []
def aDI:fD:=cQ [] [(0,⟨oS 0 [12,0],mG 13 0 0 2111103001110 [48]⟩)] []
def aDH:fD:=cQ [5] [] []
def awS:fD:=cQ [] [(1,⟨oS 0 [10,0],mG 11 0 0 21111001110 []⟩)] []
def aDF:fD:=cQ [] [(3,⟨oS 0 [9,8,2],mG 21 0 0 112313111112011101110 [2047,2047]⟩),
 (4,⟨oS 0 [10,9,2],mG 23 0 0 11213131111121011101110 [4095,4095]⟩)] []
def aDD:fD:=cQ [5] [] []
def awK:fD:=cQ [] [(6,⟨oS 0 [1,6,13,3],mG 26 0 0 11123121311111111213111110 [15,32767,32767]⟩),
 (9,⟨oX [0,6,8,10,2,4,12,14],mG 8 0 0 12110110 []⟩)] []
def axn:fD:=cQ [45] [(6,⟨oX [0,2,4,6,8,10,12,16,18,20,22,24,26,28,14,30,32,34],mG 18 0 0 112313111311111110 [63,63,16191]⟩)] [11]
def aDC:fD:=cQ [] [(6,⟨oS 0 [17,2,0],mG 21 0 0 112113301110300111000 [252,15872,8189]⟩)] []
def aDB:fD:=cQ [] [(5,⟨oS 0 [5,1,0],mG 8 0 0 11211010 []⟩)] []
def awG:fD:=cQ [] [(11,⟨oS 0 [8,0],mG 9 0 0 230023000 [6,96]⟩),
 (15,⟨oS 0 [8,0],mG 9 0 0 230023000 [6,96]⟩)] []
def awF:fD:=cQ [1] [] []
def aDA:fD:=cQ [] [(9,⟨fY [0,1,2,3,4] (.op 5 (.xa 3) (.op 6 .all (.op 7 .none (.nil)))),mG 8 0 0 12131010 [3]⟩),
 (11,⟨fY [0,1,2,3,4] (.op 5 (.xa 3) (.op 6 .all (.op 7 .none (.nil)))),mG 8 0 0 12131010 [3]⟩),
 (13,⟨fY [0,1,2] (.op 3 (.xa 3) (.op 4 .all (.op 5 (.xa 3) (.op 6 .all (.op 7 .none (.nil)))))),mG 8 0 0 12111010 []⟩)] []
def aDz:fD:=cQ [3] [] []
def aDy:fD:=cQ [] [(2,⟨oS 0 [12,0],mG 13 0 0 1231011110110 [1016]⟩)] []
def aDx:fD:=cQ [] [(6,⟨oS 0 [11,1],mG 13 0 0 1201111011110 []⟩)] []
def awC:fD:=cQ [] [(5,⟨oS 0 [9,2,0],mG 13 0 0 1123130011100 [96,510]⟩)] []
def aDw:fD:=cQ [] [(11,⟨oS 0 [9,2,0],mG 13 0 0 1123130011100 [96,510]⟩)] []
def aDv:fD:=cQ [] [(5,⟨oX [0,2,8,10,4,6,13,15,16],mG 9 0 0 112001200 []⟩)] []
def aDu:fD:=cQ [] [(1,⟨oX [0,3,4,6,8,10,14,16,12,18,20,22],mG 12 0 0 112132141110 [7]⟩)] []
def aDt:fD:=cQ [] [(1,⟨oX [0,2,4,6,10,12,14,16,20,22,24,26,30,32,34,36,8,18,28,39,41,43,44],mG 23 0 0 11121010210102101021010 []⟩)] []
def aDs:fD:=cQ [] [(11,⟨oX [0,6,8,10,12,14,16,18,20,22,3,5,25,26],mG 14 0 0 12313003000110 [48,384,2040]⟩)] []
def aDr:fD:=cQ [2] [(2,⟨oX [0,2,5,6,8,10,12,16,18,14,20,22,24,26,28,30,33,34,36,38],mG 20 0 0 11123111121311111110 [31,8191]⟩)] []
def aDq:fD:=cQ [] [(1,⟨oX [0,4,6,2,9,10,12],mG 7 0 0 1121010 []⟩)] []
def aDp:fD:=cQ [] [(6,⟨oS 0 [9],mG 9 0 0 213001200 [48]⟩)] []
def aDo:fD:=cQ [] [(6,⟨oS 0 [9],mG 9 0 0 213001200 [48]⟩)] []
def aDn:fD:=cQ [5] [(7,⟨oX [0,2,4,6,8,10,18,13,15,16],mG 10 0 0 112300200 [24]⟩)] []
def aDm:fD:=cQ [1] [] []
def aDl:fD:=cQ [3] [] []
def azq:fD:=cQ [2,5] [] []
def aDk:fD:=cQ [3,4,5] [] []
def aDj:fD:=cQ [] [(6,⟨oS 0 [9],mG 9 0 0 213001200 [48]⟩)] []
def aDi:fD:=cQ [5] [] []
def aDh:fD:=cQ [] [(6,⟨oS 0 [9],mG 9 0 0 213001200 [48]⟩)] []
def av2:fD:=cQ [2] [] []
def aDg:fD:=cQ [] [(1,⟨oX [0,2,4,6,8,12,10,15,16,18,20],mG 11 0 0 11123111200 [15]⟩)] []
def aDf:fD:=cQ [] [(3,⟨oS 0 [5,6,3],mG 16 0 0 1112131111231110 [3,255]⟩)] []
def aDe:fD:=cQ [3,4] [] []
def aDd:fD:=cQ [1] [] []
def aDc:fD:=cQ [] [(6,⟨oX [0,2,4,6,8,10,12,14,16,18,20,26,22,24,28,30,33,34,36,39],mG 20 0 0 11231301311011011100 [2016,16352,65534]⟩)] []
def aDb:fD:=cQ [2,3] [] []
def aDa:fD:=cQ [] [(4,⟨oS 0 [6],mG 6 0 0 213000 [6]⟩)] []
def aC9:fD:=cQ [] [(6,⟨oS 0 [10],mG 10 0 0 2131001200 [112]⟩),
 (11,⟨oS 0 [10],mG 10 0 0 2131001200 [112]⟩)] []
def aC8:fD:=cQ [4] [] []
def aC7:fD:=cQ [] [(1,⟨oX [0,2,4,6,10,12,14,16,8,19,21,23,24],mG 13 0 0 1112101021010 []⟩)] []
def aC6:fD:=cQ [2,3] [] []
def aC5:fD:=cQ [] [(1,⟨fY [1,3,0,2,4,5,6] (.op 7 .new (.op 8 .new (.op 9 .none (.nil)))),mG 10 0 0 2130000200 [119]⟩),
 (5,⟨oS 0 [6],mG 6 0 0 231010 [3]⟩),
 (6,⟨oX [0,2,4,8,14,22,24,26,28,30,32,34,36,38,40,44,46,48,52,54,56,6,10,12,16,18,20,42,50,58,60],mG 31 0 0 1211021102331010310023301301010 [28,188,508,14336,491520,1046528]⟩),
 (7,⟨oX [0,4,10,16,18,20,22,24,26,28,30,32,34,36,38,40,42,44,2,6,8,12,14,46,48],mG 25 0 0 1233101033100310023012010 [47,1792,28672,65280,1966080,4194048]⟩)] []
def aC4:fD:=cQ [] [(1,⟨oX [0,2,4,6,10,12,14,16,8,19,21,23,24,26],mG 14 0 0 11112101021010 []⟩)] []
def aC2:fD:=cQ [] [(3,⟨oS 0 [7],mG 7 0 0 1213000 [6]⟩)] []
def aC1:fD:=cQ [] [(6,⟨oS 0 [24,0],mG 25 0 0 1231110311110311110111100 [2046,131070,4194302]⟩),
 (11,⟨oS 0 [10],mG 10 0 0 2311101110 [15]⟩),
 (12,⟨oX [0,2,4,6,8,10,14,20,22,28,30,32,34,38,42,48,50,12,16,18,24,26,36,40,44,46,52,54,56,59],mG 30 0 0 123310130303111033101301011100 [224,4064,8190,262142,524768,3670496,66585056,134217726]⟩)] []
variable{args:List CV}{m:aD}
theorem c7(c:fD){f:FuncId}{fn:Func}{R:List CV->aD->Prop}(hf:Tryz.prog.funcs[f]?=some fn) (h:fFl (u6 0 args) λfl=>Tl c (yX fn) (Mm tt.get fn.results.toList R) fl [] m []) (hl:Nat.ble args.length fn.ntmps=true:=by rfl) (e1:c.P=Tryz.prog:=by rfl) (e2:c.T=tt.get:=by rfl) (hb:fn.body=some (yX fn):=by kernel_rfl) (hn:(fn.name== "runtime.NumGoroutine")=false:=by kernel_rfl) (ho:iE c fn.ntmps (yX fn)=true:=by kernel_rfl):bi Tryz.prog f args m R:=bW hf hl (ce h) e1 e2 hb hn ho
theorem ap{f:FuncId}{fn:Func}{R:List CV->aD->Prop}(hf:Tryz.prog.funcs[f]?=some fn) (h:fFl (u6 0 args) λfl=>Tl du (yX fn) (Mm tt.get fn.results.toList R) fl [] m []) (hl:Nat.ble args.length fn.ntmps=true:=by rfl) (hb:fn.body=some (yX fn):=by kernel_rfl) (hn:(fn.name== "runtime.NumGoroutine")=false:=by kernel_rfl) (ho:iE du fn.ntmps (yX fn)=true:=by kernel_rfl):bi Tryz.prog f args m R:=c7 du hf h hl rfl rfl hb hn ho
variable{p:aD}{b n:Nat}{x:Value}
theorem mf.store{e:TypeId}{o c k:Nat}{l:List Value}(h:mf p e 1 (.slice (some ⟨b,o,none⟩) n c) l)(hk:k<l.length)(hx:x.oneCell'=true):
  ∃arr,p b=some (.cells arr e (0,0))/\o+k<arr.size/\mf (p.set b (.cells (arr.setIfInBounds (o+k) x) e (0,0))) e 1 (.slice (some ⟨b,o,none⟩) n c) (l.set k x):=by
 rcases h with⟨h,_⟩|⟨b',o',c',n',arr,h,h1,h2,h3,h4,h5,h6⟩
 ·cases h
 ·cases h
  rw[eG]at h2 h4;refine⟨arr,h1,by omega,.inr ⟨b,o,c,n,_,rfl,aD.bg ..,by simp;omega,h3,by simp;omega,λj u hu=>?_,λu hu=>?_⟩⟩
  ·rw[List.getElem?_set]at hu
   rw[Array.getElem?_setIfInBounds];by_cases e:k=j
   ·subst e
    rw[aC rfl,aC hk]at hu;cases hu;rw[aC rfl,aC (by omega)]
   ·rw[if_neg e]at hu
    rw[if_neg (by omega)];exact h5 j u hu
  ·rcases fa hu with hu|rfl
   ·exact h6 u hu
   ·exact hx
def Bs(m:aD)(v:Value)(l:List Int):Prop:=mf m 5 1 v (bc l)
variable{l:List Int}{v:Value}
theorem Bs.lb(h:Bs p v l):Lb p v l:=mf.eF h
theorem Bs.len(h:Bs p v l):fg v=l.length:=h.lb.len
variable{m':aD}
theorem Bs.sub(h:Bs m v l)(hs:cL m m'):Bs m' v l:=mf.sub h hs
theorem Bs.cR(h:Bs m v l)(hs:∀b,lp v=some b->m' b=m b):Bs m' v l:=mf.cR h hs
theorem Bs.nil(m:aD):Bs m (.slice none 0 0) []:=.inl ⟨rfl,rfl⟩
theorem Bs.Je(hb:m b=some (.cells (bc l).toArray 5))(hn:l.length=n):Bs m (.slice (some ⟨b,0,none⟩) n n) l:=by
 subst hn;refine .inr ⟨b,0,l.length,l.length,_,rfl,hb,by simp[bc],aW _,by simp[bc],?_,VW⟩
 grind
theorem hU8:tt.get 5=some ⟨.int .u8,1,1,[.one (.int .u8 0)],false⟩:=by rfl
theorem OW:tt.get 118=some ⟨.slice 5,1,24,[.one (.slice none 0 0)],false⟩:=by rfl
structure afk(m:aD)(v:Value)(l:List Int)(v':Value)(m':aD):Prop where
 ux:Bs m' v' l
 cR:∀b o,m b=some o->lp v≠some b->m' b=some o
 new:∀b,lp v'=some b->lp v=some b\/m b=none
variable{news:List Int}
theorem OI(hv:Bs m v l)(hg:La m x news)(hb:l.length+news.length<=1000000000):
  bF tP (.builtin .append [118,118]) [.v v,.v x] m λr m'=>∃v',r=[.v v']/\afk m v (l++news) v' m':=by
 have e1:=hv.len;have e2:=hg.len;refine(E2 eR OW rfl hU8 OW rfl hv hg.vh (by rw[e1,e2];simp only;omega) (by rw[e1,e2];omega)).mono λr m' ⟨v',h1,h2⟩=>⟨v',h1,?_⟩;rw[<-Mh]at h2;exact⟨h2.ux,h2.cR,h2.new⟩
variable{ls:List aD}{i:Nat}
theorem nQ(hs:aq m ls)(hi:ls[i]?=some p) (hv:Bs p v l) (hg:La m x news) (hb:l.length+news.length<=1000000000):
  bF tP (.builtin .append [118,118]) [.v v,.v x] m λr m'=>∃v' p',r=[.v v']/\aq m' (ls.set i p')/\afk p v (l++news) v' p':=by
 have e1:=hv.len;have e2:=hg.len;refine(kC eR OW rfl hU8 OW rfl hs hi hv hg.vh (by rw[e1,e2];simp only;omega) (by rw[e1,e2];omega)).mono λr m' ⟨v',p',h1,h2,h3⟩=>⟨v',p',h1,h2,?_⟩;rw[<-Mh]at h3;exact⟨h3.ux,h3.cR,h3.new⟩
theorem Bt{x:Int}:bF tP (.buildSlice 118 1 [0]) [.v (.int .u8 x)] m λr m'=>∃b,m b=none/\r=[.v (.slice (some ⟨b,0,none⟩) 1 1)]/\m'=m.set b (.cells (bc [x]).toArray 5):=
 dm (n:=1) eR OW rfl hU8 rfl rfl (by simp[CV.cs]) (by simp) (by simp)
theorem ami{x y z:Int}:bF tP (.buildSlice 118 3 [0,1,2]) [.v (.int .u8 x),.v (.int .u8 y),.v (.int .u8 z)] m λr m'=>∃b,m b=none/\r=[.v (.slice (some ⟨b,0,none⟩) 3 3)]/\m'=m.set b (.cells (bc [x,y,z]).toArray 5):=
 dm (n:=3) eR OW rfl hU8 rfl rfl (by simp[CV.cs]) (by simp) (by simp)
theorem Lb.Je(hb:m b=some (.cells (bc l).toArray 5))(hn:l.length=n):Lb m (.slice (some ⟨b,0,none⟩) n n) l:=(Bs.Je hb hn).lb
variable{b':Nat}
theorem Bs.one{y:Int}(hs:aq m (p::ls))(hb:m b'=none)(hx:Bs p x l)(hl:l.length<=100000000):
  bF tP (.builtin .append [118,118]) [.v x,.v (.slice (some ⟨b',0,none⟩) 1 1)] (m.set b' (.cells (bc [y]).toArray 5)) λr m'=>∃v' p',r=[.v v']/\aq m' (p'::ls)/\Bs p' v' (l++[y]):=by
 have bM:=hs.new hb (.cells (bc [y]).toArray 5);refine(nQ (i:=1) bM rfl hx (Lb.Je (l:=[y]) (aD.bg ..) rfl).la (by simp;omega)).mono λr m' ⟨v',p',h1,h2,h3⟩=>⟨v',p',h1,h2.dV 0,h3.ux⟩
theorem GW{o:Obj}{v':Value}(hb:m b'=none)(h:afk (m.set b' o) v l v' m'):afk m v l v' m':=
 ⟨h.ux,λb u hm hn=>h.cR b u (aD.bT _ hb _ _ hm) hn,λb hv=>(h.new b hv).imp id λhx=>by
  by_cases e:b=b'
  ·subst e;exact hb
  ·rw[aD.eH _ _ e]at hx;exact hx⟩
theorem hI:tt.get 3=some ⟨.int .i64,1,8,[.one (.int .i64 0)],false⟩:=by rfl
theorem ZP(hn:n<=100000000):
  bi tP 354 [.v (.slice none 0 0),.v (.int .i64 n)] m λr m'=>∃v p,r=[.v v]/\aq m' [p,m]/\Bs p v []:=by
 refine ap Tryz.func354 ?_;refine⟨λh=>absurd h (by(simp;try omega)),λ_=>?_⟩;refine .mk _ (sR eR OW rfl) ?_;rintro _ _⟨rfl,rfl⟩;conv=>whnf
 have e:IntKind.i64.wrap ((n:Int)-IntKind.i64.wrap (((0:Nat):Int)-((0:Nat):Int)))=(n:Int):=by rw[wi (n:=((0:Nat):Int)-((0:Nat):Int)) (by omega) (by omega),wi];omega
 rw[e];apply bI<;>intro h
 ·have h':=ah h
  refine .mk _ (sR eR OW rfl) ?_;rintro _ _⟨rfl,rfl⟩
  repeat refine xS ?_
  refine .mk _ (aaK (n:=0) (c:=0) (a:=none) (l:=[]) eR OW rfl hU8 hI rfl (by decide) rfl (.inl ⟨0,rfl,rfl⟩) (by omega) (by omega) (by simp only;omega) (by omega)) ?_;rintro _ _⟨b,C,hb,hC,rfl,rfl⟩
  repeat refine xS ?_
  intro o' h1 h2;obtain rfl:o'=0:=by have:=h1 (by omega);simpa using this
  refine⟨_,blk1 b _,rfl,(aq.one m).new hb _,.inr ⟨b,0,C,0,_,rfl,aG ..,rfl,lF _,?_,by intro j u hu;simp[bc]at hu,by simp[bc]⟩⟩;simp only[oQ,kr,dM,cW,LB.cz,eB.cells,ax,ae];omega
 ·have h':=aj h
  exact⟨_,iI,rfl,(aq.one m).cA,Bs.nil _⟩
structure jL(m:aD)(v:Value)(ps:List (Value×List Int)):Prop where
 eF:gq m 1 v (ps.map (·.1))
 la:∀p∈ps,La m p.1 p.2
variable{ps:List (Value×List Int)}
theorem jL.shape(h:jL m v ps):∃a c,v= .slice a ps.length c:=by
 rcases h.eF with⟨c,rfl,e⟩|⟨b,o,c,n,arr,t,fr,rfl,_,e,_⟩
 ·simp_all
 grind
theorem jL.real(h:jL m v ps)(hi:i<ps.length):∃b o c,v= .slice (some ⟨b,o,none⟩) ps.length c/\∀(i:Nat) (hi:i<ps.length),gR m b (o+i)=some ps[i].1:=by
 rcases h.eF with⟨c,rfl,e⟩|⟨b,o,c,n,arr,t,fr,rfl,g1,e,_,g2,_⟩
 ·simp_all
 ·have:ps.length=n:=by simpa using e
  exact⟨b,o,c,by rw[this],λj hj=>aF g1 (g2 j _ (by simp[hj]))⟩
def oT(ps:List (Value×List Int)):List Int:=(ps.map (·.2)).flatten
theorem adF(h:i<ps.length):oT (ps.take i)++ps[i].2=oT (ps.take (i+1)):=by
 rw[au h,oT,oT,bD,gk];simp
theorem XD(i:Nat):(oT (ps.take i)).length<=(oT ps).length:=by
 have e:oT ps=oT (ps.take i)++oT (ps.drop i):=by
  rw[oT,oT,oT,<-gk,<-bD,dL]
 grind
theorem ado(h:i<1000000000000):IntKind.i64.wrap ((i:Int)+1)=((i+1:Nat):Int):=by rw[wi];omega
theorem EX(h:jL m v ps)(hb:(oT ps).length<=10000000)(hn:ps.length<=10000000):
  bi tP 288 [.v v] m λr m'=>∃v' p,r=[.v v']/\aq m' [p,m]/\Bs p v' (oT ps):=by
 obtain⟨a,c,rfl⟩:=h.shape;refine ap Tryz.func288 ?_;refine .mk (ι:=Nat) (λi=>ps.length-i) (λi mm=>i<=ps.length/\mm=m) (λi=>[(0,.c (.v (.slice a ps.length c))),(3,.c (i64 (oT (ps.take i)).length)),(9,.c (.v (.slice a ps.length c))),(10,.c (i64 ps.length)),(11,.c (i64 i))]) (λ_=>[]) 0 ⟨by omega,rfl⟩ ?_ ?_
 ·exact Cr
 rintro i mm⟨hi,he⟩;subst mm;apply bI<;>intro h1
 ·have jc:=ah h1
  have bH:i<ps.length:=by omega
  obtain⟨b,o,c',e,nT⟩:=h.real bH;cases e;have AG:=h.la ps[i] (by simp);obtain⟨ai,ci,hvi⟩:=AG.shape;have hc:=nT i bH;rw[hvi]at hc;have hle:=XD (ps:=ps) (i+1);rw[<-adF bH,ax]at hle
  repeat refine xS ?_
  refine⟨_,hc,rfl,?_⟩;conv=>whnf
  have e3:IntKind.i64.wrap (((oT (ps.take i)).length:Int)+(ps[i].2.length:Int))=((oT (ps.take (i+1))).length:Int):=by
   rw[<-adF bH,ax,wi];omega
  rw[e3];refine⟨λh=>absurd h (by(simp;try omega)),λ_=>?_⟩;refine⟨i+1,⟨by omega,rfl⟩,by omega,?_⟩;exact Cr
 ·have jc:=aj h1
  obtain rfl:i=ps.length:=by omega
  rw[aJ];refine aP (ZP (n:=(oT ps).length) (by omega)) ?_;rintro _ m2⟨v2,p2,rfl,bZ,lD⟩;refine .mk (ι:=Nat×Value) (λi=>ps.length-i.1) (λ⟨i,x⟩ mm=>i<=ps.length/\∃p,aq mm [p,m]/\Bs p x (oT (ps.take i))) (λ⟨i,x⟩=>[(6,.c (.v x)),(25,.c (.v (.slice a ps.length c))),(26,.c (i64 ps.length)),(27,.c (i64 i))]) (λ_=>[]) (0,v2) ⟨by omega,p2,bZ,by simpa [oT]using lD⟩ ?_ ?_
  ·exact Cr
  rintro⟨i,x⟩ mm ⟨hi,p,hs,hx⟩;apply bI<;>intro h2
  ·have iD:=ah h2
   have bH:i<ps.length:=by omega
   obtain⟨b,o,c',e,nT⟩:=h.real bH;cases e;have AG:=h.la ps[i] (by simp);have hle:=XD (ps:=ps) (i+1);rw[<-adF bH,ax]at hle
   have hc:gR mm b (o+i)=some ps[i].1:=by
    have:=nT i bH;unfold gR at this⊢
    split at this
    ·rename_i arr t fr hm
     rw[hs.at (i:=1) rfl _ _ hm];exact this
    ·cases this
   repeat refine xS ?_
   refine⟨_,hc,AG.one,?_⟩;refine .mk _ (nQ (i:=0) hs rfl hx (AG.sub (hs.at (i:=1) rfl)) (by omega)) ?_;rintro _ m3⟨v3,p3,rfl,dy,tX⟩;refine⟨(i+1,v3),⟨by omega,p3,dy,?_⟩,by simp only;omega,?_⟩
   ·have:=tX.ux
    rw[adF bH]at this;exact this
   ·exact Cr
  ·have iD:=aj h2
   obtain rfl:i=ps.length:=by omega
   rw[aJ]at hx;exact⟨x,p,rfl,hs,hx⟩
theorem ZN:tt.get 127=some ⟨.slice 118,1,24,[.one (.slice none 0 0)],false⟩:=by rfl
theorem CC:bF tP (.buildSlice 127 1 [0]) [.v x] m λr m'=>∃b,m b=none/\r=[.v (.slice (some ⟨b,0,none⟩) 1 1)]/\m'=m.set b (.cells #[x] 118):=
 dm (n:=1) eR ZN rfl OW rfl rfl (by simp[CV.cs]) (by simp) (by simp)
theorem jL.Je{t:TypeId}{fr:Nat×Nat}(h:m b=some (.cells (ps.map (·.1)).toArray t fr))(hn:ps.length=n)(hl:∀p∈ps,La m p.1 p.2):jL m (.slice (some ⟨b,0,none⟩) n n) ps:=by
 refine⟨.inr ⟨b,0,n,n,_,_,_,rfl,h,by simp[hn],aW _,λj u hu=>by simpa using hu,λu hu=>?_⟩,λp hp=>hl p hp⟩;obtain⟨p,hp,rfl⟩:=aV.1 hu;exact(hl p hp).one
theorem jL.aos{w u:Value}{k j:List Int}{t:TypeId}{fr:Nat×Nat}(h:m b=some (.cells #[v,w,u] t fr))(hl:La m v l)(hk:La m w k)(hj:La m u j):jL m (.slice (some ⟨b,0,none⟩) 3 3) [(v,l),(w,k),(u,j)]:=
 jL.Je (ps:=[(v,l),(w,k),(u,j)]) h rfl (by simpa using⟨hl,hk,hj⟩)
theorem aip{y z:Value}:bF tP (.buildSlice 127 3 [0,1,2]) [.v x,.v y,.v z] m λr m'=>∃b,m b=none/\r=[.v (.slice (some ⟨b,0,none⟩) 3 3)]/\m'=m.set b (.cells #[x,y,z] 118):=
 dm (n:=3) eR ZN rfl OW rfl rfl (by simp[CV.cs]) (by simp) (by simp)
theorem ai4{y:Value}{vs:List Value}(hs:aq m (p::ls))(hb:m b'=none)(hx:x.oneCell'=true)(hy:mf p 118 1 y vs)(hl:vs.length<=100000000):
  bF tP (.builtin .append [127,127]) [.v y,.v (.slice (some ⟨b',0,none⟩) 1 1)] (m.set b' (.cells #[x] 118)) λr m'=>∃y' p',r=[.v y']/\aq m' (p'::ls)/\mf p' 118 1 y' (vs++[x]):=by
 have bM:=hs.new hb (.cells #[x] 118);have e1:=hy.eF.len;have e2:fg (.slice (some ⟨b',0,none⟩) 1 1)=1:=rfl
 have g:s5 (m.set b' (.cells #[x] 118)) 1 (.slice 118) (.slice (some ⟨b',0,none⟩) 1 1) [x]:=
  .inl ⟨_,rfl,.inl (.inr ⟨b',0,1,1,_,_,_,rfl,aD.bg ..,rfl,aW _,λj u hu=>by simpa using hu,by simpa using hx⟩)⟩
 refine(kC eR ZN rfl OW ZN rfl bM (i:=1) rfl hy g (by rw[e2];simp only;omega) (by rw[e2];omega)).mono λr m' ⟨v',p',h1,h2,h3⟩=>⟨v',p',h1,h2.dV 0,h3.ux⟩
end Go.E.Y
namespace Go.E
variable{l:List aD}
theorem aq.tQ{mm p:aD}{k:List aD}(hs:aq mm (p::l))(h:aq p k):aq mm (k++l):=
 (aq.under (a:=l) (hs.fm (dY (l₁:=[p]) (l₂:=l))) h).fm dY
theorem aq.fb{mm p:aD}(h:aq mm (p::l)):∃q,(∀x∈l,cL x q)/\aq mm [p,q]/\∀m' k,aq m' (k++[q])->aq m' (k++l):=by
 have h2:aq (gY l) l:=⟨λ_ _ h=>h,(bh.1 h.2).2⟩;refine⟨gY l,λx hx=>h2.sub hx,⟨λx o hx=>?_,?_⟩,λm' k hk=>aq.under hk h2⟩
 ·refine h.1 x o ?_
  simpa [gY,Zn]using hx
 ·refine bh.2 ⟨λy hy=>?_,Fu _ _⟩
  rw[aL.1 hy];intro x;rcases hp:p x with _|o
  ·grind
  ·refine .inr (pM.2 λa ha=>?_)
   rcases(bh.1 h.2).1 a ha x with h|h
   (simp_all;omega)
theorem aq.ir{m:aD}(h:aq m l)(is:List Nat)(hn:is.Nodup:=by decide)(hb:∀i∈is,i<l.length:=by simp):aq m (is.map λi=>l.getD i iI):=by
 have hg:∀i∈is,∃h:i<l.length,l.getD i iI=l[i]:=λi hi=>⟨hb i hi,by rw[aI,az (hb i hi)];rfl⟩;refine⟨λx o hx=>?_,?_⟩
 ·obtain⟨a,ha,AH⟩:=eQ hx
  obtain⟨i,hi,rfl⟩:=aV.1 ha;obtain⟨q,e⟩:=hg i hi;simp only[e]at AH;exact h.sub (aO q) _ _ AH
 ·rw[cG]
  refine hn.imp_of_mem λ{i j} hi hj ZD=>?_;obtain⟨q,e⟩:=hg i hi;obtain⟨q',e'⟩:=hg j hj;rw[e,e'];rcases Nat.lt_or_gt_of_ne ZD with k|k
  ·exact dz.1 h.2 i j q q' k
  ·exact(dz.1 h.2 j i q' q k).symm
end Go.E
namespace Go.E.Y
open Go.Proofs
structure Ty(α:Type) where
 enc:α->List Value
 (s sl el by':Nat)
 (ts ti:TI)
 (ok:fp enc s)
 (h1:tt.get sl=some ts)
 (h2:ts.k= .slice el)
 (h3:tt.get el=some ti)
 (h4:ti.size=s)
 (h5:ti.bytes=by')
 (h6:(LB.cz ti.zero).length=s)
 (h7:by'<=1000)
 (h8:s<=1000)
variable{m m':aD}{b:Nat}
theorem yt{o:Obj}(h:m b=some o)(hs:cL m m'):N8 [b] m m':=λx hx=>by rw[aL.1 hx,h,hs _ _ h]
theorem akV{b2:Nat}{o o2:Obj}(h:m b=some o)(h2:m b2=some o2)(hs:cL m m'):N8 [b,b2] m m':=λx hx=>by
 simp only[aU,fG,rH]at hx;rcases hx with rfl|rfl
 ·rw[h,hs _ _ h]
 ·rw[h2,hs _ _ h2]
variable {α:Type}{t:Ty α}
def Gl(t:Ty α)(m:aD)(v:Value)(E:List α):Prop:=gq m t.s v (E.flatMap t.enc)
def Gw(t:Ty α)(m:aD)(v:Value)(E:List α):Prop:=mf m t.el t.s v (E.flatMap t.enc)
def Ga(t:Ty α)(m:aD)(v:Value)(E:List α):Prop:=Gl t m v E\/(E=[]/\∃a,v= .slice (some a) 0 0)
variable{v:Value}{E:List α}
theorem Gl.sub(h:Gl t m v E)(hs:cL m m'):Gl t m' v E:=gq.sub h hs
theorem Gw.el(h:Gw t m v E):Gl t m v E:=mf.eF h
theorem Gl.ea(h:Gl t m v E):Ga t m v E:=.inl h
theorem Gw.ea(h:Gw t m v E):Ga t m v E:=h.el.ea
theorem Ga.sub(h:Ga t m v E)(hs:cL m m'):Ga t m' v E:=h.imp (·.sub hs) id
theorem Gw.nil(m:aD):Gw t m (.slice none 0 0) []:=.inl ⟨rfl,rfl⟩
theorem Ga.nil(m:aD):Ga t m (.slice none 0 0) []:=(Gw.nil m).ea
theorem Gl.shape(h:Gl t m v E):∃a c,v= .slice a E.length c:=t.ok.shape h
theorem Ga.shape(h:Ga t m v E):∃a c,v= .slice a E.length c:=by
 rcases h with h|⟨rfl,a,rfl⟩
 ·exact h.shape
 simp_all
theorem Ga.el(h:Ga t m v E)(hl:0<E.length):Gl t m v E:=h.elim id λh=>by rw[h.1]at hl;simp at hl
variable{i:Nat}
theorem Ga.real(h:Ga t m v E)(hi:i<E.length):∃b o c,v= .slice (some ⟨b,o,none⟩) E.length c/\∀j (hj:j<E.length),dQ m b (o+j*t.s) (t.enc E[j]):=by
 rcases h with h|⟨rfl,_⟩
 ·exact t.ok.real h hi
 ·simp at hi
theorem Ga.none{m:aD}{E:List α}{n c:Nat}(h:Ga t m (.slice none n c) E):E=[]:=by
 rcases h with(⟨c',e,h⟩|⟨b,o,c',n,arr,t,fr,e,_⟩)|⟨h,_⟩
 ·exact cB (t.ok.count (n:=0) (by rw[h];simp))
 ·cases e
 ·exact h
theorem Ga.fg{m:aD}{v:Value}{E:List α}(h:Ga t m v E):fg v=E.length:=by obtain⟨a,c,rfl⟩:=h.shape;rfl
theorem Ga.one(h:Ga t m v E):v.oneCell'=true:=by obtain⟨a,c,rfl⟩:=h.shape;rfl
theorem Ga.vh{e:TypeId}(h:Ga t m v E):s5 m t.s (.slice e) v (E.flatMap t.enc):=.inl ⟨e,rfl,h.imp id λ⟨h1,h2⟩=>⟨by rw[h1];rfl,h2⟩⟩
theorem amn{p:aD}{ls:List aD}{x:Value}{news:List α}(hs:aq m ls)(hi:ls[i]?=some p) (hv:Gw t p v E) (hg:Ga t m x news) (hb:E.length+news.length<=100000000):
  bF tP (.builtin .append [t.sl,t.sl]) [.v v,.v x] m λr m'=>∃v' p',r=[.v v']/\aq m' (ls.set i p')/\Gw t p' v' (E++news):=by
 have e1:=hv.el.ea.fg;have e2:=hg.fg;have pY:mf p t.el t.ti.size v (E.flatMap t.enc):=by rw[t.h4];exact hv
 have h7:=t.h7;have qB:(2*(E.length+news.length)+768)*t.by'<=(2*(E.length+news.length)+768)*1000:=iV _ h7
 refine(kC (news:=news.flatMap t.enc) eR t.h1 t.h2 t.h3 t.h1 (by rw[t.h6,t.h4]) hs hi pY (by rw[t.h2,t.h4];exact hg.vh) (by rw[e1,e2,t.h5];omega) (by rw[e1,e2];omega)).mono λr m' ⟨v',p',q1,q2,q3⟩=>⟨v',p',q1,q2,?_⟩;have:=q3.ux;rw[t.h4,<-dx]at this;exact this
theorem ajT:bF tP (.buildSlice t.sl 0 []) [] m λr m'=>∃b,m b=none/\r=[.v (.slice (some ⟨b,0,none⟩) 0 0)]/\m'=m.set b (.cells #[] t.el):=mu eR t.h1 t.h2 t.h3
theorem AL{x:CV}{e:α}(hx:x.cs=t.enc e):bF tP (.buildSlice t.sl 1 [0]) [x] m λr m'=>∃b,m b=none/\r=[.v (.slice (some ⟨b,0,none⟩) 1 1)]/\m'=m.set b (.cells (t.enc e).toArray t.el):=by
 refine(dm (n:=1) eR t.h1 t.h2 t.h3 rfl rfl (by simp[hx,t.h4,t.ok.len]) (by have:=t.h8;rw[t.h4];omega) (by have:=t.ok.pos;rw[t.h4];omega)).mono λr m' ⟨b,e1,e2,e3⟩=>⟨b,e1,e2,?_⟩;rw[e3,show fl [x]=t.enc e by simp[fl,hx]]
theorem Gw.blk1{e:α}(h:m b=some (.cells (t.enc e).toArray t.el)):Gw t m (.slice (some ⟨b,0,none⟩) 1 1) [e]:=
 .inr ⟨b,0,1,1,_,rfl,h,by simp[t.ok.len],aW _,by simp[t.ok.len],λj u hu=>by rw[cD,bz];simpa using hu,t.ok.DW⟩
theorem Gw.blk0(h:m b=some (.cells #[] t.el)):Gw t m (.slice (some ⟨b,0,none⟩) 0 0) []:=
 .inr ⟨b,0,0,0,_,rfl,h,by simp,aW _,by simp,λj u hu=>by simp at hu,t.ok.DW⟩
theorem Az{p:aD}{ls:List aD}{b':Nat}{x:α}{y:Value}(hs:aq m ls)(hi:ls[i]?=some p) (hb:m b'=none) (hy:Gw t p y E) (hl:E.length<=10000000):
  bF tP (.builtin .append [t.sl,t.sl]) [.v y,.v (.slice (some ⟨b',0,none⟩) 1 1)] (m.set b' (.cells (t.enc x).toArray t.el)) λr m'=>∃y' p',r=[.v y']/\aq m' (ls.set i p')/\Gw t p' y' (E++[x]):=by
 have bM:=hs.new hb (.cells (t.enc x).toArray t.el);exact(amn (i:=i+1) bM (by simpa using hi) hy (Gw.blk1 (aD.bg ..)).el.ea (by simp;omega)).mono λr m' ⟨v',p',h1,h2,h3⟩=>⟨v',p',h1,h2.dV 0,h3⟩
end Go.E.Y
namespace Go.E
inductive PL {α:Type} (P:aD->α->Prop):List aD->List α->Prop where
 |nil:PL P [] []
 |cons {p:aD}{x:α}{ps:List aD}{l:List α}:P p x->PL P ps l->PL P (p::ps) (x::l)
section
variable {α:Type}{P:aD->α->Prop}
theorem PL.len{ps:List aD}{l:List α}(h:PL P ps l):ps.length=l.length:=by
 induction h with
 |nil=>rfl
 |cons _ _ ih=>rw[ae,ae,ih]
theorem PL.get{ps:List aD}{l:List α}(h:PL P ps l):∀{i:Nat} (hi:i<ps.length) (hl:i<l.length),P ps[i] l[i]:=by
 induction h with
 |nil=>intro i hi;cases hi
 |cons hp _ ih=>
  intro i hi hl
  cases i with
  |zero=>exact hp
  |succ i=>exact ih (by simpa using hi) (by simpa using hl)
theorem PL.set{ps:List aD}{l:List α}(h:PL P ps l):∀{i:Nat}{p:aD}{x:α},P p x->PL P (ps.set i p) (l.set i x):=by
 induction h with
 |nil=>intro i p x _;exact .nil
 |cons hp h ih=>
  intro i p x hx
  cases i with
  |zero=>exact .cons hx h
  |succ i=>exact .cons hp (ih hx)
theorem PL.mono{Q:aD->α->Prop}(hq:∀p x,P p x->Q p x){ps:List aD}{l:List α}(h:PL P ps l):PL Q ps l:=by
 induction h with
 |nil=>exact .nil
 |cons hp _ ih=>exact .cons (hq _ _ hp) ih
theorem PL.append{ps qs:List aD}{l k:List α}(h:PL P ps l)(h':PL P qs k):PL P (ps++qs) (l++k):=by
 induction h with
 |nil=>exact h'
 |cons hp _ ih=>exact .cons hp ih
theorem PL.one{p:aD}{x:α}(h:P p x):PL P [p] [x]:=.cons h .nil
theorem PL.dV{ps:List aD}{l:List α}(h:PL P ps l):∀i:Nat,PL P (ps.eraseIdx i) (l.eraseIdx i):=by
 induction h with
 |nil=>intro i;exact .nil
 |cons hp h ih=>
  intro i
  cases i with
  |zero=>exact h
  |succ i=>exact .cons hp (ih i)
end
structure lq(α:Type) where
 k:α
 v:CV
 b:Nat
def lq.entry{α:Type}(enc:α->Value)(e:lq α):MapEntry:=⟨enc e.k,e.v.val,e.b⟩
def nk{α:Type}(enc:α->Value)(es:List (lq α))(clock:Nat):Obj:=.map (es.map (lq.entry enc)).toArray clock
structure Mo{α:Type}[DecidableEq α](enc:α->Value)(d:TypeDesc):Prop where
 same:∀a b,Instr.sameNow d (enc a) (enc b)=some (decide (a=b))
 isK:∀a,MapKept.IsKey d (enc a)
 bits:∀a,Instr.sameBits 10000 (enc a) (enc a)=true
 one:∀a,(enc a).oneCell'=true
theorem Sx(a b:ByteArray):(a==b)=decide (a=b):=by
 rcases a with⟨a⟩;rcases b with⟨b⟩
 have h:((⟨a⟩:ByteArray)==⟨b⟩)=(a==b):=rfl
 grind
theorem Gp:Mo Value.string .string:=
 ⟨λa b=>by simp[Instr.sameNow,Sx],λ_=>trivial,λa=>by simp[Instr.sameBits,Sx],λ_=>rfl⟩
theorem arp(k:IntKind):Mo (Value.int k) (.int k):=
 ⟨λa b=>by by_cases h:a=b<;>simp[Instr.sameNow,h],λ_=>rfl,λa=>by simp[Instr.sameBits],λ_=>rfl⟩
section
variable {α:Type} [DecidableEq α]
def mD(k:α)(es:List (lq α)):Option CV:=(es.find? λe=>decide (k=e.k)).map (·.v)
def uu(k:α)(v:CV)(clock:Nat):List (lq α)->List (lq α)
 |[]=>[⟨k,v,clock⟩]
 |e::es=>if k=e.k then⟨k,v,e.b⟩::es else e::uu k v clock es
def kS(k:α)(clock:Nat)(es:List (lq α)):Nat:=if (mD k es).isSome then clock else clock+1
def Fi(k:α):List (lq α)->List (lq α)
 |[]=>[]
 |e::es=>if k=e.k then es else e::Fi k es
theorem Ic{enc:α->Value}{d:TypeDesc}(hk:Mo enc d)(k:α):∀(es:List (lq α)) (i:Nat),
  Instr.findNow d (enc k) (es.map (lq.entry enc)) i=some (match es.findIdx? λe=>decide (k=e.k)with
   |some j=>some (i+j,((es[j]?).map λe=>e.v.val).getD undef)
   |none=>none)
 |[],i=>rfl
 |e::es,i=>by
  simp only[aZ,Instr.findNow,lq.entry,hk.same,BA];by_cases h:k=e.k
  ·simp[h]
  ·have ih:=Ic hk k es (i+1)
   simp only[h,aaJ,gS,cU];rw[ih]
   cases es.findIdx? λe=>decide (k=e.k)with
   |none=>rfl
   |some j=>simp only[];congr 2;rw[cV];exact⟨by simp only;omega,rfl⟩
theorem Ib(k:α):∀(es:List (lq α)),(match es.findIdx? λe=>decide (k=e.k)with
  |some j=>∃e,es[j]?=some e/\mD k es=some e.v/\e.k=k
  |none=>mD k es=none)
 |[]=>rfl
 |e::es=>by
  rw[BA];by_cases h:k=e.k
  ·simp only[h,decide_true,oN]
   exact⟨e,rfl,by simp[mD],rfl⟩
  ·have ih:=Ib k es
   simp only[h,aaJ,gS,cU];have hf:mD k (e::es)=mD k es:=by simp[mD,h]
   rw[hf]
   cases hx:es.findIdx? λe=>decide (k=e.k)with
   |none=>rw[hx]at ih;exact ih
   |some j=>rw[hx]at ih;exact ih
theorem Gx(enc:α->Value)(k:α)(v:CV)(clock:Nat):∀(es:List (lq α)),(match es.findIdx? λe=>decide (k=e.k)with
  |some j=>(es.map (lq.entry enc)).modify j (λe=>{e with key:=enc k,val:=v.val})=(uu k v clock es).map (lq.entry enc)
  |none=>es.map (lq.entry enc)++[⟨enc k,v.val,clock⟩]=(uu k v clock es).map (lq.entry enc))
 |[]=>rfl
 |e::es=>by
  rw[BA];by_cases h:k=e.k
  ·subst h
   simp[uu,lq.entry]
  ·have ih:=Gx enc k v clock es
   simp only[h,aaJ,gS,cU]
   cases hx:es.findIdx? λe=>decide (k=e.k)with
   |none=>rw[hx]at ih;simp only[Option.map_none,aZ,uu,h,gS,db]at ih⊢;rw[ih]
   |some j=>rw[hx]at ih;simp only[dZ,aZ,uu,h,gS,ajl]at ih⊢;rw[ih]
theorem Ma(enc:α->Value)(k:α):∀(es:List (lq α)),(match es.findIdx? λe=>decide (k=e.k)with
  |some j=>(es.map (lq.entry enc)).eraseIdx j=(Fi k es).map (lq.entry enc)
  |none=>es.map (lq.entry enc)=(Fi k es).map (lq.entry enc))
 |[]=>rfl
 |e::es=>by
  rw[BA];by_cases h:k=e.k
  ·subst h
   simp[Fi]
  ·have ih:=Ma enc k es
   simp only[h,aaJ,gS,cU]
   cases hx:es.findIdx? λe=>decide (k=e.k)with
   |none=>rw[hx]at ih;simp only[Option.map_none,aZ,Fi,h,gS]at ih⊢;rw[ih]
   |some j=>rw[hx]at ih;simp only[dZ,aZ,Fi,h,gS,List.eraseIdx_cons_succ]at ih⊢;rw[ih]
end
section
variable {P:Program}{T:lz}{α:Type} [DecidableEq α] {enc:α->Value}
theorem uv{w:World}{kt:TypeId}{d:TypeDesc}{k:Value}(hd:P.underlying kt=some d)(hk:MapKept.IsKey d k)(e:Bool):(Instr.checkKey e 10000 kt k).run P w= .ok () w:=MapKept.run_checkKey hd hk e 9999
omit [DecidableEq α] in
theorem wh{t:TypeId}{m:aD}:bF P (.makeMap t) [] m λr m'=>∃b,m b=none/\r=[.v (.map (some b))]/\m'=m.set b (nk enc [] 0):=by
 intro _ ty W hW;refine⟨[.v (.map (some W.heap.size))],_,_,?_,(by intro y hy;simp at hy;subst hy;rfl),⟨W.heap.size,hW.none (aW _),rfl,rfl⟩,(cr.refl hW).alloc (nk enc [] 0)⟩;simp[dF.run,dF.dE,dF.Fz,gm,CV.val,Instr.makeMap,nk,newObj,Sem.run,Result.andThen]
theorem GG{d:TypeDesc}{kt:TypeId}(hk:Mo enc d)(hd:P.underlying kt=some d)(w:World)(k:α)(es:List (lq α)):
  (Instr.findKey kt (enc k) (es.map (lq.entry enc))).run P w= .ok (match es.findIdx? λe=>decide (k=e.k)with
   |some j=>some (j,((es[j]?).map λe=>e.v.val).getD undef)
   |none=>none) w:=by
 have:=Ic hk k es 0;simp only[cD]at this;exact MapKept.run_findKey hd this
theorem Qv{mt kt et:TypeId}{d:TypeDesc}(hk:Mo enc d)(hm:P.underlying mt=some (.map kt et))(hd:P.underlying kt=some d){z:CV}(hz:(P.info? et).bind (·.zero)=some z.val)(atz:z.ok){m:aD}{b clock:Nat}{es:List (lq α)}{k:α}
  (hb:m b=some (nk enc es clock)) (hes:∀e∈es,e.v.ok) (ok:Bool):
  bF P (.lookup mt ok) [.v (.map (some b)),.v (enc k)] m λr m'=>r=(if ok then[(mD k es).getD z,.v (.bool (mD k es).isSome)]else[(mD k es).getD z])/\m=m':=by
 intro _ ty W hW;have yD:=hW _ _ hb
 have wn:(zeroValue et).run P W= .ok z.val W:=by
  cases hi:P.info? et with
  |none=>simp[hi]at hz
  |some i=>simp[hi]at hz;simp[zeroValue,typeInfo,hi,hz]
 have hf:=GG hk hd W k es;have hx:=Ib k es;have ZI:∀e,(Instr.checkKey e 10000 kt (enc k)).run P W= .ok () W:=λe=>uv hd (hk.isK k) e
 have apf:((mD k es).getD z).ok:=by
  grind
 refine⟨_,m,W,?_,?_,⟨rfl,rfl⟩,cr.refl hW⟩
 ·cases hi:es.findIdx? λe=>decide (k=e.k)with
  |none=>
   rw[hi]at hx hf;simp only at hx hf;rw[hx]
   cases ok<;>simp[dF.run,dF.dE,dF.Fz,CV.val,gm,Instr.lookup,run_underlying hm,MapKept.run_getObj_map yD,ZI,hf,wn]<;>rfl
  |some j=>
   rw[hi]at hx hf;obtain⟨e,h1,h2,_⟩:=hx;simp only[h1,dZ,jA]at hf;rw[h2]
   cases ok<;>simp[dF.run,dF.dE,dF.Fz,CV.val,gm,Instr.lookup,run_underlying hm,MapKept.run_getObj_map yD,ZI,hf]<;>rfl
 ·intro y hy
  cases ok
  ·grind
  ·simp at hy
   rcases hy with rfl|rfl
   ·exact apf
   ·rfl
theorem cr.put{m:aD}{W:World}(hW:mg m W){b:Nat}{o:Obj}(hb:m b=some o)(o':Obj):cr m W (m.set b o') {W with heap:=W.heap.setIfInBounds b o'}:=by
 obtain⟨h1,h2⟩:=MapKept.heap_set (o':=o') (hW _ _ hb);exact cr.setObj hW hb (by simp) h1 h2
theorem yr{mt kt et:TypeId}{d:TypeDesc}(hk:Mo enc d)(hm:P.underlying mt=some (.map kt et))(hd:P.underlying kt=some d){m:aD}{b clock:Nat}{es:List (lq α)}{k:α}{v:CV}(hb:m b=some (nk enc es clock)):
  bF P (.mapUpdate mt) [.v (.map (some b)),.v (enc k),v] m λr m'=>m'=m.set b (nk enc (uu k v clock es) (kS k clock es)):=by
 intro _ ty W hW;have yD:=hW _ _ hb;have hf:=GG hk hd W k es;have hx:=Ib k es;have jG:=Gx enc k v clock es;have ZI:(Instr.checkKey false 10000 kt (enc k)).run P W= .ok () W:=uv hd (hk.isK k) false;have ha:List.map CV.val [.v (.map (some b)),.v (enc k),v]=[.map (some b),enc k,v.val]:=rfl;rw[ha]
 cases hi:es.findIdx? λe=>decide (k=e.k)with
 |none=>
  rw[hi]at hx hf jG;simp only at hx hf jG;refine⟨[],_,_,?_,(by intro y hy;cases hy),rfl,cr.put hW hb _⟩;have hc:kS k clock es=clock+1:=by simp[kS,hx]
  have he:(es.map (lq.entry enc)).toArray.push ⟨enc k,v.val,clock⟩=((uu k v clock es).map (lq.entry enc)).toArray:=by
   rw[<-jG];simp
  have hr:(Instr.mapUpdate mt (.map (some b)) (enc k) v.val).run P W= .ok () {W with heap:=W.heap.setIfInBounds b (nk enc (uu k v clock es) (kS k clock es))}:=by
   simp only[Instr.mapUpdate,Sem.run_bind,run_underlying hm,MapKept.run_getObj_map yD,ZI,hf,Result.andThen_ok,he,hc,MapKept.run_setObj_map _ yD,nk]
  simp only[dF.run,Sem.run_bind,hr,Result.andThen_ok,Sem.run_pure];rfl
 |some j=>
  rw[hi]at hx hf jG;obtain⟨e,h1,h2,h3⟩:=hx;simp only[h1,dZ,jA]at hf jG;refine⟨[],_,_,?_,(by intro y hy;cases hy),rfl,cr.put hW hb _⟩;have hc:kS k clock es=clock:=by simp[kS,h2]
  have alp:((((es.map (lq.entry enc)).toArray[j]?).map (·.key)).getD (enc k))=enc k:=by
   simp[h1,lq.entry,h3]
  have hsb:=hk.bits k
  have he:(es.map (lq.entry enc)).toArray.modify j (λe=>{e with key:=enc k,val:=v.val})=((uu k v clock es).map (lq.entry enc)).toArray:=by
   rw[<-jG];simp
  have hr:(Instr.mapUpdate mt (.map (some b)) (enc k) v.val).run P W= .ok () {W with heap:=W.heap.setIfInBounds b (nk enc (uu k v clock es) (kS k clock es))}:=by
   simp only[Instr.mapUpdate,Sem.run_bind,run_underlying hm,MapKept.run_getObj_map yD,ZI,hf,Result.andThen_ok,alp,Instr.keyThatStays,hsb,oN,Sem.run_pure,he,hc,MapKept.run_setObj_map _ yD,nk]
  simp only[dF.run,Sem.run_bind,hr,Result.andThen_ok,Sem.run_pure];rfl
theorem Qs{mt kt et:TypeId}{d:TypeDesc}{xB:List TypeId}(hk:Mo enc d)(hm:P.underlying mt=some (.map kt et))(hd:P.underlying kt=some d){m:aD}{b clock:Nat}{es:List (lq α)}{k:α}(hb:m b=some (nk enc es clock)):
  bF P (.builtin .delete (mt::xB)) [.v (.map (some b)),.v (enc k)] m λr m'=>r=[]/\m'=m.set b (nk enc (Fi k es) clock):=by
 intro _ ty W hW;have yD:=hW _ _ hb;have hf:=GG hk hd W k es;have jG:=Ma enc k es;have ZI:∀e,(Instr.checkKey e 10000 kt (enc k)).run P W= .ok () W:=λe=>uv hd (hk.isK k) e;refine⟨[],_,_,?_,(by intro y hy;cases hy),⟨rfl,rfl⟩,cr.put hW hb _⟩
 cases hi:es.findIdx? λe=>decide (k=e.k)with
 |none=>
  rw[hi]at hf jG;simp only at hf jG;simp[dF.run,dF.dE,dF.Fz,CV.val,gm,Builtin.delete_,run_underlying hm,MapKept.run_getObj_map yD,ZI,hf,nk,MapKept.run_setObj_map _ yD,<-jG]
 |some j=>
  rw[hi]at hf jG;simp only at hf jG
  have he:(es.map (lq.entry enc)).toArray.eraseIdxIfInBounds j=((Fi k es).map (lq.entry enc)).toArray:=by
   rw[<-jG];simp
  simp[dF.run,dF.dE,dF.Fz,CV.val,gm,Builtin.delete_,run_underlying hm,MapKept.run_getObj_map yD,ZI,hf,nk,MapKept.run_setObj_map _ yD,<-jG]
end
end Go.E
namespace Go.E.Y
structure anT(P:Program){α:Type}[DecidableEq α](enc:α->Value)(kt:TypeId)(d:TypeDesc):Prop where
 ayD:∀a b,Instr.sameNow d (enc a) (enc b)=none
 eq:∀w a b,(Op.equal kt (enc a) (enc b)).run P w= .ok (decide (a=b)) w
 Jd:∀w a e,(Instr.checkKey e 10000 kt (enc a)).run P w= .ok () w
 bits:∀a,Instr.sameBits 10000 (enc a) (enc a)=true
section
variable {P:Program}{α:Type} [DecidableEq α] {enc:α->Value}{kt:TypeId}{d:TypeDesc}
theorem ahY(hk:anT P enc kt d)(w:World)(k:α):∀(es:List (lq α)) (i:Nat),
  (Instr.findAsking kt (enc k) (es.map (lq.entry enc)) i).run P w= .ok (match es.findIdx? λe=>decide (k=e.k)with
   |some j=>some (i+j,((es[j]?).map λe=>e.v.val).getD undef)
   |none=>none) w
 |[],i=>by simp[Instr.findAsking]
 |e::es,i=>by
  simp only[aZ,Instr.findAsking,Sem.run_bind,lq.entry,hk.eq,Result.andThen_ok,BA];by_cases h:k=e.k
  ·simp[h]
  ·have ih:=ahY hk w k es (i+1)
   simp only[h,aaJ,gS,cU];rw[ih]
   cases es.findIdx? λe=>decide (k=e.k)with
   |none=>rfl
   |some j=>simp only[Fv,dZ];congr 3;omega
theorem N1(hk:anT P enc kt d)(hd:P.underlying kt=some d)(w:World)(k:α)(es:List (lq α)):
  (Instr.findKey kt (enc k) (es.map (lq.entry enc))).run P w= .ok (match es.findIdx? λe=>decide (k=e.k)with
   |some j=>some (j,((es[j]?).map λe=>e.v.val).getD undef)
   |none=>none) w:=by
 cases es with
 |nil=>simp[Instr.findKey,run_underlying hd,Instr.findNow]
 |cons e es=>
  have hn:Instr.findNow d (enc k) ((e::es).map (lq.entry enc)) 0=none:=by
   simp only[aZ,Instr.findNow,lq.entry,hk.ayD]
  have:=ahY hk w k (e::es) 0;simp only[cD]at this;simp only[Instr.findKey,Sem.run_bind,run_underlying hd,Result.andThen_ok,hn];exact this
theorem ak6{mt et:TypeId}(hk:anT P enc kt d)(hm:P.underlying mt=some (.map kt et))(hd:P.underlying kt=some d){z:CV}(hz:(P.info? et).bind (·.zero)=some z.val)(atz:z.ok){m:aD}{b clock:Nat}{es:List (lq α)}{k:α}{kc:CV}(hkc:kc.val=enc k)
  (hb:m b=some (nk enc es clock)) (hes:∀e∈es,e.v.ok):
  bF P (.lookup mt false) [.v (.map (some b)),kc] m λr m'=>r=[(mD k es).getD z]/\m=m':=by
 intro _ ty W hW;have yD:=hW _ _ hb
 have wn:(zeroValue et).run P W= .ok z.val W:=by
  cases hi:P.info? et with
  |none=>simp[hi]at hz
  |some i=>simp[hi]at hz;simp[zeroValue,typeInfo,hi,hz]
 have hf:=N1 hk hd W k es;have hx:=Ib k es;have ZI:∀e,(Instr.checkKey e 10000 kt (enc k)).run P W= .ok () W:=λe=>hk.Jd W k e
 have apf:((mD k es).getD z).ok:=by
  unfold mD
  cases hq:es.find? (λe=>decide (k=e.k))with
  |none=>exact atz
  |some e=>exact hes e (jn hq)
 have ha:List.map CV.val [.v (.map (some b)),kc]=[.map (some b),enc k]:=by rw[aZ,aZ,hkc];rfl
 rw[ha];refine⟨_,m,W,?_,?_,⟨rfl,rfl⟩,cr.refl hW⟩
 ·cases hi:es.findIdx? λe=>decide (k=e.k)with
  |none=>
   rw[hi]at hx hf;simp only at hx hf;rw[hx];simp[dF.run,dF.dE,dF.Fz,gm,Instr.lookup,run_underlying hm,MapKept.run_getObj_map yD,ZI,hf,wn]<;>rfl
  |some j=>
   rw[hi]at hx hf;obtain⟨e,h1,h2,_⟩:=hx;simp only[h1,dZ,jA]at hf;rw[h2];simp[dF.run,dF.dE,dF.Fz,gm,Instr.lookup,run_underlying hm,MapKept.run_getObj_map yD,ZI,hf]<;>rfl
 ·intro y hy
  simp at hy;subst hy;exact apf
theorem akY{mt et:TypeId}(hk:anT P enc kt d)(hm:P.underlying mt=some (.map kt et))(hd:P.underlying kt=some d){m:aD}{b clock:Nat}{es:List (lq α)}{k:α}{kc v:CV}(hkc:kc.val=enc k)(hb:m b=some (nk enc es clock)):
  bF P (.mapUpdate mt) [.v (.map (some b)),kc,v] m λr m'=>m'=m.set b (nk enc (uu k v clock es) (kS k clock es)):=by
 intro _ ty W hW;have yD:=hW _ _ hb;have hf:=N1 hk hd W k es;have hx:=Ib k es;have jG:=Gx enc k v clock es;have ZI:(Instr.checkKey false 10000 kt (enc k)).run P W= .ok () W:=hk.Jd W k false;have ha:List.map CV.val [.v (.map (some b)),kc,v]=[.map (some b),enc k,v.val]:=by rw[aZ,aZ,hkc];rfl
 rw[ha]
 cases hi:es.findIdx? λe=>decide (k=e.k)with
 |none=>
  rw[hi]at hx hf jG;simp only at hx hf jG;refine⟨[],_,_,?_,(by intro y hy;cases hy),rfl,cr.put hW hb _⟩;have hc:kS k clock es=clock+1:=by simp[kS,hx]
  have he:(es.map (lq.entry enc)).toArray.push ⟨enc k,v.val,clock⟩=((uu k v clock es).map (lq.entry enc)).toArray:=by
   rw[<-jG];simp
  have hr:(Instr.mapUpdate mt (.map (some b)) (enc k) v.val).run P W= .ok () {W with heap:=W.heap.setIfInBounds b (nk enc (uu k v clock es) (kS k clock es))}:=by
   simp only[Instr.mapUpdate,Sem.run_bind,run_underlying hm,MapKept.run_getObj_map yD,ZI,hf,Result.andThen_ok,he,hc,MapKept.run_setObj_map _ yD,nk]
  simp only[dF.run,Sem.run_bind,hr,Result.andThen_ok,Sem.run_pure];rfl
 |some j=>
  rw[hi]at hx hf jG;obtain⟨e,h1,h2,h3⟩:=hx;simp only[h1,dZ,jA]at hf jG;refine⟨[],_,_,?_,(by intro y hy;cases hy),rfl,cr.put hW hb _⟩;have hc:kS k clock es=clock:=by simp[kS,h2]
  have alp:((((es.map (lq.entry enc)).toArray[j]?).map (·.key)).getD (enc k))=enc k:=by
   simp[h1,lq.entry,h3]
  have hsb:=hk.bits k
  have he:(es.map (lq.entry enc)).toArray.modify j (λe=>{e with key:=enc k,val:=v.val})=((uu k v clock es).map (lq.entry enc)).toArray:=by
   rw[<-jG];simp
  have hr:(Instr.mapUpdate mt (.map (some b)) (enc k) v.val).run P W= .ok () {W with heap:=W.heap.setIfInBounds b (nk enc (uu k v clock es) (kS k clock es))}:=by
   simp only[Instr.mapUpdate,Sem.run_bind,run_underlying hm,MapKept.run_getObj_map yD,ZI,hf,Result.andThen_ok,alp,Instr.keyThatStays,hsb,oN,Sem.run_pure,he,hc,MapKept.run_setObj_map _ yD,nk]
  simp only[dF.run,Sem.run_bind,hr,Result.andThen_ok,Sem.run_pure];rfl
end
end Go.E.Y
namespace Go.E
section
variable {P:Program}{α:Type}{enc:α->Value}
def jx(b clock:Nat)(fK:List Nat):Obj:=.mapIter (some b) clock fK.toArray clock
def iW(fK:List Nat)(es:List (lq α)):List (lq α):=es.filter λe=>!fK.contains e.b
theorem x3{mt kt et:TypeId}(hm:P.underlying mt=some (.map kt et)){m:aD}{b clock:Nat}{es:List (lq α)}(hb:m b=some (nk enc es clock)):
  bF P (.range mt) [.v (.map (some b))] m λr m'=>∃it,m it=none/\r=[.v (.pointer (some ⟨it,0,none⟩))]/\m'=m.set it (jx b clock []):=by
 intro _ ty W hW;refine⟨[.v (.pointer (some ⟨W.heap.size,0,none⟩))],_,_,?_,(by intro y hy;simp at hy;subst hy;rfl),⟨W.heap.size,hW.none (aW _),rfl,rfl⟩,(cr.refl hW).alloc (jx b clock [])⟩;simp[dF.run,dF.dE,dF.Fz,gm,CV.val,Instr.range,run_underlying hm,MapKept.run_getObj_map (hW _ _ hb),newObj,Sem.run,Result.andThen,jx]
theorem ahZ{m:aD}{it b clock:Nat}{fK:List Nat}{es:List (lq α)}(ZC:m it=some (jx b clock fK))(hb:m b=some (nk enc es clock))(adT:∀e∈es,e.b<clock)(ez:∀e∈es,e.v.ok){kc:α->CV}(hkc:∀a,(kc a).val=enc a/\(kc a).ok):
  bF P (.next false) [.v (.pointer (some ⟨it,0,none⟩))] m λr m'=>(iW fK es=[]/\r=[.v (.bool false)]/\m'=m)\/∃e,e∈iW fK es/\r=[.v (.bool true),kc e.k,e.v]/\m'=m.set it (jx b clock (fK++[e.b])):=by
 intro _ ty W hW;have hWi:=hW _ _ ZC;have yD:=hW _ _ hb
 have e1:((es.map (lq.entry enc)).toArray.filter λe=>!fK.toArray.contains e.born)=((iW fK es).map (lq.entry enc)).toArray:=by
  simp only[List.filter_toArray,List.filter_map,iW]
  congr 2
  exact List.filter_congr λe _=>by simp[lq.entry];exact fF.2 Iff.rfl
 have e2:(((iW fK es).map (lq.entry enc)).toArray.filter λe=>decide (e.born<clock))=((iW fK es).map (lq.entry enc)).toArray:=by
  simp only[List.filter_toArray]
  congr 1
  rw[bY];intro x hx;obtain⟨e,he,rfl⟩:=aV.1 hx;exact bB (adT e (cH.1 he).1)
 have e3:(((iW fK es).map (lq.entry enc)).toArray.filter λe=>decide (e.born>=clock))= #[]:=by
  simp only[List.filter_toArray]
  have:((iW fK es).map (lq.entry enc)).filter (λe=>decide (e.born>=clock))=[]:=by
   rw[gP];intro x hx;obtain⟨e,he,rfl⟩:=aV.1 hx;have:=adT e (cH.1 he).1;intro h;have h:=ah h;simp only[lq.entry]at h;omega
  rw[this]
 have e4:(!fK.toArray.isEmpty&& !(es.map (lq.entry enc)).toArray.isEmpty&&(es.map (lq.entry enc)).toArray.all λe=>decide (e.born>=clock))=false:=by
  cases es with
  |nil=>simp
  |cons e es=>
   have h0:=adT e (by simp)
   have:((e::es).map (lq.entry enc)).toArray.all (λe=>decide (e.born>=clock))=false:=by
    simp only[List.all_toArray,aZ,List.all_cons,lq.entry];rw[aY (show ¬e.b>=clock by omega)];rfl
   rw[this,Bool.and_false]
 have e5:(Sem.run P (getObj it) W)= .ok (jx b clock fK) W:=by simp[getObj,Sem.run,hWi,jx]
 cases hl:iW fK es with
 |nil=>
  rw[hl]at e1 e2 e3;refine⟨[.v (.bool false)],m,W,?_,(by intro y hy;simp at hy;subst hy;rfl),.inl ⟨rfl,rfl,rfl⟩,cr.refl hW⟩;simp only[dF.run,aZ,lK,CV.val,Instr.next,Sem.run_bind,e5,Result.andThen_ok,jx,MapKept.run_getObj_map yD,e4,cU,gS,e1,lK];simp[Question.forced,dF.dE,dF.Fz,CV.val]
 |cons e0 es'=>
  have JL:0<(iW fK es).length:=by rw[hl];simp
  have key:∀(i:Nat) (W1:World) (hi:i<(iW fK es).length),W1.heap=W.heap->cr m W m W1->
    ∃r m' W',(do
     setObj it (.mapIter (some b) clock (fK.toArray.push ((iW fK es)[i]).b) clock)
     pure (.tuple #[.bool true,enc ((iW fK es)[i]).k,((iW fK es)[i]).v.val]:Value):Sem Value).run P W1= .ok ((dF.next false).dE r) W'/\(∀x∈r,x.ok)/\
     ((iW fK es=[]/\r=[.v (.bool false)]/\m'=m)\/∃e,e∈iW fK es/\r=[.v (.bool true),kc e.k,e.v]/\m'=m.set it (jx b clock (fK++[e.b])))/\cr m W m' W':=by
   intro i W1 hi ap1 qN;have hW1:mg m W1:=qN.jF;have NT:=aO hi;generalize (iW fK es)[i]=e at NT;refine⟨[.v (.bool true),kc e.k,e.v],_,_,?_,?_,.inr ⟨e,NT,rfl,rfl⟩,qN.trans (cr.put hW1 ZC _)⟩
   ·simp[setObj,Sem.run,ap1,hWi,jx,Result.andThen,dF.dE,dF.Fz,CV.val]
    exact(hkc _).1.symm
   ·intro y hy
    simp only[aU,fG,rH]at hy;rcases hy with rfl|rfl|rfl
    ·rfl
    ·exact(hkc _).2
    ·exact ez _ (cH.1 NT).1
  rw[<-hl];have ga:((iW fK es).map (lq.entry enc)).toArray.isEmpty=false:=by rw[hl];simp
  have Ad:(((iW fK es).map (lq.entry enc)).toArray.map some).size=(iW fK es).length:=by simp
  have hgo:(Instr.next (.pointer (some ⟨it,0,none⟩)) false ty).run P W=((choose (.mapNext (iW fK es).length)).run P W).andThen λi W1=>(match (((iW fK es).map (lq.entry enc)).toArray.map some)[i]? with
    |some (some e)=>(do setObj it (.mapIter (some b) clock (fK.toArray.push e.born) clock);pure (.tuple #[.bool true,e.key,e.val]):Sem Value)
    |some none=>pure (.tuple #[.bool false])
    |none=>stuck "Next: no such candidate").run P W1:=by
   simp only[Instr.next,Sem.run_bind,e5,Result.andThen_ok,jx,MapKept.run_getObj_map yD,e4,cU,gS,e1,e2,e3,ga,Array.append_empty,Array.empty_append,Ad];rfl
  have aju:∀i (hi:i<(iW fK es).length),(((iW fK es).map (lq.entry enc)).toArray.map some)[i]?=some (some (lq.entry enc (iW fK es)[i])):=λi hi=>by
   simp[hi]
  have lm:∀a,(dF.run (.next false) ty [a])=Instr.next a false ty:=λa=>rfl;simp only[aZ,lK,CV.val,lm,hgo,run_choose];by_cases hf:(Question.mapNext (iW fK es).length).forced=true
  ·rw[aC hf]
   simp only[Result.andThen_ok,aju 0 JL];exact key 0 W JL rfl (cr.refl hW)
  ·rw[if_neg hf]
   have bH:(Question.mapNext (iW fK es).length).cut (W.tape W.drawn (.mapNext (iW fK es).length))<(iW fK es).length:=fo _ JL;simp only[Result.andThen_ok,aju _ bH];exact key _ _ bH rfl (cr.refl hW).drew
theorem A8{m:aD}{it b clock:Nat}{fK:List Nat}{es:List (lq α)}(ZC:m it=some (jx b clock fK))(hb:m b=some (nk enc es clock))(adT:∀e∈es,e.b<clock)(ez:∀e∈es,e.v.ok)(ox:∀a,(enc a).oneCell'=true):
  bF P (.next false) [.v (.pointer (some ⟨it,0,none⟩))] m λr m'=>(iW fK es=[]/\r=[.v (.bool false)]/\m'=m)\/∃e,e∈iW fK es/\r=[.v (.bool true),.v (enc e.k),e.v]/\m'=m.set it (jx b clock (fK++[e.b])):=ahZ ZC hb adT ez (kc:=λa=>.v (enc a)) λa=>⟨rfl,ox a⟩
theorem agM{m:aD}{it b clock:Nat}{fK:List Nat}{es:List (lq α)}{e:lq α}(ZC:m it=some (jx b clock (fK++[e.b])))(hb:m b=some (nk enc es clock))(he:e∈es)(hd:es.Pairwise λx y=>x.b≠y.b)(ez:e.v.ok){kc:CV}(hkc:kc.val=enc e.k/\kc.ok):
  bF P .entry [.v (.pointer (some ⟨it,0,none⟩))] m λr m'=>r=[kc,e.v]/\m=m':=by
 intro _ ty W hW;have hWi:=hW _ _ ZC;have yD:=hW _ _ hb;have e5:(Sem.run P (getObj it) W)= .ok (jx b clock (fK++[e.b])) W:=by simp[getObj,Sem.run,hWi,jx]
 have ap9:(es.map (lq.entry enc)).toArray.find? (λx=>x.born==e.b)=some (lq.entry enc e):=by
  rw[List.find?_toArray,List.find?_map]
  have:es.find? ((λx:MapEntry=>x.born==e.b)∘lq.entry enc)=some e:=by
   clear hb yD
   induction es with
   |nil=>cases he
   |cons x es ih=>
    obtain⟨h1,h2⟩:=bh.1 hd;rw[iZ];rcases aU.1 he with rfl|he
    ·simp[lq.entry]
    ·have ga:=h1 e he
     have:((λx:MapEntry=>x.born==e.b)∘lq.entry enc) x=false:=by simp[lq.entry,ga]
     rw[this];exact ih he h2
  rw[this];rfl
 refine⟨[kc,e.v],m,W,?_,?_,⟨rfl,rfl⟩,cr.refl hW⟩
 ·simp only[dF.run,aZ,lK,CV.val,Instr.entry,Sem.run_bind,e5,Result.andThen_ok,jx]
  simp[ap9,dF.dE,dF.Fz,gm,CV.val,lq.entry,MapKept.run_getObj_map yD];exact hkc.1.symm
 ·intro y hy
  simp at hy;rcases hy with rfl|rfl
  ·exact hkc.2
  ·exact ez
theorem yL{m:aD}{it b clock:Nat}{fK:List Nat}{es:List (lq α)}{e:lq α}(ZC:m it=some (jx b clock (fK++[e.b])))(hb:m b=some (nk enc es clock))(he:e∈es)(hd:es.Pairwise λx y=>x.b≠y.b)(ez:e.v.ok)(ox:(enc e.k).oneCell'=true):
  bF P .entry [.v (.pointer (some ⟨it,0,none⟩))] m λr m'=>r=[.v (enc e.k),e.v]/\m=m':=agM ZC hb he hd ez (kc:=.v (enc e.k)) ⟨rfl,ox⟩
end
section
variable {α:Type}{bn:α->Nat}
theorem akf:∀{fK F:List α},(fK.Pairwise λa b=>bn a≠bn b)->(∀f∈fK,f∈F)->∃R,(fK++R).Perm F
 |[],F,_,_=>⟨F,List.Perm.refl _⟩
 |x::vs,F,hv,hF=>by
  obtain⟨h1,h2⟩:=bh.1 hv;obtain⟨A,B,rfl⟩:=List.append_of_mem (hF x (by simp))
  obtain⟨R,hR⟩:=akf (fK:=vs) (F:=A++B) h2 λf hf=>by
   have:=hF f (by simp[hf]);rcases aR.1 this with h|h
   ·exact lJ _ h
   ·rcases aU.1 h with rfl|h
    ·exact absurd rfl (h1 f hf)
    ·exact jp _ h
  refine⟨R,?_⟩;exact(List.Perm.cons x hR).trans ks.symm
theorem aw1{fK F:List α}(hv:fK.Pairwise λa b=>bn a≠bn b)(hF:∀f∈fK,f∈F)(hb:F.Pairwise λa b=>bn a≠bn b)(cM:∀f∈F,∃g∈fK,bn g=bn f):fK.Perm F:=by
 obtain⟨R,hR⟩:=akf hv hF
 cases R with
 |nil=>simpa using hR
 |cons r R=>
  exfalso;have hp:=(List.Perm.pairwise_iff (λh=>Ne.symm h) hR).2 hb;have hr:r∈F:=hR.subset (by simp);obtain⟨g,hg,e⟩:=cM r hr;exact(cm.1 hp).2.2 g hg r (by simp) e
theorem atj{fK F:List α}(hv:fK.Pairwise λa b=>bn a≠bn b)(hF:∀f∈fK,f∈F):fK.length<=F.length:=by
 obtain⟨R,hR⟩:=akf hv hF;rw[<-hR.length_eq,ax];omega
theorem aA6{w:α->Nat}{fK F:List α}(hv:fK.Pairwise λa b=>bn a≠bn b)(hF:∀f∈fK,f∈F):(fK.map w).sum<=(F.map w).sum:=by
 obtain⟨R,hR⟩:=akf hv hF
 grind
structure SX(bn:α->Nat)(F fK:List α):Prop where
 born:fK.Pairwise λa b=>bn a≠bn b
 sub:∀f∈fK,f∈F
theorem SX.start(F:List α):SX bn F []:=⟨by simp,by simp⟩
theorem SX.step{F fK:List α}{f:α}(h:SX bn F fK)(hf:f∈F)(hn:∀g∈fK,bn g≠bn f):SX bn F (fK++[f]):=by
 refine⟨cm.2 ⟨h.born,by simp,λa ha b hb=>?_⟩,λg hg=>?_⟩
 ·grind
 ·rcases aR.1 hg with hg|hg
  ·exact h.sub g hg
  grind
variable {κ:Type}{kg:α->lq κ}
theorem acW{F fK:List α}{e:lq κ}(he:e∈iW (fK.map λx=>(kg x).b) (F.map kg)):∃f∈F,e=kg f/\∀g∈fK,(kg g).b≠(kg f).b:=by
 obtain⟨h1,h2⟩:=cH.1 he
 grind
theorem Zj{F fK:List α}(h:SX (λx=>(kg x).b) F fK)(hb:F.Pairwise λa b=>(kg a).b≠(kg b).b)(he:iW (fK.map λx=>(kg x).b) (F.map kg)=[]):fK.Perm F:=by
 refine aw1 h.born h.sub hb λf hf=>?_;have:=gP.1 he (kg f) (aV.2 ⟨f,hf,rfl⟩)
 grind
end
end Go.E
namespace Go.E.Y
open Go.Proofs
theorem hLb:tt.get 118=some ⟨.slice 5,1,24,[.one (.slice none 0 0)],false⟩:=by rfl
variable{m:aD}{v:Value}{l:List Value}
theorem agt{e:TypeId}(h:mf m e 1 v l):fg v=l.length:=by
 rcases h with⟨rfl,rfl⟩|⟨b,o,c,n,arr,rfl,_,h2,_⟩
 ·rfl
 ·simp[fg,h2]
theorem acT(h:gq m 1 v l):fg v=l.length:=by
 rcases h with⟨c,rfl,rfl⟩|⟨b,o,c,n,arr,t,fr,rfl,_,h2,_⟩
 ·rfl
 ·simp[fg,h2]
theorem Hz(h:gq m 1 v l):v.oneCell'=true:=by
 rcases h with⟨c,rfl,rfl⟩|⟨b,o,c,n,arr,t,fr,rfl,_⟩<;>rfl
variable{p:aD}{ls:List aD}{i:Nat}{x:Value}
theorem aau{news:List Value}(hs:aq m ls)(hi:ls[i]?=some p) (hv:mf p 118 1 v l) (hg:gq m 1 x news) (hb:l.length+news.length<=10000000):
  bF tP (.builtin .append [127,127]) [.v v,.v x] m λr m'=>∃v' p',r=[.v v']/\aq m' (ls.set i p')/\mf p' 118 1 v' (l++news):=by
 have e1:=agt hv;have e2:=acT hg;refine(kC (news:=news) eR ZN rfl hLb ZN (by rfl) hs hi hv (.inl ⟨_,rfl,.inl hg⟩) (by rw[e1,e2];simp only;omega) (by rw[e1,e2];omega)).mono λr m' ⟨v',p',q1,q2,q3⟩=>⟨v',p',q1,q2,q3.ux⟩
theorem Vj{n:Nat}(hn:n<=1000000):
  bi tP 155 [.v (.slice none 0 0),.v (.int .i64 n)] m λr m'=>∃v p,r=[.v v]/\aq m' [p,m]/\mf p 118 1 v []:=by
 refine ap Tryz.func155 ?_;refine⟨λh=>absurd h (by(simp;try omega)),λ_=>?_⟩;refine .mk _ (sR eR ZN rfl) ?_;rintro _ _⟨rfl,rfl⟩;conv=>whnf
 have e:IntKind.i64.wrap ((n:Int)-IntKind.i64.wrap (((0:Nat):Int)-((0:Nat):Int)))=(n:Int):=by rw[wi (n:=((0:Nat):Int)-((0:Nat):Int)) (by omega) (by omega),wi];omega
 rw[e];apply bI<;>intro h
 ·have h':=ah h
  refine .mk _ (sR eR ZN rfl) ?_;rintro _ _⟨rfl,rfl⟩
  repeat refine xS ?_
  refine .mk _ (aaK (n:=0) (c:=0) (a:=none) (l:=[]) eR ZN rfl hLb hI rfl (by decide) rfl (.inl ⟨0,rfl,rfl⟩) (by omega) (by omega) (by simp only;omega) (by omega)) ?_;rintro _ _⟨b,C,hb,hC,rfl,rfl⟩
  repeat refine xS ?_
  intro o' h1 h2;obtain rfl:o'=0:=by have:=h1 (by omega);simpa using this
  refine⟨_,blk1 b _,rfl,(aq.one m).new hb _,.inr ⟨b,0,C,0,_,rfl,aG ..,rfl,lF _,?_,by intro j u hu;simp at hu,by simp⟩⟩;simp only[oQ,kr,dM,cW,LB.cz,eB.cells,ax,ae];omega
 ·have h':=aj h
  exact⟨_,iI,rfl,(aq.one m).cA,.inl ⟨rfl,rfl⟩⟩
structure LsL(m:aD)(v:Value)(ps:List (Value×List Value)):Prop where
 eF:gq m 1 v (ps.map (·.1))
 la:∀p∈ps,gq m 1 p.1 p.2
variable{ps:List (Value×List Value)}
theorem LsL.shape(h:LsL m v ps):∃a c,v= .slice a ps.length c:=by
 rcases h.eF with⟨c,rfl,e⟩|⟨b,o,c,n,arr,t,fr,rfl,_,e,_⟩
 ·simp_all
 grind
theorem LsL.real(h:LsL m v ps)(hi:i<ps.length):∃b o c,v= .slice (some ⟨b,o,none⟩) ps.length c/\∀(i:Nat) (hi:i<ps.length),gR m b (o+i)=some ps[i].1:=by
 rcases h.eF with⟨c,rfl,e⟩|⟨b,o,c,n,arr,t,fr,rfl,g1,e,_,g2,_⟩
 ·simp_all
 ·have:ps.length=n:=by simpa using e
  exact⟨b,o,c,by rw[this],λj hj=>aF g1 (g2 j _ (by simp[hj]))⟩
def tz(ps:List (Value×List Value)):List Value:=(ps.map (·.2)).flatten
theorem zK(h:i<ps.length):tz (ps.take i)++ps[i].2=tz (ps.take (i+1)):=by
 rw[au h,tz,tz,bD,gk];simp
theorem XB(i:Nat):(tz (ps.take i)).length<=(tz ps).length:=by
 have e:tz ps=tz (ps.take i)++tz (ps.drop i):=by
  rw[tz,tz,tz,<-gk,<-bD,dL]
 grind
theorem Hy(h:gq m 1 v l):∃a c,v= .slice a l.length c:=by
 rcases h with⟨c,rfl,rfl⟩|⟨b,o,c,n,arr,t,fr,rfl,_,h2,_⟩
 ·simp_all
 simp_all
theorem Ow(h:LsL m v ps)(hb:(tz ps).length<=1000000)(hn:ps.length<=1000000):
  bi tP 89 [.v v] m λr m'=>∃v' p,r=[.v v']/\aq m' [p,m]/\mf p 118 1 v' (tz ps):=by
 obtain⟨a,c,rfl⟩:=h.shape;refine ap Tryz.func89 ?_;refine .mk (ι:=Nat) (λi=>ps.length-i) (λi mm=>i<=ps.length/\mm=m) (λi=>[(0,.c (.v (.slice a ps.length c))),(3,.c (i64 (tz (ps.take i)).length)),(9,.c (.v (.slice a ps.length c))),(10,.c (i64 ps.length)),(11,.c (i64 i))]) (λ_=>[]) 0 ⟨by omega,rfl⟩ ?_ ?_
 ·exact Cr
 rintro i mm⟨hi,he⟩;subst mm;apply bI<;>intro h1
 ·have jc:=ah h1
  have bH:i<ps.length:=by omega
  obtain⟨b,o,c',e,nT⟩:=h.real bH;cases e;have AG:=h.la ps[i] (by simp);obtain⟨ai,ci,hvi⟩:=Hy AG;have hc:=nT i bH;rw[hvi]at hc;have hle:=XB (ps:=ps) (i+1);rw[<-zK bH,ax]at hle
  repeat refine xS ?_
  refine⟨_,hc,rfl,?_⟩;conv=>whnf
  have e3:IntKind.i64.wrap (((tz (ps.take i)).length:Int)+(ps[i].2.length:Int))=((tz (ps.take (i+1))).length:Int):=by
   rw[<-zK bH,ax,wi];omega
  rw[e3];refine⟨λh=>absurd h (by(simp;try omega)),λ_=>?_⟩;refine⟨i+1,⟨by omega,rfl⟩,by omega,?_⟩;exact Cr
 ·have jc:=aj h1
  obtain rfl:i=ps.length:=by omega
  rw[aJ];refine aP (Vj (n:=(tz ps).length) (by omega)) ?_;rintro _ m2⟨v2,p2,rfl,bZ,lD⟩;refine .mk (ι:=Nat×Value) (λi=>ps.length-i.1) (λ⟨i,x⟩ mm=>i<=ps.length/\∃p,aq mm [p,m]/\mf p 118 1 x (tz (ps.take i))) (λ⟨i,x⟩=>[(6,.c (.v x)),(25,.c (.v (.slice a ps.length c))),(26,.c (i64 ps.length)),(27,.c (i64 i))]) (λ_=>[]) (0,v2) ⟨by omega,p2,bZ,by simpa [tz]using lD⟩ ?_ ?_
  ·exact Cr
  rintro⟨i,x⟩ mm ⟨hi,p,hs,hx⟩;apply bI<;>intro h2
  ·have iD:=ah h2
   have bH:i<ps.length:=by omega
   obtain⟨b,o,c',e,nT⟩:=h.real bH;cases e;have AG:=h.la ps[i] (by simp);have hle:=XB (ps:=ps) (i+1);rw[<-zK bH,ax]at hle;have hc:gR mm b (o+i)=some ps[i].1:=nH (nT i bH) (hs.at (i:=1) rfl)
   repeat refine xS ?_
   refine⟨_,hc,Hz AG,?_⟩;refine .mk _ (aau (i:=0) hs rfl hx (AG.sub (hs.at (i:=1) rfl)) (by omega)) ?_;rintro _ m3⟨v3,p3,rfl,dy,tX⟩;refine⟨(i+1,v3),⟨by omega,p3,dy,?_⟩,by simp only;omega,?_⟩
   ·rw[zK bH]at tX;exact tX
   ·exact Cr
  ·have iD:=aj h2
   obtain rfl:i=ps.length:=by omega
   rw[aJ]at hx;exact⟨x,p,rfl,hs,hx⟩
variable{y:Value}
theorem aeO:bF tP (.buildSlice 277 2 [0,1]) [.v x,.v y] m λr m'=>∃b,m b=none/\r=[.v (.slice (some ⟨b,0,none⟩) 2 2)]/\m'=m.set b (.cells #[x,y] 127):=
 dm (n:=2) eR (show tt.get 277=some ⟨.slice 127,1,24,[.one (.slice none 0 0)],false⟩ by rfl) rfl ZN rfl rfl (by simp[CV.cs]) (by simp) (by simp)
theorem hIs:tt.get 61=some ⟨.slice 3,1,24,[.one (.slice none 0 0)],false⟩:=by rfl
theorem Tf:tt.get 3=some ⟨.int .i64,1,8,[.one (.int .i64 0)],false⟩:=by rfl
abbrev ic(l:List Int):List Value:=l.map (Value.int .i64)
variable{l:List Int}
theorem akW:∀u∈ic l,u.oneCell'=true:=by
 intro u hu;obtain⟨a,_,rfl⟩:=aV.1 hu;rfl
def Il(m:aD)(v:Value)(l:List Int):Prop:=gq m 1 v (ic l)
def Io(m:aD)(v:Value)(l:List Int):Prop:=mf m 3 1 v (ic l)
def Ia(m:aD)(v:Value)(l:List Int):Prop:=Il m v l\/(l=[]/\∃a,v= .slice (some a) 0 0)
theorem Il.sub{m':aD}(h:Il m v l)(hs:cL m m'):Il m' v l:=gq.sub h hs
theorem Io.il(h:Io m v l):Il m v l:=mf.eF h
theorem Il.ia(h:Il m v l):Ia m v l:=.inl h
theorem Ia.sub{m':aD}(h:Ia m v l)(hs:cL m m'):Ia m' v l:=h.imp (·.sub hs) id
theorem Io.nil(m:aD):Io m (.slice none 0 0) []:=.inl ⟨rfl,rfl⟩
theorem Il.shape(h:Il m v l):∃a c,v= .slice a l.length c:=by
 rcases h with⟨c,rfl,e⟩|⟨b,o,c,n,arr,t,fr,rfl,_,e,_⟩
 ·simp_all
 simp_all
theorem Ia.shape(h:Ia m v l):∃a c,v= .slice a l.length c:=by
 rcases h with h|⟨rfl,a,rfl⟩
 ·exact h.shape
 simp_all
theorem Ia.il(h:Ia m v l)(hl:l≠[]):Il m v l:=h.elim id λh=>absurd h.1 hl
theorem Il.real(h:Il m v l)(hi:i<l.length):∃b o c,v= .slice (some ⟨b,o,none⟩) l.length c/\∀j (hj:j<l.length),gR m b (o+j)=some (.int .i64 l[j]):=by
 rcases h with⟨c,rfl,e⟩|⟨b,o,c,n,arr,t,fr,rfl,g1,e,_,g2,_⟩
 ·simp_all
 ·have:l.length=n:=by simpa using e
  exact⟨b,o,c,by rw[this],λj hj=>aF g1 (g2 j _ (by simp[hj]))⟩
theorem Ia.real(h:Ia m v l)(hi:i<l.length):∃b o c,v= .slice (some ⟨b,o,none⟩) l.length c/\∀j (hj:j<l.length),gR m b (o+j)=some (.int .i64 l[j]):=
 (h.il (by rintro rfl;simp at hi)).real hi
theorem Ia.fg{m:aD}{v:Value}{l:List Int}(h:Ia m v l):fg v=l.length:=by obtain⟨a,c,rfl⟩:=h.shape;rfl
variable{x:Int}
theorem qa:bF tP (.buildSlice 61 1 [0]) [.v (.int .i64 x)] m λr m'=>∃b,m b=none/\r=[.v (.slice (some ⟨b,0,none⟩) 1 1)]/\m'=m.set b (.cells #[.int .i64 x] 3):=
 dm (n:=1) eR hIs rfl Tf rfl rfl (by simp[CV.cs]) (by simp) (by simp)
theorem Ia.vh{e:TypeId}(h:Ia m v l):s5 m 1 (.slice e) v (ic l):=.inl ⟨e,rfl,h.imp id λ⟨h1,h2⟩=>⟨by rw[h1];rfl,h2⟩⟩
theorem zQ{x:Value}{news:List Int}(hs:aq m ls)(hi:ls[i]?=some p) (hv:Io p v l) (hg:Ia m x news) (hb:l.length+news.length<=1000000000):
  bF tP (.builtin .append [61,61]) [.v v,.v x] m λr m'=>∃v' p',r=[.v v']/\aq m' (ls.set i p')/\Io p' v' (l++news):=by
 have e1:=hv.il.ia.fg;have e2:=hg.fg;refine(kC eR hIs rfl Tf hIs rfl hs hi hv hg.vh (by rw[e1,e2];simp only;omega) (by rw[e1,e2];omega)).mono λr m' ⟨v',p',h1,h2,h3⟩=>⟨v',p',h1,h2,?_⟩;have:=h3.ux;rw[show ic l++ic news=ic (l++news) by simp[ic]]at this;exact this
theorem Il.blk1{b:Nat}{t:TypeId}{fr:Nat×Nat}(h:m b=some (.cells #[.int .i64 x] t fr)):Il m (.slice (some ⟨b,0,none⟩) 1 1) [x]:=
 .inr ⟨b,0,1,1,_,_,_,rfl,h,rfl,aW _,λj u hu=>by simpa [ic]using hu,by simp[ic,Value.oneCell']⟩
theorem Es{b':Nat}(hs:aq m (p::ls))(hb:m b'=none)(hy:Io p y l)(hl:l.length<=100000000):
  bF tP (.builtin .append [61,61]) [.v y,.v (.slice (some ⟨b',0,none⟩) 1 1)] (m.set b' (.cells #[.int .i64 x] 3)) λr m'=>∃y' p',r=[.v y']/\aq m' (p'::ls)/\Io p' y' (l++[x]):=by
 have bM:=hs.new hb (.cells #[.int .i64 x] 3);refine(zQ (i:=1) bM rfl hy (Il.blk1 (aD.bg ..)).ia (by simp;omega)).mono λr m' ⟨v',p',h1,h2,h3⟩=>⟨v',p',h1,h2.dV 0,h3⟩
theorem fZ{b o j:Nat}{l:List Value}(h:dQ m b o l)(hj:l[j]?=some y):gR m b (o+j)=some y:=by
 obtain⟨arr,t,fr,h1,h2⟩:=h;exact aF h1 (h2 j y hj)
namespace Tr
def up(p:Int):Int:=if 0<p/\p<21 then(p-1)/4 else-1
def gF(p:Int):Int:=if 5<=p/\p<21 then p-5 else-1
end Tr
variable{m:aD}{p:Int}
theorem rA:eN tP 325 [i64 p] m [bR (decide (0<=p/\p<21))]:=by
 refine ap Tryz.func325 ?_;conv=>whnf
 repeat' (first|(refine⟨λh=>?_,λh=>?_⟩<;>conv=>whnf)|fail)
 ·have h':=ah h
  refine⟨?_,rfl⟩;rw[show decide (0<=p/\p<21)=decide (p<21) from fF.2 (by omega)]
 ·have h':=aj h
  rw[aY (by omega)];exact rR
theorem Jo:eN tP 326 [i64 p] m [i64 (Tr.up p)]:=by
 refine ap Tryz.func326 ?_;refine bt (rA) ?_;by_cases h0:0<=p/\p<21
 ·rw[bB h0]
  refine xN ?_;apply bI<;>intro h
  ·have h':p=0:=by simpa using h
   exact⟨by rw[Tr.up,if_neg (by omega)],rfl⟩
  ·have h':¬p=0:=by simpa using h
   conv=>whnf
   rw[wi (n:=p-1) (by omega) (by omega)];refine⟨?_,rfl⟩;rw[Tr.up,aC (by omega),show Int.tdiv (p-1) 4=(p-1)/4 from Int.tdiv_eq_ediv_of_nonneg (by omega),wi]
 ·rw[aY h0]
  refine xY ?_;exact⟨by rw[Tr.up,if_neg (by omega)],rfl⟩
theorem wX:eN tP 248 [i64 p] m [i64 (Tr.gF p)]:=by
 refine ap Tryz.func248 ?_;refine bt (rA) ?_;by_cases h0:0<=p/\p<21
 ·rw[bB h0]
  refine xN ?_;apply bI<;>intro h
  ·have h':=ah h
   exact⟨by rw[Tr.gF,if_neg (by omega)],rfl⟩
  ·have h':=aj h
   conv=>whnf
   rw[wi (n:=p-5) (by omega) (by omega)];exact⟨by rw[Tr.gF,aC (by omega)],rfl⟩
 ·rw[aY h0]
  refine xY ?_;exact⟨by rw[Tr.gF,if_neg (by omega)],rfl⟩
end Go.E.Y
namespace Go.E
theorem Y4(w a:Nat):BitVec.ofInt w (a:Int)=BitVec.ofNat w a:=by simp
variable{a:Nat}
theorem toNat_ofInt{w:Nat}(h:a<2^w):(BitVec.ofInt w (a:Int)).toNat=a:=by
 grind
variable{b:Nat}
theorem Uo(ha:a<2^64)(hb:b<2^64):ag .or .u64 a b=((a|||b:Nat):Int):=by
 have h:=oO ha hb
 show IntKind.u64.wrap ((BitVec.ofInt 64 a|||BitVec.ofInt 64 b).toNat:Int)=_
 rw[BitVec.toNat_or,toNat_ofInt ha,toNat_ofInt hb,wu]
theorem OK(ha:a<2^64)(hb:b<2^64):ag .and .u64 a b=((a&&& b:Nat):Int):=by
 have h:=Nat.and_lt_two_pow a hb
 show IntKind.u64.wrap ((BitVec.ofInt 64 a&&& BitVec.ofInt 64 b).toNat:Int)=_
 rw[BitVec.toNat_and,toNat_ofInt ha,toNat_ofInt hb,wu]
variable{n:Int}
theorem XY(h0:0<=n)(h1:n<4294967296):IntKind.u32.wrap n=n:=by rw[IntKind.wrap_u32,Int.emod_eq_of_lt h0 h1]
theorem wu8(h0:0<=n)(h1:n<256):IntKind.u8.wrap n=n:=by rw[IntKind.wrap_u8,Int.emod_eq_of_lt h0 h1]
theorem Ng(ha:a<2^32)(hb:b<2^32):ag .or .u32 a b=((a|||b:Nat):Int):=by
 have h:=oO ha hb
 show IntKind.u32.wrap ((BitVec.ofInt 32 a|||BitVec.ofInt 32 b).toNat:Int)=_
 rw[BitVec.toNat_or,toNat_ofInt ha,toNat_ofInt hb,XY (by omega) (by omega)]
theorem zR(ha:a<2^32)(hb:b<2^32):ag .and .u32 a b=((a&&& b:Nat):Int):=by
 have h:=Nat.and_lt_two_pow a hb
 show IntKind.u32.wrap ((BitVec.ofInt 32 a&&& BitVec.ofInt 32 b).toNat:Int)=_
 rw[BitVec.toNat_and,toNat_ofInt ha,toNat_ofInt hb,XY (by omega) (by omega)]
theorem pS(ha:a<2^32)(hb:b<2^32):ag .xor .u32 a b=((a ^^^ b:Nat):Int):=by
 have h:=jB ha hb
 show IntKind.u32.wrap ((BitVec.ofInt 32 a ^^^ BitVec.ofInt 32 b).toNat:Int)=_
 rw[BitVec.toNat_xor,toNat_ofInt ha,toNat_ofInt hb,XY (by omega) (by omega)]
theorem Dp{a c:Nat}(k:Nat)(hc:c<2^k):(a*2^k)|||c=a*2^k+c:=by
 rw[lH,Nat.two_pow_add_eq_or_of_lt hc]
theorem WD(h0: -9223372036854775808<=n)(h1:n<=9223372036854775807):ag .xor .i64 (if IntKind.i64.signed=true then-1 else IntKind.i64.max) n= -n-1:=by
 show IntKind.i64.wrap ((BitVec.ofInt 64 (-1) ^^^ BitVec.ofInt 64 n).toNat:Int)=_
 have e:BitVec.ofInt 64 (-1)=BitVec.allOnes 64:=by rfl
 have e2:BitVec.allOnes 64 ^^^ BitVec.ofInt 64 n= ~~~ (BitVec.ofInt 64 n):=BitVec.allOnes_xor;rw[e,e2,BitVec.toNat_not,BitVec.toNat_ofInt,IntKind.wrap_i64];omega
variable{n:Nat}
theorem agL(h1:n<2^32):ag .xor .u32 (if IntKind.u32.signed=true then-1 else IntKind.u32.max) n=((4294967295-n:Nat):Int):=by
 show IntKind.u32.wrap ((BitVec.ofInt 32 4294967295 ^^^ BitVec.ofInt 32 n).toNat:Int)=_
 have e:BitVec.ofInt 32 4294967295=BitVec.allOnes 32:=by rfl
 have e2:BitVec.allOnes 32 ^^^ BitVec.ofInt 32 n= ~~~ (BitVec.ofInt 32 n):=BitVec.allOnes_xor;rw[e,e2,BitVec.toNat_not,toNat_ofInt h1,XY (by omega) (by omega)]
theorem nZ{k:IntKind}{x:Nat}(hn:n<=k.bits):oV k (x:Int) (n:Int)=((x/2^n:Nat):Int):=by
 show(x:Int).fdiv (2^(min ((n:Int).toNat) k.bits))=_
 grind
theorem agd{x:Nat}(hn:n<=64)(hx:x*2^n<18446744073709551616):nC .u64 (x:Int) (n:Int)=((x*2^n:Nat):Int):=by
 show IntKind.u64.wrap ((x:Int)*2^(min ((n:Int).toNat) 64))=_
 have:((x:Int)*2^n)=((x*2^n:Nat):Int):=by simp
 rw[aA,gH hn,this,wu]
end Go.E
namespace Go.E.Y
open Go.Proofs
structure Bk where
 gM:Int
 (cap:Int)
 (dG:Int)
 (gI:Int)
deriving DecidableEq
def rB(n x y:Int):Bool:=decide (x<=n)&&decide (n<=y)
variable{n:Int}
theorem B6{x y:Int}:rB n x y=true↔x<=n/\n<=y:=by simp[rB]
def Bk.ok(s:Bk):Bool:=((rB s.gM 1 1000&&rB s.cap s.gM 1048576)&&rB s.dG 1 1073741824)&&rB s.gI 0 1073741824
theorem Bk.lj{s:Bk}:s.ok=true↔(1<=s.gM/\s.gM<=1000)/\(s.gM<=s.cap/\s.cap<=1048576)/\(1<=s.dG/\s.dG<=1073741824)/\(0<=s.gI/\s.gI<=1073741824):=by
 simp only[Bk.ok,aB,B6,and_assoc]
abbrev Bk.L(s:Bk):LB:=[.one (.int .i64 s.gM),.one (.int .i64 s.cap),.one (.int .i64 s.dG),.one (.int .i64 s.gI)]
variable{m:aD}
theorem aaX{x y:Int}:eN tP 85 [i64 n,i64 x,i64 y] m [bR (rB n x y)]:=by
 refine ap Tryz.func85 ?_;refine⟨λh=>?_,λh=>?_⟩<;>conv=>whnf
 all_goals exact⟨by rw[rB,h];rfl,rfl⟩
theorem nP{s:Bk}:eN tP 51 [.a s.L] m [bR s.ok]:=by
 refine ap Tryz.func51 ?_;refine bt (aaX) ?_;conv=>whnf
 unfold Bk.ok;apply bI<;>intro h
 ·refine bt (aaX) ?_
  apply bI<;>intro h2
  ·refine bt (aaX) ?_
   apply bI<;>intro h3
   ·refine bt (aaX) ?_
    exact⟨by rw[h,h2,h3];rfl,rfl⟩
   ·exact⟨by rw[h,h2,h3];rfl,rfl⟩
  ·exact⟨by rw[h,h2];rfl,rfl⟩
 ·exact⟨by rw[h];rfl,rfl⟩
def mV(p:Int):Int:=if 0<=p/\p<21 then(if p=0 then 0 else if p<5 then 1 else 2)else-1
theorem ag2{p:Int}(h:0<=p/\p<21):mV (Tr.up p)=mV p-1:=by
 unfold mV Tr.up;omega
theorem FK(p:Int): -1<=mV p/\mV p<=2:=by
 unfold mV;omega
theorem u3{p:Int}:eN tP 245 [i64 p] m [i64 (mV p)]:=by
 refine ap Tryz.func245 ?_;refine .mk (ι:=Int) (λq=>(mV q+1).toNat) (λq mm=>mm=m) (λq=>[(3,.c (i64 (mV p-mV q-1))),(4,.c (i64 q))]) (λ_=>[]) p rfl ?_ ?_
 ·conv=>whnf
  repeat (refine And.intro (by first|with_reducible rfl|(first|exact cI (show(-1:Int)=mV p-mV p-1 by omega))|exact cI (wi)|exact wi|rfl) ?_;conv=>whnf)
  exact xT
 rintro q mm he;subst mm;refine bt (rA) ?_;have h1:=FK q;have h2:=FK p;apply bI<;>intro h
 ·have h':=ah h
  have hu:=ag2 h';have h3:=FK (Tr.up q);refine bt (Jo) ?_;refine⟨Tr.up q,rfl,by omega,?_⟩;conv=>whnf
  repeat (refine And.intro (by first|with_reducible rfl|(first|exact cI (by rw[wi];omega))|exact cI (wi)|exact wi|rfl) ?_;conv=>whnf)
  exact xT
 ·have h':=aj h
  have e:mV q= -1:=by unfold mV;rw[if_neg h']
  exact⟨by rw[e];simp,rfl⟩
def BY(l:List Int)(n:Int)(i:Nat):Bool:=decide (mV (l.getD i 0)=n)&&(decide (i=0)||decide (l.getD (i-1) 0<l.getD i 0))
def iR(l:List Int)(n:Int):Bool:=(List.range l.length).all (BY l n)&&decide (0<l.length)
theorem Ay{k n:Nat}{f:Nat->Bool}(hk:k<n)(h:f k=false):(List.range n).all f=false:=by
 grind
theorem xZ{n:Nat}{f:Nat->Bool}(h:∀k,k<n->f k=true):(List.range n).all f=true:=bL.2 λk hk=>h k (dS.1 hk)
theorem ly{l:List Int}{i:Nat}(h:i<l.length):l[i]=l.getD i 0:=by rw[aI,az h];rfl
theorem sC{v:Value}{l:List Int}(hv:Ia m v l)(hl:l.length<=1000000):eN tP 162 [.v v,i64 n] m [bR (iR l n)]:=by
 obtain⟨a,c,rfl⟩:=hv.shape;refine ap Tryz.func162 ?_;refine .mk (ι:=Nat) (λi=>l.length-i) (λi mm=>i<=l.length/\(∀k,k<i->BY l n k=true)/\mm=m) (λi=>[(0,.c (.v (.slice a l.length c))),(1,.c (i64 n)),(7,.c (.v (.slice a l.length c))),(8,.c (i64 l.length)),(9,.c (i64 i))]) (λ_=>[]) 0 ⟨by omega,by omega,rfl⟩ ?_ ?_
 ·exact Cr
 rintro i mm⟨hi,cM,he⟩;subst mm;apply bI<;>intro h
 ·have h':=ah h
  have bH:i<l.length:=by omega
  obtain⟨bl,ol,c',hh,hg⟩:=hv.real bH;injection hh with eK _ fN;subst eK;have wA:=hg i bH;rw[ly bH]at wA
  repeat refine xS ?_
  refine⟨_,wA,rfl,?_⟩;refine bt (u3) ?_;have uK:BY l n i=false->iR l n=false:=λhb=>by rw[iR,Ay bH hb];rfl
  have Oe:BY l n i=true->∀k,k<i+1->BY l n k=true:=λhb k hk=>by
   rcases Nat.lt_or_ge k i with q|q
   ·exact cM k q
   ·rw[show k=i by omega];exact hb
  unfold BY at uK Oe;have e1:(mV (l.getD i 0)!=n)= !decide (mV (l.getD i 0)=n):=by rw[bne,qO]
  apply bI<;>intro h2
  ·rw[e1]at h2
   refine⟨by rw[uK (by simp at h2;simp[h2])],rfl⟩
  ·rw[e1]at h2
   have iD:decide (mV (l.getD i 0)=n)=true:=by cases hd:decide (mV (l.getD i 0)=n)<;>rw[hd]at h2<;>first|rfl|cases h2
   rw[iD,bj]at uK Oe;apply bI<;>intro h3
   ·have yF:=ah h3
    obtain⟨j,rfl⟩:∃j,i=j+1:=⟨i-1,by omega⟩;have Ag:=hg j (by omega);rw[ly (show j<l.length by omega)]at Ag;have ej:IntKind.i64.wrap (((j+1:Nat):Int)-1)=(j:Int):=by rw[wi];omega
    conv=>whnf
    rw[ej]
    repeat refine xS ?_
    refine⟨_,Ag,rfl,?_⟩;apply bI<;>intro h4
    ·have Ai:=ah h4
     refine⟨by rw[uK (by rw[show j+1-1=j from rfl,aY (show ¬l.getD j 0<l.getD (j+1) 0 by omega)];simp)],rfl⟩
    ·have Ai:=aj h4
     refine⟨j+1+1,⟨by omega,Oe (by rw[show j+1-1=j from rfl,bB (show l.getD j 0<l.getD (j+1) 0 by omega)];simp),rfl⟩,by omega,?_⟩;exact Cr
   ·have yF:=aj h3
    obtain rfl:i=0:=by omega
    refine⟨0+1,⟨by omega,Oe (by simp),rfl⟩,by omega,?_⟩;exact Cr
 ·have h':=aj h
  obtain rfl:i=l.length:=by omega
  refine⟨?_,rfl⟩;rw[iR,xZ cM];simp
theorem vZ:eN tP 165 [i64 n] m [bR (rB n 1 8)]:=by
 refine ap Tryz.func165 ?_;refine⟨λh=>?_,λh=>?_⟩<;>conv=>whnf
 all_goals exact⟨by rw[rB,h];rfl,rfl⟩
end Go.E.Y
namespace Go.E
namespace ao
abbrev M:Nat:=4294967296
def lA(x n:Nat):Nat:=(x*2^(32-n))%M|||x/2^n
def s0(x:Nat):Nat:=lA x 7 ^^^ lA x 18 ^^^ x/8
def s1(x:Nat):Nat:=lA x 17 ^^^ lA x 19 ^^^ x/1024
def S1(x:Nat):Nat:=lA x 6 ^^^ lA x 11 ^^^ lA x 25
def S0(x:Nat):Nat:=lA x 2 ^^^ lA x 13 ^^^ lA x 22
def ch(e f g:Nat):Nat:=(e&&& f) ^^^ ((4294967295-e)&&& g)
def maj(a b c:Nat):Nat:=(a&&& b) ^^^ (a&&& c) ^^^ (b&&& c)
def K:List Nat:=[
 0x428a2f98,0x71374491,0xb5c0fbcf,0xe9b5dba5,0x3956c25b,0x59f111f1,0x923f82a4,0xab1c5ed5,
 0xd807aa98,0x12835b01,0x243185be,0x550c7dc3,0x72be5d74,0x80deb1fe,0x9bdc06a7,0xc19bf174,
 0xe49b69c1,0xefbe4786,0x0fc19dc6,0x240ca1cc,0x2de92c6f,0x4a7484aa,0x5cb0a9dc,0x76f988da,
 0x983e5152,0xa831c66d,0xb00327c8,0xbf597fc7,0xc6e00bf3,0xd5a79147,0x06ca6351,0x14292967,
 0x27b70a85,0x2e1b2138,0x4d2c6dfc,0x53380d13,0x650a7354,0x766a0abb,0x81c2c92e,0x92722c85,
 0xa2bfe8a1,0xa81a664b,0xc24b8b70,0xc76c51a3,0xd192e819,0xd6990624,0xf40e3585,0x106aa070,
 0x19a4c116,0x1e376c08,0x2748774c,0x34b0bcb5,0x391c0cb3,0x4ed8aa4a,0x5b9cca4f,0x682e6ff3,
 0x748f82ee,0x78a5636f,0x84c87814,0x8cc70208,0x90befffa,0xa4506ceb,0xbef9a3f7,0xc67178f2]
def H0:List Nat:=[0x6a09e667,0xbb67ae85,0x3c6ef372,0xa54ff53a,0x510e527f,0x9b05688c,0x1f83d9ab,0x5be0cd19]
def Pb(b w:List Nat)(t:Nat):Nat:=
 if t<16 then b.getD (4*t) 0*16777216+b.getD (4*t+1) 0*65536+b.getD (4*t+2) 0*256+b.getD (4*t+3) 0
 else(w.getD (t-16) 0+s0 (w.getD (t-15) 0)+w.getD (t-7) 0+s1 (w.getD (t-2) 0))%M
def iJ(b:List Nat):Nat->List Nat
 |0=>[]
 |t+1=>iJ b t++[Pb b (iJ b t) t]
def step(k w:Nat)(v:List Nat):List Nat:=
 let x:=(v.getD 7 0+S1 (v.getD 4 0)+ch (v.getD 4 0) (v.getD 5 0) (v.getD 6 0)+k+w)%M
 let y:=(S0 (v.getD 0 0)+maj (v.getD 0 0) (v.getD 1 0) (v.getD 2 0))%M
 [(x+y)%M,v.getD 0 0,v.getD 1 0,v.getD 2 0,(v.getD 3 0+x)%M,v.getD 4 0,v.getD 5 0,v.getD 6 0]
def vS(w v:List Nat):Nat->List Nat
 |0=>v
 |t+1=>step (K.getD t 0) (w.getD t 0) (vS w v t)
def CK(h v:List Nat):List Nat:=(List.range 8).map λi=>(h.getD i 0+v.getD i 0)%M
def block(h b:List Nat):List Nat:=CK h (vS (iJ b 64) h 64)
def fx(n:Nat):Nat:=(119-n%64)%64
def be8(n:Nat):List Nat:=(List.range 8).map λi=>n/256^(7-i)%256
def Ab(b:List Nat):List Nat:=b++[128]++List.replicate (fx b.length) 0++be8 (8*b.length)
def ke(h:List Nat):Nat->List Nat->List Nat
 |0,_=>h
 |n+1,p=>ke (block h (p.take 64)) n (p.drop 64)
def mJ(h:List Nat):List Nat:=(List.range 32).map λi=>h.getD (i/4) 0/256^(3-i%4)%256
def sum(b:List Nat):List Nat:=mJ (ke H0 ((Ab b).length/64) (Ab b))
def uW(b:List Nat):Nat:=(List.range 8).foldl (λn i=>n*256+(sum b).getD i 0) 0
end ao
end Go.E
namespace Go.E.Y
open Go.Proofs
abbrev u32(n:Int):CV:=.v (.int .u32 n)
variable{n:Nat}
theorem abP(h1:1<=n)(h2:n<=31):ag .and .u64 (IntKind.u64.wrap (IntKind.i64.wrap (0-(n:Int)))) 31=((32-n:Nat):Int):=by
 have e:IntKind.u64.wrap (IntKind.i64.wrap (0-(n:Int)))=((18446744073709551616-n:Nat):Int):=by
  rw[wi,IntKind.wrap_u64];omega
 have e2:=OK (a:=18446744073709551616-n) (b:=31) (by omega) (by omega);rw[e];refine e2.trans ?_;have:(18446744073709551616-n)&&& 31=(18446744073709551616-n)%2^5:=Nat.and_two_pow_sub_one_eq_mod (18446744073709551616-n) 5;omega
variable{x:Nat}
theorem FE(hn:n<=32):nC .u32 (x:Int) (n:Int)=((x*2^n%ao.M:Nat):Int):=by
 show IntKind.u32.wrap ((x:Int)*2^(min ((n:Int).toNat) 32))=_
 rw[aA,gH hn,IntKind.wrap_u32]
 grind
theorem lx(hx:x<2^32):ao.lA x n<2^32:=oO (fo _ (by decide)) (ny (za ..) hx)
variable{m:aD}
theorem YG(h1:1<=n)(h2:n<=31)(hx:x<2^32):eN tP 478 [u32 x,i64 (IntKind.i64.wrap (0-(n:Int)))] m [u32 ((ao.lA x n:Nat):Int)]:=by
 refine ap Tryz.func478 ?_;conv=>whnf
 rw[abP h1 h2]
 repeat (refine xS ?_;conv=>whnf)
 have e1:IntKind.u64.wrap (32-((32-n:Nat):Int))=(n:Int):=by rw[wu];omega
 rw[e1]
 repeat refine xS ?_
 refine⟨?_,rfl⟩;rw[FE (by omega),nZ (by show n<=32;omega)];have:=Ng (a:=x*2^(32-n)%ao.M) (b:=x/2^n) (fo _ (by decide)) (ny (za ..) hx);rw[this];rfl
theorem ka(h1:1<=n)(h2:n<=31)(hx:x<2^32):eN tP 451 [u32 x,i64 n] m [u32 ((ao.lA x n:Nat):Int)]:=by
 refine ap Tryz.func451 ?_;refine bt (YG h1 h2 hx) ?_;exact rR
theorem Sp:eN tP 449 [] m [.a [.bG .u32 64 (ao.K.map λ(n:Nat)=>(n:Int))]]:=by
 refine ap Tryz.func449 ?_;exact rR
theorem Vp:eN tP 416 [] m [.a [.bG .u32 8 (ao.H0.map λ(n:Nat)=>(n:Int))]]:=by
 refine ap Tryz.func416 ?_;exact rR
def wc(b:List Nat)(i:Nat):List Int:=(ao.iJ b i).map (λ(n:Nat)=>(n:Int))++List.replicate (64-i) 0
theorem zc(b:List Nat):∀t,(ao.iJ b t).length=t
 |0=>rfl
 |t+1=>by simp[ao.iJ,zc b t]
variable{b:List Nat}{i j:Nat}
theorem aj3(h:j<i):(wc b i).getD j 0=(((ao.iJ b i).getD j 0:Nat):Int):=by
 have hl:=zc b i;simp only[wc,aI]
 grind
theorem abd{x:Int}(h:i<64)(hx:x=((ao.Pb b (ao.iJ b i) i:Nat):Int)):(wc b i).set i x=wc b (i+1):=by
 have hl:=zc b i
 have e:List.replicate (64-i) (0:Int)=0::List.replicate (64-(i+1)) 0:=by
  rw[<-List.replicate_succ];congr 1;omega
 rw[wc,e,fA _ _ (by simp[hl]),wc,ao.iJ,hx];simp[hl]
theorem afS(hb:∀x∈b,x<256)(w:List Nat)(t:Nat):ao.Pb b w t<2^32:=by
 have g:∀k,b.getD k 0<256:=λk=>by
  simp only[aI]
  cases h:b[k]? with
  |none=>simp
  |some x=>simpa using hb x (dJ h)
 unfold ao.Pb
 grind
theorem Pa{b:List Nat}(hb:∀x∈b,x<256):∀(t:Nat) (k:Nat),(ao.iJ b t).getD k 0<2^32
 |0,k=>by simp[ao.iJ]
 |t+1,k=>by
  have ih:=Pa hb t k;have hl:=zc b t;simp only[ao.iJ,aI]at ih⊢;rcases Nat.lt_trichotomy k t with h|h|h
  ·rw[aT (by omega)];exact ih
  ·subst h;rw[bJ (by omega),hl];simpa using afS hb _ _
  ·rw[jr (by simp;omega)];simp
variable{b o c:Nat}{l:List Int}
theorem Lb.at(h:Lb m (.slice (some ⟨b,o,none⟩) n c) l){x:Int}(hj:l[j]?=some x):gR m b (o+j)=some (.int .u8 x):=by
 obtain⟨arr,t,fr,h1,h2⟩:=h.range;exact aF h1 (h2 j _ (by simp[hj]))
variable{a:Nat}
theorem ait{d:Nat}(ha:a<256)(hb:b<256)(hc:c<256)(hd:d<256):
  ((a*2^24%4294967296|||b*2^16%4294967296)|||c*2^8%4294967296)|||d=a*16777216+b*65536+c*256+d:=by
 have q24:(2:Nat)^24=16777216:=rfl;have q16:(2:Nat)^16=65536:=rfl;have q8:(2:Nat)^8=256:=rfl;have m1:=@Dp a (b*65536) 24
 have m2:=@Dp (a*256+b) (c*256) 16
 have m3:=@Dp (a*65536+b*256+c) d 8
 grind
theorem aiu{d:Nat}(ha:a<256)(hb:b<256)(hc:c<256)(hd:d<256):
  ag .or .u32 (ag .or .u32 (ag .or .u32 (nC .u32 (a:Int) 24) (nC .u32 (b:Int) 16)) (nC .u32 (c:Int) 8)) (d:Int)=((a*16777216+b*65536+c*256+d:Nat):Int):=by
 have ea:=FE (x:=a) (n:=24) (by decide);have eb:=FE (x:=b) (n:=16) (by decide);have ec:=FE (x:=c) (n:=8) (by decide);rw[show((24:Int))=((24:Nat):Int) from rfl,show((16:Int))=((16:Nat):Int) from rfl,show((8:Int))=((8:Nat):Int) from rfl,ea,eb,ec];have p1:a*2^24%ao.M<2^32:=fo _ (by decide);have p2:b*2^16%ao.M<2^32:=fo _ (by decide);have p3:c*2^8%ao.M<2^32:=fo _ (by decide);rw[Ng p1 p2,Ng (oO p1 p2) p3,Ng (oO (oO p1 p2) p3) (fR hd (by decide)),ait ha hb hc hd]
variable{bs:List Nat}
theorem Cd(hn:0<n)(hb:∀x∈bs,x<n)(k:Nat):bs.getD k 0<n:=by
 simp only[aI]
 cases h:bs[k]? with
 |none=>simpa using hn
 |some x=>simpa using hb x (dJ h)
theorem w32(h:a<256):IntKind.u32.wrap (a:Int)=(a:Int):=XY (by omega) (by omega)
theorem Ts(hb:∀x∈bs,x<256)(hi:i<16){w:List Nat}:
  ag .or .u32 (ag .or .u32 (ag .or .u32 (nC .u32 (IntKind.u32.wrap ((bs.getD (4*i+0) 0:Nat):Int)) 24) (nC .u32 (IntKind.u32.wrap ((bs.getD (4*i+1) 0:Nat):Int)) 16)) (nC .u32 (IntKind.u32.wrap ((bs.getD (4*i+2) 0:Nat):Int)) 8)) (IntKind.u32.wrap ((bs.getD (4*i+3) 0:Nat):Int))
   =((ao.Pb bs w i:Nat):Int):=by
 have g:=Cd (by decide) hb;rw[w32 (g _),w32 (g _),w32 (g _),w32 (g _),aiu (g _) (g _) (g _) (g _),ao.Pb,aC hi,gO]
theorem oH(a b:Nat):IntKind.u32.wrap ((a:Int)+(b:Int))=(((a+b)%ao.M:Nat):Int):=by
 rw[IntKind.wrap_u32,<-Int.natCast_add];rfl
theorem aoz(hx:x<2^32):ag .xor .u32 (ag .xor .u32 ((ao.lA x 7:Nat):Int) ((ao.lA x 18:Nat):Int)) (oV .u32 (x:Int) 3)=((ao.s0 x:Nat):Int):=by
 have e:=nZ (k:=.u32) (x:=x) (n:=3) (by decide);rw[show((3:Int))=((3:Nat):Int) from rfl,e,pS (lx hx) (lx hx),pS (jB (lx hx) (lx hx)) (ny (za ..) hx)];rfl
theorem aoy(hx:x<2^32):ag .xor .u32 (ag .xor .u32 ((ao.lA x 17:Nat):Int) ((ao.lA x 19:Nat):Int)) (oV .u32 (x:Int) 10)=((ao.s1 x:Nat):Int):=by
 have e:=nZ (k:=.u32) (x:=x) (n:=10) (by decide);rw[show((10:Int))=((10:Nat):Int) from rfl,e,pS (lx hx) (lx hx),pS (jB (lx hx) (lx hx)) (ny (za ..) hx)];rfl
theorem atf(a b c d:Nat):(((a+b)%ao.M+c)%ao.M+d)%ao.M=(a+b+c+d)%ao.M:=by show(((a+b)%4294967296+c)%4294967296+d)%4294967296=(a+b+c+d)%4294967296;omega
theorem Tq(hw:∀k,(ao.iJ bs i).getD k 0<2^32)(hi:16<=i):
  IntKind.u32.wrap (IntKind.u32.wrap (IntKind.u32.wrap ((((ao.iJ bs i).getD (i-16) 0:Nat):Int)+ag .xor .u32 (ag .xor .u32 ((ao.lA ((ao.iJ bs i).getD (i-15) 0) 7:Nat):Int) ((ao.lA ((ao.iJ bs i).getD (i-15) 0) 18:Nat):Int)) (oV .u32 (((ao.iJ bs i).getD (i-15) 0:Nat):Int) 3))+(((ao.iJ bs i).getD (i-7) 0:Nat):Int))
   +ag .xor .u32 (ag .xor .u32 ((ao.lA ((ao.iJ bs i).getD (i-2) 0) 17:Nat):Int) ((ao.lA ((ao.iJ bs i).getD (i-2) 0) 19:Nat):Int)) (oV .u32 (((ao.iJ bs i).getD (i-2) 0:Nat):Int) 10))=((ao.Pb bs (ao.iJ bs i) i:Nat):Int):=by
 rw[aoz (hw _),aoy (hw _),oH,oH,oH,atf,ao.Pb,if_neg (by omega)]
theorem Px(hl:bs.length=64)(hb:∀x∈bs,x<256)(hv:Lb m (.slice (some ⟨b,o,none⟩) 64 c) (bs.map λ(n:Nat)=>(n:Int)))(hc:64<=c):
  eN tP 450 [.v (.slice (some ⟨b,o,none⟩) 64 c)] m [.a [.bG .u32 64 ((ao.iJ bs 64).map λ(n:Nat)=>(n:Int))]]:=by
 refine c7 aC1 Tryz.func450 ?_
 refine .mk (ι:=Nat) (λi=>16-i) (λi mm=>i<=16/\mm=m) (λi=>[(0,.c (.v (.slice (some ⟨b,o,none⟩) 64 c))),(2,.p 0 0),(3,.p 1 0),(9,.c (i64 i))])
  (λi=>[(539,[.bG .u32 64 (List.replicate 64 0)]),(539,[.bG .u32 64 (wc bs i)])]) 0 ⟨by omega,rfl⟩ ?_ ?_
 ·exact Cr
 rintro i mm⟨hi,he⟩;subst mm;apply bI<;>intro h
 ·have h':=ah h
  have bH:i<16:=by omega
  have e4:IntKind.i64.wrap (4*(i:Int))=((4*i:Nat):Int):=by rw[wi];omega
  conv=>whnf
  rw[e4]
  repeat refine xS ?_
  intro o' ho _;obtain rfl:o'=o+4*i:=by have:=ho (by omega);rw[aA]at this;simpa using this
  have ld:∀k,k<4->gR m b (o+4*i+k)=some (.int .u8 ((bs.getD (4*i+k) 0:Nat):Int)):=λk hk=>by
   have:=Lb.at hv (j:=4*i+k) (x:=((bs.getD (4*i+k) 0:Nat):Int)) (by simp[az (show 4*i+k<bs.length by omega)]);rw[gi];exact this
  repeat refine xS ?_
  refine⟨_,ld 0 (by decide),rfl,?_⟩
  repeat refine xS ?_
  refine⟨_,ld 1 (by decide),rfl,?_⟩
  repeat refine xS ?_
  refine⟨_,ld 2 (by decide),rfl,?_⟩
  repeat refine xS ?_
  refine⟨_,ld 3 (by decide),rfl,?_⟩
  repeat refine xS ?_
  refine⟨i+1,⟨by omega,rfl⟩,by omega,?_⟩;conv=>whnf
  repeat (refine And.intro (by first|with_reducible rfl|(first|exact cI (qJ (by omega))|exact abd (by omega) (Ts hb bH))|exact cI (wi)|exact wi|rfl) ?_;conv=>whnf)
  exact xT
 ·have h':=aj h
  obtain rfl:i=16:=by omega
  refine .mk (ι:=Nat) (λi=>64-i) (λi mm=>16<=i/\i<=64/\mm=m) (λi=>[(2,.p 0 0),(3,.p 1 0),(6,.c (i64 i))])
   (λi=>[(539,[.bG .u32 64 (List.replicate 64 0)]),(539,[.bG .u32 64 (wc bs i)])]) 16 ⟨by omega,by omega,rfl⟩ ?_ ?_
  ·exact Cr
  rintro i mm⟨Ja,hi,he⟩;subst mm;apply bI<;>intro h
  ·have h':=ah h
   have bH:i<64:=by omega
   have hw:=Pa hb i;have sb:∀k:Nat,1<=k->k<=16->IntKind.i64.wrap ((i:Int)-(k:Int))=((i-k:Nat):Int):=λk h1 h2=>by rw[wi];omega
   have gt:∀k:Nat,1<=k->k<=16->(wc bs i).getD (i-k) 0=(((ao.iJ bs i).getD (i-k) 0:Nat):Int):=λk h1 h2=>aj3 (by omega);conv=>whnf
   rw[show IntKind.i64.wrap ((i:Int)-15)=_ from sb 15 (by decide) (by decide)]
   repeat (refine xS ?_;conv=>whnf)
   rw[show IntKind.i64.wrap ((i:Int)-2)=_ from sb 2 (by decide) (by decide)]
   repeat (refine xS ?_;conv=>whnf)
   rw[show IntKind.i64.wrap ((i:Int)-16)=_ from sb 16 (by decide) (by decide)]
   repeat (refine xS ?_;conv=>whnf)
   simp only[bK,aA,gt 15 (by decide) (by decide),gt 2 (by decide) (by decide),gt 16 (by decide) (by decide)];rw[show IntKind.i64.wrap ((i:Int)-7)=_ from sb 7 (by decide) (by decide)]
   repeat refine xS ?_
   simp only[aA,gt 7 (by decide) (by decide)];refine fU (ka (n:=7) (by decide) (by decide) (hw _)) ?_;refine fU (ka (n:=18) (by decide) (by decide) (hw _)) ?_;refine fU (ka (n:=17) (by decide) (by decide) (hw _)) ?_;refine fU (ka (n:=19) (by decide) (by decide) (hw _)) ?_
   repeat refine xS ?_
   refine⟨i+1,⟨by omega,by omega,rfl⟩,by omega,?_⟩;conv=>whnf
   repeat (refine And.intro (by first|with_reducible rfl|(first|exact cI (qJ (by omega))|exact abd (by omega) (Tq hw Ja))|exact cI (wi)|exact wi|rfl) ?_;conv=>whnf)
   exact xT
  ·have h':=aj h
   obtain rfl:i=64:=by omega
   exact⟨by simp[wc],rfl⟩
abbrev nc(l:List Nat):List Int:=l.map λ(n:Nat)=>(n:Int)
theorem mH(l:List Nat):(nc l).length=l.length:=by simp
theorem KG(a b:ByteArray):(a.toList==b.toList)=decide (a=b):=by
 by_cases h:a=b
 ·grind
 ·rw[aY h]
  refine beq_eq_false_iff_ne.2 λe=>h ?_;rw[ByteArray.toList_eq,ByteArray.toList_eq]at e
  cases a;cases b
  simp_all
theorem Hj(l:List Nat)(k:Nat):(nc l).getD k 0=((l.getD k 0:Nat):Int):=by
 grind
structure W8(v:List Nat):Prop where
 len:v.length=8
 lt:∀k,v.getD k 0<2^32
variable{v:List Nat}
theorem af7{k w:Nat}(h:W8 v):W8 (ao.step k w v):=by
 refine⟨rfl,λj=>Cd (by decide) (λx hx=>?_) j⟩;simp only[ao.step,aU,fG,rH]at hx;rcases hx with rfl|rfl|rfl|rfl|rfl|rfl|rfl|rfl
 ·grind
 ·exact h.lt 0
 ·exact h.lt 1
 ·exact h.lt 2
 ·grind
 ·exact h.lt 4
 ·exact h.lt 5
 ·exact h.lt 6
theorem Dd{w v:List Nat}(h:W8 v):∀t,W8 (ao.vS w v t)
 |0=>h
 |t+1=>af7 (Dd h t)
theorem aj0(ha:a<2^32)(hb:b<2^32)(hc:c<2^32):ag .xor .u32 (ag .xor .u32 (a:Int) (b:Int)) (c:Int)=((a ^^^ b ^^^ c:Nat):Int):=by
 rw[pS ha hb,pS (jB ha hb) hc]
theorem IT(ha:a<2^32):a&&& b<2^32:=ny Nat.and_le_left ha
theorem arc{e f g:Nat}(he:e<2^32)(hf:f<2^32)(hg:g<2^32):
  ag .xor .u32 (ag .and .u32 (e:Int) (f:Int)) (ag .and .u32 (ag .xor .u32 (if IntKind.u32.signed=true then-1 else IntKind.u32.max) (e:Int)) (g:Int))=((ao.ch e f g:Nat):Int):=by
 have hn:4294967295-e<2^32:=by omega
 rw[agL he,zR he hf,zR hn hg,pS (IT he) (IT hn)];rfl
theorem akK(ha:a<2^32)(hb:b<2^32)(hc:c<2^32):
  ag .xor .u32 (ag .xor .u32 (ag .and .u32 (a:Int) (b:Int)) (ag .and .u32 (a:Int) (c:Int))) (ag .and .u32 (b:Int) (c:Int))=((ao.maj a b c:Nat):Int):=by
 rw[zR ha hb,zR ha hc,zR hb hc,aj0 (IT ha) (IT ha) (IT hb)];rfl
theorem ate(a b c d e:Nat):((((a+b)%ao.M+c)%ao.M+d)%ao.M+e)%ao.M=(a+b+c+d+e)%ao.M:=by
 grind
theorem asM(h:W8 v)(k w:Nat):
  IntKind.u32.wrap (IntKind.u32.wrap (IntKind.u32.wrap (IntKind.u32.wrap (((v.getD 7 0:Nat):Int)+ag .xor .u32 (ag .xor .u32 ((ao.lA (v.getD 4 0) 6:Nat):Int) ((ao.lA (v.getD 4 0) 11:Nat):Int)) ((ao.lA (v.getD 4 0) 25:Nat):Int))
   +ag .xor .u32 (ag .and .u32 ((v.getD 4 0:Nat):Int) ((v.getD 5 0:Nat):Int)) (ag .and .u32 (ag .xor .u32 (if IntKind.u32.signed=true then-1 else IntKind.u32.max) ((v.getD 4 0:Nat):Int)) ((v.getD 6 0:Nat):Int)))+(k:Int))+(w:Int))
   =(((v.getD 7 0+ao.S1 (v.getD 4 0)+ao.ch (v.getD 4 0) (v.getD 5 0) (v.getD 6 0)+k+w)%ao.M:Nat):Int):=by
 rw[aj0 (lx (h.lt 4)) (lx (h.lt 4)) (lx (h.lt 4)),arc (h.lt 4) (h.lt 5) (h.lt 6),oH,oH,oH,oH,ate];rfl
theorem asL(h:W8 v):
  IntKind.u32.wrap (ag .xor .u32 (ag .xor .u32 ((ao.lA (v.getD 0 0) 2:Nat):Int) ((ao.lA (v.getD 0 0) 13:Nat):Int)) ((ao.lA (v.getD 0 0) 22:Nat):Int)
   +ag .xor .u32 (ag .xor .u32 (ag .and .u32 ((v.getD 0 0:Nat):Int) ((v.getD 1 0:Nat):Int)) (ag .and .u32 ((v.getD 0 0:Nat):Int) ((v.getD 2 0:Nat):Int))) (ag .and .u32 ((v.getD 1 0:Nat):Int) ((v.getD 2 0:Nat):Int)))
   =(((ao.S0 (v.getD 0 0)+ao.maj (v.getD 0 0) (v.getD 1 0) (v.getD 2 0))%ao.M:Nat):Int):=by
 rw[aj0 (lx (h.lt 0)) (lx (h.lt 0)) (lx (h.lt 0)),akK (h.lt 0) (h.lt 1) (h.lt 2),oH];rfl
theorem af8(h:W8 v){k w:Nat}:[IntKind.u32.wrap (IntKind.u32.wrap (IntKind.u32.wrap (IntKind.u32.wrap (IntKind.u32.wrap (((v.getD 7 0:Nat):Int)+ag .xor .u32 (ag .xor .u32 ((ao.lA (v.getD 4 0) 6:Nat):Int) ((ao.lA (v.getD 4 0) 11:Nat):Int)) ((ao.lA (v.getD 4 0) 25:Nat):Int))
   +ag .xor .u32 (ag .and .u32 ((v.getD 4 0:Nat):Int) ((v.getD 5 0:Nat):Int)) (ag .and .u32 (ag .xor .u32 (if IntKind.u32.signed=true then-1 else IntKind.u32.max) ((v.getD 4 0:Nat):Int)) ((v.getD 6 0:Nat):Int)))+(k:Int))+(w:Int))+IntKind.u32.wrap (ag .xor .u32 (ag .xor .u32 ((ao.lA (v.getD 0 0) 2:Nat):Int) ((ao.lA (v.getD 0 0) 13:Nat):Int)) ((ao.lA (v.getD 0 0) 22:Nat):Int)
   +ag .xor .u32 (ag .xor .u32 (ag .and .u32 ((v.getD 0 0:Nat):Int) ((v.getD 1 0:Nat):Int)) (ag .and .u32 ((v.getD 0 0:Nat):Int) ((v.getD 2 0:Nat):Int))) (ag .and .u32 ((v.getD 1 0:Nat):Int) ((v.getD 2 0:Nat):Int)))),
   ((v.getD 0 0:Nat):Int),((v.getD 1 0:Nat):Int),((v.getD 2 0:Nat):Int),
   IntKind.u32.wrap (((v.getD 3 0:Nat):Int)+IntKind.u32.wrap (IntKind.u32.wrap (IntKind.u32.wrap (IntKind.u32.wrap (((v.getD 7 0:Nat):Int)+ag .xor .u32 (ag .xor .u32 ((ao.lA (v.getD 4 0) 6:Nat):Int) ((ao.lA (v.getD 4 0) 11:Nat):Int)) ((ao.lA (v.getD 4 0) 25:Nat):Int))
   +ag .xor .u32 (ag .and .u32 ((v.getD 4 0:Nat):Int) ((v.getD 5 0:Nat):Int)) (ag .and .u32 (ag .xor .u32 (if IntKind.u32.signed=true then-1 else IntKind.u32.max) ((v.getD 4 0:Nat):Int)) ((v.getD 6 0:Nat):Int)))+(k:Int))+(w:Int))),
   ((v.getD 4 0:Nat):Int),((v.getD 5 0:Nat):Int),((v.getD 6 0:Nat):Int)]=nc (ao.step k w v):=by
 rw[asM h,asL h,oH,oH];rfl
variable{h:List Nat}
theorem agV{B:List Nat}(hh:h.length=8)(hi:i<8):((nc B).take i++(nc h).drop i).getD i 0=((h.getD i 0:Nat):Int)\/B.length<i:=by
 grind
theorem IX(h v:List Nat):(ao.CK h v).length=8:=by simp[ao.CK]
theorem acN{x:List Nat}(hh:h.length=8)(hi:i<8):((nc (ao.CK x v)).take i++(nc h).drop i).getD i 0=((h.getD i 0:Nat):Int):=
 (agV hh hi).resolve_right (by rw[IX];omega)
theorem agU(hh:h.length=8)(hi:i<8):((nc (ao.CK h v)).take i++(nc h).drop i).set i (((h.getD i 0+v.getD i 0)%ao.M:Nat):Int)=(nc (ao.CK h v)).take (i+1)++(nc h).drop (i+1):=by
 have hl:((nc (ao.CK h v)).take i).length=i:=by simp[IX];omega
 have hB:(nc (ao.CK h v)).length=8:=by simp[IX]
 have e:(nc h).drop i=(((h.getD i 0:Nat):Int))::(nc h).drop (i+1):=by
  rw[qD (by simp;omega)];simp[az (show i<h.length by omega)]
 rw[e,fA _ _ (by omega),hl,kF,s7,au (by omega),aX];simp[ao.CK]
theorem VR(hl:bs.length=64)(hb:∀x∈bs,x<256)(hv:Lb m (.slice (some ⟨b,o,none⟩) 64 c) (nc bs))(hc:64<=c)(hh:W8 h):
  eN tP 419 [.a [.bG .u32 8 (nc h)],.v (.slice (some ⟨b,o,none⟩) 64 c)] m [.a [.bG .u32 8 (nc (ao.block h bs))]]:=by
 refine c7 aC5 Tryz.func419 ?_;refine fU (Sp) ?_;refine fU (Px hl hb hv hc) ?_
 refine .mk (ι:=Nat) (λi=>64-i) (λi mm=>i<=64/\mm=m) (λi=>[(2,.p 0 0),(4,.p 1 0),(5,.p 2 0),(6,.p 3 0),(7,.p 4 0),(19,.c (i64 i))])
  (λi=>[(511,[.bG .u32 8 (nc h)]),(511,[.bG .u32 8 (List.replicate 8 0)]),(539,[.bG .u32 64 (nc ao.K)]),(539,[.bG .u32 64 (nc (ao.iJ bs 64))]),(511,[.bG .u32 8 (nc (ao.vS (ao.iJ bs 64) h i))])]) 0 ⟨by omega,rfl⟩ ?_ ?_
 ·exact Cr
 rintro i mm⟨hi,he⟩;subst mm;apply bI<;>intro h1
 ·have jc:=ah h1
  have bH:i<64:=by omega
  have hw:=Dd (w:=ao.iJ bs 64) hh i;generalize hvv:ao.vS (ao.iJ bs 64) h i=v at hw⊢
  repeat refine xS ?_
  simp only[Hj,bK,aA,cD,eG];refine fU (ka (n:=6) (by decide) (by decide) (hw.lt 4)) ?_;refine fU (ka (n:=11) (by decide) (by decide) (hw.lt 4)) ?_;refine fU (ka (n:=25) (by decide) (by decide) (hw.lt 4)) ?_;conv=>whnf
  simp only[Hj];refine fU (ka (n:=2) (by decide) (by decide) (hw.lt 0)) ?_;refine fU (ka (n:=13) (by decide) (by decide) (hw.lt 0)) ?_;refine fU (ka (n:=22) (by decide) (by decide) (hw.lt 0)) ?_;refine⟨i+1,⟨by omega,rfl⟩,by omega,?_⟩;rw[show ao.vS (ao.iJ bs 64) h (i+1)=ao.step (ao.K.getD i 0) ((ao.iJ bs 64).getD i 0) v by rw[<-hvv];rfl];simp only[Hj,cD,eG];conv=>whnf
  repeat (refine And.intro (by first|with_reducible rfl|(first|exact cI (qJ (by omega))|exact af8 hw)|exact cI (wi)|exact wi|rfl) ?_;conv=>whnf)
  exact xT
 ·have jc:=aj h1
  obtain rfl:i=64:=by omega
  have hw:=Dd (w:=ao.iJ bs 64) hh 64;have hB:ao.block h bs=ao.CK h (ao.vS (ao.iJ bs 64) h 64):=rfl
  refine .mk (ι:=Nat) (λi=>8-i) (λi mm=>i<=8/\mm=m) (λi=>[(2,.p 0 0),(4,.p 1 0),(99,.c (.a [.bG .u32 8 (nc (ao.vS (ao.iJ bs 64) h 64))])),(100,.c (i64 i))])
   (λi=>[(511,[.bG .u32 8 ((nc (ao.block h bs)).take i++(nc h).drop i)]),(511,[.bG .u32 8 (List.replicate 8 0)])]) 0 ⟨by omega,rfl⟩ ?_ ?_
  ·exact Cr
  rintro i mm⟨hi,he⟩;subst mm;generalize ao.vS (ao.iJ bs 64) h 64=v at hw hB⊢;apply bI<;>intro h1
  ·have jc:=ah h1
   have bH:i<8:=by omega
   repeat refine xS ?_
   simp only[Hj,bK,aA,hB,acN hh.len bH];refine⟨i+1,⟨by omega,by trivial⟩,by omega,?_⟩;conv=>whnf
   repeat (refine And.intro (by first|with_reducible rfl|(first|exact cI (qJ (by omega))|(rw[oH];exact agU hh.len bH))|exact cI (wi)|exact wi|rfl) ?_;conv=>whnf)
   exact xT
  ·have jc:=aj h1
   obtain rfl:i=8:=by omega
   refine⟨?_,rfl⟩;rw[bP (by simp[ao.block,ao.CK]),kG (by simp[hh.len]),cO]
def dgc(h:List Nat)(n:Nat):List Int:=(nc (ao.mJ h)).take n++List.replicate (32-n) 0
theorem Iv(h:List Nat):(ao.mJ h).length=32:=by simp[ao.mJ]
theorem ah7{k:Nat}(hi:i<8)(hk:k<4):(dgc h (4*i+k)).set (4*i+k) ((h.getD i 0/256^(3-k)%256:Nat):Int)=dgc h (4*i+(k+1)):=by
 have hB:(nc (ao.mJ h)).length=32:=by simp[Iv]
 have hl:((nc (ao.mJ h)).take (4*i+k)).length=4*i+k:=by rw[aK];omega
 have e:List.replicate (32-(4*i+k)) (0:Int)=0::List.replicate (32-(4*i+(k+1))) 0:=by
  rw[<-List.replicate_succ];congr 1;omega
 have d1:(4*i+k)/4=i:=by omega
 have d2:(4*i+k)%4=k:=by omega
 rw[dgc,e,fA _ _ (by omega),hl,kF,s7,dgc,show 4*i+(k+1)=4*i+k+1 by omega,au (by omega),aX];simp[ao.mJ,d1,d2]
theorem ail{k:Nat}(hk:k<4):IntKind.u8.wrap (oV .u32 (x:Int) ((24-8*k:Nat):Int))=((x/256^(3-k)%256:Nat):Int):=by
 rw[nZ (by show 24-8*k<=32;omega),IntKind.wrap_u8]
 have:2^(24-8*k)=256^(3-k):=by
  rw[show(256:Nat)=2^8 from rfl,<-Nat.pow_mul];congr 1;omega
 grind
theorem Se:eN tP 420 [.a [.bG .u32 8 (nc h)]] m [.a [.bG .u8 32 (nc (ao.mJ h))]]:=by
 refine ap Tryz.func420 ?_
 refine .mk (ι:=Nat) (λi=>8-i) (λi mm=>i<=8/\mm=m) (λi=>[(2,.p 1 0),(3,.p 2 0),(7,.c (.a [.bG .u32 8 (nc h)])),(8,.c (i64 i))])
  (λi=>[(511,[.bG .u32 8 (nc h)]),(60,[.bG .u8 32 (List.replicate 32 0)]),(60,[.bG .u8 32 (dgc h (4*i))])]) 0 ⟨by omega,rfl⟩ ?_ ?_
 ·exact Cr
 rintro i mm⟨hi,he⟩;subst mm;apply bI<;>intro h1
 ·have jc:=ah h1
  have bH:i<8:=by omega
  repeat refine xS ?_
  simp only[Hj,bK,aA]
  refine .mk (ι:=Nat) (λk=>4-k) (λk mm=>k<=4/\mm=m) (λk=>[(2,.p 1 0),(3,.p 2 0),(4,.c (i64 i)),(5,.c (u32 ((h.getD i 0:Nat):Int))),(7,.c (.a [.bG .u32 8 (nc h)])),(8,.c (i64 i)),(12,.c (i64 k))])
   (λk=>[(511,[.bG .u32 8 (nc h)]),(60,[.bG .u8 32 (List.replicate 32 0)]),(60,[.bG .u8 32 (dgc h (4*i+k))])]) 0 ⟨by omega,rfl⟩ ?_ ?_
  ·exact Cr
  rintro k mm⟨hk,he⟩;subst mm;apply bI<;>intro h2
  ·have iD:=ah h2
   have hkt:k<4:=by omega
   have e1:IntKind.i64.wrap (IntKind.i64.wrap (4*(i:Int))+(k:Int))=((4*i+k:Nat):Int):=by rw[wi (n:=4*(i:Int)) (by omega) (by omega),wi];omega
   have e2:IntKind.i64.wrap (24-IntKind.i64.wrap (8*(k:Int)))=((24-8*k:Nat):Int):=by rw[wi (n:=8*(k:Int)) (by omega) (by omega),wi];omega
   conv=>whnf
   rw[e1,e2]
   repeat refine xS ?_
   simp only[bK,aA,ail hkt];refine⟨k+1,⟨by omega,by trivial⟩,by omega,?_⟩;conv=>whnf
   repeat (refine And.intro (by first|with_reducible rfl|(first|exact cI (qJ (by omega))|exact ah7 bH hkt)|exact cI (wi)|exact wi|rfl) ?_;conv=>whnf)
   exact xT
  ·have iD:=aj h2
   obtain rfl:k=4:=by omega
   refine⟨i+1,⟨by omega,by trivial⟩,by omega,?_⟩;conv=>whnf
   repeat (refine And.intro (by first|with_reducible rfl|(first|exact cI (qJ (by omega))|rfl)|exact cI (wi)|exact wi|rfl) ?_;conv=>whnf)
   exact xT
 ·have jc:=aj h1
  obtain rfl:i=8:=by omega
  refine⟨?_,rfl⟩;rw[dgc,bP (by simp[Iv])];simp
theorem Dx(a b:List Nat):nc (a++b)=nc a++nc b:=by simp[nc]
theorem O1{k:Nat}(hk:k<=ao.fx n):(n+1+k)%64=56↔k=ao.fx n:=by
 unfold ao.fx at*;omega
theorem CG(n:Nat):(ao.be8 n).length=8:=by simp[ao.be8]
theorem aeY(hj:j<8):IntKind.u8.wrap (oV .u64 (n:Int) ((8*(7-j):Nat):Int))=((n/256^(7-j)%256:Nat):Int):=by
 rw[nZ (by show 8*(7-j)<=64;omega),IntKind.wrap_u8];have:2^(8*(7-j))=256^(7-j):=by rw[show(256:Nat)=2^8 from rfl,<-Nat.pow_mul]
 grind
theorem aeX(hj:j<8):(ao.be8 n).take j++[n/256^(7-j)%256]=(ao.be8 n).take (j+1):=by
 rw[au (by rw[CG];exact hj)];simp[ao.be8]
variable{l:List Nat}{v:Value}{ps:List (Value×List Int)}
theorem P5(h:jL m v ps)(Ve:oT ps=nc l)(hb:l.length<=9000000)(hn:ps.length<=10000000):
  bi tP 418 [.v v] m λr m'=>∃v' p,r=[.v v']/\aq m' [p,m]/\Bs p v' (nc (ao.Ab l)):=by
 have hlen:(oT ps).length=l.length:=by rw[Ve];simp
 refine ap Tryz.func418 ?_;refine aP (EX h (by omega) hn) ?_;rintro _ m1⟨v1,p1,rfl,bM,lZ⟩;conv=>whnf
 rw[Ve]at lZ;obtain⟨a1,c1,rfl⟩:=lZ.lb.shape;refine .mk _ (Bt) ?_;rintro _ _⟨b',qB,rfl,rfl⟩;refine .mk _ (Bs.one bM qB lZ (by simp;omega)) ?_;rintro _ m2⟨v2,p2,rfl,bZ,lD⟩;have hz:ao.fx l.length<64:=fo _ (by decide);have en:IntKind.u64.wrap (IntKind.u64.wrap ((l.length:Nat):Int)*8)=((8*l.length:Nat):Int):=by rw[wu (n:=((l.length:Nat):Int)) (by omega) (by omega),wu];omega
 refine .mk (ι:=Nat×Value) (λi=>ao.fx l.length-i.1) (λ⟨k,x⟩ mm=>k<=ao.fx l.length/\∃p,aq mm [p,m]/\Bs p x (nc (l++[128]++List.replicate k 0))) (λ⟨k,x⟩=>[(3,.c (.v x)),(4,.c (u64 ((8*l.length:Nat):Int)))]) (λ_=>[]) (0,v2) ⟨by omega,p2,bZ,by simpa using lD⟩ ?_ ?_
 ·conv=>whnf
  repeat (refine And.intro (by first|with_reducible rfl|((first|exact cI en|(simp only[nc,aH];exact cI en)))|exact cI (wi)|exact wi|rfl) ?_;conv=>whnf)
  exact xT
 rintro⟨k,x⟩ mm ⟨hk,p,hs,hx⟩;obtain⟨a,c,rfl⟩:=hx.lb.shape;have ZA:(nc (l++[128]++List.replicate k 0)).length=l.length+1+k:=by simp;omega
 rw[ZA]at hx⊢;have aqZ:Int.tmod ((l.length+1+k:Nat):Int) 64=(((l.length+1+k)%64:Nat):Int):=by rw[Int.tmod_eq_emod_of_nonneg (by omega)];omega
 apply bI<;>intro h1
 ·have ga:k≠ao.fx l.length:=by
   intro e;have:=(O1 hk).2 e;simp only[aqZ,this]at h1
   revert h1;decide
  refine .mk _ (Bt) ?_;rintro _ _⟨b',qB,rfl,rfl⟩;refine .mk _ (Bs.one hs qB hx (by simp;omega)) ?_;rintro _ m3⟨v3,p3,rfl,dy,tX⟩;refine⟨(k+1,v3),⟨by omega,p3,dy,?_⟩,by simp only;omega,?_⟩
  ·have e:nc (l++[128]++List.replicate (k+1) 0)=nc (l++[128]++List.replicate k 0)++[0]:=by
    rw[List.replicate_succ',<-aX,Dx];rfl
   rw[e];exact tX
  ·exact Cr
 ·have hke:k=ao.fx l.length:=by
   refine(O1 hk).1 ?_;simp only[aqZ]at h1;have:=h1;simp at this;omega
  subst hke;refine .mk (ι:=Nat×Value) (λi=>8-i.1) (λ⟨j,x⟩ mm=>j<=8/\∃p,aq mm [p,m]/\Bs p x (nc (l++[128]++List.replicate (ao.fx l.length) 0++(ao.be8 (8*l.length)).take j))) (λ⟨j,x⟩=>[(3,.c (.v x)),(4,.c (u64 ((8*l.length:Nat):Int))),(5,.c (i64 (7-(j:Int))))]) (λ_=>[]) (0,_) ⟨by omega,p,hs,by simpa using hx⟩ ?_ ?_
  ·exact Cr
  rintro⟨j,x⟩ mm ⟨hj,p,hs,hx⟩;apply bI<;>intro h2
  ·have iD:=ah h2
   have hjt:j<8:=by omega
   have ej:IntKind.i64.wrap (8*(7-(j:Int)))=((8*(7-j):Nat):Int):=by rw[wi];omega
   conv=>whnf
   rw[ej]
   repeat (refine xS ?_;conv=>whnf)
   rw[aeY hjt];refine .mk _ (Bt) ?_;rintro _ _⟨b',qB,rfl,rfl⟩;refine .mk _ (Bs.one hs qB hx (by simp[CG];omega)) ?_;rintro _ m3⟨v3,p3,rfl,dy,tX⟩;refine⟨(j+1,v3),⟨by omega,p3,dy,?_⟩,by simp only;omega,?_⟩
   ·have e:nc (l++[128]++List.replicate (ao.fx l.length) 0++(ao.be8 (8*l.length)).take (j+1))=nc (l++[128]++List.replicate (ao.fx l.length) 0++(ao.be8 (8*l.length)).take j)++[((8*l.length/256^(7-j)%256:Nat):Int)]:=by
     rw[<-aeX hjt,<-aX,Dx (l++[128]++List.replicate (ao.fx l.length) 0++(ao.be8 (8*l.length)).take j)];rfl
    rw[e];exact tX
   ·conv=>whnf
    repeat (refine And.intro (by first|with_reducible rfl|(exact cI (by rw[wi];omega))|exact cI (wi)|exact wi|rfl) ?_;conv=>whnf)
    exact xT
  ·have iD:=aj h2
   obtain rfl:j=8:=by omega
   conv=>whnf
   rw[bP (by rw[CG];omega)]at hx;exact⟨_,p,rfl,hs,hx⟩
abbrev cx(b:Nat):CV:=.v (.pointer (some ⟨b,0,none⟩))
theorem VN(hv:v.oneCell'=true):bi tP 417 [.v v,.v (.int .i64 64)] m λr m'=>∃b1 b2,m b1=none/\(m.set b1 (.cells #[v] 118)) b2=none/\
  r=[.v (.func (.func 448) #[] #[.pointer (some ⟨b1,0,none⟩),.pointer (some ⟨b2,0,none⟩)])]/\m'=(m.set b1 (.cells #[v] 118)).set b2 (.cells #[.int .i64 64] 3):=by
 refine c7 aC6 Tryz.func417 ?_;intro b1 kW;intro b2 oM;refine xM (aD.bg ..) ?_;refine xN ?_;refine .mk _ (df (cs:=[.pointer (some ⟨b1,0,none⟩),.pointer (some ⟨b2,0,none⟩)]) (by simp[Value.oneCell'])) ?_;rintro _ _⟨rfl,rfl⟩;exact⟨b1,b2,kW,oM,rfl,rfl⟩
abbrev Wy(b o k:Nat):CV:=.v (.slice (some ⟨b,o+64*k,none⟩) 64 64)
theorem II{I:Nat->aD->Prop}{l b1 b2 b o n c:Nat}(hn:n<=1000000000)(hc:64*n<=c)
  (hI:∀k m,I k m->m b1=some (.cells #[.slice (some ⟨b,o,none⟩) (64*n) c] 118)/\m b2=some (.cells #[.int .i64 64] 3))
  (hy:∀k m,k<n->I k m->CL tP l [Wy b o k] m λr m'=>r=[.v (.bool true)]/\I (k+1) m') {m:aD} (h0:I 0 m):
  bi tP 448 [.v (.func (.yield l) #[] #[]),cx b1,cx b2] m λr m'=>r=[]/\I n m':=by
 refine c7 aC2 Tryz.func448 ?_;refine .mk (ι:=Nat) (λk=>n-k) (λk mm=>k<=n/\I k mm) (λk=>[(0,.c (.v (.func (.yield l) #[] #[]))),(1,.c (cx b1)),(2,.c (cx b2)),(4,.c (i64 ((64*k:Nat):Int)))]) (λ_=>[]) 0 ⟨by omega,h0⟩ ?_ ?_
 ·exact Cr
 rintro k mm⟨hk,hi⟩;obtain⟨g1,g2⟩:=hI k mm hi;refine⟨.slice (some ⟨b,o,none⟩) (64*n) c,aF g1 rfl,rfl,?_⟩;apply bI<;>intro h1
 ·have jc:=ah h1
  have bH:k<n:=by omega
  refine⟨.int .i64 64,aF g2 rfl,rfl,?_⟩;refine⟨.slice (some ⟨b,o,none⟩) (64*n) c,aF g1 rfl,rfl,?_⟩;have e:min (64:Int) (((64*n-(((64*k:Nat):Int)).toNat:Nat):Int))=64:=by omega
  repeat refine xS ?_
  intro o1 I8 ho2
  have I8:o1=o+64*k:=by
   by_cases ZI:c=64*k
   ·omega
   ·have:=I8 ZI
    have h2:(({k:=TK.int Go.IntKind.u8,size:=1,bytes:=1,zero:=[eB.one (Value.int Go.IntKind.u8 0)],eq:=false}:TI)).size=1:=rfl;rw[this,h2];omega
  subst o1;refine⟨.slice (some ⟨b,o,none⟩) (64*n) c,aF g1 rfl,rfl,?_⟩;conv=>whnf
  rw[e];have w1:Go.IntKind.wrap .i64 (((64*k:Nat):Int)+64)=((64*k+64:Nat):Int):=wi;rw[w1]
  repeat refine xS ?_
  intro o2 ho3 _;have h2:(({k:=TK.int Go.IntKind.u8,size:=1,bytes:=1,zero:=[eB.one (Value.int Go.IntKind.u8 0)],eq:=false}:TI)).size=1:=rfl
  obtain rfl:o2=o+64*k:=by
   rw[ho3 (by omega),h2];omega
  have w2:(((64*k+64:Nat):Int)).toNat-(((64*k:Nat):Int)).toNat=64:=by omega
  conv=>whnf
  rw[w2];refine .mk _ (hy k mm bH hi) ?_;rintro _ m'⟨rfl,HR⟩;refine xN ?_;refine⟨.int .i64 64,aF (hI _ _ HR).2 rfl,rfl,?_⟩;refine⟨k+1,?_⟩;refine⟨⟨by omega,HR⟩,by omega,?_⟩;rw[w1];exact Cr
  all_goals exact cI (by omega)
 ·have jc:=aj h1
  obtain rfl:k=n:=by omega
  exact⟨rfl,hi⟩
theorem Lb.Wy{l:List Int}(h:Lb m (.slice (some ⟨b,o,none⟩) n c) l)(i len:Nat)(hk:i+len<=l.length):Lb m (.slice (some ⟨b,o+i,none⟩) len len) ((l.drop i).take len):=by
 rcases h.cases with⟨c,h1,h2⟩|⟨b',o',c',arr,t,fr,h1,h2,h3,h4⟩
 ·cases h1
 ·cases h1
  refine Lb.mk h2 (by simp;omega) (aW _) (λj x hj=>?_)
  grind
theorem Lb.cap{l:List Int}(h:Lb m (.slice (some ⟨b,o,none⟩) n c) l):l.length<=c:=by
 rcases h.cases with⟨c,h1,h2⟩|⟨b',o',c',arr,t,fr,h1,h2,h3,h4⟩
 ·cases h1
 grind
theorem yY:∀(k:Nat) (h p:List Nat),ao.ke h (k+1) p=ao.block (ao.ke h k p) ((p.drop (64*k)).take 64)
 |0,h,p=>by simp[ao.ke]
 |k+1,h,p=>by
  rw[ao.ke,yY k,ao.ke,dU]
  congr 3;omega
theorem aiE(h v:List Nat):W8 (ao.CK h v):=by
 refine⟨by simp[ao.CK],λj=>Cd (by decide) (λx hx=>?_) j⟩;simp only[ao.CK,aV]at hx
 grind
theorem Md(hh:W8 h)(p:List Nat):∀k,W8 (ao.ke h k p)
 |0=>hh
 |k+1=>by rw[yY];exact aiE _ _
theorem ajZ:W8 ao.H0:=⟨rfl,λj=>Cd (by decide) (by decide) j⟩
theorem ags(l:List Nat):(ao.Ab l).length=64*((ao.Ab l).length/64):=by
 have:(ao.Ab l).length%64=0:=by
  simp only[ao.Ab,ax,List.length_replicate,CG,ae,cW,ao.fx];omega
 omega
theorem aky(l:List Nat):(ao.Ab l).length<=l.length+73:=by
 simp only[ao.Ab,ax,List.length_replicate,CG,ae,cW,ao.fx];omega
theorem aco(h:∀x∈l,x<256):∀x∈ao.Ab l,x<256:=by
 intro x hx;simp only[ao.Ab,aR,aL,List.mem_replicate,ao.be8,aV]at hx
 grind
theorem G9{old:List Value}{new:LB}{t:TypeId}(hk:old.length<=LB.size new):Obj.cells ((old.toArray).toList.take 0++(LB.cz new++(old.toArray).toList.drop (0+LB.size new))).toArray t= .cells (LB.cz new).toArray t:=by
 simp_all
abbrev Wq(h:List Nat):Obj:=.cells (LB.cz [.bG .u32 8 (nc h)]).toArray 511
abbrev Cv(h:List Int):Obj:=.cells (LB.cz [.bG .u8 32 h]).toArray 60
theorem Gk(h:jL m v ps)(Ve:oT ps=nc l)(hb:l.length<=9000000)(hn:ps.length<=10000000)(xt:∀x∈l,x<256):
  bi tP 382 [.v v] m λr m'=>r=[.a [.bG .u8 32 (nc (ao.sum l))]]/\cL m m':=by
 refine c7 aDb Tryz.func382 ?_;intro bo Xj;refine bt (Vp) ?_;intro b3 Ah;refine⟨_,_,_,aD.bg ..,⟨by decide,λj _=>by simp⟩,?_⟩;have hs:=(((aq.one m).new Xj (Cv (List.replicate 32 0))).new Ah (Wq (List.replicate 8 0))).gu (i:=0) rfl (aG ..) (Wq ao.H0);rw[cJ]at hs
 change aq _ [blk1 b3 (Wq ao.H0),blk1 bo (Cv (List.replicate 32 0)),m]at hs
 obtain⟨M1,hM⟩:∃M1,M1=((m.set bo (Cv (List.replicate 32 0))).set b3 (Wq (List.replicate 8 0))).set b3 (Wq ao.H0):=⟨_,rfl⟩;rw[<-hM]at hs
 change nR _ _ _ (((m.set bo (Cv (List.replicate 32 0))).set b3 (Wq (List.replicate 8 0))).set b3 (Wq ao.H0)) _
 rw[<-hM];have MS:cL m M1:=hs.sub (by simp);refine aP (P5 ⟨h.eF.sub MS,λp hp=>(h.la p hp).sub MS⟩ Ve hb hn) ?_;rintro _ m1⟨v',p,rfl,bM,lZ⟩;have bM:=bM.under (a:=[p]) hs;refine aP (VN lZ.lb.one) ?_;rintro _ m2⟨c1,c2,hc1,hc2,rfl,rfl⟩;have bZ:=(bM.new hc1 _).new hc2 (.cells #[.int .i64 64] 3);have CU:=ags l;have hpe:=aky l;have ga:nc (ao.Ab l)≠[]:=by simp[nc,ao.Ab]
 obtain⟨b,o,c,rfl⟩:=lZ.lb.real ga;have yA:=Lb.cap lZ.lb;have wz:(nc (ao.Ab l)).length=(ao.Ab l).length:=by simp
 obtain⟨n,kV⟩:∃n,n=(ao.Ab l).length/64:=⟨_,rfl⟩;rw[<-kV]at CU;rw[wz]at yA;have hlb:=lZ.lb;rw[wz,CU]at hlb bZ⊢
 refine .mk 448 #[.pointer (some ⟨c1,0,none⟩),.pointer (some ⟨c2,0,none⟩)] rfl rfl rfl (ι:=Nat)
  (λk mm=>k<=n/\aq mm [blk1 c2 (.cells #[.int .i64 64] 3),blk1 c1 (.cells #[.slice (some ⟨b,o,none⟩) (64*n) c] 118),p,blk1 b3 (Wq (ao.ke ao.H0 k (ao.Ab l))),blk1 bo (Cv (List.replicate 32 0)),m]) 0 ⟨by omega,bZ⟩
  (λk x j=>x=[Wy b o k]/\j=k+1/\k<n) (λk x j ⟨h1,_⟩=>by subst h1;rfl) ?_
  (λmm=>aq mm [blk1 c2 (.cells #[.int .i64 64] 3),blk1 c1 (.cells #[.slice (some ⟨b,o,none⟩) (64*n) c] 118),p,blk1 b3 (Wq (ao.ke ao.H0 n (ao.Ab l))),blk1 bo (Cv (List.replicate 32 0)),m]) ?_ ?_
 ·rintro k _ _ mm⟨hk,hs⟩ ⟨rfl,rfl,bH⟩
  have hw:=Md ajZ (ao.Ab l) k;refine⟨[.bG .u32 8 (nc (ao.ke ao.H0 k (ao.Ab l)))],⟨show(nc _).length=8 by simp[hw.len],trivial⟩,rfl,dQ.Wl [] [] (hs.get (a:=blk1 b3 (Wq (ao.ke ao.H0 k (ao.Ab l)))) (by simp) (aG ..)) rfl,?_⟩;have hpc:=Lb.Wy (hlb.sub (hs.sub (a:=p))) (64*k) 64 (by rw[wz];omega);have e1:((nc (ao.Ab l)).drop (64*k)).take 64=nc (((ao.Ab l).drop (64*k)).take 64):=by simp only[nc,List.map_drop,jJ]
  rw[e1]at hpc;refine bt (VR (by simp;omega) (λx hx=>aco xt x (fk (bX hx))) hpc (aW _) hw) ?_;have hg:=hs.get (a:=blk1 b3 (Wq (ao.ke ao.H0 k (ao.Ab l)))) (by simp) (aG ..);have Ad:(LB.cz [.bG .u32 8 (nc (ao.ke ao.H0 k (ao.Ab l)))]).length=8:=by simp[LB.cz,eB.cells,hw.len]
  refine⟨_,_,_,hg,⟨by show 0+8<=(LB.cz _).toArray.size;simp only[dM];omega,λj _=>by simp⟩,?_⟩;rw[G9 (by show _<=8;omega)];refine⟨bH,?_⟩;have qW:=hs.gu (i:=3) rfl (aG ..) (Wq (ao.ke ao.H0 (k+1) (ao.Ab l)));rw[cJ]at qW;rw[<-yY];exact qW
 ·intro lb ob _ sI
  refine(II (I:=λk mm=>∃m1,(k<=n/\aq m1 [blk1 c2 (.cells #[.int .i64 64] 3),blk1 c1 (.cells #[.slice (some ⟨b,o,none⟩) (64*n) c] 118),p,blk1 b3 (Wq (ao.ke ao.H0 k (ao.Ab l))),blk1 bo (Cv (List.replicate 32 0)),m])/\m1 lb=none/\mm=m1.set lb ob) (l:=lb) (b1:=c1) (b2:=c2) (b:=b) (o:=o) (n:=n) (c:=c) (by omega) (by omega) ?_ ?_ ⟨_,⟨lF _,bZ⟩,by assumption,rfl⟩).mono ?_
  ·rintro k mm⟨m1,⟨_,hs⟩,hl,rfl⟩
   have g1:=hs.get (a:=blk1 c1 (.cells #[.slice (some ⟨b,o,none⟩) (64*n) c] 118)) (by simp) (aG ..);have g2:=hs.get (a:=blk1 c2 (.cells #[.int .i64 64] 3)) (by simp) (aG ..);exact⟨by rw[aD.eH _ _ (by rintro rfl;rw[hl]at g1;cases g1)];exact g1,by rw[aD.eH _ _ (by rintro rfl;rw[hl]at g2;cases g2)];exact g2⟩
  ·rintro k mm hk⟨m1,hi,hl,rfl⟩
   exact sI k _ _ m1 hi ⟨rfl,rfl,hk⟩ hl
  ·rintro r m'⟨rfl,m1,⟨_,hs⟩,hl,rfl⟩
   exact⟨m1,hs,hl,rfl⟩
 ·intro mm hs
  have hw:=Md ajZ (ao.Ab l) n;refine⟨[.bG .u32 8 (nc (ao.ke ao.H0 n (ao.Ab l)))],⟨show(nc _).length=8 by simp[hw.len],trivial⟩,rfl,dQ.Wl [] [] (hs.get (a:=blk1 b3 (Wq (ao.ke ao.H0 n (ao.Ab l)))) (by simp) (aG ..)) rfl,?_⟩;refine bt (Se) ?_;have hg:=hs.get (a:=blk1 bo (Cv (List.replicate 32 0))) (by simp) (aG ..);refine⟨_,_,_,hg,⟨aW 32,λj _=>by simp⟩,?_⟩;rw[G9 (show(LB.cz [.bG .u8 32 (List.replicate 32 0)]).length<=LB.size [.bG .u8 32 (nc (ao.mJ (ao.ke ao.H0 n (ao.Ab l))))] from aW 32)];have qW:=hs.gu (i:=4) rfl (aG ..) (Cv (nc (ao.mJ (ao.ke ao.H0 n (ao.Ab l)))));rw[cJ]at qW
  change aq _ [_,_,_,_,_,_]at qW
  refine⟨[.bG .u8 32 (nc (ao.mJ (ao.ke ao.H0 n (ao.Ab l))))],⟨show(nc _).length=32 by simp[ao.mJ],trivial⟩,rfl,dQ.Wl [] [] (aD.bg ..) rfl,?_⟩;exact⟨by rw[ao.sum,<-kV],qW.sub⟩
theorem ajS:oT [(v,nc l)]=nc l:=by simp[oT]
def pt(l:List Nat)(i:Nat):Nat:=(List.range i).foldl (λn i=>n*256+(ao.sum l).getD i 0) 0
theorem M4(l:List Nat)(i:Nat):pt l (i+1)=pt l i*256+(ao.sum l).getD i 0:=by simp[pt,List.range_succ]
theorem MA(l:List Nat)(i:Nat):(ao.sum l).getD i 0<256:=by
 refine Cd (by decide) (λx hx=>?_) i;simp only[ao.sum,ao.mJ,aV]at hx;omega
theorem ace(l:List Nat):∀i,pt l i<256^i
 |0=>by simp[pt]
 |i+1=>by
  have:=ace l i;have:=MA l i
  rw[M4,gN];omega
theorem asX(hx:x<72057594037927936):nC .u64 (x:Int) 8=((x*256:Nat):Int):=by
 show IntKind.u64.wrap ((x:Int)*2^(min ((8:Int).toNat) 64))=_
 have:(min ((8:Int).toNat) 64)=8:=by decide
 rw[this,show((2:Int)^8)=256 from rfl,wu];omega
theorem aoJ(hi:i<8):ag .or .u64 (nC .u64 ((pt l i:Nat):Int) 8) (IntKind.u64.wrap (((ao.sum l).getD i 0:Nat):Int))=((pt l (i+1):Nat):Int):=by
 have h1:=ace l i;have h2:(256:Nat)^i<=256^7:=pQ (by decide) (by omega);rw[show(256:Nat)^7=72057594037927936 from rfl]at h2;have h3:=MA l i;rw[M4];generalize pt l i=x at h1⊢;generalize (ao.sum l).getD i 0=y at h3⊢;have hx:x<72057594037927936:=fR h1 h2;rw[asX hx,wu (n:=(y:Int)) (by omega) (by omega),Uo (fR (show x*256<18446744073709551616 by omega) (by decide)) (fR h3 (by decide))];have:=@Dp x y 8 (by simpa using h3)
 grind
theorem GY(hv:La m v (nc l))(hb:l.length<=9000000)(xt:∀x∈l,x<256):
  bi tP 403 [.v v] m λr m'=>r=[.v (.int .u64 ((ao.uW l:Nat):Int))]/\cL m m':=by
 refine c7 aC8 Tryz.func403 ?_;refine .mk _ (CC) ?_;rintro _ _⟨b1,kW,rfl,rfl⟩;refine aP (Gk (l:=l) (jL.Je (ps:=[(v,nc l)]) (aD.bg ..) rfl (by simpa using hv.sub (aD.bT _ kW))) ajS hb (by simp) xt) ?_;rintro _ m1⟨rfl,bM⟩;intro b2 oM;have hd:(nc (ao.sum l)).length=32:=by simp[ao.sum,ao.mJ]
 refine⟨_,_,_,aD.bg ..,⟨aW 32,λj _=>by simp⟩,?_⟩;rw[G9 (show(LB.cz [.bG .u8 32 (List.replicate 32 0)]).length<=LB.size [.bG .u8 32 (nc (ao.sum l))] from aW 32),aD.set_set];have bZ:cL m1 (m1.set b2 (Cv (nc (ao.sum l)))):=aD.bT _ oM;have MS:cL m (m1.set b2 (Cv (nc (ao.sum l)))):=((aD.bT _ kW).trans bM).trans bZ;have hg:(m1.set b2 (Cv (nc (ao.sum l)))) b2=some (Cv (nc (ao.sum l))):=aD.bg ..;conv=>whnf
 change (0<=(8:Int)/\(8:Int)<=((32:Nat):Int))/\_
 refine⟨by omega,?_⟩;intro o' ho _;obtain rfl:o'=0:=by have:=ho (by decide);simpa using this
 obtain⟨M,hM⟩:∃M,M=m1.set b2 (Cv (nc (ao.sum l))):=⟨_,rfl⟩;conv=>whnf
 rw[<-hM]at hg MS;refine .mk (ι:=Nat) (λi=>8-i) (λi mm=>i<=8/\mm=M) (λi=>[(3,.c (.v (.int .u64 ((pt l i:Nat):Int)))),(10,.c (.v (.slice (some ⟨b2,0,none⟩) 8 32))),(11,.c (i64 8)),(12,.c (i64 i))]) (λ_=>[]) 0 ⟨by omega,hM.symm⟩ ?_ ?_
 ·exact Cr
 rintro i mm⟨hi,he⟩;subst mm;apply bI<;>intro h1
 ·have jc:=ah h1
  have bH:i<8:=by omega
  repeat refine xS ?_
  have JS:gR M b2 (0+i)=some (.int .u8 (((ao.sum l).getD i 0:Nat):Int)):=by
   refine aF hg ?_;simp[LB.cz,eB.cells,az (show i<(ao.sum l).length by simp at hd;omega)]
  refine⟨_,JS,rfl,?_⟩;refine⟨i+1,⟨by omega,by trivial⟩,by omega,?_⟩;conv=>whnf
  repeat (refine And.intro (by first|with_reducible rfl|(first|exact cI (qJ (by omega))|exact cI (aoJ bH))|exact cI (wi)|exact wi|rfl) ?_;conv=>whnf)
  exact xT
 ·have jc:=aj h1
  obtain rfl:i=8:=by omega
  exact⟨rfl,MS⟩
namespace Tr
end Tr
abbrev ajP(d:List Nat):CV:=.a [.bG .u8 32 (nc d)]
theorem aqO:∃ti,tt.get 62=some ti/\ti.k= .slice 60:=⟨_,rfl,rfl⟩
theorem hDg:∃ti,tt.get 60=some ti/\ti.size=32/\ti.bytes=32/\(LB.cz ti.zero).length=32:=⟨_,rfl,rfl,rfl,rfl⟩
def IB(D:List (List Nat)):List Value:=D.flatMap λd=>(nc d).map (Value.int .u8)
def D32(D:List (List Nat)):Prop:=∀d∈D,d.length=32
theorem VI(a b:List (List Nat)):IB (a++b)=IB a++IB b:=by simp[IB]
theorem zG:∀{D:List (List Nat)},D32 D->(IB D).length=D.length*32
 |[],_=>rfl
 |d::D,h=>by
  have ih:=zG (D:=D) λx hx=>h x (by simp[hx]);have:=h d (by simp);simp only[IB,dw,ax,aH,ae]at ih⊢;omega
variable{D:List (List Nat)}
theorem ah9:∀u∈IB D,u.oneCell'=true:=by
 intro u hu;obtain⟨d,_,h⟩:=iu.1 hu;obtain⟨x,_,rfl⟩:=aV.1 h;rfl
theorem aez:∀{D:List (List Nat)}{i j:Nat}{u:Value},D32 D->(hi:i<D.length)->((nc D[i]).map (Value.int .u8))[j]?=some u->(IB D)[i*32+j]?=some u
 |d::D,0,j,u,h,_,hu=>by
  have hl:=(aQ.1 hu).1;simp only[IB,dw];rw[aT (by simpa using hl)];simpa using hu
 |d::D,i+1,j,u,h,hi,hu=>by
  have hd:=h d (by simp);have ih:=aez (D:=D) (i:=i) (j:=j) (u:=u) (λx hx=>h x (by simp[hx])) (by simpa using hi) (by simpa using hu);simp only[IB,dw]at ih⊢;rw[bJ (by simp[hd];omega)];simp only[aH,hd];rw[show(i+1)*32+j-32=i*32+j by omega];exact ih
structure Gdl(m:aD)(v:Value)(D:List (List Nat)):Prop where
 eF:gq m 32 v (IB D)
 ok:D32 D
structure I0(m:aD)(v:Value)(D:List (List Nat)):Prop where
 ux:mf m 60 32 v (IB D)
 ok:D32 D
def OO(m:aD)(v:Value)(D:List (List Nat)):Prop:=Gdl m v D\/(D=[]/\∃a,v= .slice (some a) 0 0)
variable{m:aD}{v:Value}
theorem Gdl.sub{m':aD}(h:Gdl m v D)(hs:cL m m'):Gdl m' v D:=⟨h.eF.sub hs,h.ok⟩
theorem I0.dl(h:I0 m v D):Gdl m v D:=⟨h.ux.eF,h.ok⟩
theorem Gdl.da(h:Gdl m v D):OO m v D:=.inl h
theorem OO.sub{m':aD}(h:OO m v D)(hs:cL m m'):OO m' v D:=h.imp (·.sub hs) id
theorem OO.ok(h:OO m v D):D32 D:=by
 rcases h with h|⟨rfl,_⟩
 ·exact h.ok
 ·intro d hd;cases hd
theorem I0.nil(m:aD):I0 m (.slice none 0 0) []:=⟨.inl ⟨rfl,rfl⟩,λd hd=>by cases hd⟩
theorem Gdl.shape(h:Gdl m v D):∃a c,v= .slice a D.length c:=by
 have hl:=zG h.ok;rcases h.eF with⟨c,rfl,e⟩|⟨b,o,c,n,arr,t,fr,rfl,_,e,_⟩
 ·(simp_all;omega)
 grind
theorem OO.shape(h:OO m v D):∃a c,v= .slice a D.length c:=by
 rcases h with h|⟨rfl,a,rfl⟩
 ·exact h.shape
 simp_all
theorem Gdl.real(h:Gdl m v D){i:Nat}(hi:i<D.length):∃b o c,v= .slice (some ⟨b,o,none⟩) D.length c/\∀j (hj:j<D.length),dQ m b (o+j*32) (LB.cz [.bG .u8 32 (nc D[j])]):=by
 have hl:=zG h.ok;rcases h.eF with⟨c,rfl,e⟩|⟨b,o,c,n,arr,t,fr,rfl,g1,e,_,g2,_⟩
 ·grind
 ·have:D.length=n:=by omega
  refine⟨b,o,c,by rw[this],λj hj=>⟨arr,t,fr,g1,λk u hu=>?_⟩⟩;rw[gi];exact g2 _ _ (aez h.ok hj (by simpa [LB.cz,eB.cells]using hu))
theorem OO.real(h:OO m v D){i:Nat}(hi:i<D.length):∃b o c,v= .slice (some ⟨b,o,none⟩) D.length c/\∀j (hj:j<D.length),dQ m b (o+j*32) (LB.cz [.bG .u8 32 (nc D[j])]):=by
 rcases h with h|⟨rfl,_⟩
 ·exact h.real hi
 ·simp at hi
theorem SA{d:List Nat}(hd:d.length=32):bF tP (.buildSlice 62 1 [0]) [ajP d] m λr m'=>∃b,m b=none/\r=[.v (.slice (some ⟨b,0,none⟩) 1 1)]/\m'=m.set b (.cells (IB [d]).toArray 60):=by
 obtain⟨ti,h1,h2⟩:=aqO;obtain⟨ei,g1,g2,g3,g4⟩:=hDg;refine(dm (n:=1) eR h1 h2 g1 rfl rfl (by simp[CV.cs,LB.cz,eB.cells,hd,g2]) (by omega) (by omega)).mono λr m' ⟨b,e1,e2,e3⟩=>⟨b,e1,e2,?_⟩;rw[e3];simp[fl,CV.cs,LB.cz,eB.cells,IB]
theorem acb{p:aD}{ls:List aD}{b':Nat}{d:List Nat}{y:Value}(hs:aq m (p::ls))(hb:m b'=none)(hd:d.length=32)(hy:I0 p y D)(hl:D.length<=10000000):
  bF tP (.builtin .append [62,62]) [.v y,.v (.slice (some ⟨b',0,none⟩) 1 1)] (m.set b' (.cells (IB [d]).toArray 60)) λr m'=>∃y' p',r=[.v y']/\aq m' (p'::ls)/\I0 p' y' (D++[d]):=by
 obtain⟨ti,h1,h2⟩:=aqO;obtain⟨ei,g1,g2,g3,g4⟩:=hDg;have bM:=hs.new hb (.cells (IB [d]).toArray 60);have hds:D32 [d]:=λx hx=>by rw[aL.1 hx];exact hd
 have e1:fg y=D.length:=by obtain⟨a,c,rfl⟩:=hy.dl.shape;rfl
 have e2:fg (.slice (some ⟨b',0,none⟩) 1 1)=1:=rfl;have wz:=zG hds
 have g:s5 (m.set b' (.cells (IB [d]).toArray 60)) ei.size ti.k (.slice (some ⟨b',0,none⟩) 1 1) (IB [d]):=by
  rw[h2,g2];exact .inl ⟨_,rfl,.inl (.inr ⟨b',0,1,1,_,_,_,rfl,aD.bg ..,by rw[wz];rfl,aW _,λj u hu=>by rw[cD,bz];exact hu,ah9⟩)⟩
 have I7:mf p 60 ei.size y (IB D):=by rw[g2];exact hy.ux
 refine(kC eR h1 h2 g1 h1 (by rw[g2,g4]) bM (i:=1) rfl I7 g (by rw[e1,e2,g3];omega) (by rw[e1,e2];omega)).mono λr m' ⟨v',p',q1,q2,q3⟩=>⟨v',p',q1,q2.dV 0,?_,?_⟩
 ·have:=q3.ux
  rw[g2]at this;rw[VI];exact this
 ·intro x hx
  rcases aR.1 hx with hx|hx
  ·exact hy.ok x hx
  grind
theorem akF{a b:List Nat}(h:nc a=nc b):a=b:=by
 have:=be (List.map Int.toNat) h;simpa [nc,Function.comp_def]using this
theorem Ck(n k:Nat)(a b:List Nat):rD [.bG .u8 n (nc a)] [.bG .u8 k (nc b)]=decide (a=b):=by
 by_cases h:a=b
 ·subst h;simp[rD]
 ·have:¬nc a=nc b:=λe=>h (akF e)
  simp only[rD,aY h,mj]
  grind
namespace Tr
end Tr
structure TyL(α:Type) extends Ty α where
 lb:α->LB
 (lok:∀x,(lb x).ok)
 (lsz:∀x,(lb x).size=s)
 (lcl:∀x,LB.cz (lb x)=enc x)
 z:α
 (hz:LB.cz ti.zero=enc z)
section
variable {α:Type}{t:TyL α}{p:aD}{b o n c:Nat}{E:List α}
theorem Gw.row(h:Gw t.toTy p (.slice (some ⟨b,o,none⟩) n c) E):∃arr,p b=some (.cells arr t.el (0,0))/\E.length=n/\n<=c/\o+c*t.s<=arr.size/\(∀j u,(E.flatMap t.enc)[j]?=some u->arr[o+j]?=some u):=t.ok.row h
theorem Gw.aBb(h:Gw t.toTy p (.slice (some ⟨b,o,none⟩) n c) E){i:Nat}(hi:i<E.length)(x:α):∃arr,p b=some (.cells arr t.el (0,0))/\o+i*t.s+t.s<=arr.size/\Gw t.toTy (p.set b (.cells (arr.toList.take (o+i*t.s)++(t.enc x++arr.toList.drop (o+i*t.s+t.s))).toArray t.el (0,0))) (.slice (some ⟨b,o,none⟩) n c) (E.set i x):=t.ok.set h hi x
theorem Gw.aBa{m mm:aD}(hs:aq mm [p,m])(h:Gw t.toTy p (.slice (some ⟨b,o,none⟩) n c) E){i:Nat}(hi:i<E.length)(x:α):∃arr,mm b=some (.cells arr t.el (0,0))/\o+i*t.s+t.s<=arr.size/\aq (mm.set b (.cells (arr.toList.take (o+i*t.s)++(t.enc x++arr.toList.drop (o+i*t.s+t.s))).toArray t.el (0,0))) [p.set b (.cells (arr.toList.take (o+i*t.s)++(t.enc x++arr.toList.drop (o+i*t.s+t.s))).toArray t.el (0,0)),m]/\Gw t.toTy (p.set b (.cells (arr.toList.take (o+i*t.s)++(t.enc x++arr.toList.drop (o+i*t.s+t.s))).toArray t.el (0,0))) (.slice (some ⟨b,o,none⟩) n c) (E.set i x):=by
 obtain⟨arr,k1,k2,k3⟩:=h.aBb hi x;exact⟨arr,hs.sub (a:=p) (by simp) _ _ k1,k2,hs.set k1 _,k3⟩
theorem Gw.clr{m:aD}{arr:Array Value}{te:TypeId}{i c':Nat}(_:Gw t.toTy p (.slice (some ⟨b,o,none⟩) n c) E)(hb:m b=some (.cells arr te))(hi:i<n)(k3:n<=c)(k4:o+c*t.s<=arr.size):
  bF tP (.builtin .clear [t.sl]) [.v (.slice (some ⟨b,o+i*t.s,none⟩) (n-i) c')] m λr m'=>r=[]/\∃zs,zs.length=(n-i)*t.s/\m'=m.set b (.cells (arr.toList.take (o+i*t.s)++zs++arr.toList.drop (o+i*t.s+(n-i)*t.s)).toArray te):=by
 have hn:(n-i)*t.s+i*t.s=n*t.s:=by rw[<-fM];congr 1;omega
 have hc:n*t.s<=c*t.s:=cS _ k3;have:=qw (P:=tP) eR t.h1 t.h2 t.h3 (by rw[t.h6,t.h4]) (by rw[t.hz];exact t.ok.one _) (c:=c') (n:=n-i) (o:=o+i*t.s) hb (by omega) (by rw[t.h4];omega);rw[t.h4]at this;exact this.mono λr m' ⟨h1,zs,h2,_,h3⟩=>⟨h1,zs,h2,h3⟩
theorem Gw.asT{i:Nat}{arr:Array Value}{zs:List Value}(h:Gw t.toTy p (.slice (some ⟨b,o,none⟩) n c) E)(k1:p b=some (.cells arr t.el (0,0)))(hz:zs.length=(n-i)*t.s)(hi:i<=n):Gw t.toTy (p.set b (.cells (arr.toList.take (o+i*t.s)++zs++arr.toList.drop (o+i*t.s+(n-i)*t.s)).toArray t.el)) (.slice (some ⟨b,o,none⟩) i c) (E.take i):=by
 obtain⟨CH,g1,k2,k3,k4,k5⟩:=h.row;rw[k1]at g1;injection g1 with g1;injection g1 with g1;subst g1;have hm:i*t.s<=c*t.s:=cS _ (by omega);have hn:(n-i)*t.s+i*t.s=n*t.s:=by rw[<-fM];congr 1;omega
 have hc:n*t.s<=c*t.s:=cS _ k3;refine t.ok.mk' (aD.bg ..) (by rw[aK];omega) (by omega) ?_ λj u hu=>?_
 ·grind
 ·have EN:=(aQ.1 hu).1
  rw[t.ok.wC,aK]at EN;have Re:o+j<o+i*t.s:=by have:=cS t.s (Nat.min_le_left i E.length);omega
  rw[<-t.ok.take,bN]at hu
  grind
theorem Gw.axm{i:Nat}{arr:Array Value}{zs:List Value}{m mm:aD}(hs:aq mm [p,m])(h:Gw t.toTy p (.slice (some ⟨b,o,none⟩) n c) E)(k1:p b=some (.cells arr t.el (0,0)))(hz:zs.length=(n-i)*t.s)(hi:i<=n):∃p',aq (mm.set b (.cells (arr.toList.take (o+i*t.s)++zs++arr.toList.drop (o+i*t.s+(n-i)*t.s)).toArray t.el)) [p',m]/\Gw t.toTy p' (.slice (some ⟨b,o,none⟩) i c) (E.take i):=
 ⟨_,hs.set k1 _,h.asT k1 hz hi⟩
end
abbrev ajb(F:Nat)(c:Array Value):CV:=.v (.func (.func F) #[] c)
variable{m:aD}
theorem an1{α:Type}{t:Ty α}{m':aD}{v:Value}{E:List α}(_:Ga t m' v E):bF tP (.buildSlice t.sl 0 []) [] m λr m'=>∃b,m b=none/\r=[.v (.slice (some ⟨b,0,none⟩) 0 0)]/\m'=m.set b (.cells #[] t.el):=ajT
theorem an2{α:Type}{t:Ty α}{m:aD}{b:Nat}{x:Value}{E:List α}(hg:Ga t m x E)(hb:m b=none)(hl:E.length<=10000000):bF tP (.builtin .append [t.sl,t.sl]) [.v (.slice (some ⟨b,0,none⟩) 0 0),.v x] (m.set b (.cells #[] t.el)) λr m'=>∃v' p',r=[.v v']/\aq m' [p',m]/\Gw t p' v' E:=
 amn (E:=[]) (i:=0) ((aq.one m).new hb _) rfl (Gw.blk0 (aG ..)) (hg.sub (aD.bT _ hb)) (by simp;omega)
structure ar3{α:Type}(t:Ty α)(f:Nat):Prop where
 cl:∀{m:aD}{v:Value}{E:List α},Ga t m v E->E.length<=10000000->bi tP f [.v v] m λr m'=>∃v' p,r=[.v v']/\aq m' [p,m]/\Gw t p v' E:=by
  intro m v E hv hl;obtain⟨a,c,rfl⟩:=hv.shape
  first
   |refine ap Tryz.func83 ?_
   |refine ap Tryz.func75 ?_
   |refine ap Tryz.func39 ?_
   |refine ap Tryz.func208 ?_
  conv=>whnf
  cases a with
  |none=>
   obtain rfl:=hv.none;refine xY ?_;conv=>whnf
   exact⟨_,iI,rfl,(aq.one m).cA,Gw.nil _⟩
  |some a=>
   refine xN ?_;conv=>whnf
   refine .mk _ (an1 hv) ?_;rintro _ _⟨b,hb,rfl,rfl⟩;conv=>whnf
   refine .mk _ (an2 hv hb hl) ?_;rintro _ m'⟨v',p,rfl,hs,pY⟩;conv=>whnf
   exact⟨v',p,rfl,hs,pY⟩
theorem exC{F:Nat}{c:Array Value}{P:CV->Prop}(h:∀cc,cc=c->P (ajb F cc)):P (ajb F c):=h c rfl
structure as8{α κ:Type}(t:TyL α)(cp:κ->Array Value)(cs:κ->List CV)(f:Nat):Prop where
 ix:∀{m:aD}{v:Value}{E:List α}{F:Nat}{x:κ}{p:α->Bool},Ga t.toTy m v E->(∀e∈E,eN tP F (.a (t.lb e)::cs x) m [bR (p e)])->E.length<=100000000->eN tP f [.v v,ajb F (cp x)] m [i64 (sH p E)]:=by
  intro m v E F x p hv hF hl;obtain⟨a,c,rfl⟩:=hv.shape;refine exC (P:=λfv=>eN tP _ [_,fv] _ _) λcc hc=>?_
  first
   |refine ap Tryz.func138 ?_
   |refine ap Tryz.func333 ?_
   |refine ap Tryz.func330 ?_
   |refine ap Tryz.func195 ?_
  conv=>whnf
  refine .mk (ι:=Nat) (λi=>E.length-i) (λi mm=>i<=E.length/\(∀x∈E.take i,p x=false)/\mm=m) (λi=>[(0,.c (.v (.slice a E.length c))),(1,.c (ajb F cc)),(7,.c (i64 E.length)),(8,.c (i64 i))]) (λ_=>[]) 0 ⟨by omega,by simp,rfl⟩ ?_ ?_
  ·conv=>whnf
   exact Ra
  rintro i mm⟨hi,cM,rfl⟩;conv=>whnf
  apply bI<;>intro h
  ·have bH:i<E.length:=by have:=ah h;omega
   obtain⟨bl,ol,c',hh,hg⟩:=hv.real bH;cases hh;have hg:=hg i bH;conv=>whnf
   repeat (refine xS ?_;conv=>whnf)
   refine⟨TyL.lb _ E[i],TyL.lok _ _,TyL.lsz _ _,by simp only[bK,aA];rw[TyL.lcl];exact hg,?_⟩;conv=>whnf
   subst hc;conv=>whnf
   first|refine fU ((hF E[i] (aO bH))) ?_ |refine bt ((hF E[i] (aO bH))) ?_
   conv=>whnf
   have dI:E.take (i+1)=E.take i++[E[i]]:=au bH;apply bI<;>intro h
   ·conv=>whnf
    exact⟨by rw[tW bH cM h],rfl⟩
   ·conv=>whnf
    refine⟨i+1,⟨by omega,λx hx=>?_,rfl⟩,by omega,?_⟩
    ·rw[dI]at hx
     rcases aR.1 hx with hx|hx
     ·exact cM x hx
     ·rw[aL.1 hx];exact h
    ·conv=>whnf
     exact Ra
  ·have h':=aj h
   obtain rfl:i=E.length:=by omega
   rw[aJ]at cM;conv=>whnf
   exact⟨by rw[nL cM],rfl⟩
structure aDV{α κ:Type}(t:TyL α)(cp:κ->Array Value)(cs:κ->List CV)(f g:Nat):Prop where
 dl:as8 t cp cs g->∀{mm m p:aD}{v:Value}{E:List α}{F:Nat}{x:κ}{pr:α->Bool},aq mm [p,m]->Gw t.toTy p v E->(∀m',cL m m'->∀e∈E,eN tP F (.a (t.lb e)::cs x) m' [bR (pr e)])->E.length<=10000000->bi tP f [.v v,ajb F (cp x)] mm λr m'=>∃v' p',r=[.v v']/\aq m' [p',m]/\Gw t.toTy p' v' (E.filter λe=>!pr e):=by
  intro hix mm m p v E F x pr hs hv hF hl;obtain⟨a,c,rfl⟩:=hv.el.shape;have h0:=hix.ix (x:=x) (hv.el.ea.sub (hs.sub)) (hF _ (hs.sub)) (by omega)
  revert h0
  refine exC (P:=λfv=>eN tP _ [_,fv] _ _->bi tP _ [_,fv] _ _) λcc hc h0=>?_
  first
   |refine ap Tryz.func421 ?_
   |refine ap Tryz.func260 ?_
  conv=>whnf
  first|refine fU (h0) ?_ |refine bt (h0) ?_
  conv=>whnf
  rcases lY pr E with⟨e1,e2⟩|⟨i0,Ja,e1,e2,e3⟩
  ·rw[e1]
   refine xY ?_;conv=>whnf
   refine⟨_,p,rfl,hs,?_⟩;have:E.filter (λe=>!pr e)=E:=bY.2 λx hx=>by rw[e2 x hx];rfl
   rw[this];exact hv
  rw[e1];obtain⟨bl,ol,c',hh,hg⟩:=hv.el.ea.real Ja;cases hh;have ga:((i0:Int)== -1)=false:=by rw[qO];exact aY (by omega)
  refine⟨λh=>absurd h (by rw[ga];decide),λ_=>?_⟩;have ew:IntKind.i64.wrap ((i0:Int)+1)=((i0+1:Nat):Int):=qJ (by omega);conv=>whnf
  rw[ew]
  refine .mk (ι:=Nat×Nat) (λi=>E.length-i.2) (λ⟨i,j⟩ mm=>∃p Z,aq mm [p,m]/\Gw _ p (.slice (some ⟨bl,ol,none⟩) E.length c) Z/\Z.take i=(E.take j).filter (λe=>!pr e)/\Z.drop j=E.drop j/\i<j/\j<=E.length)
   (λ⟨i,j⟩=>[(0,.c (.v (.slice (some ⟨bl,ol,none⟩) E.length c))),(1,.c (ajb F cc)),(5,.c (i64 i)),(6,.c (i64 j))]) (λ_=>[]) (i0,i0+1) ⟨p,E,hs,hv,?_,rfl,by omega,by omega⟩ ?_ ?_
  ·rw[au Ja,aaB]
   have:(E.take i0).filter (λe=>!pr e)=E.take i0:=bY.2 λx hx=>by rw[e3 x hx];rfl
   rw[this];simp[e2]
  ·conv=>whnf
   exact Ra
  rintro⟨i,j⟩ mm ⟨p,Z,hs,hZ,ht,hd,ZD,hj⟩;have hZl:Z.length=E.length:=hZ.row.choose_spec.2.1;conv=>whnf
  apply bI<;>intro h
  ·have bH:j<E.length:=by have:=ah h;omega
   have hZE:Z[j]'(by omega)=E[j]:=by
    have:=be (λl=>l[0]?) hd;simp only[cT,gO]at this;rw[az (by omega),az bH]at this;exact eL this
   have hg:=hZ.el.ea.real (i:=j) (by omega);obtain⟨OY,ol',c',hh,hg⟩:=hg;injection hh with eK _ fN;injection eK with eK;injection eK with kW I8;subst kW;subst I8;have js:=hg j (by omega);have dI:E.take (j+1)=E.take j++[E[j]]:=au bH
   have LW:Z.drop (j+1)=E.drop (j+1):=by
    rw[<-dU,<-dU,hd]
   rw[hZE]at js;have hxm:E[j]∈E:=aO bH;generalize E[j]=x at js dI hxm;conv=>whnf
   repeat (refine xS ?_;conv=>whnf)
   refine⟨TyL.lb _ x,TyL.lok _ _,TyL.lsz _ _,by simp only[bK,aA];rw[TyL.lcl];exact js.sub (hs.sub),?_⟩;subst hc;conv=>whnf
   first|refine fU ((hF _ (hs.sub) x hxm)) ?_ |refine bt ((hF _ (hs.sub) x hxm)) ?_
   conv=>whnf
   cases hp:pr x with
   |true=>
    refine xN ?_;conv=>whnf
    refine⟨(i,j+1),⟨p,Z,hs,hZ,by rw[dI,aaB,ht];simp[hp],LW,by omega,by omega⟩,by simp only;omega,?_⟩;conv=>whnf
    exact Ra
   |false=>
    refine xY ?_;conv=>whnf
    repeat (refine xS ?_;conv=>whnf)
    obtain⟨arr,k1,k2,bZ,k3⟩:=hZ.aBa hs (i:=i) (by omega) x;refine⟨arr,_,_,k1,⟨by simp only[bK,aA];exact k2,Jz⟩,?_⟩;simp only[bK,aA];have U6:IntKind.i64.wrap ((i:Int)+1)=((i+1:Nat):Int):=qJ (by omega);conv=>whnf
    refine⟨(i+1,j+1),⟨_,Z.set i x,bZ,k3,?_,?_,by omega,by omega⟩,by simp only;omega,?_⟩
    ·rw[dI,aaB,<-ht,au (by rw[fc];omega),jq,List.take_set_of_le (by omega)]
     simp[hp]
    ·rw[km (by omega)];exact LW
    ·conv=>whnf
     exact Ra
  ·have h':=aj h
   obtain rfl:j=E.length:=by omega
   rw[aJ]at ht;obtain⟨arr,k1,k2,k3,k4,k5⟩:=hZ.row;conv=>whnf
   repeat (refine xS ?_;conv=>whnf)
   intro o' q1 q2;have ei:(i:Int).toNat=i:=by omega
   have ho:=q1 (by omega);subst ho;conv=>whnf
   rw[ei];refine .mk _ (hZ.clr (hs.sub (a:=p) (by simp) _ _ k1) (by omega) k3 k4) ?_;rintro _ m'⟨rfl,zs,QY,rfl⟩;conv=>whnf
   repeat (refine xS ?_;conv=>whnf)
   intro o' q1 q2;obtain rfl:o'=ol:=by have:=q1 (by omega);simpa [bK]using this
   conv=>whnf
   rw[ei];obtain⟨p',bZ,hk⟩:=hZ.axm hs k1 QY (by omega);exact⟨_,p',rfl,bZ,by rw[<-ht];exact hk⟩
def U(n:Int):Prop:=0<=n/\n<18446744073709551616
def I(n:Int):Prop:=-9223372036854775808<=n/\n<9223372036854775808
def V8(l:List Int):Prop:=l.length=8/\∀i,U (l.getD i 0)
def Aq(f:Int->Int->Int):Nat->List Int->List Int->List Int
 |n+1,a::u,b::v=>f a b::Aq f n u v
 |_,u,_=>u
theorem Tj(f:Int->Int->Int)(u v:List Int):Aq f 0 u v=u:=by cases u<;>rfl
theorem Kf(f:Int->Int->Int):∀(i:Nat) (u v:List Int),i<u.length->u.length=v.length->(Aq f i u v).set i (f ((Aq f i u v).getD i 0) (v.getD i 0))=Aq f (i+1) u v
 |0,a::u,b::v,_,_=>by cases u<;>cases v<;>simp[Aq]
 |i+1,a::u,b::v,h,h'=>by simpa [Aq]using Kf f i u v (by simpa using h) (by simpa using h')
 |_,[],_,h,_=>by simp at h
 |_,_::_,[],_,h=>by simp at h
theorem Kg(f:Int->Int->Int):∀(i:Nat) (u v:List Int),u.length<=i->u.length=v.length->Aq f i u v=List.zipWith f u v
 |0,[],[],_,_=>rfl
 |i+1,[],[],_,_=>rfl
 |i+1,a::u,b::v,h,h'=>by simp[Aq,Kg f i u v (by simpa using h) (by simpa using h')]
 |0,_::_,_,h,_=>by simp at h
 |_,[],_::_,_,h=>by simp at h
 |_+1,_::_,[],_,h=>by simp at h
theorem EQ{p:Int->Prop}:∀{l:List Int},(∀x∈l,p x)->p 0->∀i,p (l.getD i 0)
 |[],_,h0,i=>by simpa using h0
 |a::l,h,h0,0=>by simpa using h a (by simp)
 |a::l,h,h0,i+1=>by simpa using EQ (λx hx=>h x (by simp[hx])) h0 i
theorem V8.of{l:List Int}(h:l.length=8)(h2:l.all (λx=>decide (0<=x)&&decide (x<18446744073709551616))=true):V8 l:=by
 refine⟨h,EQ (p:=U) (λx hx=>?_) ⟨by decide,by decide⟩⟩;have:=bL.1 h2 x hx;simpa [U]using this
theorem V8.zip{u u':List Int}(h:V8 u)(h':V8 u'):V8 (List.zipWith max u u'):=by
 obtain⟨h1,h2⟩:=h;obtain⟨jc,iD⟩:=h';refine⟨by simp[h1,jc],λi=>?_⟩;by_cases hi:i<8
 ·have e:(List.zipWith max u u').getD i 0=max (u.getD i 0) (u'.getD i 0):=by
   grind
  grind
 ·have e:(List.zipWith max u u').getD i 0=0:=by
   grind
  rw[e];exact⟨by decide,by decide⟩
abbrev AP(a:List Int):CV:=.a [.bG .u64 8 a]
abbrev VG(n k:Int):CV:=.a [.one (.int .i64 n),.one (.int .u64 k)]
def S7(n:Int):Bool:=decide (1<=n)&&decide (n<=8)
def uw(n k:Int):Bool:=S7 n&&decide (0<k)
def tk(v:List Int)(n:Int):Int:=if S7 n=true then v.getD (n-1).toNat 0 else 0
def wR(v:List Int)(n k:Int):List Int:=if S7 n=true then v.set (n-1).toNat (max (v.getD (n-1).toNat 0) k)else v
variable{n:Int}
theorem NG:S7 n=true↔1<=n/\n<=8:=by simp[S7]
theorem tU:eN tP 258 [i64 n] m [bR (S7 n)]:=by
 refine bW (c:=du) Tryz.func258 rfl ?_;apply bI<;>intro h
 ·refine⟨?_,rfl⟩
  simp only[S7,h,bj]
 ·refine⟨?_,rfl⟩
  simp only[S7,h,fH]
theorem Eo{k:Int}:eN tP 306 [VG n k] m [bR (uw n k)]:=by
 refine bW (c:=du) Tryz.func306 rfl ?_;refine bt (tU) ?_;apply bI<;>intro h
 ·refine⟨?_,rfl⟩
  simp only[uw,h,bj]
 ·refine⟨?_,rfl⟩
  simp only[uw,h,fH]
variable{v:List Int}
theorem mY(hn:I n):eN tP 259 [AP v,i64 n] m [u64 (tk v n)]:=by
 obtain⟨_,_⟩:=hn;refine bW (c:=du) Tryz.func259 rfl ?_;refine bt (tU) ?_;apply bI<;>intro h
 ·have h':S7 n=false:=by simpa using h
  refine⟨?_,rfl⟩;rw[tk,if_neg (by rw[h'];simp)]
 ·have h':S7 n=true:=by simpa using h
  have hb:=NG.1 h';have hw:IntKind.i64.wrap (n-1)=n-1:=wi;conv=>whnf
  repeat (refine And.intro (by first|omega|(simp only[bK,hw];omega)) ?_;conv=>whnf)
  refine⟨?_,rfl⟩;rw[tk,aC h'];simp only[bK,hw]
theorem Tx{k:Int}(hn:I n):eN tP 177 [AP v,VG n k] m [AP (wR v n k)]:=by
 obtain⟨_,_⟩:=hn;refine bW (c:=aDy) Tryz.func177 rfl ?_;refine bt (tU) ?_;apply bI<;>intro h
 ·have hb:=NG.1 h
  have hw:IntKind.i64.wrap (n-1)=n-1:=wi;conv=>whnf
  repeat (refine And.intro (by first|omega|(simp only[bK,hw];omega)) ?_;conv=>whnf)
  refine⟨?_,rfl⟩;rw[wR,aC h];simp only[bK,hw]
 ·refine⟨?_,rfl⟩
  rw[wR,if_neg (by rw[h];simp)]
theorem HX{k:Int}(hn:I n):eN tP 222 [AP v,VG n k] m [bR (uw n k&&decide (k<=tk v n))]:=by
 refine bW (c:=aDu) Tryz.func222 rfl ?_;refine bt (Eo) ?_;apply bI<;>intro h
 ·refine fU (mY hn) ?_
  refine⟨?_,rfl⟩;simp only[h,bj]
 ·refine⟨?_,rfl⟩
  simp only[h,fH]
def Ll(v:List Int)(n:Int):List CV:=
 if S7 n=false then[VG 0 0,i64 11]else if tk v n=18446744073709551615 then[VG 0 0,i64 13]else[VG n (tk v n+1),i64 0]
theorem ad6(hv:V8 v)(n:Int):U (tk v n):=by
 unfold tk;split
 ·exact hv.2 _
 ·exact⟨by decide,by decide⟩
theorem Tz(hv:V8 v)(hn:I n):eN tP 174 [AP v,i64 n] m (Ll v n):=by
 have hU:=ad6 hv n;obtain⟨hU0,hU1⟩:=hU;refine bW (c:=du) Tryz.func174 rfl ?_;refine bt (tU) ?_;apply bI<;>intro h
 ·have h':S7 n=false:=by simpa using h
  refine⟨?_,rfl⟩;rw[Ll,aC h']
 ·have h':S7 n=true:=by simpa using h
  refine bt (mY hn) ?_;apply bI<;>intro h2
  ·have iD:tk v n=18446744073709551615:=by simpa using h2
   refine⟨?_,rfl⟩;rw[Ll,if_neg (by rw[h'];simp),aC iD]
  ·have iD:¬tk v n=18446744073709551615:=by simpa using h2
   refine bt (mY hn) ?_;refine⟨?_,rfl⟩;rw[Ll,if_neg (by rw[h'];simp),if_neg iD,wu]
abbrev Dt:=Int×Int
abbrev En:=Int×Int×Int×Int
abbrev Ct:=List Int×List En
abbrev Ev:=(Int×Int×Int)×Dt×List Dt
def kz(e:En):Dt:=(e.2.1,e.2.2.1)
def tm(d:Dt):List Value:=[.int .i64 d.1,.int .u64 d.2]
def qp(e:En):List Value:=[.int .i64 e.1,.int .i64 e.2.1,.int .u64 e.2.2.1,.int .i64 e.2.2.2]
theorem jD:fp tm 2:=⟨λ_=>rfl,λx u hu=>by simp[tm]at hu;rcases hu with rfl|rfl<;>rfl,by decide⟩
theorem mr:fp qp 4:=⟨λ_=>rfl,λx u hu=>by simp[qp]at hu;rcases hu with rfl|rfl|rfl|rfl<;>rfl,by decide⟩
def CS(e:En):Prop:=I e.1/\I e.2.1/\U e.2.2.1/\I e.2.2.2
def fx:List Int:=List.replicate 8 0
def sP(a b:Int):Int:=if a<b then-1 else if b<a then 1 else 0
def Qb:List Int->Int
 |[]=>0
 |x::r=>if x=0 then Qb r else x
def qY(a b:Dt):Bool:=decide (a.1<b.1\/(a.1=b.1/\a.2<b.2))
def VJ(a b:Dt):Int:=if qY a b then-1 else if qY b a then 1 else 0
def VC(a b:En):Int:=Qb [sP a.1 b.1,sP a.2.1 b.2.1,sP a.2.2.1 b.2.2.1,sP a.2.2.2 b.2.2.2]
def aaO(a b:En):Bool:=decide (VC a b<0)
theorem L9{a b:En}:aaO a b=true↔a.1<b.1\/(a.1=b.1/\(a.2.1<b.2.1\/(a.2.1=b.2.1/\(a.2.2.1<b.2.2.1\/(a.2.2.1=b.2.2.1/\a.2.2.2<b.2.2.2))))):=by
 unfold aaO VC;simp only[Qb,sP]
 grind
def jm(d:Dt):Bool:=uw d.1 d.2
def uP(l:List Dt):List Dt:=l.mergeSort λx y=>!qY y x
def gL:List Dt->List Dt
 |[]=>[]
 |[a]=>[a]
 |a::b::r=>if a=b then gL (b::r)else a::gL (b::r)
def TW(l:List Dt):List Dt:=(gL (uP (l.filter jm))).take 2000
def Bi(v:List Int)(d:Dt):Bool:=jm d&&decide (d.2<=tk v d.1)
def nY(l:List En):List En:=l.mergeSort λx y=>!aaO y x
def E8(k i q:Int):Bool:=
 if k=4 then decide (i=0)&&decide (q=0)
 else if ¬(1<=i/\i<=60)then false
 else if k=1 then !decide (q=0)&&decide (-1000<=q/\q<=1000)
 else if k=2 then decide (0<=q/\q<=1000)
 else decide (k=3)&&decide (q=0)
theorem Mc:∀(l:List Dt),(gL l).length<=l.length
 |[]=>aW _
 |[a]=>aW _
 |a::b::r=>by
  have ih:=Mc (b::r);unfold gL
  split<;>simp only[ae]at* <;>omega
end Go.E.Y
namespace Go.E
def wN:Nat->Nat->List Nat
 |0,_=>[]
 |f+1,n=>if n=0 then[]else wN f (n/256)++[n%256]
theorem Cs(n i:Nat):n/256^(i+1)=n/256/256^i:=by
 rw[gN,lH,uF]
theorem CF:∀(f n i:Nat),n<256^f->(0<n/256^i↔i<(wN f n).length)
 |0,n,i,h=>by
  have:n=0:=by simpa using h
  subst this;simp[wN]
 |f+1,n,i,h=>by
  by_cases hn:n=0
  ·subst hn;simp[wN]
  ·simp only[wN,hn,gS,ax,eV]
   cases i with
   |zero=>simp;omega
   |succ i=>
    rw[Cs,CF f (n/256) i (by rw[gN]at h;exact lI (by rw[lH];exact h))];omega
theorem VV:∀(f n j:Nat),j<(wN f n).length->(wN f n)[j]?=some (n/256^((wN f n).length-1-j)%256)
 |0,n,j,h=>by simp[wN]at h
 |f+1,n,j,h=>by
  by_cases hn:n=0
  ·subst hn;simp[wN]at h
  ·simp only[wN,hn,gS,ax,eV]at h⊢
   by_cases hj:j<(wN f (n/256)).length
   ·rw[aT hj,VV f (n/256) j hj]
    rw[show(wN f (n/256)).length+1-1-j=(wN f (n/256)).length-1-j+1 by omega,Cs]
   ·have:j=(wN f (n/256)).length:=by omega
    subst this;simp
theorem XH:∀(f n:Nat),(wN f n).length<=f
 |0,_=>by simp[wN]
 |f+1,n=>by
  by_cases hn:n=0
  ·subst hn;simp[wN]
  ·simp only[wN,hn,gS,ax,eV]
   have:=XH f (n/256);omega
theorem aeU:∀(f n:Nat),∀x∈wN f n,x<256
 |0,_,x,h=>by simp[wN]at h
 |f+1,n,x,h=>by
  by_cases hn:n=0
  ·subst hn;simp[wN]at h
  ·simp only[wN,hn,gS,aR,aL]at h
   rcases h with h|h
   ·exact aeU f _ x h
   ·omega
theorem XG:∀(f n:Nat),n<256^f->(wN f n).foldl (λa c=>256*a+c) 0=n
 |0,n,h=>by simp at h;subst h;simp[wN]
 |f+1,n,h=>by
  by_cases hn:n=0
  ·subst hn;simp[wN]
  ·simp only[wN,hn,gS,iT,gd,List.foldl_nil]
   rw[XG f (n/256) (by rw[gN]at h;exact lI (by rw[lH];exact h))];omega
theorem aeV:∀(f n:Nat),n<256^f->∀x,(wN f n)[0]?=some x->0<x:=by
 intro f n h x hx;have hl:0<(wN f n).length:=(aQ.1 hx).1;rw[VV f n 0 hl]at hx;have xq:n/256^((wN f n).length-1-0)%256=x:=by simpa using hx
 have h1:=(CF f n ((wN f n).length-1) h).2 (by omega)
 have h2:n/256^((wN f n).length-1)<256:=by
  have h3:¬(0<n/256^(wN f n).length):=λh'=>by have:=(CF f n _ h).1 h';omega
  have h4:n<256^(wN f n).length:=by
   rcases Nat.lt_or_ge n (256^(wN f n).length)with h'|h'
   ·exact h'
   simp_all
  refine lI ?_
  simp_all
 grind
def mR(n:Int):List Int:=(wN 8 n.toNat).map (λ(x:Nat)=>(x:Int))
def fe(n:Int):List Int:=((mR n).length:Int)::mR n
def BC(n:Int):Prop:=0<=n/\n<18446744073709551616
variable{n:Int}
theorem BC.lt(h:BC n):n.toNat<256^8:=by have:=h.1;have:=h.2;omega
theorem zM(n:Int):(mR n).length<=8:=by simp only[mR,aH];exact XH 8 _
theorem aei(h:BC n)(i:Nat):Int.fdiv n (2^(8*i))=((n.toNat/256^i:Nat):Int):=by
 have e:(2:Int)^(8*i)=((256^i:Nat):Int):=by
  rw[Int.pow_mul];simp
 rw[e,Int.fdiv_eq_ediv_of_nonneg _ (s9 _)];have:n=(n.toNat:Int):=(Int.toNat_of_nonneg h.1).symm
 grind
theorem amj{j:Nat}(hj:j<(mR n).length):(mR n)[j]?=some ((n.toNat/256^((mR n).length-1-j)%256:Nat):Int):=by
 simp only[mR,aH]at hj⊢;rw[cj,VV 8 _ j hj];rfl
theorem XI(h:BC n)(i:Nat):(0<n.toNat/256^i↔i<(mR n).length):=by
 simp only[mR,aH];exact CF 8 _ i h.lt
theorem aeW(n:Int):∀x∈mR n,0<=x/\x<256:=by
 intro x hx;simp only[mR,aV]at hx;obtain⟨y,hy,rfl⟩:=hx;have:=aeU 8 _ y hy;omega
theorem Lf(n:Int):∀x∈fe n,0<=x/\x<256:=by
 intro x hx;rcases aU.1 hx with rfl|hx
 ·have:=zM n;omega
 ·exact aeW n x hx
theorem eI(n:Int):(fe n).length<=9:=by have:=zM n;simp only[fe,ae];omega
def sF(n:Int):Int:=if 0<=n then 2*n else 2*(-n-1)+1
def BJ(b:List Int):List Int:=fe b.length++b
def kH(v:List Int):List Int:=(v.map fe).flatten
abbrev RS:=List Int×Int
def fL(n:Nat)(s:RS):List Int×RS:=
 if s.2≠0 then([],s)else if s.1.length<n then([],(s.1,8))else(s.1.take n,(s.1.drop n,0))
def ay(b:Bool)(s:RS):RS:=if s.2=0/\b=false then(s.1,3)else s
def VU(l:List Int):Int:=l.foldl (λa c=>256*a+c) 0
def FQ(l:List Int):Int:=l.headD 0
def og(s:RS):Int×RS:=
 let (h,s1):=fL 1 s
 if h=[]then(0,s1)else
 let s2:=ay (decide (FQ h<=8)) s1
 let (l,s3):=fL (FQ h).toNat s2
 let s4:=ay (l.isEmpty||decide (0<FQ l)) s3
 (if s4.2≠0 then 0 else VU l,s4)
def cZ(dG:Int)(s:RS):Int×RS:=
 let (n,s1):=og s
 let s2:=ay (decide (0<=dG)&&decide (n<=max dG 0)) s1
 (if s2.2≠0 then 0 else n,s2)
def Jt(s:RS):Int×RS:=
 let (n,s1):=og s
 let s2:=if n%2=0 then ay (decide (n/2<=4611686018427387904)) s1 else ay (decide (n/2<4611686018427387904)) s1
 (if s2.2≠0 then 0 else if n%2=1 then-(n/2)-1 else n/2,s2)
def kM(dG:Int)(s:RS):List Int×RS:=
 let (k,s1):=cZ dG s
 fL k.toNat s1
def gZ(s:RS):List Int×RS:=
 let (b,s1):=fL 32 s
 (b++(List.replicate 32 0).drop b.length,s1)
def mz:Nat->RS->List Int×RS
 |0,s=>([],s)
 |k+1,s=>let (l,s1):=mz k s;let (n,s2):=og s1;(l++[n],s2)
def uS(s:RS):List Int×RS:=
 let (l,s1):=mz 8 s
 (if s1.2≠0 then List.replicate 8 0 else l,s1)
def jl(l:List Int):Prop:=∀x∈l,0<=x/\x<256
variable{l:List Int}
theorem jl.take(h:jl l)(n:Nat):jl (l.take n):=λx hx=>h x (bX hx)
theorem jl.drop(h:jl l)(n:Nat):jl (l.drop n):=λx hx=>h x (fk hx)
theorem jl.nil:jl []:=λx hx=>by cases hx
variable{b:List Int}
theorem jl.append{a:List Int}(ha:jl a)(hb:jl b):jl (a++b):=λx hx=>(aR.1 hx).elim (ha x) (hb x)
variable{s:RS}
theorem nF{n:Nat}(h:jl s.1):jl (fL n s).1/\jl (fL n s).2.1:=by
 unfold fL;split
 ·exact⟨jl.nil,h⟩
 ·split
  ·exact⟨jl.nil,h⟩
  ·exact⟨h.take n,h.drop n⟩
theorem rK{n:Nat}:(fL n s).1.length<=n:=by
 unfold fL;split
 ·simp
 grind
theorem KQ{b:Bool}:(ay b s).1=s.1:=by unfold ay;split<;>rfl
theorem zj{b:Bool}(h:jl s.1):jl (ay b s).1:=by rw[KQ];exact h
theorem aeT(l:List Int)(c:Int):VU (l++[c])=256*VU l+c:=by simp[VU]
theorem XF:∀{l:List Int}{a:Int},jl l->0<=a->0<=l.foldl (λa c=>256*a+c) a/\l.foldl (λa c=>256*a+c) a<(a+1)*256^l.length
 |[],a,_,h=>by simp;omega
 |c::l,a,hb,h=>by
  have hc:=hb c (by simp);have:=XF (l:=l) (a:=256*a+c) (λx hx=>hb x (by simp[hx])) (by omega);simp only[gd,ae];refine⟨this.1,Int.lt_of_lt_of_le this.2 ?_⟩;rw[Int.pow_succ,<-Int.mul_assoc,Int.mul_right_comm];exact Int.mul_le_mul_of_nonneg_right (by omega) (Int.le_of_lt (Int.pow_pos (by decide)))
theorem Mg(h:jl l):0<=VU l/\VU l<256^l.length:=by
 have:=XF (a:=0) h (by omega);simpa [VU]using this
theorem arj(h:jl l)(hl:l.length<=8):BC (VU l):=by
 obtain⟨h1,h2⟩:=Mg h;refine⟨h1,Int.lt_of_lt_of_le h2 ?_⟩;have:(256:Nat)^l.length<=256^8:=pQ (by decide) hl
 grind
theorem ais(h:BC n):VU (mR n)=n:=by
 have h1:=XG 8 n.toNat h.lt
 have e:∀(l:List Nat) (a:Nat),(l.map (λ(x:Nat)=>(x:Int))).foldl (λa c=>256*a+c) (a:Int)=((l.foldl (λa c=>256*a+c) a:Nat):Int):=by
  intro l
  induction l with
  |nil=>intro a;rfl
  |cons x l ih=>intro a;simp only[aZ,gd];rw[<-ih];simp
 have:=e (wN 8 n.toNat) 0;simp only[VU,mR];rw[show(0:Int)=((0:Nat):Int) from rfl,this,h1];have:=h.1;omega
theorem uT(hn:BC n)(t:List Int):og (fe n++t,0)=(n,(t,0)):=by
 have h8:=zM n
 have e1:fL 1 (fe n++t,0)=([((mR n).length:Int)],(mR n++t,0)):=by
  simp[fL,fe]
 have e2:fL (mR n).length (mR n++t,0)=(mR n,(t,0)):=by simp[fL]
 have e3:((mR n).isEmpty||decide (0<FQ (mR n)))=true:=by
  cases hb:mR n with
  |nil=>rfl
  |cons x r=>
   have hf:=aeV 8 n.toNat hn.lt
   have:0<x:=by
    have hx:(mR n)[0]?=some x:=by rw[hb];rfl
    simp only[mR,cj,uE]at hx;obtain⟨y,h1,rfl⟩:=hx;have:=hf y h1;omega
   simp[FQ,this]
 have h8':((mR n).length:Int)<=8:=by omega
 unfold og;rw[e1];dsimp only;rw[if_neg (by simp)];have hd:FQ [((mR n).length:Int)]=(mR n).length:=rfl;have m1:ay (decide (((mR n).length:Int)<=8)) (mR n++t,0)=(mR n++t,0):=by simp[ay,h8']
 rw[hd,m1,aA,e2];dsimp only;have m2:ay ((mR n).isEmpty||decide (0<FQ (mR n))) (t,0)=(t,0):=by rw[e3];simp[ay]
 rw[m2];simp[ais hn]
theorem ab2{t:List Int}(k:Nat)(hk:k<(fe n).length)(ht:t=(fe n).take k):∃u,og (t,0)=(0,(u,8)):=by
 subst ht;have h8:=zM n
 cases k with
 |zero=>exact⟨[],by simp[og,fL]⟩
 |succ k=>
  have ve:k<(mR n).length:=by simpa [fe]using hk
  have e1:fL 1 ((fe n).take (k+1),0)=([((mR n).length:Int)],((mR n).take k,0)):=by simp[fL,fe]
  have h8':((mR n).length:Int)<=8:=by omega
  have e2:fL (mR n).length ((mR n).take k,0)=([],((mR n).take k,8)):=by simp[fL];omega
  have hd:FQ [((mR n).length:Int)]=(mR n).length:=rfl;have m1:ay (decide (((mR n).length:Int)<=8)) ((mR n).take k,0)=((mR n).take k,0):=by simp[ay,h8']
  refine⟨(mR n).take k,?_⟩;unfold og;rw[e1];dsimp only;rw[if_neg (by simp),hd,m1,aA,e2];dsimp only;simp[ay]
theorem Kw(a:Int)(v:List Int):kH (a::v)=fe a++kH v:=by simp[kH]
theorem Ku(v:List Int)(a:Int):kH (v++[a])=kH v++fe a:=by simp[kH]
def I62(n:Int):Prop:=-4611686018427387904<=n/\n<=4611686018427387904
theorem adi(h:I62 n):BC (sF n):=by
 have:=h.1;have:=h.2;unfold sF BC;split<;>omega
theorem YQ(h:I62 n)(t:List Int):Jt (fe (sF n)++t,0)=(n,(t,0)):=by
 have h0:=h.1;have h1:=h.2;have e:=uT (adi h) t;unfold Jt;rw[e];dsimp only;by_cases hn:0<=n
 ·have e1:sF n=2*n:=by rw[sF,aC hn]
  have e2:sF n%2=0:=by omega
  have e3:sF n/2=n:=by omega
  rw[aC e2,e3];have:ay (decide (n<=4611686018427387904)) (t,0)=(t,0):=by simp[ay,h1]
  grind
 ·have e1:sF n=2*(-n-1)+1:=by rw[sF,if_neg hn]
  have e2:sF n%2=1:=by omega
  have e3:sF n/2= -n-1:=by omega
  rw[if_neg (show ¬sF n%2=0 by omega),e3]
  have:ay (decide (-n-1<4611686018427387904)) (t,0)=(t,0):=by
   have: -n-1<4611686018427387904:=by omega
   simp[ay,this]
  grind
theorem gJ{dG:Int}(hn:BC n)(h:n<=dG)(t:List Int):cZ dG (fe n++t,0)=(n,(t,0)):=by
 have e:=uT hn t;have h0:=hn.1;unfold cZ;rw[e];dsimp only;have:(decide (0<=dG)&&decide (n<=max dG 0))=true:=by simp;omega
 rw[this];simp[ay]
theorem ao3(h:b.length<=1000000):BC (b.length:Int):=⟨by omega,by omega⟩
theorem GN{dG:Int}(hb:b.length<=1000000)(h:(b.length:Int)<=dG)(t:List Int):kM dG (BJ b++t,0)=(b,(t,0)):=by
 have e:=gJ (ao3 hb) h (b++t);unfold kM;rw[BJ,aX,e];simp[fL]
theorem BT{d:List Int}(hd:d.length=32)(t:List Int):gZ (d++t,0)=(d,(t,0)):=by
 have e:fL 32 (d++t,0)=(d,(t,0)):=by
  unfold fL
  grind
 unfold gZ
 grind
theorem GO:∀(k:Nat) (v t:List Int),(∀x∈v,BC x)->k<=v.length->mz k (kH v++t,0)=(v.take k,(kH (v.drop k)++t,0))
 |0,v,t,_,_=>by simp[mz]
 |k+1,v,t,hv,hk=>by
  have ih:=GO k v t hv (by omega);have hd:v.drop k=v[k]::v.drop (k+1):=qD (by omega);unfold mz;rw[ih];dsimp only;have e:kH (v.drop k)++t=fe v[k]++(kH (v.drop (k+1))++t):=by rw[hd,Kw,aX]
  rw[e,uT (hv _ (by simp))];rw[au (show k<v.length by omega)]
theorem YN{v:List Int}(hl:v.length=8)(hv:∀x∈v,BC x)(t:List Int):uS (kH v++t,0)=(v,(t,0)):=by
 unfold uS;rw[GO 8 v t hv (by omega)];simp[<-hl,kH]
end Go.E
namespace Go.E.Y
open Go.Proofs
variable{m:aD}{v:Value}{l:List Int}
theorem sQ(hv:La m v l)(hb:l.length<=100000000):
  bi tP 77 [.v v] m λr m'=>∃v' p,r=[.v v']/\aq m' [p,m]/\Bs p v' l:=by
 have key:(∃c,v= .slice none 0 c/\l=[])\/∃a c,v= .slice (some a) l.length c:=by
  rcases hv with hv|⟨rfl,a,rfl⟩
  ·rcases hv.cases with⟨c,rfl,rfl⟩|⟨b,o,c,arr,t,fr,rfl,_⟩
   ·exact .inl ⟨c,rfl,rfl⟩
   ·exact .inr ⟨_,_,rfl⟩
  ·exact .inr ⟨_,_,rfl⟩
 rcases key with⟨c,rfl,rfl⟩|⟨a,c,rfl⟩
 ·refine ap Tryz.func77 ?_
  refine⟨λ_=>?_,λh=>absurd h (by decide)⟩;exact⟨_,iI,rfl,(aq.one m).cA,Bs.nil _⟩
 ·refine ap Tryz.func77 ?_
  refine⟨λh=>absurd h (by decide),λ_=>?_⟩;refine .mk _ (mu eR OW rfl hU8) ?_;rintro _ _⟨b',qB,rfl,rfl⟩;refine .mk _ (nQ (i:=0) ((aq.one m).new qB _) rfl (Bs.Je (l:=[]) (aG ..) rfl) (hv.sub (aD.bT _ qB)) (by simp;omega)) ?_;rintro _ m'⟨v',p',rfl,h1,h2⟩;exact⟨v',p',rfl,h1,h2.ux⟩
def Wr(m:aD)(bp:Nat)(l:List Int):Prop:=∃v,m bp=some (.cells #[v] 174)/\Bs m v l/\lp v≠some bp
theorem asV(n:Int)(i:Nat):oV .u64 ((n.toNat/256^i:Nat):Int) 8=((n.toNat/256^(i+1):Nat):Int):=by
 have e:oV .u64 ((n.toNat/256^i:Nat):Int) 8=((n.toNat/256^i:Nat):Int).fdiv 256:=rfl;rw[e,Int.fdiv_eq_ediv_of_nonneg _ (by decide),gN,<-uF];rfl
variable{bp:Nat}
theorem Wr.CJ{m':aD}{v':Value}{t:TypeId}{fr:Nat×Nat}(hb:m bp=some (.cells #[v] t fr))(hn:lp v≠some bp)(h:afk m v l v' m')(ht:t=174:=by rfl)(DQ:fr=(0,0):=by rfl):
  m' bp=some (.cells #[v] t fr)/\Wr (m'.set bp (.cells (#[v].setIfInBounds 0 v') t fr)) bp l:=by
 subst ht DQ
 have pY:lp v'≠some bp:=λe=>by
  rcases h.new bp e with h'|h'
  ·exact hn h'
  grind
 refine⟨h.cR _ _ hb hn,v',aD.bg ..,h.ux.cR λb e=>?_,pY⟩;exact aD.eH _ _ (λe'=>pY (by rw[e,e']))
theorem HG{m':aD}{b:Nat}(h:m' b=m b):N8 [b] m m':=λx hx=>by rw[aL.1 hx];exact h
variable{n:Int}
theorem aol(hn:BC n){j:Nat}{e:Int}(hj:j<(mR n).length)(he:e=((8*((mR n).length-1-j):Nat):Int)):IntKind.u8.wrap (oV .u64 n e)=(mR n)[j]:=by
 have h8:=zM n;have h:=amj hj;rw[az hj,aM]at h;rw[h,he]
 have e1:oV .u64 n ((8*((mR n).length-1-j):Nat):Int)=n.fdiv (2^(8*((mR n).length-1-j))):=by
  show n.fdiv (2^(min _ 64))=_
  grind
 rw[e1,aei hn,IntKind.wrap_u8];omega
theorem iK(hw:Wr m bp l)(hn:BC n)(hb:l.length<=100000000):
  bi tP 79 [cx bp,u64 n] m λr m'=>r=[]/\Wr m' bp (l++fe n):=by
 obtain⟨v,hbp,hv,ga⟩:=hw;have h8:=zM n;have hn0:=hn.1;have ml:=hn.2;refine c7 c79 Tryz.func79 ?_;refine xN ?_
 refine .mk (ι:=Nat) (λi=>(mR n).length-i) (λi mm=>i<=(mR n).length/\mm=m)
  (λi=>[(0,.c (cx bp)),(1,.c (u64 n)),(4,.c (i64 i)),(5,.c (u64 ((n.toNat/256^i:Nat):Int)))]) (λ_=>[]) 0 ⟨by omega,rfl⟩ ?_ ?_
 ·conv=>whnf
  repeat (refine And.intro (by first|with_reducible rfl|(exact cI (by simp;omega))|exact cI (wi)|exact wi|rfl) ?_;conv=>whnf)
  exact xT
 rintro i mm⟨hi,rfl⟩;apply bI<;>intro h
 ·have h':=ah h
  have bH:i<(mR n).length:=(XI hn i).1 (by omega);refine⟨i+1,⟨by omega,rfl⟩,by omega,?_⟩;conv=>whnf
  repeat (refine And.intro (by first|with_reducible rfl|(first|exact cI (qJ (by omega))|exact cI (asV n i))|exact cI (wi)|exact wi|rfl) ?_;conv=>whnf)
  exact xT
 ·have h':=aj h
  have HR:i=(mR n).length:=by
   have:=(not_congr (XI hn i)).1 (by omega);omega
  subst HR;refine⟨v,aF hbp rfl,hv.lb.one,?_⟩;refine .mk _ (Bt) ?_;rintro _ _⟨b',qB,rfl,rfl⟩;refine .mk _ (OI (hv.sub (aD.bT _ qB)) (Lb.Je (aD.bg ..) rfl).la (by simp;omega)) ?_;rintro _ m'⟨v',rfl,h1⟩;obtain⟨h2,h3⟩:=Wr.CJ hbp ga (GW qB h1);refine⟨_,_,_,h2,⟨by simp,by omega⟩,?_⟩;have hk:IntKind.u8.wrap ((mR n).length:Int)=((mR n).length:Int):=by rw[IntKind.wrap_u8];omega
  rw[hk]at h3
  refine .mk (ι:=Nat) (λj=>(mR n).length-j) (λj mm=>j<=(mR n).length/\Wr mm bp (l++(((mR n).length:Int)::(mR n).take j)))
   (λj=>[(0,.c (cx bp)),(1,.c (u64 n)),(6,.c (i64 (((mR n).length:Int)-1-j)))]) (λ_=>[]) 0 ⟨by omega,by simpa using h3⟩ ?_ ?_
  ·conv=>whnf
   repeat (refine And.intro (by first|with_reducible rfl|(exact cI (by rw[wi];omega))|exact cI (wi)|exact wi|rfl) ?_;conv=>whnf)
   exact xT
  rintro j m2⟨hj,v2,ahU,lD,ahy⟩;apply bI<;>intro h
  ·have h':=ah h
   refine⟨v2,aF ahU rfl,lD.lb.one,?_⟩;have hw8:IntKind.i64.wrap (8*(((mR n).length:Int)-1-j))=((8*((mR n).length-1-j):Nat):Int):=by rw[wi];omega
   refine⟨by omega,?_⟩;refine .mk _ Bt ?_;rintro _ _⟨b2,oM,rfl,rfl⟩;refine⟨HG (by rw[aD.eH _ _ (λe=>by subst e;rw[ahU]at oM;cases oM)]),?_⟩;refine .mk _ (OI (lD.sub (aD.bT _ oM)) (Lb.Je (aD.bg ..) rfl).la (by simp;omega)) ?_;rintro _ m3⟨v3,rfl,h4⟩;have h4:=GW oM h4;rw[aol hn (by omega) hw8]at h4;obtain⟨h5,h6⟩:=Wr.CJ ahU ahy h4;refine⟨_,_,_,h5,⟨by simp,by omega⟩,?_⟩;refine⟨j+1,⟨by omega,?_⟩,by omega,?_⟩
   ·rw[<-List.take_append_getElem (by omega)];simpa using h6
   ·conv=>whnf
    repeat (refine And.intro (by first|with_reducible rfl|(exact cI (by rw[wi];omega))|exact cI (wi)|exact wi|rfl) ?_;conv=>whnf)
    exact xT
  ·have h':=aj h
   have:j=(mR n).length:=by omega
   subst this;conv=>whnf
   rw[aJ]at lD;exact⟨rfl,v2,ahU,lD,ahy⟩
def I64(n:Int):Prop:=-9223372036854775808<=n/\n<=9223372036854775807
theorem adj(h:I64 n):BC (sF n):=by
 have:=h.1;have:=h.2
 unfold sF BC;split<;>omega
theorem aa9(h:I64 n)(h0:0<=n):nC .u64 (IntKind.u64.wrap n) 1=sF n:=by
 have:=h.2;rw[wu h0 (by omega)]
 show IntKind.u64.wrap (n*2)=sF n
 rw[wu,sF,aC h0];omega
theorem aba(h:I64 n)(h0:n<0):ag BinOp.or .u64 (nC .u64 (IntKind.u64.wrap (ag .xor .i64 (if IntKind.i64.signed=true then-1 else IntKind.i64.max) n)) 1) 1=sF n:=by
 have:=h.1;rw[WD h.1 h.2,wu]
 have e1:nC .u64 (-n-1) 1=(((-n-1).toNat*2^1:Nat):Int):=by
  show IntKind.u64.wrap ((-n-1)*2)=_
  rw[wu];omega
 have e2:=Uo (a:=(-n-1).toNat*2^1) (b:=1) (by omega) (by omega);rw[e1];refine e2.trans ?_;rw[Dp 1 (by omega),sF,if_neg (by omega)];omega
theorem aod(hw:Wr m bp l)(hn:I64 n)(hb:l.length<=100000000):
  bi tP 143 [cx bp,i64 n] m λr m'=>r=[]/\Wr m' bp (l++fe (sF n)):=by
 refine ap Tryz.func143 ?_;apply bI<;>intro h
 ·have h':=ah h
  conv=>whnf
  rw[aa9 hn h'];refine aP (iK hw (adj hn) hb) ?_;rintro _ m'⟨rfl,h1⟩;exact⟨rfl,h1⟩
 ·have h':=aj h
  conv=>whnf
  rw[aba hn (by omega)];refine aP (iK hw (adj hn) hb) ?_;rintro _ m'⟨rfl,h1⟩;exact⟨rfl,h1⟩
theorem yf{k:Nat}(h:k<1000000000000):BC k:=⟨by omega,by omega⟩
theorem F5{p q:aD}{ls:List aD}{i j:Nat}{b:List Int}(hs:aq m ls)(hi:ls[i]?=some p) (hj:ls[j]?=some q) (ZD:i≠j) (hw:Wr p bp l) (hv:La q v b) (hb:l.length<=10000000) (hbb:b.length<=10000000):
  bi tP 80 [cx bp,.v v] m λr m'=>r=[]/\∃p',aq m' (ls.set i p')/\Wr p' bp (l++BJ b):=by
 obtain⟨a,c,rfl⟩:=hv.shape;refine ap Tryz.func80 ?_;refine xN ?_;conv=>whnf
 rw[wu];refine aP ((iK hw (yf (by omega)) (by omega)).at hs hi) ?_;rintro _ m1⟨p1,⟨rfl,v1,kW,lZ,ml⟩,bM⟩;have hi1:=abJ hi p1;have LR:=BO hj ZD p1;refine⟨v1,aF (bM.at hi1 _ _ kW) rfl,lZ.lb.one,?_⟩;refine .mk _ (nQ bM hi1 lZ (hv.sub (bM.at LR)) (by simp only[ax];have:=eI (b.length:Int);omega)) ?_;rintro _ m2⟨v2,p2,rfl,bZ,h2⟩;obtain⟨h3,h4⟩:=Wr.CJ kW ml h2;rw[List.set_set]at bZ;have hi2:=abJ hi p2;refine⟨_,_,_,bZ.at hi2 _ _ h3,⟨by simp,by omega⟩,?_⟩;have h5:=bZ.gu hi2 h3 (Obj.cells (#[v1].setIfInBounds 0 v2) 174);rw[List.set_set]at h5;rw[aX]at h4;exact⟨rfl,_,h5,h4⟩
abbrev aq7(d:List Int):CV:=.a [.bG .u8 32 d]
abbrev aa4(v:List Int):CV:=.a [.bG .u64 8 v]
theorem Lb.jI{b:Nat}{d:List Int}{t:TypeId}{fr:Nat×Nat}(h:m b=some (.cells (LB.cz [.bG .u8 32 d]).toArray t fr))(hd:d.length=32):Lb m (.slice (some ⟨b,0,none⟩) 32 32) d:=
 Lb.mk h hd (aW _) λj n hj=>by simp[LB.cz,eB.cells,hj]
theorem BF{d:List Int}(hw:Wr m bp l)(hd:d.length=32)(hb:l.length<=100000000):
  bi tP 96 [cx bp,aq7 d] m λr m'=>r=[]/\Wr m' bp (l++d):=by
 obtain⟨v,hbp,hv,ga⟩:=hw;refine c7 c96 Tryz.func96 ?_;intro b qB;refine xY ?_;refine⟨v,aF (aD.bT _ qB _ _ hbp) rfl,hv.lb.one,?_⟩;intro o' ho _;obtain rfl:o'=0:=ho (by decide);refine .mk _ (OI (hv.sub (aD.bT _ qB)) (Lb.jI (aD.bg ..) hd).la (by omega)) ?_;rintro _ m2⟨v2,rfl,h2⟩;obtain⟨h3,h4⟩:=Wr.CJ hbp ga (GW qB h2);refine⟨_,_,_,h3,⟨by simp,by omega⟩,?_⟩;exact⟨rfl,h4⟩
def yZ(v:List Int):Prop:=v.length=8/\∀x∈v,BC x
theorem qd(v:List Int):(kH v).length<=9*v.length:=by
 induction v with
 |nil=>simp[kH]
 |cons a v ih=>have:=eI a;simp only[kH,aZ,dX,ax,ae]at ih⊢;omega
variable{v:List Int}
theorem X5{i:Nat}(h:i<v.length):kH (v.take i)++fe (v.getD i 0)=kH (v.take (i+1)):=by
 rw[au h,kH,kH,bD,gk];simp[h]
theorem yZ.at(h:yZ v)(i:Nat):BC (v.getD i 0):=by
 by_cases hi:i<v.length
 ·have:v.getD i 0∈v:=by simp[hi]
  exact h.2 _ this
 ·simp[jr (Nat.le_of_not_lt hi)];exact⟨by decide,by decide⟩
theorem XX(hw:Wr m bp l)(hv:yZ v)(hb:l.length<=10000000):
  bi tP 142 [cx bp,aa4 v] m λr m'=>r=[]/\Wr m' bp (l++kH v):=by
 have hl:=hv.1;refine ap Tryz.func142 ?_
 refine .mk (ι:=Nat) (λi=>8-i) (λi mm=>i<=8/\Wr mm bp (l++kH (v.take i)))
  (λi=>[(0,.c (cx bp)),(6,.c (aa4 v)),(7,.c (i64 i))]) (λ_=>[]) 0 ⟨by omega,by simpa [kH]using hw⟩ ?_ ?_
 ·exact Cr
 rintro i mm⟨hi,h1⟩;apply bI<;>intro h
 ·have h':=ah h
  repeat refine xS ?_
  refine aP (iK (n:=v.getD i 0) h1 (hv.at i) (by have:=qd (v.take i);simp only[ax,aK]at*;omega)) ?_;rintro _ m2⟨rfl,h2⟩;conv=>whnf
  rw[aX,X5 (by omega)]at h2;refine⟨i+1,⟨by omega,h2⟩,by omega,?_⟩;exact Cr
 ·have h':=aj h
  obtain rfl:i=8:=by omega
  conv=>whnf
  rw[bP (by omega)]at h1;exact⟨rfl,h1⟩
theorem tF(hw:Wr m bp l)(hb:l.length<=100000000):
  bi tP 82 [cx bp] m λr m'=>∃v' p,r=[.v v']/\aq m' [p,m]/\Bs p v' l:=by
 obtain⟨v,hbp,hv,ga⟩:=hw;refine ap Tryz.func82 ?_;refine xN ?_;refine⟨v,aF hbp rfl,hv.lb.one,?_⟩;refine aP (sQ hv.lb.la hb) ?_;rintro _ m'⟨v',p,rfl,h1,h2⟩;exact⟨v',p,rfl,h1,h2⟩
def isB(c:Nat):Bool:=(decide (97<=c)&&decide (c<=122))||(decide (48<=c)&&decide (c<=57))||decide (c=45)
def kZ(l:List Nat):Bool:=decide (0<l.length)&&decide (l.length<=20)&&l.all isB
theorem QP{c:Nat}:eN tP 242 [.v (.int .u8 (c:Int))] m [bR (isB c)]:=by
 have e45:((c:Int)==45)=decide (c=45):=by by_cases h:c=45<;>simp[h];omega
 refine ap Tryz.func242 ?_;conv=>whnf
 repeat' (first|(refine⟨λh=>?_,λh=>?_⟩<;>conv=>whnf)|fail)
 all_goals (refine⟨?_,rfl⟩;(try simp only[e45]);by_cases h45:c=45<;>simp[isB,h45]at* <;>omega)
theorem amg(s:ByteArray)(i:Nat):(s.data.toList.getD i 0).toNat=(jR s).getD i 0:=by
 simp only[jR,aI,cj]
 cases s.data.toList[i]?<;>rfl
theorem iB{s:ByteArray}(hs:s.size<=1000000):eN tP 159 [.v (.string s)] m [bR (kZ (jR s))]:=by
 refine ap Tryz.func159 ?_;refine .mk (ι:=Nat) (λi=>s.size-i) (λi mm=>i<=s.size/\i<=20/\(∀x∈(jR s).take i,isB x=true)/\mm=m) (λi=>[(0,.c (.v (.string s))),(5,.c (i64 s.size)),(6,.c (i64 i))]) (λ_=>[]) 0 ⟨by omega,by omega,by simp,rfl⟩ ?_ ?_
 ·exact Cr
 rintro i mm⟨hi,hi2,cM,he⟩;subst mm;apply bI<;>intro h1
 ·have jc:=ah h1
  apply bI<;>intro h2
  ·have iD:=ah h2
   refine⟨?_,rfl⟩;have:¬(s.size<=20):=by omega
   simp[kZ,ue,this]
  ·have iD:=aj h2
   have bH:i<s.size:=by omega
   refine⟨⟨by omega,by omega⟩,?_⟩;conv=>whnf
   rw[aA,amg];refine bt (QP) ?_;have HP:i<(jR s).length:=by rw[ue];omega
   have U8:(jR s)[i]?=some ((jR s).getD i 0):=by simp[az HP]
   apply bI<;>intro h3
   ·refine⟨?_,rfl⟩
    have yF:isB ((jR s).getD i 0)=false:=by simpa using h3
    have:(jR s).all isB=false:=by
     rw[uI];exact⟨_,dJ U8,by simp only[yF,cU,not_false_eq_true]⟩
    simp[kZ,this]
   ·have yF:isB ((jR s).getD i 0)=true:=by simpa using h3
    refine⟨i+1,⟨by omega,by omega,?_,rfl⟩,by omega,?_⟩
    ·intro x hx
     rw[au HP]at hx;rcases aR.1 hx with hx|hx
     ·exact cM x hx
     ·rw[aL.1 hx]
      rw[az HP]at U8;rw[eL U8];exact yF
    ·exact Cr
 ·have jc:=aj h1
  obtain rfl:i=s.size:=by omega
  refine⟨?_,rfl⟩;have hl:=ue s;rw[<-hl,aJ]at cM;have:(jR s).all isB=true:=bL.2 cM;simp[kZ,this,hl];omega
theorem avj:∃ti,tt.get 9=some ti:=⟨_,rfl⟩
theorem ara{s:ByteArray}:bF tP (.conv 9 118) [.v (.string s)] m λr m'=>∃v,r=[.v v]/\cL m m'/\La m' v (nc (jR s)):=
 (Cy eR avj.choose_spec OW rfl hU8 rfl).mono λ_ _ ⟨_,_,_,h0,h1,h2,h3⟩=>⟨_,h1,by rw[h2];exact aD.bT _ h0,h3.la⟩
end Go.E.Y
namespace Go.E
instance (l:List Int):Decidable (jl l):=inferInstanceAs (Decidable (∀x∈l,0<=x/\x<256))
namespace Fr
def stp(s:Nat):Nat:=if s%2=1 then(s/2) ^^^ 3988292384 else s/2
def Jq:Nat->Nat->Nat
 |0,s=>s
 |k+1,s=>Jq k (stp s)
def JZ(s c:Nat):Nat:=Jq 8 (s ^^^ c)
def Ov(l:List Int):Nat:=(l.foldl (λs c=>JZ s c.toNat) 4294967295) ^^^ 4294967295
theorem akg{s:Nat}(h:s<2^32):stp s<2^32:=by
 unfold stp;have:s/2<2^32:=by omega
 split
 ·exact jB this (by decide)
 ·exact this
theorem MD:∀{k s:Nat},s<2^32->Jq k s<2^32
 |0,_,h=>h
 |k+1,_,h=>MD (k:=k) (akg h)
theorem KH:∀(k s:Nat),Jq (k+1) s=stp (Jq k s)
 |0,_=>rfl
 |k+1,s=>by rw[Jq,KH k,Jq]
theorem FU:∀{l:List Int}{s:Nat},s<2^32->jl l->l.foldl (λs c=>JZ s c.toNat) s<2^32
 |[],_,h,_=>h
 |c::l,s,h,hb=>FU (l:=l) (MD (jB h (by have:=hb c (by simp);omega))) λx hx=>hb x (by simp[hx])
theorem aeE{l:List Int}(hb:jl l):Ov l<2^32:=jB (FU (by decide) hb) (by decide)
def pC(s:Nat):List Int:=[((s%256:Nat):Int),((s/256%256:Nat):Int),((s/65536%256:Nat):Int),((s/16777216%256:Nat):Int)]
theorem ad8(s:Nat):jl (pC s):=by
 intro x hx;simp only[pC,aU,fG,rH]at hx;omega
def wr(r:List Int):List Int:=fe (r.length:Int)++r++pC (Ov r)
def mB(n:Nat):Bool:=decide (1<=n)&&decide (n<=20000)
def next(b:List Int):List Int×Nat×Int:=
 let s:=cZ 20000 (b,0)
 if s.2.2=8 then([],0,0)else if s.2.2≠0\/s.1=0 then([],0,3)else
 let je:=(fe s.1).length
 let n:=s.1.toNat
 if (b.length:Int)-je<n+4 then([],0,0)else
 let d:=(b.drop je).take n
 if pC (Ov d)=(b.drop (je+n)).take 4 then(d,je+n+4,0)else([],0,9)
def lU:Nat->List Int->List (List Int)×Nat×Int
 |0,_=>([],0,0)
 |f+1,b=>let (d,n,e):=next b;if 0<n then let (l,k,e'):=lU f (b.drop n);(d::l,n+k,e')else([],0,e)
theorem acC(n:Int):0<(fe n).length:=by simp[fe]
theorem agQ(b:List Int):(next b).2.1<=b.length:=by
 unfold next
 grind
theorem Gu{n:Nat}(h:n<=20000)(t:List Int):cZ 20000 (fe (n:Int)++t,0)=((n:Int),(t,0)):=by
 have h1:=uT (n:=(n:Int)) ⟨by omega,by omega⟩ t;unfold cZ;rw[h1];dsimp only;have:(decide ((0:Int)<=20000)&&decide ((n:Int)<=max 20000 0))=true:=by simp;omega
 rw[this];simp[ay]
theorem KJ{n:Nat}(h:n<=20000)(k:Nat)(hk:k<(fe (n:Int)).length):(cZ 20000 ((fe (n:Int)).take k,0)).2.2=8:=by
 obtain⟨u,hu⟩:=ab2 (n:=(n:Int)) k hk rfl;unfold cZ;rw[hu];simp[ay]
theorem Za{r:List Int}(h:mB r.length=true)(t:List Int):next (wr r++t)=(r,(wr r).length,0):=by
 have h':1<=r.length/\r.length<=20000:=by simpa [mB]using h
 have e:wr r++t=fe (r.length:Int)++(r++(pC (Ov r)++t)):=by simp[wr]
 unfold next;dsimp only;rw[e,Gu h'.2,if_neg (by simp),if_neg (λhh=>hh.elim (λh=>h rfl) λh=>by have:(r.length:Int)=0:=h;omega),aA];have hl:(wr r).length=(fe (r.length:Int)).length+r.length+4:=by simp[wr,pC];omega
 rw[if_neg (by simp[pC];omega)];have d1:(fe (r.length:Int)++(r++(pC (Ov r)++t))).drop (fe (r.length:Int)).length=r++(pC (Ov r)++t):=by simp
 have d2:(fe (r.length:Int)++(r++(pC (Ov r)++t))).drop ((fe (r.length:Int)).length+r.length)=pC (Ov r)++t:=by
  rw[<-dU,d1];simp
 rw[d1,d2];have t1:(r++(pC (Ov r)++t)).take r.length=r:=by simp
 have t2:(pC (Ov r)++t).take 4=pC (Ov r):=by simp[pC]
 rw[t1,t2,aC rfl,hl]
theorem acE{r:List Int}(h:mB r.length=true){k:Nat}(hk:k<(wr r).length):next ((wr r).take k)=([],0,0):=by
 have h':1<=r.length/\r.length<=20000:=by simpa [mB]using h
 have hl:(wr r).length=(fe (r.length:Int)).length+r.length+4:=by simp[wr,pC];omega
 have e:wr r=fe (r.length:Int)++(r++pC (Ov r)):=by simp[wr]
 unfold next;dsimp only;by_cases hn:k<(fe (r.length:Int)).length
 ·have:(wr r).take k=(fe (r.length:Int)).take k:=by rw[e,dD (by omega)]
  rw[this,KJ h'.2 k hn,aC rfl]
 ·have:(wr r).take k=fe (r.length:Int)++(r++pC (Ov r)).take (k-(fe (r.length:Int)).length):=by
   rw[e,gj,bP (by omega)]
  have hlen:((wr r).take k).length=k:=by simp;omega
  have hs:=Gu h'.2 ((r++pC (Ov r)).take (k-(fe (r.length:Int)).length))
  grind
theorem Hi:next []=([],0,0):=by
 have:=@KJ 0 (by decide) 0 (by simp[fe])
 unfold next
 grind
def kP(l:List (List Int)):List Int:=(l.map wr).flatten
def fC:List (List Int)->Nat->Nat×Nat
 |[],_=>(0,0)
 |r::l,k=>if (wr r).length<=k then let (a,b):=fC l (k-(wr r).length);(a+1,(wr r).length+b)else(0,0)
theorem aa5(r:List Int):0<(wr r).length:=by have:=acC (r.length:Int);simp only[wr,ax];omega
theorem GK:∀{l:List (List Int)}{k f:Nat},(∀r∈l,mB r.length=true)->(fC l k).1<f->lU f ((kP l).take k)=(l.take (fC l k).1,(fC l k).2,0)
 |[],k,f+1,_,_=>by simp[kP,lU,Hi,fC]
 |r::l,k,f+1,h,hf=>by
  have hr:=h r (by simp);have hc:kP (r::l)=wr r++kP l:=by simp[kP]
  have hp:=aa5 r;unfold fC at hf⊢;by_cases hk:(wr r).length<=k
  ·have e:(kP (r::l)).take k=wr r++(kP l).take (k-(wr r).length):=by
    rw[hc,gj,bP hk]
   rw[aC hk]at hf;have ih:=GK (l:=l) (k:=k-(wr r).length) (f:=f) (λr hr=>h r (by simp[hr])) (by simp only at hf;omega);rw[aC hk,lU,e,Za hr];dsimp only;rw[aC hp];have:(wr r++(kP l).take (k-(wr r).length)).drop (wr r).length=(kP l).take (k-(wr r).length):=by simp
   rw[this,ih];simp
  ·have e:(kP (r::l)).take k=(wr r).take k:=by
    rw[hc,dD (by omega)]
   rw[if_neg hk,lU,e,acE hr (by omega)];simp
theorem C5:∀{l:List (List Int)}{k:Nat},(fC l k).1<=k
 |[],_=>by simp[fC]
 |r::l,k=>by
  have ih:=C5 (l:=l) (k:=k-(wr r).length);have hp:=aa5 r;unfold fC;split
  ·simp only;omega
  ·simp
theorem IJ(a b:List (List Int)):kP (a++b)=kP a++kP b:=by simp[kP]
theorem BE:∀{l:List (List Int)}{k:Nat},(fC l k).1<=l.length
 |[],_=>by simp[fC]
 |r::l,k=>by
  have:=BE (l:=l) (k:=k-(wr r).length);unfold fC;split
  ·simp only[ae];omega
  ·simp
theorem zJ:∀{l:List (List Int)},(∀r∈l,jl r)->jl (kP l)
 |[],_=>by intro x hx;simp[kP]at hx
 |r::l,h=>by
  have e:kP (r::l)=wr r++kP l:=by simp[kP]
  rw[e];refine jl.append (jl.append (jl.append (Lf _) (h r (by simp))) (ad8 _)) (zJ λq hq=>h q (by simp[hq]))
end Fr
end Go.E
namespace Go.E.Y
open Go.Proofs
abbrev Kd:=ByteArray×Ct
def UR(e:En):Bool:=(decide (1<=e.1)&&decide (e.1<=60))&&decide (-1000<=e.2.2.2)&&decide (e.2.2.2<=1000)
def Z8(E:List En)(i:Nat):En:=E.getD i (0,0,0,0)
variable{E:List En}{i:Nat}
theorem On(h:i<E.length):E[i]=Z8 E i:=by rw[Z8,aI,az h];rfl
theorem ah6(h:i<E.length):Z8 E i∈E:=by rw[<-On h];exact aO h
def Up(u:List Int)(E:List En)(i:Nat):Bool:=UR (Z8 E i)&&Bi u (kz (Z8 E i))&&(decide (i=0)||aaO (Z8 E (i-1)) (Z8 E i))
def AD(E:List En):List Dt:=TW (E.map kz)
def dA(u:List Int)(E:List En):Bool:=decide (E.length<=400)&&(List.range E.length).all (Up u E)&&decide ((AD E).length=E.length)
def OA(K:List En)(e:En):Bool:=K.any λf=>!decide (e=f)&&decide (kz e=kz f)
def yS(E K:List En):Bool:=E.any (OA K)
def qH(u:List Int)(K:List En)(both:Bool)(e:En):Bool:=(both&&K.contains e)|| !Bi u (kz e)
def jO(E:List En)(u:List Int)(K:List En)(both:Bool):List En:=E.filter (qH u K both)
def yv(u w:List Int)(E K:List En):List En:=jO E w K true++jO K u E false
def QL(u w:List Int):List Int:=List.zipWith max (List.zipWith max (List.replicate 8 0) u) w
def nh(a b:Ct):Ct×Int:=
 if dA a.1 a.2=false\/dA b.1 b.2=false then((fx,[]),3)
 else if yS a.2 b.2 then((fx,[]),14)
 else if 400<(yv a.1 b.1 a.2 b.2).length then((fx,[]),5)
 else((QL a.1 b.1,nY (yv a.1 b.1 a.2 b.2)),0)
abbrev chI(s:ByteArray):List Int:=(jR s).map (λ(n:Nat)=>(n:Int))
def JW(e:En):List Int:=fe e.1++fe e.2.1++fe e.2.2.1++fe (sF e.2.2.2)
def oB(E:List En):List Int:=(E.map JW).flatten
def yV(c:Ct):List Int:=kH c.1++fe c.2.length++oB c.2
def AY(c:Ct):List Int:=if dA c.1 c.2 then yV c else[]
def nJ(x:Kd):List Int:=BJ (chI x.1)++AY x.2
def B3(L:List Kd):List Int:=fe L.length++(L.map nJ).flatten
def Iq(s:RS):En×RS:=
 (((cZ 60 s).1,(cZ 8 (cZ 60 s).2).1,(og (cZ 8 (cZ 60 s).2).2).1,(Jt (og (cZ 8 (cZ 60 s).2).2).2).1),(Jt (og (cZ 8 (cZ 60 s).2).2).2).2)
def w8:Nat->List En->RS->List En×RS
 |0,E,s=>(E,s)
 |n+1,E,s=>if s.2≠0 then(E,s)else w8 n (E++[(Iq s).1]) (Iq s).2
def wS(s:RS):List En×RS:=w8 (cZ 400 (uS s).2).1.toNat [] (cZ 400 (uS s).2).2
def Av(s:RS):RS:=ay (dA (uS s).1 (wS s).1) (wS s).2
def oU(s:RS):Ct×RS:=(if (Av s).2≠0 then(fx,[])else((uS s).1,(wS s).1),Av s)
def AR(l:List Int):ByteArray:=⟨(l.map λx=>UInt8.ofNat x.toNat).toArray⟩
def Ir(s:RS):Int:=if s.2≠0 then s.2 else if s.1=[]then 0 else 2
def PV(b:List Int):Kd×Bool:=
 ((AR (kM 20 (b,0)).1,(oU (kM 20 (b,0)).2).1),decide (Ir (oU (kM 20 (b,0)).2).2=0)&&kZ (jR (AR (kM 20 (b,0)).1)))
def eZ(a b:ByteArray):Bool:=Op.bytesLess a.toList b.toList
def vj(L:List Kd)(k:ByteArray):Option Ct:=(L.find? λx=>decide (x.1=k)).map (·.2)
def gh(L:List Kd)(k:ByteArray):Ct:=(vj L k).getD (fx,[])
def sG(k:ByteArray)(c:Ct):List Kd->List Kd
 |[]=>[(k,c)]
 |x::L=>if eZ k x.1 then(k,c)::x::L else x::sG k c L
def iz(L:List Kd)(k:ByteArray)(c:Ct):List Kd:=
 if L.any λx=>decide (x.1=k)then L.map λx=>if x.1=k then(k,c)else x else sG k c L
def iy(L:List Kd)(R:List Kd):List Kd:=R.foldl (λL x=>iz L x.1 x.2) L
theorem aij(s:ByteArray):jl (chI s):=by
 intro x hx;obtain⟨n,hn,rfl⟩:=aV.1 hx;obtain⟨c,_,rfl⟩:=aV.1 hn;have:=c.toNat_lt;omega
theorem Ps(s:ByteArray):AR (chI s)=s:=by
 obtain⟨⟨l⟩⟩:=s;simp[AR,chI,jR,Function.comp_def]
variable{u:List Int}
theorem adW(hu:yZ u){d:Dt}(h:Bi u d=true):1<=d.1/\d.1<=8/\1<=d.2/\d.2<18446744073709551616:=by
 simp only[Bi,jm,uw,S7,aB,bA]at h;obtain⟨⟨⟨h1,h2⟩,h3⟩,h4⟩:=h;refine⟨h1,h2,by omega,?_⟩
 have h5:BC (tk u d.1):=by
  unfold tk;split
  ·exact hu.at _
  ·exact⟨by omega,by omega⟩
 have:=h5.2;omega
structure IZ(e:En):Prop where
 i1:1<=e.1
 i2:e.1<=60
 n1:1<=e.2.1
 n2:e.2.1<=8
 k1:1<=e.2.2.1
 k2:e.2.2.1<18446744073709551616
 q1: -1000<=e.2.2.2
 q2:e.2.2.2<=1000
theorem tM(hu:yZ u)(h:dA u E=true):∀e∈E,IZ e:=by
 intro e he;simp only[dA,aB,bL,dS,bA]at h;obtain⟨i,hi,rfl⟩:=dc he;have:=h.1.2 i hi;rw[On hi];simp only[Up,UR,aB,bA]at this;obtain⟨⟨⟨⟨⟨h1,h2⟩,h3⟩,h4⟩,h5⟩,_⟩:=this;obtain⟨g1,g2,g3,g4⟩:=adW hu h5;exact⟨h1,h2,g1,g2,g3,g4,h3,h4⟩
theorem pj(h:dA u E=true):E.length<=400:=by
 simp only[dA,aB,bA]at h;exact h.1.1
variable{e:En}
theorem Z5(h:IZ e)(t:List Int):Iq (JW e++t,0)=(e,(t,0)):=by
 obtain⟨i,n,k,q⟩:=e;obtain⟨h1,h2,h3,h4,h5,h6,h7,h8⟩:=h;simp only at h1 h2 h3 h4 h5 h6 h7 h8;simp only[Iq,JW,aX];rw[gJ ⟨by omega,by omega⟩ h2];simp only;rw[gJ ⟨by omega,by omega⟩ h4];simp only;rw[uT ⟨by omega,h6⟩];simp only;rw[YQ ⟨by omega,by omega⟩]
theorem Ip:∀(E:List En) (E0:List En) (t:List Int),(∀e∈E,IZ e)->w8 E.length E0 (oB E++t,0)=(E0++E,(t,0))
 |[],E0,t,_=>by simp[w8,oB]
 |e::E,E0,t,h=>by
  have ih:=Ip E (E0++[e]) t λx hx=>h x (bO _ hx);have e1:oB (e::E)++t=JW e++(oB E++t):=by simp[oB]
  rw[ae,w8,if_neg (by simp),e1,Z5 (h e (by simp)),ih];simp
variable{c:Ct}
theorem Gi(hu:yZ c.1)(h:dA c.1 c.2=true)(t:List Int):oU (yV c++t,0)=(c,(t,0)):=by
 obtain⟨u,E⟩:=c;have hl:=pj h;simp only at hl h hu
 have e1:uS (yV (u,E)++t,0)=(u,(fe (E.length:Int)++(oB E++t),0)):=by
  simp only[yV,aX];exact YN hu.1 hu.2 _
 have e2:wS (yV (u,E)++t,0)=(E,(t,0)):=by
  unfold wS;rw[e1];simp only;rw[gJ (yf (by omega)) (by omega)];simp only[aA];rw[Ip E [] t (tM hu h)];rfl
 have e3:Av (yV (u,E)++t,0)=(t,0):=by
  unfold Av;rw[e1,e2,h];simp[ay]
 unfold oU
 grind
variable{x:Kd}
theorem T6(hk:kZ (jR x.1)=true)(hu:yZ x.2.1)(h:dA x.2.1 x.2.2=true):PV (nJ x)=(x,true):=by
 have hl:(chI x.1).length<=20:=by
  simp only[kZ,aB,bA]at hk
  grind
 unfold PV nJ AY;rw[aC h,GN (by omega) (by omega)];simp only;have:=Gi hu h [];rw[cO]at this;rw[this];simp only[Ps,Ir]
 grind
theorem BP(a b:ByteArray):eZ a b=decide (a.data.toList<b.data.toList):=by
 unfold eZ;rw[bytesLess_eq,ByteArray.toList_eq,ByteArray.toList_eq]
theorem oa(a:ByteArray):eZ a a=false:=by
 rw[BP];exact aY (List.lt_irrefl _)
variable{a b:ByteArray}
theorem qh{c:ByteArray}(h:eZ a b=true)(k:eZ b c=true):eZ a c=true:=by
 rw[BP]at*
 grind
theorem qi(h:eZ a b=false)(k:eZ b a=false):a=b:=by
 rw[BP]at*;have h1:=aj h;have h2:=aj k;have:a.data.toList=b.data.toList:=List.le_antisymm (List.not_lt.1 h2) (List.not_lt.1 h1)
 cases a;cases b
 grind
theorem tL(h:eZ a b=true):eZ b a=false:=by
 cases k:eZ b a with
 |false=>rfl
 |true=>have:=qh h k;rw[oa]at this;cases this
def s6(L:List Kd):Prop:=L.Pairwise λx y=>eZ x.1 y.1=true
theorem Ho{k:ByteArray}{c:Ct}{x:Kd}:∀{L:List Kd},x∈sG k c L↔x=(k,c)\/x∈L
 |[]=>by simp[sG]
 |y::L=>by
  unfold sG;split
  ·simp
  ·rw[aU,Ho (L:=L),aU]
   constructor
   ·rintro(h|h|h)
    ·exact .inr (.inl h)
    ·exact .inl h
    ·exact .inr (.inr h)
   ·rintro(h|h|h)
    ·exact .inr (.inl h)
    ·exact .inl h
    ·exact .inr (.inr h)
theorem Zc{L:List Kd}{k:ByteArray}(h:x∈iz L k c):x=(k,c)\/x∈L:=by
 unfold iz at h
 split at h
 ·grind
 ·exact Ho.1 h
theorem QS(k:ByteArray)(c:Ct):∀L:List Kd,(sG k c L).length=L.length+1
 |[]=>rfl
 |y::L=>by
  unfold sG;split
  ·rfl
  ·rw[ae,QS k c L];rfl
theorem C4(L:List Kd)(k:ByteArray)(c:Ct):(iz L k c).length<=L.length+1:=by
 unfold iz;split
 ·grind
 ·rw[QS];omega
theorem F7(L A:List Kd)(x:Kd):iy L (A++[x])=iz (iy L A) x.1 x.2:=by simp[iy]
theorem Wf{P:Kd->Prop}:∀(R L:List Kd),(∀x∈L,P x)->(∀x∈R,P x)->∀x∈iy L R,P x
 |[],L,h,_=>h
 |y::R,L,h,k=>Wf R (iz L y.1 y.2) (λx hx=>by
   rcases Zc hx with rfl|hx
   ·exact k y (by simp)
   ·exact h x hx) λx hx=>k x (by simp[hx])
theorem uL(L:List Kd):∀R:List Kd,(iy L R).length<=L.length+R.length
 |[]=>aW _
 |x::R=>by
  have h1:=uL (iz L x.1 x.2) R;have h2:=C4 L x.1 x.2
  show(iy (iz L x.1 x.2) R).length<=_
  rw[ae];omega
theorem L6{L:List Kd}{k:ByteArray}(h:vj L k=some c):(k,c)∈L:=by
 unfold vj at h
 cases e:L.find? λx=>decide (x.1=k)with
 |none=>rw[e]at h;cases h
 |some x=>
  rw[e]at h;injection h with h;have h1:=List.find?_some e;have h2:=jn e;obtain⟨x1,x2⟩:=x;simp only[bA]at h1 h;rw[<-h1,<-h];exact h2
theorem Nj{n:Int}{k:Nat}(h:n.toNat<256^k)(hk:k<=8):(fe n).length<=k+1:=by
 have h1:(mR n).length<=k:=by
  rw[mR,aH];have:=(CF 8 n.toNat k (fR h (pQ (by decide) hk)))
  (simp_all;omega)
 rw[fe,ae];omega
theorem RZ(h:IZ e):(JW e).length<=16:=by
 have h1:=h.i1;have h2:=h.i2;have h3:=h.n1;have h4:=h.n2;have h5:=h.q1;have h6:=h.q2;have a1:(fe e.1).length<=2:=Nj (k:=1) (by omega) (by omega);have a2:(fe e.2.1).length<=2:=Nj (k:=1) (by omega) (by omega);have a3:=eI e.2.2.1;have a4:(fe (sF e.2.2.2)).length<=3:=Nj (k:=2) (by unfold sF;split<;>omega) (by omega);simp only[JW,ax];omega
theorem D6:∀{E:List En},(∀e∈E,IZ e)->(oB E).length<=16*E.length
 |[],_=>by simp[oB]
 |e::E,h=>by
  have h1:=RZ (h e (by simp));have h2:=D6 (E:=E) λx hx=>h x (by simp[hx]);have e1:oB (e::E)=JW e++oB E:=by simp[oB]
  rw[e1,ax,ae];omega
structure ki(x:Kd):Prop where
 k:kZ (jR x.1)=true
 u:yZ x.2.1
 r:dA x.2.1 x.2.2=true
theorem zH(s:ByteArray):(chI s).length=s.size:=by
 rw[aH,jR,aH];rfl
theorem ki.key(h:ki x):1<=x.1.size/\x.1.size<=20:=by
 have:=h.k;simp only[kZ,aB,bA]at this;have hl:=zH x.1
 grind
theorem Ec(hu:yZ c.1)(h:dA c.1 c.2=true):(yV c).length<=6500:=by
 have h1:=qd c.1;rw[hu.1]at h1;have h2:=pj h;have h3:=D6 (tM hu h);have h4:=eI (c.2.length:Int);simp only[yV,ax];omega
theorem ki.len(h:ki x):1<=(nJ x).length/\(nJ x).length<=6600:=by
 have h1:=h.key;have h2:=Ec h.u h.r;have h3:=eI ((chI x.1).length:Int);have h4:=zH x.1;simp only[nJ,AY,BJ,ax]
 grind
theorem ju(n:Int):jl (fe n):=Lf n
theorem IL{α:Type}{f:α->List Int}:∀{l:List α},(∀x∈l,jl (f x))->jl (l.map f).flatten
 |[],_=>by simp[jl.nil]
 |x::l,h=>by
  rw[aZ,dX];exact jl.append (h x (by simp)) (IL λy hy=>h y (by simp[hy]))
theorem Pf(v:List Int):jl (kH v):=IL λx _=>ju x
theorem aep(e:En):jl (JW e):=jl.append (jl.append (jl.append (ju _) (ju _)) (ju _)) (ju _)
theorem aal(c:Ct):jl (yV c):=jl.append (jl.append (Pf _) (ju _)) (IL λx _=>aep x)
theorem ab7(c:Ct):jl (AY c):=by
 unfold AY;split
 ·exact aal c
 ·exact jl.nil
theorem FL(x:Kd):jl (nJ x):=jl.append (jl.append (ju _) (aij _)) (ab7 _)
abbrev Nv(x:En):CV:=.a [.one (.int .i64 x.1),.one (.int .i64 x.2.1),.one (.int .u64 x.2.2.1),.one (.int .i64 x.2.2.2)]
abbrev tyN:TyL En:={enc:=qp,s:=4,sl:=109,el:=168,by':=32,ts:=_,ti:=_,ok:=mr,h1:=rfl,h2:=rfl,h3:=rfl,h4:=rfl,h5:=rfl,h6:=rfl,h7:=by decide,h8:=by decide,lb:=λx=>[.one (.int .i64 x.1),.one (.int .i64 x.2.1),.one (.int .u64 x.2.2.1),.one (.int .i64 x.2.2.2)],lok:=λx=>⟨rfl,rfl,rfl,rfl,trivial⟩,lsz:=λx=>rfl,lcl:=λx=>by simp[LB.cz,eB.cells,qp],z:=(0,0,0,0),hz:=rfl}
abbrev Nl(m:aD)(v:Value)(E:List En):Prop:=Gl tyN.toTy m v E
abbrev No(m:aD)(v:Value)(E:List En):Prop:=Gw tyN.toTy m v E
abbrev Na(m:aD)(v:Value)(E:List En):Prop:=Ga tyN.toTy m v E
variable{m:aD}{v:Value}
theorem Na.sub{m':aD}(h:Na m v E)(hs:cL m m'):Na m' v E:=Ga.sub h hs
theorem No.el(h:No m v E):Nl m v E:=Gw.el h
theorem Nl.ea(h:Nl m v E):Na m v E:=Gl.ea h
theorem No.ea(h:No m v E):Na m v E:=Gw.ea h
theorem No.nil(m:aD):No m (.slice none 0 0) []:=Gw.nil m
theorem Na.nil(m:aD):Na m (.slice none 0 0) []:=Ga.nil m
theorem Na.real(h:Na m v E)(hi:i<E.length):∃b o c,v= .slice (some ⟨b,o,none⟩) E.length c/\∀j (hj:j<E.length),dQ m b (o+j*4) (qp E[j]):=Ga.real h hi
theorem FW:bF tP (.buildSlice 109 1 [0]) [Nv e] m λr m'=>∃b,m b=none/\r=[.v (.slice (some ⟨b,0,none⟩) 1 1)]/\m'=m.set b (.cells (qp e).toArray 168):=AL (t:=tyN.toTy) (tyN.lcl e)
theorem Wx{p:aD}{ls:List aD}{b':Nat}{x:En}{y:Value}(hs:aq m ls)(hi:ls[i]?=some p) (hb:m b'=none) (hy:No p y E) (hl:E.length<=10000000):
  bF tP (.builtin .append [109,109]) [.v y,.v (.slice (some ⟨b',0,none⟩) 1 1)] (m.set b' (.cells (qp x).toArray 168)) λr m'=>∃y' p',r=[.v y']/\aq m' (ls.set i p')/\No p' y' (E++[x]):=Az hs hi hb hy hl
theorem axi:ar3 tyN.toTy 75:={}
theorem l7(hv:Na m v E)(hl:E.length<=10000000):bi tP 75 [.v v] m λr m'=>∃v' p,r=[.v v']/\aq m' [p,m]/\No p v' E:=axi.cl hv hl
end Go.E.Y
