import Derived.Test.YtikipjbkjcefbaaGreatDoorNodeOwnsZ1
import Derived.Laws.CopyRow
import Derived.Test.YtikipjbkjcefbaaGreatDoorProg
import Derived.Lib.AppendZerosOnto
import Derived.Lib.ConvBytes
import Derived.Laws.LoneSync
import Derived.Lib.Overlaps
import Derived.Sort.Walk0
set_option maxHeartbeats 40000000
set_option maxRecDepth 100000
set_option linter.unusedVariables false
noncomputable section
namespace Go.E
abbrev Fl:=List (Nat×SV)
abbrev KY:=Fl->mM->aD->List Nat->Prop
abbrev iA(fl:Fl)(L:mM)(m:aD)(x:List Nat):St:=⟨nv fl,L,m,x⟩
def fSV(y:SV)(K:SV->Prop):Prop:=
 match y with
 | .c x=>K (.c x)
 | .t l=>K (.t l)
 | .p h o=>K (.p h o)
 | .q h o d=>K (.q h o d)
 | .sl h o d n c=>K (.sl h o d n c)
 | .tt=>K .tt
 | .ff=>K .ff
 | .un=>K .un
 | .any=>K .any
variable{y:SV}
theorem Cj{K:SV->Prop}(h:fSV y K):K y:=by cases y<;>exact h
def L8{α:Type}:List α->(List α->Prop)->Prop
 |[],K=>K []
 |a::r,K=>L8 r λr'=>K (a::r')
theorem sO{α:Type}:∀{l:List α}{K:List α->Prop},L8 l K->K l
 |[],_,h=>h
 |a::r,K,h=>sO (l:=r) (K:=λr'=>K (a::r')) h
def fFl:Fl->(Fl->Prop)->Prop
 |[],K=>K []
 |(j,y)::r,K=>fSV y λy=>fFl r λr'=>K ((j,y)::r')
theorem yJ:∀{l:Fl}{K:Fl->Prop},fFl l K->K l
 |[],_,h=>h
 |(j,y)::r,K,h=>yJ (l:=r) (K:=λr'=>K ((j,y)::r')) (Cj h)
def GV(d:Option Nat)(y:SV)(fl:Fl)(K:Fl->Prop):Prop:=
 match d with
 |none=>K fl
 |some d=>K ((d,y)::fl)
theorem vi(fl:Fl)(d:Nat)(y:SV):nv ((d,y)::fl)=fO (nv fl) (some d) y:=funext λ_=>rfl
variable{fl:Fl}
theorem KU{d:Option Nat}{K:Fl->Prop}(h:GV d y fl K):∃xv,K xv/\nv xv=fO (nv fl) d y:=by
 cases d with
 |none=>exact⟨fl,h,rfl⟩
 |some d=>exact⟨_,h,vi ..⟩
def al3(T:lz)(L:mM)(m:aD)(t:TypeId)(x:SV)(K:SV->List Nat->Prop):Prop:=
 match T t with
 |none=>False
 |some i=>match x with
  | .p h off=>match zo L h with
   |none=>False
   |some (_,c)=>match i.k.agg with
    |true=>match LB.sub c off i.size with
     |some d=>K (.c (.a d)) []
     |none=>False
    |false=>match LB.get c off with
     |some y=>K (.c (.v y)) []
     |none=>False
  | .q h off d=>match zo L h with
   |none=>False
   |some (_,c)=>match i.k.agg with
    |true=>LB.Ak c off d i.size λe=>K (.c (.a e)) []
    |false=>LB.Am c off d λy=>K (.c (.v y)) []
  | .c (.v (.pointer (some ⟨b,off,none⟩)))=>match i.k.agg with
   |true=>∃c:LB,LB.ok c/\LB.size c=i.size/\dQ m b off (LB.cz c)/\K (.c (.a c)) [b]
   |false=>∃y,gR m b off=some y/\(y.oneCell'=true)/\K (.c (.v y)) [b]
  |_=>False
def ajK(T:lz)(fl:Fl)(L:mM)(m:aD)(x:List Nat)(op:Op)(K:SV->List Nat->Prop):Prop:=
 match op with
 | .load t xo=>al3 T L m t (ev (iA fl L m x) xo) K
 | .convert src dst xo=>match rj T src dst with
  |true=>ael L m (ev (iA fl L m x) xo) K
  |false=>Ij T src dst (ev (iA fl L m x) xo) λz=>K z []
 |op=>Rw T (iA fl L m x) op K
theorem ad7(T:lz)(fl:Fl)(L:mM)(m:aD)(x:List Nat)(op:Op)(K:SV->List Nat->Prop):ajK T fl L m x op K=Rw T (iA fl L m x) op K:=by
 cases op<;>rfl
def Np(T:lz)(L:mM)(m:aD)(t:TypeId)(x y:SV)(K:mM->aD->Prop):Prop:=
 match T t with
 |none=>False
 |some i=>match x with
  | .p h off=>match zo L h with
   |none=>False
   |some (t',c)=>match y with
    | .c (.v z)=>bif Nat.beq i.size 1 then(match LB.set c off z with|some d=>K (L.set h (t',d)) m|none=>False)else False
    | .tt=>bif Nat.beq i.size 1 then(match LB.set c off (.bool true)with|some d=>K (L.set h (t',d)) m|none=>False)else False
    | .ff=>bif Nat.beq i.size 1 then(match LB.set c off (.bool false)with|some d=>K (L.set h (t',d)) m|none=>False)else False
    | .c (.a v)=>bif Nat.beq i.size (LB.size v)then(match LB.YS c off v with|some d=>K (L.set h (t',d)) m|none=>False)else False
    |_=>False
  | .q h off e=>match zo L h with
   |none=>False
   |some (t',c)=>match y with
    | .c (.v z)=>bif Nat.beq i.size 1 then LB.vu c off e z (λd=>K (L.set h (t',d)) m)else False
    | .tt=>bif Nat.beq i.size 1 then LB.vu c off e (.bool true) (λd=>K (L.set h (t',d)) m)else False
    | .ff=>bif Nat.beq i.size 1 then LB.vu c off e (.bool false) (λd=>K (L.set h (t',d)) m)else False
    | .c (.a v)=>bif Nat.beq i.size (LB.size v)then LB.Bq c off e v (λd=>K (L.set h (t',d)) m)else False
    |_=>False
  | .c (.v (.pointer (some ⟨b,off,none⟩)))=>match y with
   | .c (.v z)=>bif Nat.beq i.size 1 then(∃arr t' fr,m b=some (.cells arr t' fr)/\(off<arr.size/\¬(fr.1<=off/\off<fr.2))/\K L (m.set b (.cells (arr.setIfInBounds off z) t' fr)))else False
   | .tt=>bif Nat.beq i.size 1 then(∃arr t' fr,m b=some (.cells arr t' fr)/\(off<arr.size/\¬(fr.1<=off/\off<fr.2))/\K L (m.set b (.cells (arr.setIfInBounds off (.bool true)) t' fr)))else False
   | .ff=>bif Nat.beq i.size 1 then(∃arr t' fr,m b=some (.cells arr t' fr)/\(off<arr.size/\¬(fr.1<=off/\off<fr.2))/\K L (m.set b (.cells (arr.setIfInBounds off (.bool false)) t' fr)))else False
   | .c (.a v)=>bif Nat.beq i.size (LB.size v)then(∃arr t' fr,m b=some (.cells arr t' fr)/\(off+LB.size v<=arr.size/\∀j,j<LB.size v->¬(fr.1<=off+j/\off+j<fr.2))/\K L (m.set b (.cells (arr.toList.take off++(LB.cz v++arr.toList.drop (off+LB.size v))).toArray t' fr)))else False
   |_=>False
  |_=>False
def Qo(L:mM)(m:aD)(x:List Nat)(t:TypeId)(c:LB)(ext:Bool)(K:SV->mM->aD->List Nat->Prop):Prop:=
 match ext with
 |false=>K (.p L.length 0) (L++[(t,c)]) m x
 |true=>∀b,m b=none->K (.c (.v (.pointer (some ⟨b,0,none⟩)))) L (m.set b (.cells (LB.cz c).toArray t)) x
def ajc(P:Program)(T:lz)(fl:Fl)(L:mM)(m:aD)(x:List Nat)(op:Op)(ext:Bool)(cR:Kp)(K:SV->mM->aD->List Nat->Prop):Prop:=
 match op with
 | .alloc t=>match T t with
  |some i=>Qo L m x t i.zero ext K
  |none=>False
 | .box t y=>match ev (iA fl L m x) y with
  | .c (.a c)=>Qo L m x t c ext K
  | .c (.v z)=>Qo L m x t [.one z] ext K
  | .tt=>Qo L m x t [.one (.bool true)] ext K
  | .ff=>Qo L m x t [.one (.bool false)] ext K
  |_=>False
 | .store t xo y=>match cR with
  | .all=>False
  | .none=>Np T L m t (ev (iA fl L m x) xo) (ev (iA fl L m x) y) λL m=>K .un L m []
  | .xa h=>bif sV h (ev (iA fl L m x) xo)then Np T L m t (ev (iA fl L m x) xo) (ev (iA fl L m x) y) (λL m=>K .un L m x)else False
  | .new n=>bif pu n (ev (iA fl L m x) xo)then Np T L m t (ev (iA fl L m x) xo) (ev (iA fl L m x) y) (λL m=>K .un L m x)else False
 | .call ⟨.value (.func f),args,_⟩=>match jQ (args.toList.map (ev (iA fl L m x)))with
  |Option.none=>False
  |some cs=>match cR with
   | .all=>nR P f cs m λr m'=>y3 x m m'/\K (lS r) L m' x
   | .none=>nR P f cs m λr m'=>K (lS r) L m' []
   | .xa _=>False
   | .new _=>False
 | .call ⟨.value (.tmp t),args,_⟩=>match nv fl t with
  | .c (.v (.func (.func f) first captured))=>bif sY first.toList&&sY captured.toList then(match jQ (args.toList.map (ev (iA fl L m x)))with
   |Option.none=>False
   |some cs=>match cR with
    | .all=>nR P f (first.toList.map CV.v++cs++captured.toList.map CV.v) m λr m'=>y3 x m m'/\K (lS r) L m' x
    | .none=>nR P f (first.toList.map CV.v++cs++captured.toList.map CV.v) m λr m'=>K (lS r) L m' []
    | .xa _=>False
    | .new _=>False)else False
  |_=>False
 |op=>match Dk op with
  |Option.none=>False
  |some (p,xs)=>match jQ (xs.map (ev (iA fl L m x)))with
   |Option.none=>False
   |some cs=>match cR with
    | .all=>CM P p cs m λr m'=>y3 x m m'/\K (Di p r) L m' x
    | .none=>CM P p cs m λr m'=>K (Di p r) L m' []
    | .xa _=>False
    | .new _=>False
theorem acA(P:Program)(T:lz)(fl:Fl)(L:mM)(m:aD)(x:List Nat)(op:Op)(ext:Bool)(cR:Kp)(K:SV->mM->aD->List Nat->Prop):
  ajc P T fl L m x op ext cR K=Qe P T (iA fl L m x) op ext cR K:=by
 cases op<;>rfl
variable{op:BinOp}{K':SV->Prop}
theorem Zq{y:Operand}{k k':IntKind}{a b:Int}{K:SV->Prop}(kk:∀z,K z->K' z)(h:Zr op y k k' a b K):Zr op y k k' a b K':=by
 unfold Zr at h⊢
 cases op<;>simp only at h⊢ <;>grind
theorem abj{t:TK}{a b:Value}{K K':Bool->Prop}(kk:∀z,K z->K' z)(h:vEq t a b K):vEq t a b K':=by
 unfold vEq at h⊢
 grind
variable{x:SV}
theorem aek{op:UnOp}{K:SV->Prop}(kk:∀z,K z->K' z)(h:fUn op x K):fUn op x K':=by
 unfold fUn at h⊢
 grind
theorem ZX{K:SV->Prop}(kk:∀z,K z->K' z)(h:ZY x K):ZY x K':=by
 unfold ZY at h⊢
 grind
variable{T:lz}
theorem Vu{s d:TypeId}{K:SV->Prop}(kk:∀z,K z->K' z)(h:Ij T s d x K):Ij T s d x K':=by
 unfold Ij at h⊢
 grind
variable{t:TypeId}
theorem Fh{f:Nat}{K:SV->Prop}(kk:∀z,K z->K' z)(h:pE T t x f K):pE T t x f K':=by
 unfold pE at h⊢
 cases hT:T t with
 |none=>simp[hT]at h
 |some i=>
  simp only[hT]at h⊢
  cases hk:i.k<;>simp only[hk]at h⊢
  rename_i fs
  cases hn:zo fs f with
  |none=>simp[hn]at h
  |some p=>
   obtain⟨off,ft⟩:=p;simp only[hn]at h⊢
   cases hf:T ft with
   |none=>simp[hf]at h
   |some fi=>
    simp only[hf]at h⊢
    cases hb:Nat.blt 0 fi.size with
    |false=>simp[hb]at h
    |true=>
     simp only[hb,cond_true]at h⊢
     split at h<;>first|exact kk _ h|exact h.elim
theorem Ff{io:Operand}{i:SV}{K:SV->Prop}(kk:∀z,K z->K' z)(h:pD T t io x i K):pD T t io x i K':=by
 unfold pD at h⊢
 (repeat' split at h)<;>first|exact h.elim|(simp only[*];first|exact kk _ h|exact⟨h.1,kk _ h.2⟩)|exact kk _ h|exact⟨h.1,kk _ h.2⟩
theorem YF{a b:ByteArray}{K:SV->Prop}(kk:∀z,K z->K' z)(h:abO op a b K):abO op a b K':=by
 cases op<;>first|exact kk _ h|exact⟨h.1,kk _ h.2⟩|exact h
theorem RP{f:Nat}{K:SV->Prop}(kk:∀z,K z->K' z)(h:D3 T t x f K):D3 T t x f K':=by
 unfold D3 at h⊢
 (repeat' split at h)<;>first|exact h.elim|exact kk _ h|(simp only[*];done)|(simp only[*];exact kk _ h)
theorem LB.rS:∀{c:LB}{o d:Nat}{K K':Value->Prop} (_:∀z,K z->K' z) (_:LB.Am c o d K),LB.Am c o d K'
 |[],_,_,_,_,_,h=>h
 | .one _::_,0,_,_,_,_,h=>h
 | .one _::r,o+1,d,K,K',kk,h=>LB.rS (c:=r) (o:=o) kk h
 | .bG k n l::r,o,d,K,K',kk,h=>by
  simp only[LB.Am]at h⊢
  cases hb:Nat.blt o n with
  |true=>simp only[hb,cond_true]at h⊢;cases o<;>exact⟨h.1,kk _ h.2⟩
  |false=>simp only[hb,cond_false]at h⊢;exact LB.rS kk h
 | .fq n l::r,o,d,K,K',kk,h=>by
  simp only[LB.Am]at h⊢
  cases hb:Nat.blt o n with
  |true=>simp only[hb,cond_true]at h⊢;cases o<;>exact⟨h.1,kk _ h.2⟩
  |false=>simp only[hb,cond_false]at h⊢;exact LB.rS kk h
theorem LB.aaj:∀{c:LB}{o d z:Nat}{K K':LB->Prop} (_:∀z,K z->K' z) (_:LB.Ak c o d z K),LB.Ak c o d z K'
 |[],_,_,_,_,_,_,h=>h
 | .one _::_,0,_,_,_,_,_,h=>h
 | .one _::r,o+1,d,z,K,K',kk,h=>LB.aaj (c:=r) (o:=o) kk h
 | .bG k n l::r,o,d,z,K,K',kk,h=>by
  simp only[LB.Ak]at h⊢
  cases hb:Nat.blt o n with
  |true=>simp only[hb,cond_true]at h⊢;cases o<;>exact⟨h.1,kk _ h.2⟩
  |false=>simp only[hb,cond_false]at h⊢;exact LB.aaj kk h
 | .fq n l::r,o,d,z,K,K',kk,h=>by
  simp only[LB.Ak]at h⊢
  cases hb:Nat.blt o n with
  |true=>simp only[hb,cond_true]at h⊢;cases o<;>exact⟨h.1,kk _ h.2⟩
  |false=>simp only[hb,cond_false]at h⊢;exact LB.aaj kk h
theorem LB.Z9:∀{c:LB}{o d:Nat}{x:Value}{K K':LB->Prop} (_:∀z,K z->K' z) (_:LB.vu c o d x K),LB.vu c o d x K':=by
 intro c
 induction c with
 |nil=>intro o d x K K' kk h;exact h
 |cons s r ih=>
  intro o d x K K' kk h
  cases s with
  |one y=>
   cases o with
   |zero=>exact h
   |succ o=>exact ih (o:=o) (λz hz=>kk _ hz) h
  |bG k n l=>
   unfold LB.vu at h⊢
   grind
  |fq n l=>
   unfold LB.vu at h⊢
   grind
theorem LB.aaa:∀{c:LB}{o d:Nat}{x:LB}{K K':LB->Prop} (_:∀z,K z->K' z) (_:LB.Bq c o d x K),LB.Bq c o d x K':=by
 intro c
 induction c with
 |nil=>intro o d x K K' kk h;exact h
 |cons s r ih=>
  intro o d x K K' kk h
  cases s with
  |one y=>
   cases o with
   |zero=>exact h
   |succ o=>exact ih (o:=o) (λz hz=>kk _ hz) h
  |bG k n l=>
   unfold LB.Bq at h⊢
   grind
  |fq n l=>
   unfold LB.Bq at h⊢
   grind
variable{s:St}
theorem Vs{K K':SV->List Nat->Prop}(kk:∀z y,K z y->K' z y)(h:Ii T s t x K):Ii T s t x K':=by
 unfold Ii at h⊢
 (repeat' split at h)<;>first|exact h.elim|exact kk _ _ h|(simp only[*];done)|((try simp only[*]);first|exact kk _ _ h|exact LB.rS (λ_ hz=>kk _ _ hz) h|exact LB.aaj (λ_ hz=>kk _ _ hz) h|(obtain⟨c,h1,h2,h3,h4⟩:=h;exact⟨c,h1,h2,h3,kk _ _ h4⟩)|(obtain⟨c,h1,h2,h3⟩:=h;exact⟨c,h1,h2,kk _ _ h3⟩))
theorem RM{io:Operand}{i:SV}{K:SV->Prop}(kk:∀z,K z->K' z)(h:DZ T t io x i K):DZ T t io x i K':=by
 unfold DZ at h⊢
 (repeat' split at h)<;>first|exact h.elim|exact kk _ h|exact⟨h.1,kk _ h.2⟩|(simp only[*];done)|((try simp only[*]);first|exact kk _ h|exact⟨h.1,kk _ h.2⟩|exact⟨h.1,LB.aaj (λ_ hz=>kk _ hz) h.2⟩|exact⟨h.1,LB.rS (λ_ hz=>kk _ hz) h.2⟩|exact⟨⟨trivial,trivial⟩,kk _ h.2⟩|exact⟨⟨trivial,trivial⟩,LB.aaj (λ_ hz=>kk _ hz) h.2⟩|exact⟨⟨trivial,trivial⟩,LB.rS (λ_ hz=>kk _ hz) h.2⟩)
theorem JU{b:Builtin}{xB:List TypeId}{args:List SV}{K:SV->Prop}(kk:∀z,K z->K' z)(h:vp T b xB args K):vp T b xB args K':=by
 unfold vp at h⊢
 (repeat' split at h)<;>first|exact h.elim|exact kk _ h|(simp only[*];done)|(simp only[*];exact kk _ h)
theorem RT{parts:List (Nat×Operand)}{K:SV->Prop}(kk:∀z,K z->K' z)(h:D4 T s t parts K):D4 T s t parts K':=by
 unfold D4 at h⊢
 grind
theorem mc{x:Option SV}{d m:Nat}{K K':Nat->Prop}(kk:∀z,K z->K' z)(h:oE x d m K):oE x d m K':=by
 unfold oE at h⊢
 grind
theorem RJ{lo hi mx:Option SV}{K:SV->Prop}(kk:∀z,K z->K' z)(h:DY T t x lo hi mx K):DY T t x lo hi mx K':=by
 unfold DY at h⊢
 cases ho:ahK hi mx with
 |false=>simp[ho]at h
 |true=>
  simp only[ho,cond_true]at h⊢
  (repeat' split at h)<;>first|exact h.elim|((try simp only[*]);first|exact mc (λ_ h=>mc (λ_ h=>mc (λ_ h=>λo' h1 h2=>kk _ (h o' h1 h2)) h) h) h|exact mc (λ_ h=>mc (λ_ h=>mc (λ_ h=>kk _ h) h) h) h|exact mc (λ_ h=>mc (λ_ h=>kk _ h) h) h)
theorem X8{t:TK}{yo:Operand}{a b:Value}{K K':Bool->Prop}(kk:∀z,K z->K' z)(h:TD t yo a b K):TD t yo a b K':=by
 unfold TD at h⊢
 split at h
 ·grind
 ·exact abj kk h
theorem Z0{yo:Operand}{K:SV->Prop}(kk:∀z,K z->K' z)(h:Z1 T op t yo x y K):Z1 T op t yo x y K':=by
 unfold Z1 at h⊢
 split at h
 ·exact Zq kk h
 ·exact YF kk h
 ·grind
 ·rename_i h1 h2 h3
  cases hx:x.toV with
  |none=>simp[hx]at h
  |some vx=>
   cases hy:y.toV with
   |none=>simp[hx,hy]at h
   |some vy=>
    simp only[hx,hy]at h⊢
    cases hT:T t with
    |none=>simp[hT]at h
    |some i=>
     simp only[hT]at h⊢
     split at h<;>first|exact X8 (λ_ hz=>kk _ hz) h|exact h.elim
theorem ZR{op:Op}{K K':SV->List Nat->Prop}(kk:∀z y,K z y->K' z y)(h:Rw T s op K):Rw T s op K':=by
 unfold Rw at h⊢
 split at h
 ·grind
 ·grind
 ·grind
 ·exact Vs kk h
 ·exact ZX (λ_ h=>kk _ _ h) h
 ·exact Z0 (λ_ h=>kk _ _ h) h
 ·exact aek (λ_ h=>kk _ _ h) h
 ·rename_i src dst x
  cases hc:rj T src dst with
  |true=>
   simp only[hc]at h⊢;unfold ael at h⊢
   split at h
   ·exact kk _ _ h
   ·rcases h with⟨h0,h⟩|⟨ns,h1,b,o,h2,h3,h4⟩
    ·exact .inl ⟨h0,kk _ _ h⟩
    ·exact .inr ⟨ns,h1,b,o,h2,h3,kk _ _ h4⟩
   ·split at h
    ·exact h.elim
    ·rename_i hn
     (try simp only[hn])
     obtain⟨ns,h1,h2,h3⟩:=h;exact⟨ns,h1,h2,kk _ _ h3⟩
   ·exact h.elim
  |false=>
   simp only[hc]at h⊢;exact Vu (λ_ h=>kk _ _ h) h
 ·exact RP (λ_ h=>kk _ _ h) h
 ·exact Fh (λ_ h=>kk _ _ h) h
 ·exact Ff (λ_ h=>kk _ _ h) h
 ·exact RM (λ_ h=>kk _ _ h) h
 ·grind
 ·exact RT (λ_ h=>kk _ _ h) h
 ·exact RJ (λ_ h=>kk _ _ h) h
 ·exact JU (λ_ h=>kk _ _ h) h
 omega
variable{K':SV->mM->aD->List Nat->Prop}
theorem Dy{c:LB}{ext:Bool}{K:SV->mM->aD->List Nat->Prop}(kk:∀a b c d,K a b c d->K' a b c d)(h:JA s t c ext K):JA s t c ext K':=by
 cases ext with
 |false=>exact kk _ _ _ _ h
 |true=>exact λb hb=>kk _ _ _ _ (h b hb)
theorem jX{b:Bool}{A B:Prop}(k:A->B)(h:bif b then A else False):bif b then B else False:=by
 grind
theorem yl{K K':mM->aD->Prop}(kk:∀a b,K a b->K' a b)(h:ym T s t x y K):ym T s t x y K':=by
 unfold ym at h⊢
 cases hT:T t with
 |none=>simp[hT]at h
 |some i=>
  simp only[hT]at h⊢
  split at h
  ·rename_i hh off
   cases hn:zo s.L hh with
   |none=>simp[hn]at h
   |some p=>
    obtain⟨t',c⟩:=p;simp only[hn]at h⊢
    split at h<;>first|exact h.elim|(refine jX (λh=>?_) h;split at h<;>first|exact h.elim|(simp only[*];exact kk _ _ h)|exact kk _ _ h)
  ·rename_i hh off e
   cases hn:zo s.L hh with
   |none=>simp[hn]at h
   |some p=>
    obtain⟨t',c⟩:=p;simp only[hn]at h⊢
    split at h<;>first|exact h.elim|exact jX (λh=>LB.Z9 (λ_ h=>kk _ _ h) h) h|exact jX (λh=>LB.aaa (λ_ h=>kk _ _ h) h) h
  ·split at h<;>first|exact h.elim|exact jX (λ⟨a,b,c,h1,h2,h3⟩=>⟨a,b,c,h1,h2,kk _ _ h3⟩) h
  ·exact h.elim
variable{K':List CV->aD->Prop}{f:FuncId}{args:List CV}{m:aD}{P:Program}
theorem nR.mono{K:List CV->aD->Prop}(k:∀r m',K r m'->K' r m')(h:nR P f args m K):nR P f args m K':=by
 rcases h with⟨R,h1,h2⟩|⟨R,h1,h2⟩
 ·exact .mk R h1 λr m' hr=>k r m' (h2 r m' hr)
 ·exact .ext R h1 λr m' hr=>k r m' (h2 r m' hr)
theorem CM.mono{p:dF}{K:List CV->aD->Prop}(k:∀r m',K r m'->K' r m')(h:CM P p args m K):CM P p args m K':=by
 obtain⟨R,h1,h2⟩:=h;exact⟨R,h1,λr m' hr=>k r m' (h2 r m' hr)⟩
theorem Y7{op:Op}{ext:Bool}{cR:Kp}{K K':SV->mM->aD->List Nat->Prop}(kk:∀a b c d,K a b c d->K' a b c d)(h:Qe P T s op ext cR K):Qe P T s op ext cR K':=by
 unfold Qe at h⊢
 split at h
 ·rename_i t
  cases hT:T t with
  |none=>simp[hT]at h
  |some i=>simp only[hT]at h⊢;exact Dy kk h
 ·rename_i t y
  split at h<;>first|exact h.elim|exact Dy kk h|(simp only[*];exact Dy kk h)
 ·cases cR with
  |all=>exact h
  |none=>exact yl (λ_ _ h=>kk _ _ _ _ h) h
  |xa hh=>exact jX (λh=>yl (λ_ _ h=>kk _ _ _ _ h) h) h
  |new hh=>exact jX (λh=>yl (λ_ _ h=>kk _ _ _ _ h) h) h
 ·rename_i f args _
  try simp only at h⊢
  cases hc:jQ (args.toList.map (ev s))with
  |none=>simp[hc]at h
  |some cs=>
   simp only[hc]at h⊢
   cases cR with
   |all=>exact nR.mono (λ_ _ h=>⟨h.1,kk _ _ _ _ h.2⟩) h
   |none=>exact nR.mono (λ_ _ h=>kk _ _ _ _ h) h
   |xa hh=>exact h
   |new hh=>exact h
 ·rename_i t args _
  try simp only at h⊢
  split at h
  ·rename_i f first captured hf
   (try simp only[hf])
   refine jX (λh=>?_) h
   cases hc:jQ (args.toList.map (ev s))with
   |none=>simp[hc]at h
   |some cs=>
    simp only[hc]at h⊢
    cases cR with
    |all=>exact nR.mono (λ_ _ h=>⟨h.1,kk _ _ _ _ h.2⟩) h
    |none=>exact nR.mono (λ_ _ h=>kk _ _ _ _ h) h
    |xa hh=>exact h
    |new hh=>exact h
  omega
 ·cases hp:Dk op with
  |none=>simp[hp]at h
  |some q=>
   obtain⟨p,xs⟩:=q;simp only[hp]at h⊢
   cases hc:jQ (xs.map (ev s))with
   |none=>simp[hc]at h
   |some cs=>
    simp only[hc]at h⊢
    cases cR with
    |all=>exact CM.mono (λ_ _ h=>⟨h.1,kk _ _ _ _ h.2⟩) h
    |none=>exact CM.mono (λ_ _ h=>kk _ _ _ _ h) h
    |xa hh=>exact h
    |new hh=>exact h
def F4(c:fD)(o:Oper)(cR:Kp)(K:KY):KY:=λfl L m x=>
 match sM c.T o.op with
 |true=>ajK c.T fl L m x o.op λsv bs=>fSV sv λsv=>L8 (bs++x) λx'=>GV o.dst sv fl λxv=>K xv L m x'
 |false=>ajc c.P c.T fl L m x o.op (aen c o.dst) cR λsv L' m' x'=>fSV sv λsv=>L8 L' λL'=>GV o.dst sv fl λxv=>K xv L' m' x'
def vE(K:KY):St->Prop:=λs=>∃fl L m x,s=iA fl L m x/\K fl L m x
variable{x:List Nat}
theorem vE.mk{K:KY}{L:mM}(h:K fl L m x):vE K (iA fl L m x):=⟨fl,L,m,x,rfl,h⟩
theorem vE.put{K:KY}{L:mM}{d:Option Nat}(h:GV d y fl λxv=>K xv L m x):vE K ⟨fO (nv fl) d y,L,m,x⟩:=by
 obtain⟨xv,h1,h2⟩:=KU h;exact⟨xv,L,m,x,by rw[<-h2],h1⟩
variable{K':St->Prop}{c:fD}
theorem rX{o:Oper}{cR:Kp}{K:KY}(hk:∀s,vE K s->K' s){L:mM}(h:F4 c o cR K fl L m x):C2 c o cR (iA fl L m x) K':=by
 unfold F4 at h;unfold C2
 cases hf:sM c.T o.op with
 |true=>
  simp only[hf]at h⊢;rw[ad7]at h;refine ZR (λsv bs h=>?_) h;exact hk _ (vE.put (sO (Cj h)))
 |false=>
  simp only[hf]at h⊢;rw[acA]at h;refine Y7 (λsv L' m' x' h=>?_) h;exact hk _ (vE.put (sO (Cj h)))
def XV(c:fD)(mv:List Oper)(o:Oper)(cR:Kp)(K:KY):KY:=λfl L m x=>
 match o.guard with
 |none=>F4 c o cR K fl L m x
 |some (j,w)=>match LY mv j with
  |none=>False
  |some d=>match nv fl d with
   | .tt=>bif w then F4 c o cR K fl L m x else GV o.dst .un fl λxv=>K xv L m x
   | .ff=>bif w then(GV o.dst .un fl λxv=>K xv L m x)else F4 c o cR K fl L m x
   | .un=>GV o.dst .un fl λxv=>K xv L m x
   | .c (.v (.bool b))=>
    (b=true->bif w then F4 c o cR K ((d,.tt)::fl) L m x else GV o.dst .un ((d,.tt)::fl) λxv=>K xv L m x)/\
    (b=false->bif w then(GV o.dst .un ((d,.ff)::fl) λxv=>K xv L m x)else F4 c o cR K ((d,.ff)::fl) L m x)
   |_=>False
theorem Kk{mv:List Oper}{o:Oper}{cR:Kp}{K:KY}(hk:∀s,vE K s->K' s){L:mM}(h:XV c mv o cR K fl L m x):xop c mv o cR (iA fl L m x) K':=by
 unfold XV at h;unfold xop
 cases hg:o.guard with
 |none=>simp only[hg]at h⊢;exact rX hk h
 |some p=>
  obtain⟨j,w⟩:=p;simp only[hg]at h⊢
  cases hs:LY mv j with
  |none=>simp[hs]at h
  |some d=>
   simp only[hs]at h⊢
   split at h
   ·rename_i e
    simp only[e]
    cases w with
    |true=>exact rX hk h
    |false=>exact hk _ (vE.put h)
   ·rename_i e
    simp only[e]
    cases w with
    |true=>exact hk _ (vE.put h)
    |false=>exact rX hk h
   ·rename_i e
    simp only[e];exact hk _ (vE.put h)
   ·rename_i b e
    simp only[e];refine⟨λeb=>?_,λeb=>?_⟩
    ·have h:=h.1 eb
     rw[<-vi]
     cases w with
     |true=>exact rX hk h
     |false=>exact hk _ (vE.put h)
    ·have h:=h.2 eb
     rw[<-vi]
     cases w with
     |true=>exact hk _ (vE.put h)
     |false=>exact rX hk h
   ·exact h.elim
def wOp(c:fD)(mv:List Oper)(o:Oper)(_:List Oper)(ih:KY):KY:=λfl L m x=>
 match vI mv (nv fl) o with
 |some (l,args)=>match jQ (args.map (ev (iA fl L m x)))with
  |none=>False
  |some cs=>V0 c.P l cs m λr' m'=>fSV (lS r') λsv=>GV o.dst sv fl λxv=>ih xv L m' []
 |none=>XV c mv o .none ih fl L m x
def Kj(c:fD)(mv l:List Oper)(K:KY):KY:=List.rec (motive:=λ_=>KY) K (wOp c mv) l
theorem Tn(c:fD)(mv:List Oper)(o:Oper)(r:List Oper)(K:KY)(fl:Fl)(L:mM)(m:aD)(x:List Nat):Kj c mv (o::r) K fl L m x=(match vI mv (nv fl) o with
 |some (l,args)=>match jQ (args.map (ev (iA fl L m x)))with
  |none=>False
  |some cs=>V0 c.P l cs m λr' m'=>fSV (lS r') λsv=>GV o.dst sv fl λxv=>Kj c mv r K xv L m' []
 |none=>XV c mv o .none (Kj c mv r K) fl L m x):=rfl
theorem AN{c:fD}{mv:List Oper}{K:KY}{K':St->Prop}(hk:∀s,vE K s->K' s):∀{l:List Oper}{fl:Fl}{L:mM}{m:aD}{x:List Nat},Kj c mv l K fl L m x->O5 c mv l K' (iA fl L m x)
 |[],_,_,_,_,h=>hk _ (vE.mk h)
 |o::r,fl,L,m,x,h=>by
  rw[Tn]at h;simp only[O5]
  cases hy:vI mv (nv fl) o with
  |none=>
   simp only[hy]at h⊢;exact Kk (K:=Kj c mv r K) (λs ⟨_,_,_,_,e,h⟩=>by subst e;exact AN hk (l:=r) h) h
  |some q=>
   obtain⟨l,args⟩:=q;simp only[hy]at h⊢
   cases hc:jQ (args.map (ev (iA fl L m x)))with
   |none=>simp[hc]at h
   |some cs=>
    simp only[hc]at h⊢;obtain⟨R,h1,h2⟩:=h;refine⟨R,h1,λr' m' hr=>?_⟩;obtain⟨xv,g1,g2⟩:=KU (Cj (h2 r' m' hr));have:=AN hk (l:=r) g1;rw[iA,g2]at this;exact this
def asP(c:fD)(mv:List Oper)(ms:List Nat)(s0:St)(i:Nat)(k:Ks)(r:OT)(ih:KY):KY:=λfl L m x=>
 match zo mv i with
  |some o=>bif ov c.T s0 ms i o (iA fl L m x) r.els then XV c mv o (JB s0 k) ih fl L m x else False
  |none=>False
def wOr(_ _:OT)(a b:KY):KY:=λfl L m x=>a fl L m x/\b fl L m x
def O4(c:fD)(mv:List Oper)(ms:List Nat)(s0:St)(t:OT)(K:KY):KY:=OT.rec (motive:=λ_=>KY) K (asP c mv ms s0) wOr t
theorem aa2(c:fD)(mv:List Oper)(ms:List Nat)(s0:St)(i:Nat)(k:Ks)(r:OT)(K:KY)(fl:Fl)(L:mM)(m:aD)(x:List Nat):O4 c mv ms s0 (.op i k r) K fl L m x=(match zo mv i with
  |some o=>bif ov c.T s0 ms i o (iA fl L m x) r.els then XV c mv o (JB s0 k) (O4 c mv ms s0 r K) fl L m x else False
  |none=>False):=rfl
theorem vK{c:fD}{mv:List Oper}{ms:List Nat}{s0:St}{K:KY}{K':St->Prop}(hk:∀s,vE K s->K' s):∀{t:OT}{fl:Fl}{L:mM}{m:aD}{x:List Nat},O4 c mv ms s0 t K fl L m x->rh c mv ms s0 t K' (iA fl L m x)
 | .nil,_,_,_,_,h=>hk _ (vE.mk h)
 | .or a b,_,_,_,_,h=>⟨vK hk (t:=a) h.1,vK hk (t:=b) h.2⟩
 | .op i k r,fl,L,m,x,h=>by
  rw[aa2]at h;simp only[rh]
  cases hn:zo mv i with
  |none=>simp[hn]at h
  |some o=>
   simp only[hn]at h⊢
   cases hl:ov c.T s0 ms i o (iA fl L m x) r.els with
   |false=>simp[hl]at h
   |true=>
    simp only[hl,cond_true]at h⊢;exact Kk (K:=O4 c mv ms s0 r K) (λs ⟨_,_,_,_,e,h⟩=>by subst e;exact vK hk (t:=r) h) h
def akm(y x:eB)(K:Prop):Prop:=
 match y with
 | .one y=>match x with
  | .one x=>y=x/\K
  |_=>False
 | .bG k n l=>match x with
  | .bG k' n' l'=>bif wY k k'&&Nat.beq n n' then l=l'/\K else False
  |_=>False
 | .fq n l=>match x with
  | .fq n' l'=>bif Nat.beq n n' then l=l'/\K else False
  |_=>False
def lbY:LB->LB->Prop->Prop
 |[],[],K=>K
 |y::r,x::r',K=>akm y x (lbY r r' K)
 |_,_,_=>False
def aiX(y x:SV)(K:Prop):Prop:=
 match x with
 | .c (.a c)=>match y with
  | .c (.a d)=>lbY d c K
  |_=>False
 | .c (.v v)=>match y with
  | .c (.v z)=>z=v/\K
  | .tt=>Value.bool true=v/\K
  | .ff=>Value.bool false=v/\K
  |_=>False
 |x=>Gv y x K
def TQ:Fl->Fl->Prop->Prop
 |[],_,K=>K
 |(j,x)::r,fl,K=>aiX (nv fl j) x (TQ r fl K)
def acS:mM->mM->Prop->Prop
 |_,[],K=>K
 |(t,c)::r,(t',c')::r',K=>bif Nat.beq t t' then lbY c c' (acS r r' K)else False
 |[],_::_,_=>False
def LeY(fl:Fl)(L:mM)(fr:Fl)(L1:mM):Prop:=bif vB L1.length fr then TQ fr fl (acS L L1 True)else False
theorem Bw{a:Option Addr}{K:Prop}(h:K):SU a a K:=by
 cases a with
 |none=>exact h
 |some ad=>
  obtain⟨b,o,sp⟩:=ad
  cases sp with
  |none=>exact⟨rfl,rfl,h⟩
  |some s=>exact⟨rfl,h⟩
variable{v:Value}
theorem Ky{K:Prop}(h:K):X7 v v K:=by
 cases v<;>simp only[X7,QI,cond_true]<;>first|exact⟨rfl,h⟩|exact⟨trivial,h⟩|exact Bw h|exact Bw ⟨rfl,rfl,h⟩|exact Bw ⟨trivial,trivial,h⟩
variable{K':Prop}
theorem akl{y x:eB}{K:Prop}(k:K->K')(h:akm y x K):abK y x K':=by
 unfold akm at h;unfold abK
 split at h
 ·split at h
  ·obtain⟨rfl,h⟩:=h;exact Ky (k h)
  grind
 ·grind
 grind
theorem acZ:∀{y x:LB}{K K':Prop} (_:K->K') (_:lbY y x K),lbK y x K'
 |[],[],_,_,k,h=>k h
 |y::r,x::r',_,_,k,h=>akl (λh=>acZ k h) h
 |[],_::_,_,_,_,h=>h.elim
 |_::_,[],_,_,_,h=>h.elim
theorem TS{x:SV}{K:Prop}(k:K->K')(hx:∀c,x≠.c c)(h:Gv y x K):Gv y x K':=by
 cases x with
 |c z=>exact absurd rfl (hx z)
 |p hh o=>cases y<;>first|exact h.elim|exact jX k h
 |q hh o d=>cases y<;>first|exact h.elim|exact jX (λh=>⟨h.1,k h.2⟩) h
 |sl hh o d n c=>cases y<;>first|exact h.elim|exact jX (λh=>⟨h.1,h.2.1,h.2.2.1,k h.2.2.2⟩) h
 |t l=>cases y<;>first|exact h.elim|exact⟨h.1,k h.2⟩
 |tt=>cases y<;>first|exact h.elim|exact k h
 |ff=>cases y<;>first|exact h.elim|exact k h
 |un=>cases y<;>first|exact h.elim|exact k h
 |any=>exact k h
theorem af9{x:SV}{K:Prop}(k:K->K')(h:aiX y x K):Gv y x K':=by
 cases x with
 |c z=>
  cases z with
  |a c=>cases y with
   |c w=>cases w with
    |a d=>exact acZ k h
    |v _=>exact h.elim
   |_=>exact h.elim
  |v v=>cases y with
   |c w=>cases w with
    |a d=>exact h.elim
    |v z=>obtain⟨rfl,h⟩:=h;exact Ky (k h)
   |tt=>obtain⟨rfl,h⟩:=h;exact⟨rfl,k h⟩
   |ff=>obtain⟨rfl,h⟩:=h;exact⟨rfl,k h⟩
   |_=>exact h.elim
 |_=>exact TS k (by intro c;simp) h
theorem PC:∀{fr fl:Fl}{K K':Prop} (_:K->K') (_:TQ fr fl K),MJ fr (nv fl) K'
 |[],_,_,_,k,h=>k h
 |(j,x)::r,fl,_,_,k,h=>af9 (λh=>PC (fr:=r) k h) h
theorem WN:∀{L L1:mM}{K K':Prop} (_:K->K') (_:acS L L1 K),Lu L L1 K'
 |[],[],_,_,k,h=>k h
 |_::_,[],_,_,k,h=>k h
 |(t,c)::r,(t',c')::r',_,_,k,h=>jX (λh=>acZ (λh=>WN k h) h) h
 |[],_::_,_,_,_,h=>h.elim
theorem LeY.k{L:mM}{fr:Fl}{L1:mM}(h:LeY fl L fr L1):LeK (iA fl L m x) fr L1 m:=
 jX (λh=>PC (λh=>WN (λ_=>cL.refl _) h) h) h
inductive afd (X:(Exit->KY)->KY) (Q:Exit->KY) (fl:Fl) (L:mM) (m:aD):Prop
 |mk {ι:Type} (μ:ι->Nat) (Inv:ι->aD->Prop) (fr:ι->Fl) (Lo:ι->mM) (i0:ι) (h0:Inv i0 m) (hk:LeY fl L (fr i0) (Lo i0))
  (step:∀i m,Inv i m->fFl (fr i) λfl=>L8 (Lo i) λL=>X (λe xv L' m' x'=>match e with
   | .normal=>∃j,Inv j m'/\μ j<μ i/\LeY xv L' (fr j) (Lo j)
   |e=>Q e xv L' m' x') fl L m [])
def abD(o:Operand)(y:SV)(fl:Fl)(K:Fl->Prop):Prop:=
 match o with
 | .tmp t=>K ((t,y)::fl)
 |_=>K fl
theorem KK{o:Operand}{K:Fl->Prop}(h:abD o y fl K)(L:mM)(m:aD)(x:List Nat):∃xv,K xv/\iA xv L m x=TV (iA fl L m x) o y:=by
 cases o<;>first|exact⟨fl,h,rfl⟩|exact⟨_,h,by simp only[TV,iA,vi]⟩
abbrev CQ:=(Exit->KY)->KY
def aom:CQ:=λQ=>Q .normal
def T1(c:fD)(id:Nat)(mv:Array Oper)(pG:Bool)(K:KY):Fl->mM->aD->Prop:=λfl L m=>match pG with
 |false=>Kj c mv.toList mv.toList K fl L m []
 |true=>bif sL (iA fl L m []) mv.toList then O4 c mv.toList (c.ord id).ms (iA fl L m []) (c.ord id).od K fl L m []else False
inductive V3 (X:Fl->mM->aD->Prop):Fl->mM->aD->Prop
 |at {fl:Fl}{L:mM}{m:aD} (h:X fl L m):V3 X fl L m
 |via {fl:Fl}{L:mM}{m:aD} (fl1:Fl) (L1:mM) (hk:LeY fl L fl1 L1) (h:V3 X fl1 L1 m):V3 X fl L m
def afV(c:fD)(id:Nat)(mv:Array Oper)(pG:Bool):CQ:=λQ fl L m _=>match c.cut id with
 |false=>T1 c id mv pG (Q .normal) fl L m
 |true=>V3 (T1 c id mv pG (Q .normal)) fl L m
def asN(_ _:Code)(x y:CQ):CQ:=λQ=>x (λe=>match e with
 | .normal=>y Q
 |e=>Q e)
def aoq(o:Operand)(_ _:Code)(a b:CQ):CQ:=λQ fl L m x=>match ev (iA fl L m x) o with
 | .tt=>a Q fl L m x
 | .ff=>b Q fl L m x
 | .c (.v (.bool bb))=>(bb=true->abD o .tt fl λfl=>a Q fl L m x)/\(bb=false->abD o .ff fl λfl=>b Q fl L m x)
 |_=>False
def aj7(id:Nat)(_:Code)(b:CQ):CQ:=λQ=>b (λe=>match e with
 | .exit j=>bif Nat.beq j id then Q .normal else Q (.exit j)
 |e=>Q e)
def aon(_:Code)(b:CQ):CQ:=λQ fl L m _=>afd b Q fl L m
abbrev RY:=Operand->Array Tmp->Code->Code->CQ
def aj5(rf:RY)(g:Operand)(ps:Array Tmp)(x y:Code)(_ _:CQ):CQ:=rf g ps x y
def aop(id:Nat):CQ:=λQ=>Q (.exit id)
def aj4(sc:Code->CQ)(b:Code)(_:CQ):CQ:=sc b
def aj6(_:Nat):CQ:=λQ=>Q .normal
def aoo(l:Nat):CQ:=λQ=>Q (.goto l)
def asO:CQ:=λQ=>Q .ret
def afW(_:String):CQ:=λ_ _ _ _ _=>False
def qT(c:fD)(sc:Code->CQ)(rf:RY)(code:Code):CQ:=Code.rec (motive:=λ_=>CQ) aom (afV c) asN aoq aj7 aon (aj5 rf) aop (aj4 sc) aj6 aoo asO afW code
def QJY(l:Nat)(J:KY)(Q:Exit->KY):Exit->KY
 | .goto l'=>λfl L m x=>bif Nat.beq l' l then J fl L m x else False
 |e=>Q e
inductive aiF (X:Code->CQ) (b:Code) (Q:Exit->KY) (fl:Fl) (L:mM) (m:aD) (x:List Nat):Prop
 |mk (l:Nat) (fb:Code) (hf:findLabel b l=some fb) {ι:Type} (μ:ι->Nat) (Inv:ι->aD->Prop) (fr:ι->Fl) (Lo:ι->mM)
  (first:X b (QJY l (λxv L' m' x'=>∃j,Inv j m'/\LeY xv L' (fr j) (Lo j)) Q) fl L m x)
  (pass:∀i m,Inv i m->fFl (fr i) λfl=>L8 (Lo i) λL=>X fb (QJY l (λxv L' m' x'=>∃j,Inv j m'/\μ j<μ i/\LeY xv L' (fr j) (Lo j)) Q) fl L m [])
def zk:Fl->List Tmp->List CV->Fl
 |fl,p::ps,x::xs=>zk ((p,.c x)::fl) ps xs
 |fl,_,_=>fl
theorem Ce:∀(ps:List Tmp) (xs:List CV) (fl:Fl),nv (zk fl ps xs)=sw (nv fl) ps xs
 |[],xs,fl=>by cases xs<;>rfl
 |p::ps,[],fl=>rfl
 |p::ps,x::xs,fl=>by
  simp only[zk,sw];rw[Ce ps xs,vi]
def awX(X:Code->CQ)(body:Code)(J:aD->Prop):Exit->KY
 | .normal=>λfl L m _=>match L with
  |[]=>X body (λe=>match e with
   | .normal=>λ_ _ m _=>J m
   |_=>λ_ _ _ _=>False) fl [] m []
  |_::_=>False
 |_=>λ_ _ _ _=>False
inductive aiG (P:Program) (X:Code->CQ) (g:Operand) (ps:Array Tmp) (Ti body:Code) (Q:Exit->KY) (fl:Fl) (L:mM) (m:aD):Prop
 |mk (gf:FuncId) (captured:Array Value) (hg:ev (iA fl L m []) g= .c (.v (.func (.func gf) #[] captured))) (yA:sY captured.toList=true) (hL:L=[])
  {ι:Type} (Inv:ι->aD->Prop) (i0:ι) (h0:Inv i0 m) (El:ι->List CV->ι->Prop) (hEl:∀i x j,El i x j->x.length=ps.size)
  (round:∀i x j m,Inv i m->El i x j->fFl (zk fl ps.toList x) λfl=>X Ti (awX X body (Inv j)) fl [] m [])
  (Fin:aD->Prop)
  (UP:∀(l:Nat) (o:Obj),m l=none->(∀i x j m,Inv i m->El i x j->m l=none->CL P l x (m.set l o) λr m'=>r=[.v (.bool true)]/\∃m1,Inv j m1/\m1 l=none/\m'=m1.set l o)->
   bi P gf (.v (.func (.yield l) #[] #[])::captured.toList.map CV.v) (m.set l o) λr m'=>∃m1,Fin m1/\m1 l=none/\m'=m1.set l o)
  (fb:∀m1,Fin m1->Q .normal fl [] m1 [])
def aa1(c:fD)(code:Code):CQ:=qT c (λ_ _ _ _ _ _=>False) (λ_ _ _ _ _ _ _ _ _=>False) code
def Tl(c:fD)(code:Code):CQ:=qT c (λb=>aiF (aa1 c) b) (λg ps x y Q fl L m _=>aiG c.P (aa1 c) g ps x y Q fl L m) code
section
variable {sc:Code->CQ}{rf:RY}
theorem aa0(c:fD)(x y:Code)(Q:Exit->KY):qT c sc rf (.seq x y) Q=qT c sc rf x (λe=>match e with
 | .normal=>qT c sc rf y Q
 |e=>Q e):=rfl
theorem Tk(c:fD)(id:Nat)(b:Code)(Q:Exit->KY):qT c sc rf (.block id b) Q=qT c sc rf b (λe=>match e with
 | .exit j=>bif Nat.beq j id then Q .normal else Q (.exit j)
 |e=>Q e):=rfl
theorem XS(c:fD)(o:Operand)(a b:Code)(Q:Exit->KY)(fl:Fl)(L:mM)(m:aD)(x:List Nat):qT c sc rf (.cond o a b) Q fl L m x=(match ev (iA fl L m x) o with
 | .tt=>qT c sc rf a Q fl L m x
 | .ff=>qT c sc rf b Q fl L m x
 | .c (.v (.bool bb))=>(bb=true->abD o .tt fl λfl=>qT c sc rf a Q fl L m x)/\(bb=false->abD o .ff fl λfl=>qT c sc rf b Q fl L m x)
 |_=>False):=rfl
theorem O2(c:fD)(id:Nat)(mv:Array Oper)(pG:Bool)(Q:Exit->KY)(fl:Fl)(L:mM)(m:aD)(x:List Nat):qT c sc rf (.region id mv pG) Q fl L m x=(match c.cut id with
 |false=>T1 c id mv pG (Q .normal) fl L m
 |true=>V3 (T1 c id mv pG (Q .normal)) fl L m):=rfl
theorem XR(c:fD)(b:Code)(Q:Exit->KY)(fl:Fl)(L:mM)(m:aD)(x:List Nat):qT c sc rf (.loop b) Q fl L m x=afd (qT c sc rf b) Q fl L m:=rfl
end
theorem KO{id:Nat}{mv:Array Oper}{pG:Bool}{K:KY}{K':St->Prop}(hk:∀s,vE K s->K' s){L:mM}(h:T1 c id mv pG K fl L m):T2 c id mv pG K' (iA fl L m x):=by
 unfold T1 at h;unfold T2
 cases pG with
 |false=>exact AN hk h
 |true=>
  simp only at h⊢
  cases hf:sL (iA fl L m []) mv.toList with
  |false=>simp[hf]at h
  |true=>
   have yz:sL (iA fl L m x) mv.toList=true:=by rw[<-Og (x:=[])];exact hf
   simp only[hf,yz,cond_true]at h⊢;rw[<-F3 (x:=[])];exact vK hk h
theorem V3.spec{id:Nat}{mv:Array Oper}{pG:Bool}{K:KY}{K':St->Prop}(hk:∀s,vE K s->K' s){L:mM}(h:V3 (T1 c id mv pG K) fl L m):∀{x:List Nat},XAt (T2 c id mv pG K') (iA fl L m x):=by
 induction h with
 | «at» h=>exact .at (KO hk h)
 |via fl1 L1 hl _ ih=>exact .via _ _ _ hl.k ih
theorem afi{c:fD}{sc:Code->CQ}{sc':Code->(Exit->St->Prop)->St->Prop}{rf:RY}{rf':RF}(hsc:∀(b:Code) {Q:Exit->KY}{Q':Exit->St->Prop} (_:∀e s,vE (Q e) s->Q' e s) {fl:Fl}{L:mM}{m:aD}{x:List Nat},sc b Q fl L m x->sc' b Q' (iA fl L m x))
  (hrf:∀g ps x y {Q:Exit->KY}{Q':Exit->St->Prop} (_:∀e s,vE (Q e) s->Q' e s) {fl:Fl}{L:mM}{m:aD}{xx:List Nat},rf g ps x y Q fl L m xx->rf' g ps x y Q' (iA fl L m xx)):
  ∀(code:Code) {Q:Exit->KY}{Q':Exit->St->Prop} (_:∀e s,vE (Q e) s->Q' e s) {fl:Fl}{L:mM}{m:aD}{x:List Nat},qT c sc rf code Q fl L m x->zZ c sc' rf' code Q' (iA fl L m x):=by
 intro code
 induction code with
 |skip=>intro Q Q' hq fl L m x h;exact hq _ _ (vE.mk h)
 |label l=>intro Q Q' hq fl L m x h;exact hq _ _ (vE.mk h)
 |exit id=>intro Q Q' hq fl L m x h;exact hq _ _ (vE.mk h)
 |goto l=>intro Q Q' hq fl L m x h;exact hq _ _ (vE.mk h)
 |ret=>intro Q Q' hq fl L m x h;exact hq _ _ (vE.mk h)
 |refuse why=>intro Q Q' hq fl L m x h;exact h.elim
 |rangeFunc f ps x y _ _=>intro Q Q' hq fl L m xx h;exact hrf f ps x y hq h
 |scope b _=>intro Q Q' hq fl L m x h;exact hsc b hq h
 |seq x y ihx ihy=>
  intro Q Q' hq fl L m xx h;rw[aa0]at h;refine ihx (λe s ⟨fl,L,m,x,e',h⟩=>?_) h;subst e'
  cases e<;>first|exact ihy hq h|exact hq _ _ (vE.mk h)
 |block id b ih=>
  intro Q Q' hq fl L m xx h;rw[Tk]at h;refine ih (λe s ⟨fl,L,m,x,e',h⟩=>?_) h;subst e'
  cases e with
  |exit j=>
   simp only at h⊢
   cases hb:Nat.beq j id with
   |true=>simp only[hb,cond_true]at h⊢;exact hq _ _ (vE.mk h)
   |false=>simp only[hb,cond_false]at h⊢;exact hq _ _ (vE.mk h)
  |_=>exact hq _ _ (vE.mk h)
 |cond o a b iha ihb=>
  intro Q Q' hq fl L m x h;rw[XS]at h;simp only[zZ]
  split at h
  ·rename_i e;simp only[e];exact iha hq h
  ·rename_i e;simp only[e];exact ihb hq h
  ·rename_i bb e
   simp only[e];refine⟨λeb=>?_,λeb=>?_⟩
   ·obtain⟨xv,h1,h2⟩:=KK (h.1 eb) L m x
    rw[<-h2];exact iha hq h1
   ·obtain⟨xv,h1,h2⟩:=KK (h.2 eb) L m x
    rw[<-h2];exact ihb hq h1
  ·exact h.elim
 |region id mv pG=>
  intro Q Q' hq fl L m x h;rw[O2]at h;simp only[zZ]
  cases hc:c.cut id with
  |false=>simp only[hc]at h⊢;exact KO (hq .normal) h
  |true=>simp only[hc]at h⊢;exact h.spec (hq .normal)
 |loop b ih=>
  intro Q Q' hq fl L m x h;rw[XR]at h;obtain⟨μ,Inv,fr,Lo,i0,h0,hk,step⟩:=h;refine ajU.mk (ι:=_×aD) (λi=>μ i.1) (λi=>Inv i.1 i.2) (λi=>fr i.1) (λi=>Lo i.1) (λi=>i.2) (i0,m) h0 hk.k ?_;rintro⟨i,m1⟩ hi;have hs:=yJ (step i m1 hi);have hs:=sO (l:=Lo i) hs;refine ih (λe s ⟨fl,L,m,x,e',h⟩=>?_) hs;subst e'
  cases e with
  |normal=>
   obtain⟨j,h1,h2,h3⟩:=h;exact⟨(j,m),h1,h2,h3.k⟩
  |_=>exact hq _ _ (vE.mk h)
variable{Q:Exit->KY}{Q':Exit->St->Prop}
theorem vJ(code:Code)(hq:∀e s,vE (Q e) s->Q' e s){L:mM}(h:aa1 c code Q fl L m x):XT c code Q' (iA fl L m x):=
 afi (λ_ _ _ _ _ _ _ _ h=>h.elim) (λ_ _ _ _ _ _ _ _ _ _ _ h=>h.elim) code hq h
theorem QJY.spec{l:Nat}{J:KY}{J':St->Prop}(hq:∀e s,vE (Q e) s->Q' e s)(hj:∀s,vE J s->J' s):∀e s,vE (QJY l J Q e) s->QJ l J' Q' e s:=by
 rintro e s⟨fl,L,m,x,e',h⟩;subst e'
 cases e with
 |goto l'=>
  simp only[QJY]at h;simp only[QJ]
  cases hb:Nat.beq l' l with
  |true=>simp only[hb,cond_true]at h⊢;exact hj _ (vE.mk h)
  |false=>simp[hb]at h
 |_=>exact hq _ _ (vE.mk h)
theorem XQ(code:Code)(hq:∀e s,vE (Q e) s->Q' e s){L:mM}(h:Tl c code Q fl L m x):xwp c code Q' (iA fl L m x):=by
 refine afi (λb Q Q' hq fl L m x h=>?_) (λg ps Ti body Q Q' hq fl L m x h=>?_) code hq h
 ·obtain⟨l,fb,hf,μ,Inv,fr,Lo,first,pass⟩:=h
  refine V1.mk l fb hf (ι:=_×aD) (λi=>μ i.1) (λi=>Inv i.1 i.2) (λi=>fr i.1) (λi=>Lo i.1) (λi=>i.2) ?_ ?_
  ·refine vJ b (QJY.spec hq ?_) first
   rintro s⟨fl,L,m,x,e',j,h1,h2⟩;subst e';exact⟨(j,m),h1,h2.k⟩
  ·rintro⟨i,m1⟩ hi
   have hs:=yJ (pass i m1 hi);have hs:=sO (l:=Lo i) hs;refine vJ fb (QJY.spec hq ?_) hs;rintro s⟨fl,L,m,x,e',j,h1,h2,h3⟩;subst e';exact⟨(j,m),h1,h2,h3.k⟩
 ·obtain⟨gf,captured,hg,yA,hL,Inv,i0,h0,El,hEl,round,Fin,UP,fb⟩:=h
  refine V2.mk gf captured hg yA hL Inv i0 h0 El hEl (λi y j m hi hy=>?_) Fin UP (λm1 hF=>hq _ _ (vE.mk (fb m1 hF)));have hs:=yJ (round i y j m hi hy)
  have e:(⟨sw (iA fl L m x).fr ps.toList y,[],m,[]⟩:St)=iA (zk fl ps.toList y) [] m []:=by
   show(⟨sw (nv fl) ps.toList y,[],m,[]⟩:St)=⟨nv (zk fl ps.toList y),[],m,[]⟩
   rw[Ce]
  rw[e];refine vJ Ti (λe s ⟨fl,L,m,x,e',h⟩=>?_) hs;subst e'
  cases e with
  |normal=>
   cases L with
   |cons _ _=>exact h.elim
   |nil=>
    refine vJ body (λe s ⟨fl,L,m,x,e',h⟩=>?_) h;subst e'
    cases e<;>exact h
  |_=>exact h.elim
def AU(id:Nat):Code->Code
 | .seq x y=>match AU id x with
  | .skip=>AU id y
  |r=>.seq r y
 | .region i o d=>bif Nat.beq i id then .region i o d else .skip
 |_=>.skip
def u6:Nat->List CV->Fl
 |_,[]=>[]
 |k,x::r=>(k,.c x)::u6 (k+1) r
theorem EH:∀(args:List CV) (k i:Nat),nv (u6 k args) (k+i)=(match zo args i with|some x=>.c x|none=>.any)
 |[],k,i=>rfl
 |x::r,k,0=>by simp[u6,nv,zo]
 |x::r,k,i+1=>by
  have ga:Nat.beq (k+(i+1)) k=false:=by
   cases hb:Nat.beq (k+(i+1)) k with
   |false=>rfl
   |true=>have:=bu hb;omega
  have:=EH r (k+1) i;simp only[u6,nv,zo,ga,cond_false];rw[show k+(i+1)=k+1+i by omega];exact this
theorem adm(args:List CV):LM args=nv (u6 0 args):=by
 funext i
 have:=EH args 0 i;rw[cD]at this;rw[this];rfl
def Mm(T:lz)(rs:List ResultVar)(R:List CV->aD->Prop):Exit->KY
 | .ret=>λfl L m x=>O3 T (iA fl L m x) rs λr=>R r m
 | .normal=>λfl L m x=>O3 T (iA fl L m x) rs λr=>R r m
 |_=>λ_ _ _ _=>False
variable{R:List CV->aD->Prop}
theorem ce{code:Code}{rs:List ResultVar}(h:fFl (u6 0 args) λfl=>Tl c code (Mm T rs R) fl [] m []):xwp c code (amr T rs R) ⟨LM args,[],m,[]⟩:=by
 rw[adm];refine XQ code (λe s ⟨fl,L,m,x,e',h⟩=>?_) (yJ h);subst e'
 cases e<;>first|exact h|exact h.elim
def ig(a b:aD):aD:=λx=>match a x with
 |some o=>some o
 |none=>b x
def gY:List aD->aD
 |[]=>iI
 |a::r=>ig a (gY r)
def Dj(a b:aD):Prop:=∀x,a x=none\/b x=none
variable{a b:aD}
theorem Dj.symm(h:Dj a b):Dj b a:=λx=>(h x).symm
def aq(m:aD)(l:List aD):Prop:=cL (gY l) m/\l.Pairwise Dj
theorem eQ:∀{l:List aD}{x:Nat}{o:Obj},gY l x=some o->∃a∈l,a x=some o
 |[],_,_,h=>by cases h
 |a::r,x,o,h=>by
  simp only[gY,ig]at h
  split at h
  ·rename_i u hu;cases h;exact⟨a,by simp,hu⟩
  ·obtain⟨b,hb,hx⟩:=eQ h
   exact⟨b,by simp[hb],hx⟩
theorem jE:∀{l:List aD},l.Pairwise Dj->∀{a:aD},a∈l->∀{x:Nat}{o:Obj},a x=some o->gY l x=some o
 |[],_,a,ha,_,_,_=>by cases ha
 |b::r,hp,a,ha,x,o,hx=>by
  rw[bh]at hp;simp only[gY,ig];rcases aU.1 ha with rfl|ha
  ·rw[hx]
  ·have:b x=none:=by
    rcases hp.1 a ha x with h|h
    ·exact h
    ·rw[hx]at h;cases h
   rw[this];exact jE hp.2 ha hx
theorem pM:∀{l:List aD}{x:Nat},gY l x=none↔∀a∈l,a x=none
 |[],x=>by simp[gY,iI]
 |a::r,x=>by
  simp only[gY,ig,aU,Fq]
  cases h:a x with
  |none=>simp[pM (l:=r)]
  |some o=>simp
variable{l:List aD}
theorem aax{l':List aD}(hp:l.Pairwise Dj)(h:l.Perm l'):gY l=gY l':=by
 have tZ:l'.Pairwise Dj:=h.pairwise hp (λh=>h.symm)
 funext x
 cases hx:gY l x with
 |none=>
  symm
  rw[pM]at hx⊢;exact λa ha=>hx a (h.mem_iff.2 ha)
 |some o=>
  obtain⟨a,ha,AH⟩:=eQ hx;exact(jE tZ (h.mem_iff.1 ha) AH).symm
theorem aq.fm{l':List aD}(h:aq m l)(hp:l.Perm l'):aq m l':=
 ⟨by rw[<-aax h.2 hp];exact h.1,hp.pairwise h.2 (λh=>h.symm)⟩
theorem aq.one(m:aD):aq m [m]:=⟨λx o h=>by obtain⟨a,ha,hx⟩:=eQ h;rw[aL.1 ha]at hx;exact hx,by simp⟩
theorem aq.sub(h:aq m l)(ha:a∈l:=by simp):cL a m:=λ_ _ hx=>h.1 _ _ (jE h.2 ha hx)
variable{x:Nat}{o:Obj}
theorem aq.get(h:aq m l)(ha:a∈l)(hx:a x=some o):m x=some o:=h.sub ha _ _ hx
theorem aq.none{m:aD}{l:List aD}(h:aq m l){x:Nat}(hx:m x= .none):∀a∈l,a x= .none:=λa ha=>by
 cases AH:a x with
 |none=>rfl
 |some o=>have:=h.get ha AH;rw[hx]at this;cases this
theorem aq.drop(h:aq m (a::l)):aq m l:=by
 have hp:=bh.1 h.2;refine⟨λx o hx=>?_,hp.2⟩;obtain⟨b,hb,HW⟩:=eQ hx;exact h.get (by simp[hb]) HW
theorem aq.cA(h:aq m l):aq m (iI::l):=⟨h.1,by rw[bh];exact⟨λ_ _ _=>.inl rfl,h.2⟩⟩
theorem Zn(a:aD):ig a iI=a:=by funext x;simp only[ig,iI];cases a x<;>rfl
theorem ED(a b c:aD):ig (ig a b) c=ig a (ig b c):=by funext x;simp only[ig];cases a x<;>simp
theorem Bb:ig a b x=none↔a x=none/\b x=none:=by simp only[ig];cases a x<;>simp
theorem aq.jo(h:aq m (a::b::l)):aq m (ig a b::l):=by
 obtain⟨h1,h2⟩:=h;simp only[bh,aU,Fq]at h2;refine⟨by simp only[gY]at h1⊢;rw[ED];exact h1,?_⟩;rw[bh];refine⟨λc hc x=>?_,h2.2.2⟩;rw[Bb];rcases h2.1.2 c hc x with h'|h'
 ·rcases h2.2.1 c hc x with H4|H4
  ·grind
  grind
 grind
theorem aq.abk(h:aq m (ig a b::l))(hd:Dj a b):aq m (a::b::l):=by
 obtain⟨h1,h2⟩:=h;rw[bh]at h2;refine⟨by simp only[gY]at h1⊢;rw[<-ED];exact h1,?_⟩;simp only[bh,aU,Fq];refine⟨⟨hd,λc hc x=>?_⟩,λc hc x=>?_,h2.2⟩
 ·rcases h2.1 c hc x with h'|h'
  ·exact .inl (Bb.1 h').1
  grind
 ·rcases h2.1 c hc x with h'|h'
  ·exact .inl (Bb.1 h').2
  grind
theorem aq.dj(h:aq m (a::b::l)):Dj a b:=by
 have:=h.2;simp only[bh,aU,Fq]at this;exact this.1.1
variable{m1:aD}
theorem cr.Bm{WM:aD}{fb:List aD}{W W':World}(hs:aq m (m1::fb))(hW:mg m W)(h:cr m1 W WM W'):∃m',aq m' (WM::fb)/\cr m W m' W':=by
 have zw:∀a∈fb,∀x o,a x=some o->m x=some o/\m1 x=none/\x<W.heap.size:=by
  intro a ha x o hx;have h1:=hs.get (bO _ ha) hx;refine⟨h1,?_,hW.lt h1⟩;rcases(bh.1 hs.2).1 a ha x with h'|h'
  ·exact h'
  grind
 have hp:(WM::fb).Pairwise Dj:=by
  rw[bh];refine⟨λa ha x=>?_,(bh.1 hs.2).2⟩
  cases hx:a x with
  |none=>exact .inr rfl
  |some o=>
   obtain⟨_,h2,h3⟩:=zw a ha x o hx;exact .inl (h.frame x h3 h2).1
 refine⟨gY (WM::fb),⟨cL.refl _,hp⟩,⟨?_,h.size,h.tape,h.os,h.output,?_,λs=>h.drawn (s.lB (aW _) λb hb=>hs.none hb m1 (by simp))⟩⟩
 ·intro x o hx
  obtain⟨a,ha,AH⟩:=eQ hx;rcases aU.1 ha with rfl|ha
  ·exact h.jF x o AH
  ·obtain⟨h1,h2,h3⟩:=zw a ha x o AH
   rw[(h.frame x h3 h2).2];exact hW x o h1
 ·intro x hx hm
  have hm:=hs.none hm;have h1:=hm m1 (by simp);obtain⟨k1,k2⟩:=h.frame x hx h1;refine⟨?_,k2⟩;rw[pM]
  grind
theorem mg.part{fb:List aD}{W:World}(hs:aq m (m1::fb))(hW:mg m W):mg m1 W:=hW.sub (hs.sub)
theorem bi.frame{fb:List aD}(hs:aq m (m1::fb))(h:bi P f args m1 R):
  bi P f args m λr m'=>∃WM,R r WM/\aq m' (WM::fb):=by
 refine⟨h.1,λha W hW=>(h.2 ha W (hW.part hs)).mono λe W' ⟨r,WM,h1,h2,h3,h4⟩=>?_⟩;obtain⟨m',h5,h6⟩:=h4.Bm hs hW
 grind
def blk1(b:Nat)(o:Obj):aD:=λx=>if x=b then some o else none
theorem aG(b:Nat)(o:Obj):blk1 b o b=some o:=by simp[blk1]
variable{b:Nat}
theorem aan{u:Obj}(h:blk1 b o x=some u):x=b/\o=u:=by
 unfold blk1 at h;split at h
 ·grind
 ·cases h
theorem aao:blk1 b o x=none↔x≠b:=by unfold blk1;split<;>simp_all
theorem pB:ig (blk1 b o) m=m.set b o:=by
 funext x;simp only[ig,blk1,aD.set];split<;>simp_all
theorem aq.new(h:aq m l)(hb:m b= .none)(o:Obj):aq (m.set b o) (blk1 b o::l):=by
 refine⟨λx u hx=>?_,?_⟩
 ·obtain⟨a,ha,AH⟩:=eQ hx
  rcases aU.1 ha with rfl|ha
  ·obtain⟨rfl,rfl⟩:=aan AH;exact aD.bg ..
  ·exact aD.bT _ hb _ _ (h.get ha AH)
 rw[bh];refine⟨λa ha x=>?_,h.2⟩;by_cases e:x=b
 ·subst e;exact .inr (h.none hb a ha)
 ·exact .inl (aao.2 e)
theorem aq.set(h:aq m (a::l))(hb:a b=some o)(o':Obj):aq (m.set b o') (a.set b o'::l):=by
 have h2:=bh.1 h.2;refine⟨λx u hx=>?_,?_⟩
 ·obtain⟨c,hc,hcx⟩:=eQ hx
  by_cases e:x=b
  ·subst e
   rcases aU.1 hc with rfl|hc
   ·rw[aD.bg]at hcx⊢;exact hcx
   ·rcases h2.1 c hc x with h'|h'
    ·grind
    grind
  ·rw[aD.eH _ _ e]
   rcases aU.1 hc with rfl|hc
   ·rw[aD.eH _ _ e]at hcx;exact h.get (by simp) hcx
   ·exact h.get (by simp[hc]) hcx
 ·rw[bh]
  refine⟨λc hc x=>?_,h2.2⟩;by_cases e:x=b
  ·subst e
   rcases h2.1 c hc x with h'|h'
   ·grind
   grind
  ·rw[aD.eH _ _ e];exact h2.1 c hc x
theorem cJ(b:Nat)(o o':Obj):(blk1 b o).set b o'=blk1 b o':=by funext x;simp only[blk1,aD.set];split<;>simp_all
section
variable {P:Program}{T:lz}
theorem mu(hT:fW P T){t e:TypeId}{ti ei:TI}(ht:T t=some ti)(hk:ti.k= .slice e)(he:T e=some ei){m:aD}:
  bF P (.buildSlice t 0 []) [] m λr m'=>∃b,m b=none/\r=[.v (.slice (some ⟨b,0,none⟩) 0 0)]/\m'=m.set b (.cells #[] e):=by
 intro ez ty W hW;obtain⟨j,hj,JP,_,z,hz,hzc⟩:=(hT e ei he).WX;have hu:=(hT t ti ht).slice hk;refine⟨[.v (.slice (some ⟨W.heap.size,0,none⟩) 0 0)],m.set W.heap.size (.cells #[] e),W.alloc (.cells #[] e),?_,?_,⟨W.heap.size,hW.none (aW _),rfl,rfl⟩,(cr.refl hW).alloc _⟩
 ·simp[dF.run,dF.dE,dF.Fz,cond_false,gm,CV.val,Instr.buildSlice,run_underlying hu,sizeOf,typeInfo,hj,newRow,Instr.fill]
  grind
 ·intro x hx
  simp at hx;subst hx;rfl
end
section
variable {P:Program}{T:lz}
theorem cr.setObj{m:aD}{W:World}(hW:mg m W){b:Nat}{o:Obj}(hb:m b=some o){o':Obj}{h:Array Obj}(hs:h.size=W.heap.size)(h1:h[b]?=some o') (h2:∀x,x≠b->h[x]?=W.heap[x]?):
  cr m W (m.set b o') {W with heap:=h}:=by
 refine⟨λx u hx=>?_,by show W.heap.size<=h.size;omega,rfl,rfl,rfl,λx hx hm=>?_,λ_=>aW _⟩
 ·by_cases e:x=b
  ·subst e;rw[aD.bg]at hx;cases hx;exact h1
  ·rw[aD.eH _ _ e]at hx;exact(h2 x e).trans (hW x u hx)
 ·have e:x≠b:=λe=>by subst e;rw[hb]at hm;cases hm
  exact⟨by rw[aD.eH _ _ e];exact hm,h2 x e⟩
end
theorem Im{α:Type}:∀(l:List α) (i:Nat) (a:α),l[i]?=some a->(a::l.eraseIdx i).Perm l
 |[],_,_,h=>by simp at h
 |x::l,0,a,h=>by simp at h;subst h;exact .refl _
 |x::l,i+1,a,h=>by
  simp only[List.eraseIdx_cons_succ];exact(List.Perm.swap x a _).trans ((Im l i a (by simpa using h)).cons x)
theorem PF{α:Type}:∀(l:List α) (i:Nat) (a:α),i<l.length->(l.set i a).Perm (a::l.eraseIdx i)
 |[],_,_,h=>by simp at h
 |x::l,0,a,h=>.refl _
 |x::l,i+1,a,h=>by
  simp only[List.eraseIdx_cons_succ,List.set_cons_succ];exact((PF l i a (by simpa using h)).cons x).trans (List.Perm.swap a x _)
variable{i:Nat}
theorem aq.pick(h:aq m l)(hi:l[i]?=some a):aq m (a::l.eraseIdx i):=by
 exact h.fm (Im l i a hi).symm
variable{p:aD}
theorem aq.Gb(hi:l[i]?=some p) (h:aq m (a::l.eraseIdx i)):aq m (l.set i a):=
 h.fm (PF l i a (aQ.1 hi).1).symm
theorem aq.at(h:aq m l)(hi:l[i]?=some p):cL p m:=h.sub (dJ hi)
theorem abJ{α:Type}{l:List α}{p:α}(h:l[i]?=some p) (q:α):(l.set i q)[i]?=some q:=List.getElem?_set_self (aQ.1 h).1
variable{j:Nat}
theorem BO{α:Type}{l:List α}{p:α}(h:l[j]?=some p) (ZD:i≠j) (q:α):(l.set i q)[j]?=some p:=by rw[List.getElem?_set_ne ZD];exact h
theorem aq.gu(h:aq m l)(hi:l[i]?=some p)  (hb:p b=some o) (o':Obj):aq (m.set b o') (l.set i (p.set b o')):=
 aq.Gb hi ((h.pick hi).set hb o')
theorem bi.at(hs:aq m l)(hi:l[i]?=some p) (h:bi P f args p R):
  bi P f args m λr m'=>∃p',R r p'/\aq m' (l.set i p'):=
 (h.frame (hs.pick hi)).mono λ_ _ ⟨p',h1,h2⟩=>⟨p',h1,aq.Gb hi h2⟩
theorem bF.mono{p:dF}{R':List CV->aD->Prop}(h:bF P p args m R)(k:∀r m',R r m'->R' r m'):bF P p args m R':=λha ty W hW=>
 let ⟨r,m',W',h1,h2,h3,h4⟩:=h ha ty W hW
 ⟨r,m',W',h1,h2,k _ _ h3,h4⟩
variable{m':aD}
theorem aq.under{a:List aD}(h:aq m' (a++[m]))(hs:aq m l):aq m' (a++l):=by
 obtain⟨h1,h2⟩:=h;rw[cm]at h2;refine⟨λx o hx=>?_,?_⟩
 ·obtain⟨c,hc,hcx⟩:=eQ hx
  rcases aR.1 hc with hc|hc
  ·exact h1 _ _ (jE (cm.2 h2) (by simp[hc]) hcx)
  ·exact h1 _ _ (jE (cm.2 h2) (a:=m) (by simp) (hs.get hc hcx))
 ·rw[cm]
  refine⟨h2.1,hs.2,λx hx y hy z=>?_⟩;rcases h2.2.2 x hx m (by simp) z with h'|h'
  ·grind
  ·exact .inr (hs.none h' y hy)
theorem aq.Vn{q:aD}{ls:List aD}(hs:aq m l)(hi:l[i]?=some q) (h:aq q ls):aq m (ls++l.eraseIdx i):=by
 have hp:=hs.pick hi;have hd:=bh.1 hp.2;refine⟨λx o hx=>?_,?_⟩
 ·obtain⟨c,hc,hcx⟩:=eQ hx
  rcases aR.1 hc with hc|hc
  ·exact hs.at hi _ _ (h.get hc hcx)
  ·exact hp.get (by simp[hc]) hcx
 ·rw[cm]
  refine⟨h.2,hd.2,λa ha b hb x=>?_⟩;rcases hd.1 b hb x with h'|h'
  ·exact .inl (h.none h' a ha)
  grind
theorem aq.dV(h:aq m l)(i:Nat):aq m (l.eraseIdx i):=by
 by_cases hi:i<l.length
 ·exact(h.pick (i:=i) (az hi)).drop
 ·rw[List.eraseIdx_of_length_le (by omega)];exact h
section
variable {P:Program}{T:lz}
theorem kC(hT:fW P T){t e tx:TypeId}{ti ei xi:TI}(ht:T t=some ti)(hk:ti.k= .slice e)(he:T e=some ei)(hx:T tx=some xi)(hz:(LB.cz ei.zero).length=ei.size){v x:Value}{c news:List Value}{m p:aD}{l:List aD}{i:Nat}
  (hs:aq m l) (hi:l[i]?=some p) (hv:mf p e ei.size v c) (hg:s5 m ei.size xi.k x news) (alK:(2*(fg v+fg x)+768)*ei.bytes<=281474976710656) (kW:fg v+fg x<=9223372036854775807):
  bF P (.builtin .append [t,tx]) [.v v,.v x] m λr m'=>∃v' p',r=[.v v']/\aq m' (l.set i p')/\Apd p e ei.size v (c++news) (fg x) v' p':=by
 have auh:mf m e ei.size v c:=hv.sub (hs.at hi);intro ha ty W hW;obtain⟨r,m',W',h1,h2,⟨v',rfl,HZ⟩,h4⟩:=E2 hT ht hk he hx hz auh hg alK kW ha ty W hW;have qW:=hs.pick hi;have hp:=bh.1 qW.2
 have hvb:∀b,lp v=some b->∃o,p b=some o:=by
  intro b hb;rcases hv with⟨rfl,_⟩|⟨b',o',c,n,arr,rfl,qB,_⟩
  ·simp[lp]at hb
  ·simp only[lp,aM]at hb;subst hb;exact⟨_,qB⟩
 let p':aD:=λx=>if lp v'=some x then m' x else if lp v=some x then none else p x
 have tZ:∀x o,p' x=some o->m' x=some o/\(lp v'=some x\/p x=some o):=by
  intro x o hx;simp only[p']at hx;by_cases e1:lp v'=some x
  ·grind
  ·rw[if_neg e1]at hx
   by_cases e2:lp v=some x
   ·grind
   ·rw[if_neg e2]at hx
    exact⟨HZ.cR x o (hs.at hi _ _ hx) e2,.inr hx⟩
 have hdj:(p'::l.eraseIdx i).Pairwise Dj:=by
  rw[bh];refine⟨λa haa x=>?_,hp.2⟩
  cases hx:p' x with
  |none=>exact .inl rfl
  |some o=>
   refine .inr ?_;obtain⟨_,q|q⟩:=tZ x o hx
   ·rcases HZ.new x q with h'|h'
    ·obtain⟨u,hu⟩:=hvb x h'
     rcases hp.1 a haa x with H4|H4
     ·rw[hu]at H4;cases H4
     ·exact H4
    ·exact qW.none h' a (by simp[haa])
   ·rcases hp.1 a haa x with H4|H4
    ·rw[q]at H4;cases H4
    ·exact H4
 refine⟨[.v v'],gY (p'::l.eraseIdx i),W',h1,h2,⟨v',p',rfl,aq.Gb hi ⟨cL.refl _,hdj⟩,?_,?_,?_,HZ.len⟩,?_⟩
 ·exact HZ.ux.cR λb hb=>by simp[p',hb]
 ·intro b o hb ga
  simp only[p'];by_cases e1:lp v'=some b
  ·rw[aC e1];exact HZ.cR b o (hs.at hi _ _ hb) ga
  grind
 ·intro b hb
  rcases HZ.new b hb with h'|h'
  ·grind
  ·exact .inr (qW.none h' p (by simp))
 ·refine h4.H9 λx o hx=>?_
  obtain⟨a,haa,AH⟩:=eQ hx;rcases aU.1 haa with rfl|haa
  ·grind
  ·refine HZ.cR x o (qW.get (by simp[haa]) AH) λhb=>?_
   obtain⟨u,hu⟩:=hvb x hb;rcases hp.1 a haa x with H4|H4
   ·grind
   grind
end
def bc(l:List Int):List Value:=l.map (Value.int .u8)
theorem Mh(a b:List Int):bc (a++b)=bc a++bc b:=by simp[bc]
theorem Ed(a:List Int):(bc a).length=a.length:=by simp[bc]
theorem VW{a:List Int}:∀u∈bc a,u.oneCell'=true:=by
 intro u hu;simp only[bc,aV]at hu;obtain⟨a,_,rfl⟩:=hu;rfl
theorem ark{a:List Int}{u:Value}(h:(bc a)[j]?=some u):∃n,a[j]?=some n/\u= .int .u8 n:=by
 simp only[bc,cj,uE]at h
 grind
def Lb(m:aD)(v:Value)(l:List Int):Prop:=gq m 1 v (bc l)
variable{l:List Int}
theorem Lb.len(h:Lb m v l):fg v=l.length:=by have:=gq.len h;rw[Ed]at this;omega
theorem Lb.sub(h:Lb m v l)(hs:cL m m'):Lb m' v l:=gq.sub h hs
theorem Lb.nil(m:aD)(c:Nat):Lb m (.slice none 0 c) []:=.inl ⟨c,rfl,rfl⟩
theorem Lb.one(h:Lb m v l):v.oneCell'=true:=gq.one h
theorem Lb.cases(h:Lb m v l):(∃c,v= .slice none 0 c/\l=[])\/∃b o c arr t fr,v= .slice (some ⟨b,o,none⟩) l.length c/\m b=some (.cells arr t fr)/\l.length<=c/\(∀j n,l[j]?=some n->arr[o+j]?=some (.int .u8 n)):=by
 rcases h with⟨c,rfl,h⟩|⟨b,o,c,n,arr,t,fr,rfl,h1,h2,h3,h4,h5⟩
 ·exact .inl ⟨c,rfl,by simpa [bc]using h⟩
 ·rw[Ed,eG]at h2
  subst h2;exact .inr ⟨b,o,c,arr,t,fr,rfl,h1,h3,λj n hj=>h4 j _ (by simp[bc,hj])⟩
theorem Lb.shape(h:Lb m v l):∃a c,v= .slice a l.length c:=by
 rcases h.cases with⟨c,rfl,rfl⟩|⟨b,o,c,arr,t,fr,rfl,_⟩<;>exact⟨_,_,rfl⟩
theorem Lb.real(h:Lb m v l)(hl:l≠[]):∃b o c,v= .slice (some ⟨b,o,none⟩) l.length c:=by
 rcases h.cases with⟨c,rfl,rfl⟩|⟨b,o,c,arr,t,fr,rfl,_⟩
 ·grind
 grind
variable{o n:Nat}{fr:Nat×Nat}{arr:Array Value}
theorem Lb.mk{c:Nat}(h1:m b=some (.cells arr t fr))(hn:l.length=n)(h2:n<=c)(h3:∀j n,l[j]?=some n->arr[o+j]?=some (.int .u8 n)):Lb m (.slice (some ⟨b,o,none⟩) n c) l:=
 .inr ⟨b,o,c,n,arr,t,fr,rfl,h1,by rw[Ed,hn,eG],h2,λj u hu=>by obtain⟨n,h4,rfl⟩:=ark hu;exact h3 j n h4,VW⟩
theorem Lb.range{c:Nat}(h:Lb m (.slice (some ⟨b,o,none⟩) n c) l):dQ m b o (l.map (Value.int .u8)):=by
 rcases h with⟨c',h,_⟩|⟨b',o',c',n',arr,t,fr,h,h1,h2,h3,h4,h5⟩
 ·cases h
 ·cases h;exact⟨arr,t,fr,h1,h4⟩
variable{off:Nat}
theorem aF(h:m b=some (.cells arr t fr))(hv:arr[off]?=some v):gR m b off=some v:=by simp only[gR,h];exact hv
theorem nH(h:gR m b o=some v)(hs:cL m m'):gR m' b o=some v:=by
 unfold gR at h⊢
 cases hb:m b with
 |none=>simp[hb]at h
 |some u=>rw[hb]at h;rw[hs _ _ hb];exact h
theorem akJ{A c B:List Value}{u:Value}(hA:A.length=off)(hu:c[j]?=some u):(A++(c++B)).toArray[off+j]?=some u:=by
 grind
theorem dQ.sub{l:List Value}(h:dQ m b o l)(hs:cL m m'):dQ m' b o l:=by
 obtain⟨arr,t,fr,h1,h2⟩:=h;exact⟨arr,t,fr,hs _ _ h1,h2⟩
theorem dQ.Wl(A B:LB){c:LB}(h:m b=some (.cells (LB.cz (A++(c++B))).toArray t fr))(hA:(LB.cz A).length=off):dQ m b off (LB.cz c):=
 ⟨_,_,_,h,λj u hu=>by rw[LB.jW,LB.jW];exact akJ hA hu⟩
theorem Lb.awU(h:m b=some (.cells (bc l).toArray t fr))(hn:l.length=n):Lb m (.slice (some ⟨b,0,none⟩) n n) l:=
 Lb.mk h hn (aW _) λj n hj=>by simp[bc,hj]
def La(m:aD)(v:Value)(l:List Int):Prop:=Lb m v l\/(l=[]/\∃a,v= .slice (some a) 0 0)
theorem Lb.la(h:Lb m v l):La m v l:=.inl h
theorem La.sub(h:La m v l)(hs:cL m m'):La m' v l:=h.imp (·.sub hs) id
theorem La.shape(h:La m v l):∃a c,v= .slice a l.length c:=by
 rcases h with h|⟨rfl,a,rfl⟩
 ·exact h.shape
 simp_all
theorem La.len(h:La m v l):fg v=l.length:=by obtain⟨a,c,rfl⟩:=h.shape;rfl
theorem La.one(h:La m v l):v.oneCell'=true:=by obtain⟨a,c,rfl⟩:=h.shape;rfl
theorem La.vh{e:TypeId}(h:La m v l):s5 m 1 (.slice e) v (bc l):=.inl ⟨e,rfl,h.imp id λ⟨h1,h2⟩=>⟨by rw[h1];rfl,h2⟩⟩
theorem La.lb(h:La m v l)(hl:l≠[]):Lb m v l:=h.elim id λh=>absurd h.1 hl
def by8(l:List Int):List UInt8:=l.map λn=>UInt8.ofNat n.toNat
theorem KF:∀(l:List Int) (r:ByteArray),(l.foldl (λr n=>r.push (UInt8.ofNat n.toNat)) r).data.toList=r.data.toList++by8 l
 |[],r=>by simp[by8]
 |x::l,r=>by
  simp only[gd];rw[KF l];simp[by8,ByteArray.push]
theorem Gn(l:List Int):(tH l).data.toList=by8 l:=by
 rw[tH,KF];rfl
abbrev cx(b:Nat):CV:=.v (.pointer (some ⟨b,0,none⟩))
abbrev aoW:CV:=.v (.pointer none)
theorem xM{q K:Value->Prop}(h:m b=some (.cells arr t fr))(k:K v)(hv:arr[off]?=some v:=by rfl) (hq:q v:=by rfl):∃v,gR m b off=some v/\q v/\K v:=⟨v,aF h hv,hq,k⟩
section
variable {P:Program}{T:lz}
theorem aD.PE{m:aD}{b:Nat}{o:Obj}(h:m b=some o):m.set b o=m:=by
 funext x;by_cases e:x=b
 ·subst e;rw[aD.bg,h]
 ·rw[aD.eH _ _ e]
theorem VL(hT:fW P T){t e tx:TypeId}{ti ei:TI}(ht:T t=some ti)(hk:ti.k= .slice e)(he:T e=some ei)(hz:ei.size=1){m:aD}{b o n c:Nat}{arr:Array Value}{te:TypeId}(hb:m b=some (.cells arr te))(jH:o+n<=arr.size)
  {x:Value}{news:List Value} (hx:gq m 1 x news):
  bF P (.builtin .copy [t,tx]) [.v (.slice (some ⟨b,o,none⟩) n c),.v x] m λr m'=>r=[.v (.int .i64 ((min news.length n:Nat):Int))]/\m'=m.set b (.cells (arr.toList.take o++news.take n++arr.toList.drop (o+(news.take n).length)).toArray te):=by
 intro ez ty W hW;obtain⟨j,hj,JP,_⟩:=(hT e ei he).WX;have hu:=(hT t ti ht).slice hk;have yD:=hW _ _ hb;rcases hx with⟨c',rfl,rfl⟩|⟨b',o',c',n',CH,t',fr',rfl,h1,h2,h3,h4,h5⟩
 ·refine⟨_,_,W,?_,?_,⟨rfl,rfl⟩,?_⟩
  ·simp[dF.run,dF.dE,dF.Fz,cond_false,CV.val,gm,Builtin.copy_,run_underlying hu,Builtin.lenOf,Builtin.firstCells,sizeOf,typeInfo,hj,storeCells]
   rfl
  ·intro y hy;simp at hy;subst hy;rfl
  ·simp only[List.take_nil,cO,cW,gO,dL,iw]
   rw[aD.PE hb];exact cr.refl hW
 ·have ZA:n'=news.length:=by omega
  subst ZA
  have hr:=run_copy_row (P:=P) W t tx ty e b o n c ⟨b',o',none⟩ news.length c' arr te (news.take n) hu (by rw[hj];simp[JP,hz]) yD (by simp[Nat.min_comm]) (λj v hv=>by
   rw[ii,iO (hW _ _ h1)];refine h4 j v ?_;have hl:=(aQ.1 hv).1;simp only[aK]at hl;rw[bN,aC (by omega)]at hv
   exact hv) (by simp;omega) (λv hv=>h5 v (bX hv))
  refine⟨_,_,_,?_,?_,⟨rfl,rfl⟩,(cr.refl hW).setRow hb _⟩
  ·simp only[dF.run,dF.dE,dF.Fz,cond_false,aZ,lK,CV.val,gm]
   refine hr.trans ?_;simp only[aK,Nat.min_comm];rfl
  ·intro y hy;simp at hy;subst hy;rfl
end
end Go.E
namespace Go.E.Y
open Go.Proofs
abbrev zI:eB:=.one (.int .i64 0)
abbrev zU:eB:=.one (.int .u64 0)
abbrev zP:eB:=.one (.pointer none)
abbrev zS:eB:=.one (.slice none 0 0)
abbrev zT:eB:=.one (.string ByteArray.empty)
abbrev zB:eB:=.one (.bool false)
abbrev zF:eB:=.one .nilIface
abbrev z8:eB:=.one (.int .u8 0)
abbrev z4:eB:=.one (.int .u32 0)
abbrev z3:eB:=.one (.int .i32 0)
abbrev zL(n:Nat)(x:TI):oI:=.leaf n x
abbrev zN(n:Nat)(a b:oI):oI:=.node n a b
abbrev zC(f:List (Nat×Nat))(n b:Nat)(z:LB)(q:Bool):TI:=⟨.struct f,n,b,z,q⟩
abbrev zl0:TI:=zC [(0,3),(1,3),(2,3),(3,3),(4,3),(5,33),(37,34),(38,35),(39,36)] 40 144 [zI,zI,zI,zI,zI,.bG .u8 32 (List.replicate 32 0),zS,zS,zS] false
abbrev zl1:TI:=zC [(0,3),(1,3),(2,9),(3,30),(6,31),(7,38)] 47 208 [zI,zI,zT,zI,zI,zI,zU,zI,zI,zI,zI,zI,.bG .u8 32 (List.replicate 32 0),zS,zS,zS] false
abbrev zl4:TI:=zC [(0,3),(1,40),(48,34)] 49 240 [zI,zI,zI,zT,zI,zI,zI,zU,zI,zI,zI,zI,zI,.bG .u8 32 (List.replicate 32 0),zS,zS,zS,zS] false
abbrev zl5:TI:=zC [(0,71),(7,3),(8,65),(9,44),(10,103),(11,47),(12,3),(13,3)] 14 128 [zI,zI,zI,zI,zI,zI,zI,zI,zP,zP,zP,zS,zI,zI] false
abbrev zl6:TI:=zC [(0,3),(1,3),(2,3),(3,3),(4,3),(5,34),(6,61),(10,3)] 11 104 [zI,zI,zI,zI,zI,zS,zI,zI,zI,zI,zI] false
abbrev zl7:TI:=zC [(0,3),(1,3),(2,3)] 3 24 [zI,zI,zI] true
abbrev zl8:TI:=zC [(0,38),(40,3)] 41 152 [zI,zI,zI,zI,zI,.bG .u8 32 (List.replicate 32 0),zS,zS,zS,zI] false
abbrev zl9:TI:=zC [(0,3),(1,31)] 2 16 [zI,zU] true
abbrev auF:TI:=zC [(0,3),(1,145),(2,148),(3,148)] 4 32 [zI,.one (.map none),zU,zU] false
abbrev auE:TI:=zC [(0,3),(1,3),(2,3),(3,51),(5,52)] 6 64 [zI,zI,zI,zI,zU,zS] false
abbrev auB:TI:=zC [(0,26),(1,3),(2,36),(3,106),(4,107)] 5 56 [zP,zI,zS,zP,zP] false
abbrev auv:TI:=zC [(0,9),(1,79)] 10 104 [zT,.bG .u64 8 (List.replicate 8 0),zS] false
abbrev auu:TI:=zC [(0,49),(1,54),(7,55)] 8 96 [zI,zI,zI,zI,zI,zU,zS,zS] false
abbrev aug:TI:=zC [(0,76),(8,77)] 9 88 [.bG .u64 8 (List.replicate 8 0),zS] false
abbrev auf:TI:=zC [(0,69),(3,127),(6,128)] 7 64 [zI,zI,zI,z4,z3,z4,zS] false
abbrev aue:TI:=zC [(0,4),(1,206),(2,209),(3,3)] 4 64 [zB,zS,zS,zI] false
abbrev aud:TI:=zC [(0,26),(1,3),(2,100),(3,3)] 4 48 [zP,zI,zS,zI] false
abbrev at6:TI:=zC [(0,2),(1,3),(2,4),(3,6)] 4 24 [zI,zI,zB,z8] false
abbrev at2:TI:=zC [(0,3),(1,3),(2,31),(3,3)] 4 32 [zI,zI,zU,zI] true
abbrev at1:TI:=zC [(0,3),(1,3),(2,3),(3,3)] 4 32 [zI,zI,zI,zI] true
abbrev atX:TI:=zC [(0,69),(3,61)] 7 56 [zI,zI,zI,zI,zI,zI,zI] true
abbrev atW:TI:=⟨.array 21 33,672,672,[.bG .u8 672 (List.replicate 672 0)],false⟩
abbrev atV:TI:=zC [(0,117),(0,121),(1,125)] 3 12 [z4,z3,z4] false
abbrev atQ:TI:=zC [(0,168),(2,3),(3,3)] 4 40 [zP,zT,zI,zI] false
abbrev atP:TI:=⟨.array 32 5,32,32,[.bG .u8 32 (List.replicate 32 0)],true⟩
abbrev atO:TI:=zC [(0,4),(1,100),(2,49)] 3 40 [zB,zS,zI] false
abbrev atJ:TI:=zC [(0,3),(1,49),(2,34)] 3 40 [zI,zI,zS] false
abbrev atI:TI:=⟨.array 8 119,8,32,[.bG .u32 8 (List.replicate 8 0)],true⟩
abbrev atG:TI:=⟨.array 8 31,8,64,[.bG .u64 8 (List.replicate 8 0)],true⟩
abbrev an9:TI:=⟨.int .u64,1,8,[zU],false⟩
abbrev atD:TI:=zC [(0,96),(3,3)] 4 48 [zI,zI,zS,zI] false
abbrev an7:TI:=⟨.int .u8,1,1,[z8],false⟩
abbrev an6:TI:=zC [] 0 0 [] false
abbrev atC:TI:=zC [(0,118),(0,146),(0,31)] 1 8 [zU] false
abbrev atB:TI:=zC [(0,382),(1,100)] 2 32 [zP,zS] false
abbrev atA:TI:=zC [(0,117),(0,123)] 2 8 [z3,z4] false
abbrev aty:TI:=zC [(0,100),(1,3)] 2 32 [zS,zI] false
abbrev att:TI:=zC [(0,9),(1,12)] 2 24 [zT,zU] false
abbrev atr:TI:=zC [(0,21),(1,119)] 2 8 [z3,z4] true
abbrev atp:TI:=zC [(0,26),(1,9)] 2 24 [zP,zT] false
abbrev ato:TI:=zC [(0,31),(1,31)] 2 16 [zU,zU] true
abbrev atn:TI:=zC [(0,31),(1,3)] 2 16 [zU,zI] true
abbrev atm:TI:=zC [(0,118),(0,119)] 1 4 [z4] false
abbrev arK:TI:=⟨.int .i32,1,4,[z3],false⟩
abbrev ati:TI:=zC [(0,100)] 1 24 [zS] false
abbrev ath:TI:=zC [(0,17)] 1 8 [zP] false
abbrev CT(n k:Nat):oI:=.leaf n ⟨.ptr k,1,8,[.one (.pointer none)],false⟩
abbrev Ny(n k:Nat):oI:=.leaf n ⟨.slice k,1,24,[.one (.slice none 0 0)],false⟩
abbrev lfI(n:Nat):oI:=.leaf n ⟨.int .i64,1,8,[.one (.int .i64 0)],false⟩
abbrev cg(n:Nat):oI:=.leaf n ⟨.func,1,8,[.one .nilFunc],false⟩
abbrev lfS(n:Nat):oI:=.leaf n ⟨.AS,1,16,[.one (.string ByteArray.empty)],false⟩
abbrev lfE(n:Nat):oI:=.leaf n ⟨.iface,1,16,[.one .nilIface],false⟩
abbrev lfB(n:Nat):oI:=.leaf n ⟨.bool,1,1,[.one (.bool false)],false⟩
abbrev tP:Program:=Tryz.prog
def tt:oI:=(zN 259 (zN 123 (zN 60 (zN 31 (zN 15 (zN 8 (zN 4 (zN 2 (cg 1)
 (zN 3 (lfI 2)
 (lfI 3)))
 (zN 6 (zN 5 (lfB 4)
 (zL 5 an7))
 (zN 7 (zL 6 an7)
 (zL 7 at6))))
 (zN 11 (zN 9 (zL 8 at6)
 (zN 10 (lfS 9)
 (lfS 10)))
 (zN 13 (zN 12 (lfS 11)
 (zL 12 an9))
 (zN 14 (zL 13 att)
 (zL 14 att)))))
 (zN 22 (zN 18 (zN 16 (CT 15 552)
 (zN 17 (CT 16 555)
 (CT 17 562)))
 (zN 20 (zN 19 (zL 18 ath)
 (zL 19 ath))
 (zN 21 (lfE 20)
 (zL 21 arK))))
 (zN 26 (zN 24 (zN 23 (Ny 22 42)
 (cg 23))
 (zN 25 (cg 24)
 (CT 25 105)))
 (zN 29 (zN 28 (CT 26 150)
 (cg 28))
 (zN 30 (zL 29 zl7)
 (zL 30 zl7))))))
 (zN 45 (zN 38 (zN 34 (zN 32 (zL 31 an9)
 (zN 33 (zL 32 atP)
 (zL 33 atP)))
 (zN 36 (zN 35 (Ny 34 3)
 (Ny 35 33))
 (zN 37 (Ny 36 81)
 (zL 37 zl0))))
 (zN 41 (zN 39 (zL 38 zl0)
 (zN 40 (zL 39 zl1)
 (zL 40 zl1)))
 (zN 43 (zN 42 (zL 41 zl4)
 (zL 42 zl4))
 (zN 44 (cg 43)
 (CT 44 109)))))
 (zN 52 (zN 48 (zN 46 (cg 45)
 (zN 47 (cg 46)
 (Ny 47 63)))
 (zN 50 (zN 49 (cg 48)
 (lfI 49))
 (zN 51 (zL 50 zl9)
 (zL 51 zl9))))
 (zN 56 (zN 54 (zN 53 (Ny 52 51)
 (zL 53 auE))
 (zN 55 (zL 54 auE)
 (Ny 55 98)))
 (zN 58 (zN 57 (zL 56 auu)
 (zL 57 auu))
 (zN 59 (cg 58)
 (cg 59)))))))
 (zN 92 (zN 75 (zN 68 (zN 63 (zN 61 (zL 60 at1)
 (zN 62 (zL 61 at1)
 (zL 62 zl6)))
 (zN 65 (zN 64 (zL 63 zl6)
 (cg 64))
 (zN 67 (CT 65 130)
 (cg 67))))
 (zN 71 (zN 69 (zL 68 zl7)
 (zN 70 (zL 69 zl7)
 (zL 70 atX)))
 (zN 73 (zN 72 (zL 71 atX)
 (cg 72))
 (zN 74 (cg 73)
 (cg 74)))))
 (zN 82 (zN 78 (zN 76 (zL 75 atG)
 (zN 77 (zL 76 atG)
 (Ny 77 134)))
 (zN 80 (zN 79 (zL 78 aug)
 (zL 79 aug))
 (zN 81 (zL 80 auv)
 (zL 81 auv))))
 (zN 86 (zN 84 (zN 83 (Ny 82 38)
 (cg 83))
 (zN 85 (cg 84)
 (cg 85)))
 (zN 89 (zN 88 (cg 86)
 (cg 88))
 (zN 90 (cg 89)
 (cg 90))))))
 (zN 108 (zN 99 (zN 95 (zN 93 (cg 92)
 (zN 94 (Ny 93 96)
 (cg 94)))
 (zN 97 (zN 96 (zL 95 atJ)
 (zL 96 atJ))
 (zN 98 (zL 97 zl9)
 (zL 98 zl9))))
 (zN 104 (zN 102 (zN 100 (cg 99)
 (Ny 100 5))
 (zN 103 (cg 102)
 (CT 103 211)))
 (zN 106 (zN 105 (zL 104 zl5)
 (zL 105 zl5))
 (zN 107 (CT 106 170)
 (CT 107 277)))))
 (zN 115 (zN 111 (zN 109 (zL 108 auB)
 (zN 110 (zL 109 auB)
 (cg 110)))
 (zN 113 (zN 112 (cg 111)
 (cg 112))
 (zN 114 (cg 113)
 (cg 114))))
 (zN 119 (zN 117 (zN 116 (cg 115)
 (zL 116 an6))
 (zN 118 (zL 117 an6)
 (zL 118 an6)))
 (zN 121 (zN 120 (zL 119 ⟨.int .u32,1,4,[z4],false⟩)
 (zL 120 atm))
 (zN 122 (zL 121 atm)
 (zL 122 atr))))))))
 (zN 187 (zN 154 (zN 137 (zN 130 (zN 126 (zN 124 (zL 123 atr)
 (zN 125 (zL 124 atA)
 (zL 125 atA)))
 (zN 128 (zN 127 (zL 126 atV)
 (zL 127 atV))
 (zN 129 (Ny 128 217)
 (zL 129 auf))))
 (zN 133 (zN 131 (zL 130 auf)
 (zN 132 (cg 131)
 (cg 132)))
 (zN 135 (zN 134 (zL 133 at2)
 (zL 134 at2))
 (zN 136 (cg 135)
 (cg 136)))))
 (zN 145 (zN 141 (zN 138 (cg 137)
 (zN 140 (cg 138)
 (cg 140)))
 (zN 143 (zN 142 (cg 141)
 (Ny 142 9))
 (zN 144 (cg 143)
 (CT 144 152))))
 (zN 149 (zN 147 (zN 146 (zL 145 ⟨.map 9 144,1,8,[.one (.map none)],false⟩)
 (zL 146 an6))
 (zN 148 (zL 147 atC)
 (zL 148 atC)))
 (zN 151 (zN 150 (zL 149 auF)
 (zL 150 auF))
 (zN 152 (zL 151 aty)
 (zL 152 aty))))))
 (zN 168 (zN 161 (zN 157 (zN 155 (cg 154)
 (zN 156 (cg 155)
 (cg 156)))
 (zN 159 (zN 158 (cg 157)
 (cg 158))
 (zN 160 (cg 159)
 (CT 160 162))))
 (zN 164 (zN 162 (zL 161 ati)
 (zN 163 (zL 162 ati)
 (cg 163)))
 (zN 166 (zN 165 (cg 164)
 (cg 165))
 (zN 167 (cg 166)
 (zL 167 atp)))))
 (zN 176 (zN 171 (zN 169 (zL 168 atp)
 (zN 170 (zL 169 atQ)
 (zL 170 atQ)))
 (zN 173 (zN 172 (cg 171)
 (cg 172))
 (zN 174 (cg 173)
 (cg 174))))
 (zN 182 (zN 179 (zN 178 (cg 176)
 (cg 178))
 (zN 180 (cg 179)
 (cg 180)))
 (zN 184 (zN 183 (cg 182)
 (cg 183))
 (zN 186 (cg 184)
 (cg 186)))))))
 (zN 221 (zN 204 (zN 195 (zN 190 (zN 188 (cg 187)
 (zN 189 (cg 188)
 (cg 189)))
 (zN 192 (zN 191 (cg 190)
 (cg 191))
 (zN 193 (cg 192)
 (zL 193 an9))))
 (zN 199 (zN 197 (cg 195)
 (zN 198 (cg 197)
 (Ny 198 100)))
 (zN 202 (zN 201 (cg 199)
 (cg 201))
 (zN 203 (cg 202)
 (cg 203)))))
 (zN 213 (zN 208 (zN 205 (cg 204)
 (zN 206 (cg 205)
 (Ny 206 280)))
 (zN 210 (zN 209 (cg 208)
 (Ny 209 282))
 (zN 211 (zL 210 aue)
 (zL 211 aue))))
 (zN 217 (zN 215 (zN 214 (cg 213)
 (cg 214))
 (zN 216 (cg 215)
 (zL 216 atn)))
 (zN 219 (zN 218 (zL 217 atn)
 (cg 218))
 (zN 220 (cg 219)
 (cg 220))))))
 (zN 241 (zN 231 (zN 225 (zN 223 (cg 221)
 (zN 224 (cg 223)
 (cg 224)))
 (zN 229 (zN 227 (cg 225)
 (cg 227))
 (zN 230 (cg 229)
 (cg 230))))
 (zN 237 (zN 234 (zN 233 (cg 231)
 (cg 233))
 (zN 236 (cg 234)
 (cg 236)))
 (zN 239 (zN 238 (cg 237)
 (cg 238))
 (zN 240 (cg 239)
 (cg 240)))))
 (zN 250 (zN 244 (zN 242 (cg 241)
 (zN 243 (cg 242)
 (cg 243)))
 (zN 248 (zN 246 (cg 244)
 (cg 246))
 (zN 249 (cg 248)
 (cg 249))))
 (zN 254 (zN 252 (zN 251 (cg 250)
 (cg 251))
 (zN 253 (cg 252)
 (cg 253)))
 (zN 257 (zN 256 (cg 254)
 (cg 256))
 (zN 258 (cg 257)
 (cg 258)))))))))
 (zN 388 (zN 323 (zN 292 (zN 276 (zN 267 (zN 262 (zN 260 (cg 259)
 (zN 261 (cg 260)
 (cg 261)))
 (zN 264 (zN 263 (cg 262)
 (cg 263))
 (zN 266 (cg 264)
 (cg 266))))
 (zN 272 (zN 269 (cg 267)
 (zN 271 (cg 269)
 (cg 271)))
 (zN 274 (zN 273 (cg 272)
 (cg 273))
 (zN 275 (cg 274)
 (cg 275)))))
 (zN 283 (zN 279 (zN 277 (zL 276 aud)
 (zN 278 (zL 277 aud)
 (cg 278)))
 (zN 281 (zN 280 (zL 279 zl8)
 (zL 280 zl8))
 (zN 282 (zL 281 atD)
 (zL 282 atD))))
 (zN 288 (zN 286 (zN 285 (cg 283)
 (cg 285))
 (zN 287 (cg 286)
 (Ny 287 128)))
 (zN 290 (zN 289 (cg 288)
 (cg 289))
 (zN 291 (cg 290)
 (cg 291))))))
 (zN 308 (zN 301 (zN 295 (zN 293 (cg 292)
 (zN 294 (cg 293)
 (cg 294)))
 (zN 298 (zN 296 (cg 295)
 (cg 296))
 (zN 299 (cg 298)
 (cg 299))))
 (zN 304 (zN 302 (cg 301)
 (zN 303 (cg 302)
 (cg 303)))
 (zN 306 (zN 305 (cg 304)
 (cg 305))
 (zN 307 (Ny 306 198)
 (cg 307)))))
 (zN 315 (zN 311 (zN 309 (CT 308 391)
 (zN 310 (cg 309)
 (cg 310)))
 (zN 313 (zN 312 (cg 311)
 (cg 312))
 (zN 314 (cg 313)
 (cg 314))))
 (zN 319 (zN 317 (zN 316 (cg 315)
 (cg 316))
 (zN 318 (cg 317)
 (cg 318)))
 (zN 321 (zN 320 (cg 319)
 (cg 320))
 (zN 322 (cg 321)
 (cg 322)))))))
 (zN 353 (zN 337 (zN 330 (zN 326 (zN 324 (cg 323)
 (zN 325 (cg 324)
 (cg 325)))
 (zN 328 (zN 327 (cg 326)
 (cg 327))
 (zN 329 (cg 328)
 (cg 329))))
 (zN 333 (zN 331 (cg 330)
 (zN 332 (cg 331)
 (cg 332)))
 (zN 335 (zN 334 (zL 333 ato)
 (zL 334 ato))
 (zN 336 (cg 335)
 (cg 336)))))
 (zN 344 (zN 340 (zN 338 (cg 337)
 (zN 339 (cg 338)
 (zL 339 atW)))
 (zN 342 (zN 341 (zL 340 atW)
 (cg 341))
 (zN 343 (cg 342)
 (cg 343))))
 (zN 349 (zN 346 (zN 345 (cg 344)
 (cg 345))
 (zN 347 (zL 346 ⟨.map 9 79,1,8,[.one (.map none)],false⟩)
 (cg 347)))
 (zN 351 (zN 350 (cg 349)
 (cg 350))
 (zN 352 (cg 351)
 (cg 352))))))
 (zN 369 (zN 360 (zN 356 (zN 354 (cg 353)
 (zN 355 (cg 354)
 (cg 355)))
 (zN 358 (zN 357 (CT 356 127)
 (cg 357))
 (zN 359 (cg 358)
 (cg 359))))
 (zN 364 (zN 362 (zN 361 (cg 360)
 (cg 361))
 (zN 363 (cg 362)
 (cg 363)))
 (zN 366 (zN 365 (cg 364)
 (Ny 365 76))
 (zN 367 (cg 366)
 (lfI 367)))))
 (zN 378 (zN 372 (zN 370 (cg 369)
 (zN 371 (cg 370)
 (cg 371)))
 (zN 374 (zN 373 (cg 372)
 (cg 373))
 (zN 376 (cg 374)
 (cg 376))))
 (zN 383 (zN 381 (zN 379 (cg 378)
 (cg 379))
 (zN 382 (cg 381)
 (CT 382 384)))
 (zN 385 (zN 384 (zL 383 atB)
 (zL 384 atB))
 (zN 386 (lfE 385)
 (lfE 386))))))))
 (zN 459 (zN 421 (zN 403 (zN 396 (zN 391 (zN 389 (cg 388)
 (zN 390 (cg 389)
 (zL 390 atO)))
 (zN 394 (zN 392 (zL 391 atO)
 (cg 392))
 (zN 395 (cg 394)
 (cg 395))))
 (zN 399 (zN 397 (cg 396)
 (zN 398 (cg 397)
 (cg 398)))
 (zN 401 (zN 400 (cg 399)
 (cg 400))
 (zN 402 (zL 401 ⟨.array 5 3,5,40,[.bG .i64 5 (List.replicate 5 0)],true⟩)
 (cg 402)))))
 (zN 411 (zN 407 (zN 404 (cg 403)
 (zN 405 (cg 404)
 (CT 405 38)))
 (zN 409 (zN 408 (cg 407)
 (cg 408))
 (zN 410 (cg 409)
 (cg 410))))
 (zN 416 (zN 413 (zN 412 (zL 411 ⟨.array 16 100,16,384,[.fq 16 [(.slice none 0 0),(.slice none 0 0),(.slice none 0 0),(.slice none 0 0),(.slice none 0 0),(.slice none 0 0),(.slice none 0 0),(.slice none 0 0),(.slice none 0 0),(.slice none 0 0),(.slice none 0 0),(.slice none 0 0),(.slice none 0 0),(.slice none 0 0),(.slice none 0 0),(.slice none 0 0)]],false⟩)
 (cg 412))
 (zN 414 (cg 413)
 (cg 414)))
 (zN 418 (zN 417 (cg 416)
 (cg 417))
 (zN 419 (cg 418)
 (cg 419))))))
 (zN 437 (zN 428 (zN 424 (zN 422 (cg 421)
 (zN 423 (cg 422)
 (CT 423 121)))
 (zN 426 (zN 425 (cg 424)
 (CT 425 119))
 (zN 427 (cg 426)
 (cg 427))))
 (zN 432 (zN 430 (zN 429 (cg 428)
 (cg 429))
 (zN 431 (zL 430 an9)
 (cg 431)))
 (zN 434 (zN 433 (cg 432)
 (cg 433))
 (zN 435 (CT 434 3)
 (cg 435)))))
 (zN 446 (zN 440 (zN 438 (cg 437)
 (zN 439 (CT 438 148)
 (cg 439)))
 (zN 443 (zN 441 (CT 440 31)
 (cg 441))
 (zN 445 (cg 443)
 (cg 445))))
 (zN 450 (zN 448 (zN 447 (CT 446 5)
 (cg 447))
 (zN 449 (cg 448)
 (cg 449)))
 (zN 452 (zN 451 (cg 450)
 (cg 451))
 (zN 455 (cg 452)
 (zL 455 ⟨.array 16 36,16,384,[.fq 16 [(.slice none 0 0),(.slice none 0 0),(.slice none 0 0),(.slice none 0 0),(.slice none 0 0),(.slice none 0 0),(.slice none 0 0),(.slice none 0 0),(.slice none 0 0),(.slice none 0 0),(.slice none 0 0),(.slice none 0 0),(.slice none 0 0),(.slice none 0 0),(.slice none 0 0),(.slice none 0 0)]],false⟩)))))))
 (zN 496 (zN 473 (zN 466 (zN 462 (zN 460 (CT 459 125)
 (zN 461 (cg 460)
 (cg 461)))
 (zN 464 (zN 463 (zL 462 atI)
 (zL 463 atI))
 (zN 465 (cg 464)
 (cg 465))))
 (zN 469 (zN 467 (cg 466)
 (zN 468 (cg 467)
 (cg 468)))
 (zN 471 (zN 470 (cg 469)
 (cg 470))
 (zN 472 (cg 471)
 (cg 472)))))
 (zN 482 (zN 476 (zN 474 (cg 473)
 (zN 475 (cg 474)
 (CT 475 430)))
 (zN 478 (zN 477 (cg 476)
 (zL 477 ⟨.array 24 5,24,24,[.bG .u8 24 (List.replicate 24 0)],true⟩))
 (zN 480 (cg 478)
 (cg 480))))
 (zN 492 (zN 485 (zN 484 (cg 482)
 (cg 484))
 (zN 491 (cg 485)
 (cg 491)))
 (zN 494 (zN 493 (cg 492)
 (cg 493))
 (zN 495 (cg 494)
 (cg 495))))))
 (zN 519 (zN 506 (zN 501 (zN 498 (cg 496)
 (zN 500 (lfI 498)
 (cg 500)))
 (zN 503 (zN 502 (CT 501 530)
 (cg 502))
 (zN 504 (cg 503)
 (CT 504 123))))
 (zN 511 (zN 508 (zN 507 (CT 506 21)
 (cg 507))
 (zN 510 (cg 508)
 (cg 510)))
 (zN 513 (zN 512 (zL 511 ⟨.array 64 119,64,256,[.bG .u32 64 (List.replicate 64 0)],true⟩)
 (cg 512))
 (zN 518 (cg 513)
 (zL 518 ⟨.array 20 31,20,160,[.bG .u64 20 (List.replicate 20 0)],true⟩)))))
 (zN 553 (zN 544 (zN 527 (zL 519 ⟨.array 65 5,65,65,[.bG .u8 65 (List.replicate 65 0)],true⟩)
 (zN 530 (cg 527)
 (zL 530 (zC [(0,9),(1,9),(2,386)] 3 48 [zT,zT,zF] false))))
 (zN 547 (zN 546 (CT 544 546)
 (zL 546 (zC [(0,9)] 1 16 [zT] true)))
 (zN 552 (zL 547 ⟨.array 64 5,64,64,[.bG .u8 64 (List.replicate 64 0)],true⟩)
 (zL 552 (zC [(0,17),(1,17),(2,17),(3,9)] 4 40 [zP,zP,zP,zT] false)))))
 (zN 558 (zN 556 (zN 555 (zL 553 ⟨.array 0 16,0,0,[.fq 0 []],false⟩)
 (zL 555 ⟨.struct [(0,553)],0,0,[.fq 0 []],false⟩))
 (zN 557 (zL 556 an7)
 (zL 557 an7)))
 (zN 560 (zN 559 (cg 558)
 (zL 559 arK))
 (zN 562 (zL 560 arK)
 (zL 562 (zC [(0,12),(1,12),(2,119),(3,556),(4,5),(5,5),(6,557),(7,558),(8,446),(9,559),(10,560)] 11 48 [zU,zU,z4,z8,z8,z8,z8,.one .nilFunc,zP,z3,z3] false)))))))))))
theorem eR:fW Tryz.prog tt.get:=aot (by kernel_rfl) (by kernel_rfl) (by kernel_rfl)
theorem wide:Tryz.prog.follows .mixedOrders=true:=by kernel_rfl
def fY:List Nat->OT->OT
 |[],r=>r
 |i::l,r=>.op i .all (fY l r)
def oR:Nat->Nat->OT->OT
 |_,0,r=>r
 |a,n+1,r=>.op a .all (oR (Nat.succ a) n r)
def oS:Nat->List Nat->OT
 |_,[]=>.nil
 |a,[n]=>oR a n .nil
 |a,n::b::l=>oR a n (.op (Nat.add a n) .none (oS (Nat.succ (Nat.add a n)) (b::l)))
def oX:List Nat->OT
 |[]=>.nil
 |c::l=>.op (Nat.div c 2) (bif Nat.beq (Nat.mod c 2) 0 then .all else .none) (oX l)
def mG:Nat->Nat->Nat->Nat->List Nat->List Nat
 |0,_,_,_,_=>[]
 |k+1,j,p,n,l=>(λd=>(λm=>m::mG k (Nat.succ j) m (Nat.div n 10) (bif Nat.beq d 3 then l.tail else l)) (bif Nat.beq d 0 then 0 else bif Nat.beq d 1 then Nat.lor p (Nat.pow 2 (Nat.pred j))else bif Nat.beq d 2 then Nat.pred (Nat.pow 2 j)else bif Nat.beq d 4 then p else l.headD 0)) (Nat.mod n 10)
abbrev cQ(a:List Nat)(b:List (Nat×Ord))(d:List Nat):fD:=⟨Tryz.prog,tt.get,dK a,iF b,dK d⟩
def du:fD:=⟨Tryz.prog,tt.get,dK [],iF [],dK []⟩
theorem bW{c:fD}{f:FuncId}{fn:Func}{args:List CV}{m:aD}{R:List CV->aD->Prop}(hf:Tryz.prog.funcs[f]?=some fn) (hlen:Nat.ble args.length fn.ntmps=true) (h:xwp c (yX fn) (amr tt.get fn.results.toList R) ⟨LM args,[],m,[]⟩)
  (e1:c.P=Tryz.prog:=by rfl) (e2:c.T=tt.get:=by rfl) (hb:fn.body=some (yX fn):=by kernel_rfl) (hn:(fn.name== "runtime.NumGoroutine")=false:=by kernel_rfl) (ho:iE c fn.ntmps (yX fn)=true:=by kernel_rfl):bi Tryz.prog f args m R:=by
 obtain⟨P,T,a,b,d⟩:=c;dsimp only at e1 e2;subst e1 e2;exact bi.agD hf hb hn eR wide ho hlen h
def c5:fD:=cQ [] [(23,⟨oS 0 [22,13,26,3],mG 67 0 0 1112111113431134411111241111112113431134411121134441111124112011200 [425983,234881023,33554431,6476005375,3940649673949183,562949953421311,108649341010313215]⟩)] []
def c16:fD:=cQ [9] [] []
def c20:fD:=cQ [] [(3,⟨oS 0 [9,1],mG 11 0 0 12111101110 []⟩)] []
def c22:fD:=cQ [] [(1,⟨oX [0,3,4,6,8,10,12,16,18,20,22,14,25,26,28,30],mG 16 0 0 1112111311111110 [7]⟩)] []
def c25:fD:=cQ [46] [(9,⟨oS 0 [6,2],mG 9 0 0 111200000 []⟩)] []
def c27:fD:=cQ [9] [] []
def c28:fD:=cQ [] [(3,⟨oS 0 [9,1],mG 11 0 0 12111101110 []⟩)] []
def c31:fD:=cQ [11] [] []
def c36:fD:=cQ [] [(9,⟨oS 0 [5,2],mG 8 0 0 11214110 []⟩)] [9]
def c37:fD:=cQ [] [(1,⟨oS 0 [10,1],mG 12 0 0 121011101110 []⟩),
 (3,⟨oS 0 [6,4,1],mG 13 0 0 2304112101110 [1535]⟩),
 (4,⟨oS 0 [7,5,0,1],mG 16 0 0 2330441121011100 [5119,14335]⟩),
 (7,⟨oS 0 [7,5],mG 13 0 0 2341120101110 [1023]⟩),
 (11,⟨oX [0,2,4,6,8,10,12,14,16,18,24,21,22],mG 13 0 0 121110101110 []⟩),
 (14,⟨oS 0 [9,4,1],mG 16 0 0 2304112301001110 [224,12287]⟩)] []
def c38:fD:=cQ [] [(1,⟨oS 0 [10,1],mG 12 0 0 121011101110 []⟩),
 (3,⟨oS 0 [6,4,1],mG 13 0 0 2304112101110 [1535]⟩)] []
def c39:fD:=cQ [] [(8,⟨oS 0 [5,4,1],mG 12 0 0 230411211100 [767]⟩)] []
def c40:fD:=cQ [5] [(1,⟨oX [0,2,4,6,8,10,12,14,18,17,21,22,24,26,28,31,32],mG 17 0 0 23041120211101110 [24575]⟩),
 (6,⟨oX [0,2,4,6,8,10,12,14,16,20,22,19,25,26,28,30,32,34],mG 18 0 0 234112102011101110 [32767]⟩),
 (7,⟨oS 0 [20,4,1],mG 27 0 0 230411211101111000111011110 [25165823]⟩),
 (11,⟨oS 0 [7,2,0],mG 11 0 0 11231011100 [126]⟩)] []
def c41:fD:=cQ [] [(1,⟨oS 0 [8],mG 8 0 0 12111010 []⟩),
 (8,⟨oS 0 [14,5],mG 20 0 0 23411211110111101110 [131071]⟩)] []
def c43:fD:=cQ [] [(11,⟨oS 0 [10,5],mG 16 0 0 2341120111101110 [8191]⟩)] []
def c52:fD:=cQ [5] [(7,⟨oX [0,2,4,6,8,10,18,13,15,16],mG 10 0 0 112300200 [24]⟩)] []
def c55:fD:=cQ [3] [] []
def c59:fD:=cQ [38] [(14,⟨oS 0 [9,2,0],mG 13 0 0 1123101011100 [510]⟩)] []
def c60:fD:=cQ [2] [] []
def c64:fD:=cQ [] [(4,⟨oS 0 [22,2],mG 25 0 0 1111111121311214111111110 [255]⟩)] []
def c65:fD:=cQ [] [(10,⟨oS 0 [11,2,0],mG 15 0 0 112311310011100 [224,2046]⟩)] []
def c71:fD:=cQ [] [(15,⟨oS 0 [7,5,4,12,2],mG 34 0 0 1121411121311111111111111111111110 [2097151]⟩)] [15]
def c73:fD:=cQ [] [(4,⟨fY [0,1,2,3,4,5,6] (.op 7 (.xa 3) (.op 8 .all (.op 9 (.xa 3) (.op 10 .all (.op 11 .none (.nil)))))),mG 12 0 0 121313101010 [3,207]⟩),
 (6,⟨fY [0,1,2,3,4] (.op 5 (.xa 3) (.op 6 .all (.op 7 .none (.nil)))),mG 8 0 0 12131010 [3]⟩)] []
def c75:fD:=cQ [] [(12,⟨fY [0,1,2,3,4,5,6,7] (.op 8 (.xa 6) (.op 9 .none (.op 10 .all (.nil)))),mG 11 0 0 12330102010 [112,15]⟩),
 (18,⟨fY [0,1,2,4,6,7,8,9,10,11,12,13,14,3,5] (.op 15 (.xa 6) (.op 16 .none (.op 17 .all (.nil)))),mG 18 0 0 123300101010202010 [16320,63]⟩)] []
def c76:fD:=cQ [] [(4,⟨oS 0 [8,5],mG 14 0 0 23411213001110 [48,2047]⟩),
 (7,⟨oS 0 [7,2,0],mG 11 0 0 11230011100 [126]⟩)] []
def c77:fD:=cQ [] [(0,⟨oS 0 [12,0],mG 13 0 0 2111103001110 [48]⟩)] []
def c78:fD:=cQ [5] [] []
def c80:fD:=cQ [] [(1,⟨oS 0 [10,0],mG 11 0 0 21111001110 []⟩)] []
def c81:fD:=cQ [] [(6,⟨oS 0 [13],mG 13 0 0 1213112141110 [7]⟩)] []
def c83:fD:=cQ [] [(1,⟨oS 0 [6,4,1],mG 13 0 0 2304112111100 [1535]⟩)] []
def c88:fD:=cQ [3,5] [] []
def c90:fD:=cQ [] [(3,⟨oS 0 [9,8,2],mG 21 0 0 112313111112011101110 [2047,2047]⟩),
 (4,⟨oS 0 [10,9,2],mG 23 0 0 11213131111121011101110 [4095,4095]⟩)] []
def c92:fD:=cQ [] [(1,⟨oX [0,2,4,6,10,8,13,14,16,18,20,22,25,26,28],mG 15 0 0 233044112011110 [2559,7167]⟩)] []
def c94:fD:=cQ [3] [(4,⟨oX [0,2,4,6,8,10,12,14,16,18,20,24,26,28,30,32,22,35,36,38,40,42,44,47,48,50],mG 26 0 0 23304411211100111101201110 [5242879,14680063]⟩),
 (16,⟨oS 0 [7,0],mG 8 0 0 12001110 []⟩)] []
def c97:fD:=cQ [5] [] []
def c98:fD:=cQ [4,32] [] []
def awT:fD:=cQ [] [(5,⟨oX [0,2,8,10,4,6,13,15,16],mG 9 0 0 112001200 []⟩)] []
def awS:fD:=cQ [] [(6,⟨oS 0 [9],mG 9 0 0 213001200 [48]⟩)] []
def ari:fD:=cQ [17] [] []
def awR:fD:=cQ [] [(2,⟨oX [0,6,3,4,8,10,12,15],mG 8 0 0 20230110 [11]⟩),
 (3,⟨oS 0 [9,1],mG 11 0 0 23111111100 [255]⟩)] []
def awQ:fD:=cQ [4] [(7,⟨oS 0 [7],mG 7 0 0 2011200 []⟩)] []
def awP:fD:=cQ [] [(6,⟨oS 0 [1,6,13,3],mG 26 0 0 11123121311111111213111110 [15,32767,32767]⟩),
 (9,⟨oX [0,6,8,10,2,4,12,14],mG 8 0 0 12110110 []⟩)] []
def awO:fD:=cQ [1] [] []
def awN:fD:=cQ [] [(9,⟨fY [0,1,2,3,4] (.op 5 (.xa 3) (.op 6 .all (.op 7 .none (.nil)))),mG 8 0 0 12131010 [3]⟩),
 (11,⟨fY [0,1,2,3,4] (.op 5 (.xa 3) (.op 6 .all (.op 7 .none (.nil)))),mG 8 0 0 12131010 [3]⟩),
 (13,⟨fY [0,1,2] (.op 3 (.xa 3) (.op 4 .all (.op 5 (.xa 3) (.op 6 .all (.op 7 .none (.nil)))))),mG 8 0 0 12111010 []⟩)] []
def awM:fD:=cQ [3] [] []
def awL:fD:=cQ [] [(2,⟨oS 0 [12,0],mG 13 0 0 1231011110110 [1016]⟩)] []
def awK:fD:=cQ [] [(6,⟨oS 0 [11,1],mG 13 0 0 1201111011110 []⟩)] []
def awJ:fD:=cQ [] [(5,⟨oS 0 [9,2,0],mG 13 0 0 1123130011100 [96,510]⟩)] []
def aAn:fD:=cQ [] [(11,⟨oS 0 [9,2,0],mG 13 0 0 1123130011100 [96,510]⟩)] []
def awI:fD:=cQ [] [(5,⟨oS 0 [15,0],mG 16 0 0 2021101010101010 []⟩)] []
def awH:fD:=cQ [] [(5,⟨oS 0 [13,0],mG 14 0 0 20211010101010 []⟩)] []
def awG:fD:=cQ [] [(4,⟨oS 0 [8,5],mG 14 0 0 23411210101110 [2047]⟩)] []
def awF:fD:=cQ [] [(10,⟨oS 0 [4,2],mG 7 0 0 1121100 []⟩)] []
def awE:fD:=cQ [] [(5,⟨oS 0 [6,1],mG 8 0 0 12300200 [24]⟩)] []
def awD:fD:=cQ [] [(7,⟨oS 0 [10,6,0],mG 18 0 0 113441131111011100 [1022,8191]⟩)] []
def awC:fD:=cQ [] [(6,⟨oX [0,2,4,6,8,10,12,14,16,18,20,26,22,24,28,30,33,34,36,39],mG 20 0 0 11231301311011011100 [2016,16352,65534]⟩)] []
def awB:fD:=cQ [3] [] []
def arh:fD:=cQ [2,5] [] []
def awA:fD:=cQ [3,4,5] [] []
def aik:fD:=cQ [45] [(6,⟨oX [0,2,4,6,8,10,12,16,18,20,22,24,26,28,14,30,32,34],mG 18 0 0 112313111311111110 [63,63,16191]⟩)] [11]
def awz:fD:=cQ [] [(6,⟨oS 0 [17,2,0],mG 21 0 0 112113301110300111000 [252,15872,8189]⟩)] []
def awy:fD:=cQ [6] [] []
def awx:fD:=cQ [] [(5,⟨oS 0 [5,1,0],mG 8 0 0 11211010 []⟩)] []
def arf:fD:=cQ [] [(11,⟨oS 0 [8,0],mG 9 0 0 230023000 [6,96]⟩),
 (15,⟨oS 0 [8,0],mG 9 0 0 230023000 [6,96]⟩)] []
def aww:fD:=cQ [] [(1,⟨oX [0,3,4,6,8,10,14,16,12,18,20,22],mG 12 0 0 112132141110 [7]⟩)] []
def awv:fD:=cQ [] [(1,⟨oX [0,2,4,6,10,12,14,16,20,22,24,26,30,32,34,36,8,18,28,39,41,43,44],mG 23 0 0 11121010210102101021010 []⟩)] []
def awu:fD:=cQ [2] [(2,⟨oX [0,2,5,6,8,10,12,16,18,14,20,22,24,26,28,30,33,34,36,38],mG 20 0 0 11123111121311111110 [31,8191]⟩)] []
def aAk:fD:=cQ [] [(1,⟨oX [0,4,6,2,9,10,12],mG 7 0 0 1121010 []⟩)] []
def awt:fD:=cQ [] [(6,⟨oS 0 [9],mG 9 0 0 213001200 [48]⟩)] []
def aws:fD:=cQ [] [(6,⟨oS 0 [9],mG 9 0 0 213001200 [48]⟩)] []
def awr:fD:=cQ [1] [] []
def awq:fD:=cQ [17] [] []
def awp:fD:=cQ [5] [] []
def aAh:fD:=cQ [3] [] []
def aAg:fD:=cQ [] [(1,⟨oS 0 [3,0,0],mG 5 0 0 12100 []⟩)] []
def awo:fD:=cQ [] [(5,⟨oS 0 [18,3],mG 22 0 0 1112131111111111111110 [16383]⟩),
 (7,⟨oX [0,2,4,8,10,12,14,6,17,18,20,22,24,26],mG 14 0 0 23411210102100 [2047]⟩)] []
def awn:fD:=cQ [5] [] []
def awm:fD:=cQ [] [(2,⟨oS 0 [8,1],mG 10 0 0 1211101110 []⟩)] []
def awl:fD:=cQ [4] [] []
def awk:fD:=cQ [] [(1,⟨oX [0,2,4,6,10,12,14,16,8,19,21,23,24],mG 13 0 0 1112101021010 []⟩)] []
def awj:fD:=cQ [2] [] []
def awi:fD:=cQ [] [(1,⟨oX [0,2,4,6,8,12,10,15,16,18,20],mG 11 0 0 11123111200 [15]⟩)] []
def awh:fD:=cQ [] [(3,⟨oS 0 [5,6,3],mG 16 0 0 1112131111231110 [3,255]⟩)] []
def awg:fD:=cQ [] [(11,⟨oX [0,6,8,10,12,14,16,18,20,22,3,5,25,26],mG 14 0 0 12313003000110 [48,384,2040]⟩)] []
def awf:fD:=cQ [3] [(2,⟨oS 0 [6,2,0],mG 10 0 0 1123011100 [62]⟩)] []
def awe:fD:=cQ [3] [(2,⟨oS 0 [2,0,0],mG 4 0 0 2100 []⟩)] []
def awd:fD:=cQ [] [(2,⟨oS 0 [8,2,0],mG 12 0 0 112311011100 [254]⟩),
 (6,⟨oS 0 [8,2,0],mG 12 0 0 112311011100 [254]⟩)] []
def awc:fD:=cQ [] [(6,⟨oX [0,2,8,5,6,10,12,15,17,18],mG 10 0 0 1213301100 [22,62]⟩)] []
def awb:fD:=cQ [] [(1,⟨oX [0,2,4,6,10,12,14,16,8,19,20,23],mG 12 0 0 112101021010 []⟩)] []
def are:fD:=cQ [] [(8,⟨oS 0 [8],mG 8 0 0 21300110 [24]⟩)] []
def awa:fD:=cQ [2,3] [] []
def av3:fD:=cQ [] [(4,⟨oS 0 [6],mG 6 0 0 213000 [6]⟩)] []
def av2:fD:=cQ [] [(6,⟨oS 0 [9],mG 9 0 0 213001200 [48]⟩)] []
def av0:fD:=cQ [3,4] [] []
def avZ:fD:=cQ [1] [] []
def avY:fD:=cQ [2] [] []
def avX:fD:=cQ [] [(10,⟨oS 0 [6,1,0],mG 9 0 0 123101100 [62]⟩)] []
def avW:fD:=cQ [2,3] [] []
def avV:fD:=cQ [] [(1,⟨fY [1,3,0,2,4,5,6] (.op 7 .new (.op 8 .new (.op 9 .none (.nil)))),mG 10 0 0 2130000200 [119]⟩),
 (5,⟨oS 0 [6],mG 6 0 0 231010 [3]⟩),
 (6,⟨oX [0,2,4,8,14,22,24,26,28,30,32,34,36,38,40,44,46,48,52,54,56,6,10,12,16,18,20,42,50,58,60],mG 31 0 0 1211021102331010310023301301010 [28,188,508,14336,491520,1046528]⟩),
 (7,⟨oX [0,4,10,16,18,20,22,24,26,28,30,32,34,36,38,40,42,44,2,6,8,12,14,46,48],mG 25 0 0 1233101033100310023012010 [47,1792,28672,65280,1966080,4194048]⟩)] []
def avU:fD:=cQ [] [(6,⟨oS 0 [10],mG 10 0 0 2131001200 [112]⟩),
 (11,⟨oS 0 [10],mG 10 0 0 2131001200 [112]⟩)] []
def avT:fD:=cQ [] [(3,⟨oS 0 [7],mG 7 0 0 1213000 [6]⟩)] []
def avS:fD:=cQ [] [(6,⟨oS 0 [24,0],mG 25 0 0 1231110311110311110111100 [2046,131070,4194302]⟩),
 (11,⟨oS 0 [10],mG 10 0 0 2311101110 [15]⟩),
 (12,⟨oX [0,2,4,6,8,10,14,20,22,28,30,32,34,38,42,48,50,12,16,18,24,26,36,40,44,46,52,54,56,59],mG 30 0 0 123310130303111033101301011100 [224,4064,8190,262142,524768,3670496,66585056,134217726]⟩)] []
def avR:fD:=cQ [] [(1,⟨oX [0,2,4,6,10,12,14,16,8,19,21,23,24,26],mG 14 0 0 11112101021010 []⟩)] []
variable{args:List CV}
theorem A4(c:fD){f:FuncId}{fn:Func}{m:aD}{R:List CV->aD->Prop}(hf:Tryz.prog.funcs[f]?=some fn) (h:fFl (u6 0 args) λfl=>Tl c (yX fn) (Mm tt.get fn.results.toList R) fl [] m []) (hl:Nat.ble args.length fn.ntmps=true:=by rfl) (e1:c.P=Tryz.prog:=by rfl) (e2:c.T=tt.get:=by rfl) (hb:fn.body=some (yX fn):=by kernel_rfl) (hn:(fn.name== "runtime.NumGoroutine")=false:=by kernel_rfl) (ho:iE c fn.ntmps (yX fn)=true:=by kernel_rfl):bi Tryz.prog f args m R:=bW hf hl (ce h) e1 e2 hb hn ho
theorem ub{f:FuncId}{fn:Func}{m:aD}{R:List CV->aD->Prop}(hf:Tryz.prog.funcs[f]?=some fn) (h:fFl (u6 0 args) λfl=>Tl du (yX fn) (Mm tt.get fn.results.toList R) fl [] m []) (hl:Nat.ble args.length fn.ntmps=true:=by rfl) (hb:fn.body=some (yX fn):=by kernel_rfl) (hn:(fn.name== "runtime.NumGoroutine")=false:=by kernel_rfl) (ho:iE du fn.ntmps (yX fn)=true:=by kernel_rfl):bi Tryz.prog f args m R:=A4 du hf h hl rfl rfl hb hn ho
end Go.E.Y
namespace Go.E
abbrev u64(n:Int):CV:=.v (.int .u64 n)
abbrev i64(n:Int):CV:=.v (.int .i64 n)
abbrev bR(b:Bool):CV:=.v (.bool b)
theorem fU{P:Program}{f:FuncId}{args:List CV}{m:aD}{r:List CV}{x:List Nat}{K:List CV->aD->Prop}(h:eN P f args m r)(k:K r m):nR P f args m λr' m'=>y3 x m m'/\K r' m':=
 bt h ⟨λ_ _=>rfl,k⟩
theorem wu{n:Int}(h0:0<=n:=by omega)(h1:n<18446744073709551616:=by omega):IntKind.u64.wrap n=n:=by rw[IntKind.wrap_u64,Int.emod_eq_of_lt h0 h1]
theorem wi{n:Int}(h0: -9223372036854775808<=n:=by omega)(h1:n<9223372036854775808:=by omega):IntKind.i64.wrap n=n:=by rw[IntKind.wrap_i64];omega
theorem qJ{i:Nat}(h:i<1000000000000):IntKind.i64.wrap ((i:Int)+1)=((i+1:Nat):Int):=by rw[wi (by omega) (by omega)];omega
variable{p q:Prop}
theorem xS(h:q)(hp:p:=by first|omega|(simp only[bK];omega)):p/\q:=⟨hp,h⟩
theorem xF(h:q)(hp:p:=by first|with_reducible rfl|exact be (Value.int _) (qJ (by omega))|exact be (Value.int _) (wi (by omega) (by omega))|exact wi (by omega) (by omega)|rfl):p/\q:=⟨hp,h⟩
theorem xT(h:p:=by first|exact trivial|exact λ_ _ h=>h):p:=h
theorem xN{A B:Prop}(h:B)(hn:¬p:=by first|decide|simp):(p->A)/\(q->B):=⟨λhp=>absurd hp hn,λ_=>h⟩
theorem xY{A B:Prop}(h:A)(hn:¬q:=by first|decide|simp):(p->A)/\(q->B):=⟨λ_=>h,λhq=>absurd hq hn⟩
theorem xL{α:Type}{f g:Option α}{v:α}{q K:α->Prop}(h:g=some v)(k:K v)(e:f=g:=by first|(simp only[bK,aA];done)|(simp only[bK,aA];rfl))(hq:q v:=by rfl):∃v,f=some v/\q v/\K v:=⟨v,e.trans h,hq,k⟩
theorem Cr(h:p:=by(repeat refine xF ?_);exact xT):p:=h
theorem Ra(h:p:=by(repeat (refine xF ?_;conv=>whnf));exact xT):p:=h
theorem rR.{u,v}{α:Sort u}{β:Sort v}{a:α}{b:β}:a=a/\b=b:=⟨rfl,rfl⟩
def rF:List (Nat×Nat)->Nat->Nat
 |[],_=>0
 |x::l,n=>bif Nat.beq n x.1 then x.2 else rF l n
theorem bI(a:p)(b:q):p/\q:=⟨a,b⟩
theorem cI{k:IntKind}{a b:Int}(h:a=b):Value.int k a=Value.int k b:=be (Value.int k) h
end Go.E
namespace Go.E.Y
open Go.Proofs
variable{p:aD}{b n:Nat}{x:Value}
theorem mf.store{e:TypeId}{o c k:Nat}{l:List Value}(h:mf p e 1 (.slice (some ⟨b,o,none⟩) n c) l)(hk:k<l.length)(hx:x.oneCell'=true):
  ∃arr,p b=some (.cells arr e (0,0))/\o+k<arr.size/\mf (p.set b (.cells (arr.setIfInBounds (o+k) x) e (0,0))) e 1 (.slice (some ⟨b,o,none⟩) n c) (l.set k x):=by
 rcases h with⟨h,_⟩|⟨b',o',c',n',arr,h,h1,h2,h3,h4,h5,h6⟩
 ·cases h
 ·cases h
  rw[eG]at h2 h4;refine⟨arr,h1,by omega,.inr ⟨b,o,c,n,_,rfl,aD.bg ..,by simp;omega,h3,by simp;omega,λj u hu=>?_,λu hu=>?_⟩⟩
  ·rw[List.getElem?_set]at hu
   rw[Array.getElem?_setIfInBounds];by_cases e:k=j
   ·subst e
    rw[aC rfl,aC hk]at hu;cases hu;rw[aC rfl,aC (by omega)]
   ·rw[if_neg e]at hu
    rw[if_neg (by omega)];exact h5 j u hu
  ·rcases fa hu with hu|rfl
   ·exact h6 u hu
   ·exact hx
def Bs(m:aD)(v:Value)(l:List Int):Prop:=mf m 5 1 v (bc l)
variable{l:List Int}{v:Value}
theorem Bs.lb(h:Bs p v l):Lb p v l:=mf.ky h
theorem Bs.len(h:Bs p v l):fg v=l.length:=h.lb.len
variable{m m':aD}
theorem Bs.sub(h:Bs m v l)(hs:cL m m'):Bs m' v l:=mf.sub h hs
theorem Bs.cR(h:Bs m v l)(hs:∀b,lp v=some b->m' b=m b):Bs m' v l:=mf.cR h hs
theorem Bs.nil(m:aD):Bs m (.slice none 0 0) []:=.inl ⟨rfl,rfl⟩
theorem Bs.Je(hb:m b=some (.cells (bc l).toArray 5))(hn:l.length=n):Bs m (.slice (some ⟨b,0,none⟩) n n) l:=by
 subst hn;refine .inr ⟨b,0,l.length,l.length,_,rfl,hb,by simp[bc],aW _,by simp[bc],?_,VW⟩
 grind
theorem hU8:tt.get 5=some ⟨.int .u8,1,1,[.one (.int .u8 0)],false⟩:=by rfl
theorem hBs:tt.get 100=some ⟨.slice 5,1,24,[.one (.slice none 0 0)],false⟩:=by rfl
structure afk(m:aD)(v:Value)(l:List Int)(v':Value)(m':aD):Prop where
 ux:Bs m' v' l
 cR:∀b o,m b=some o->lp v≠some b->m' b=some o
 new:∀b,lp v'=some b->lp v=some b\/m b=none
variable{news:List Int}
theorem OI(hv:Bs m v l)(hg:La m x news)(hb:l.length+news.length<=1000000000):
  bF tP (.builtin .append [100,100]) [.v v,.v x] m λr m'=>∃v',r=[.v v']/\afk m v (l++news) v' m':=by
 have e1:=hv.len;have e2:=hg.len;refine(E2 eR hBs rfl hU8 hBs rfl hv hg.vh (by rw[e1,e2];simp only;omega) (by rw[e1,e2];omega)).mono λr m' ⟨v',h1,h2⟩=>⟨v',h1,?_⟩;rw[<-Mh]at h2;exact⟨h2.ux,h2.cR,h2.new⟩
theorem nQ{ls:List aD}{i:Nat}(hs:aq m ls)(hi:ls[i]?=some p) (hv:Bs p v l) (hg:La m x news) (hb:l.length+news.length<=1000000000):
  bF tP (.builtin .append [100,100]) [.v v,.v x] m λr m'=>∃v' p',r=[.v v']/\aq m' (ls.set i p')/\afk p v (l++news) v' p':=by
 have e1:=hv.len;have e2:=hg.len;refine(kC eR hBs rfl hU8 hBs rfl hs hi hv hg.vh (by rw[e1,e2];simp only;omega) (by rw[e1,e2];omega)).mono λr m' ⟨v',p',h1,h2,h3⟩=>⟨v',p',h1,h2,?_⟩;rw[<-Mh]at h3;exact⟨h3.ux,h3.cR,h3.new⟩
theorem Bt{x:Int}:bF tP (.buildSlice 100 1 [0]) [.v (.int .u8 x)] m λr m'=>∃b,m b=none/\r=[.v (.slice (some ⟨b,0,none⟩) 1 1)]/\m'=m.set b (.cells (bc [x]).toArray 5):=
 dm (n:=1) eR hBs rfl hU8 rfl rfl (by simp[CV.cs]) (by simp) (by simp)
theorem ami{x y z:Int}:bF tP (.buildSlice 100 3 [0,1,2]) [.v (.int .u8 x),.v (.int .u8 y),.v (.int .u8 z)] m λr m'=>∃b,m b=none/\r=[.v (.slice (some ⟨b,0,none⟩) 3 3)]/\m'=m.set b (.cells (bc [x,y,z]).toArray 5):=
 dm (n:=3) eR hBs rfl hU8 rfl rfl (by simp[CV.cs]) (by simp) (by simp)
theorem Lb.Je(hb:m b=some (.cells (bc l).toArray 5))(hn:l.length=n):Lb m (.slice (some ⟨b,0,none⟩) n n) l:=(Bs.Je hb hn).lb
theorem Bs.one{ls:List aD}{b':Nat}{y:Int}(hs:aq m (p::ls))(hb:m b'=none)(hx:Bs p x l)(hl:l.length<=100000000):
  bF tP (.builtin .append [100,100]) [.v x,.v (.slice (some ⟨b',0,none⟩) 1 1)] (m.set b' (.cells (bc [y]).toArray 5)) λr m'=>∃v' p',r=[.v v']/\aq m' (p'::ls)/\Bs p' v' (l++[y]):=by
 have bM:=hs.new hb (.cells (bc [y]).toArray 5);refine(nQ (i:=1) bM rfl hx (Lb.Je (l:=[y]) (aD.bg ..) rfl).la (by simp;omega)).mono λr m' ⟨v',p',h1,h2,h3⟩=>⟨v',p',h1,h2.dV 0,h3.ux⟩
theorem GW{b':Nat}{o:Obj}{v':Value}(hb:m b'=none)(h:afk (m.set b' o) v l v' m'):afk m v l v' m':=
 ⟨h.ux,λb u hm hn=>h.cR b u (aD.bT _ hb _ _ hm) hn,λb hv=>(h.new b hv).imp id λhx=>by
  by_cases e:b=b'
  ·subst e;exact hb
  ·rw[aD.eH _ _ e]at hx;exact hx⟩
end Go.E.Y
namespace Go.E
section
variable {P:Program}{T:lz}
theorem sR(hT:fW P T){t e:TypeId}{ti:TI}(ht:T t=some ti)(hk:ti.k= .slice e){m:aD}{a:Option Addr}{n c:Nat}:
  bF P (.builtin .cap [t]) [.v (.slice a n c)] m λr m'=>r=[.v (.int .i64 c)]/\m=m':=by
 intro _ ty W hW;refine⟨[.v (.int .i64 c)],m,W,?_,?_,⟨rfl,rfl⟩,cr.refl hW⟩
 ·simp[dF.run,dF.dE,dF.Fz,cond_false,CV.val,gm,Builtin.cap_,run_underlying ((hT t ti ht).slice hk)];rfl
 ·intro x hx;simp at hx;subst hx;rfl
theorem df{f:FuncId}{n:Nat}{cs:List Value}{m:aD}(ox:∀x∈cs,x.oneCell'=true):
  bF P (.makeFunc (.func f) n) (cs.map CV.v) m λr m'=>r=[.v (.func (.func f) (cs.take n).toArray (cs.drop n).toArray)]/\m=m':=by
 intro _ ty W hW;refine⟨[.v (.func (.func f) (cs.take n).toArray (cs.drop n).toArray)],m,W,?_,?_,⟨rfl,rfl⟩,cr.refl hW⟩
 ·simp[dF.run,dF.dE,dF.Fz,cond_false,CV.val,gm,Instr.makeFunc,Function.comp_def]
 ·intro x hx;simp at hx;subst hx;rfl
theorem adh{d:TypeDesc}{k:IntKind}(h:TK.of d= .int k):d= .int k:=by
 cases d<;>simp[TK.of]at h;subst h;rfl
theorem aaK(hT:fW P T){t e tn:TypeId}{ti ei ni:TI}{kn:IntKind}(ht:T t=some ti)(hk:ti.k= .slice e)(he:T e=some ei)(hn:T tn=some ni)(U5:ni.k= .int kn)(JL:0<ei.size){m:aD}{v:Value}{a:Option Addr}{n c k:Nat}{l:List Value}
  (hv:v= .slice a n c) (hl:gq m ei.size v l) (h0:0<k) (hg:c<n+k) (hb:(2*(n+k)+768)*ei.bytes<=281474976710656) (kW:n+k<=9223372036854775807):
  bF P (.builtin .append [t,tn]) [.v v,.v (.int .i64 k)] m λr m'=>∃b C,m b=none/\n+k<=C/\r=[.v (.slice (some ⟨b,0,none⟩) (n+k) C)]/\
   m'=m.set b (.cells (l.toArray++Builtin.zeroCells (LB.cz ei.zero).toArray k++Builtin.zeroCells (LB.cz ei.zero).toArray (C-(n+k))) e):=by
 intro _ ty W hW;subst hv;obtain⟨j,hj,JP,hjb,z,hjz,hzc⟩:=(hT e ei he).WX;have W9:=(hT t ti ht).slice hk;obtain⟨d,h1,h2⟩:=(hT tn ni hn).desc;rw[U5]at h2;have hd:=adh h2;subst hd
 have Bg:(Builtin.firstCells j.size n (.slice a n c)).run P W.drew= .ok l.toArray W.drew:=by
  rw[JP];rcases hl with⟨c',e',rfl⟩|⟨b,o,c',n',arr,t',fr,e',g1,g2,_,g3,g4⟩
  ·cases e';simp[Builtin.firstCells]
  ·cases e'
   refine run_firstCells_some W.drew ei.size n _ n c l g2 (λi u hu=>?_);rw[ii];have hW1:W.drew.heap[b]?=some (.cells arr t' fr):=hW _ _ g1;rw[iO hW1]
   grind
 have hbk:k*ei.bytes<=281474976710656:=bq (cS _ (by omega)) hb;have lm:=Lib.run_append_grow_zeros W t tn ty e j z .i64 kn W9 h1 hj hjz a n c l Bg k h0 (by omega) hg (by omega) (by rw[hjb];exact hbk) (by rw[hjb];exact bq (cS _ (Hh hg)) hb);have yA:=grownCap_ge W (n+k) c e;generalize grownCap W (n+k) c e=C at lm yA;rw[hzc]at lm;exact⟨[.v (.slice (some ⟨W.heap.size,0,none⟩) (n+k) C)],_,_,lm,(by intro y hy;simp at hy;subst hy;rfl),⟨W.heap.size,C,hW.none (aW _),yA,rfl,rfl⟩,(cr.refl hW).drew.alloc _⟩
end
end Go.E
namespace Go.E.Y
open Go.Proofs
theorem hI:tt.get 3=some ⟨.int .i64,1,8,[.one (.int .i64 0)],false⟩:=by rfl
variable{m:aD}
theorem ZP{n:Nat}(hn:n<=100000000):
  bi tP 327 [.v (.slice none 0 0),.v (.int .i64 n)] m λr m'=>∃v p,r=[.v v]/\aq m' [p,m]/\Bs p v []:=by
 refine ub Tryz.func327 ?_;refine⟨λh=>absurd h (by(simp;try omega)),λ_=>?_⟩;refine .mk _ (sR eR hBs rfl) ?_;rintro _ _⟨rfl,rfl⟩;conv=>whnf
 have e:IntKind.i64.wrap ((n:Int)-IntKind.i64.wrap (((0:Nat):Int)-((0:Nat):Int)))=(n:Int):=by rw[wi (n:=((0:Nat):Int)-((0:Nat):Int)) (by omega) (by omega),wi];omega
 rw[e];apply bI<;>intro h
 ·have h':=ah h
  refine .mk _ (sR eR hBs rfl) ?_;rintro _ _⟨rfl,rfl⟩
  repeat refine xS ?_
  refine .mk _ (aaK (n:=0) (c:=0) (a:=none) (l:=[]) eR hBs rfl hU8 hI rfl (by decide) rfl (.inl ⟨0,rfl,rfl⟩) (by omega) (by omega) (by simp only;omega) (by omega)) ?_;rintro _ _⟨b,C,hb,hC,rfl,rfl⟩
  repeat refine xS ?_
  intro o' h1 h2;obtain rfl:o'=0:=by have:=h1 (by omega);simpa using this
  refine⟨_,blk1 b _,rfl,(aq.one m).new hb _,.inr ⟨b,0,C,0,_,rfl,aG ..,rfl,lF _,?_,by intro j u hu;simp[bc]at hu,by simp[bc]⟩⟩;simp only[oQ,kr,dM,cW,LB.cz,eB.cells,ax,bd];omega
 ·have h':=aj h
  exact⟨_,iI,rfl,(aq.one m).cA,Bs.nil _⟩
structure jL(m:aD)(v:Value)(ps:List (Value×List Int)):Prop where
 ky:gq m 1 v (ps.map (·.1))
 la:∀p∈ps,La m p.1 p.2
variable{v:Value}{ps:List (Value×List Int)}
theorem jL.shape(h:jL m v ps):∃a c,v= .slice a ps.length c:=by
 rcases h.ky with⟨c,rfl,e⟩|⟨b,o,c,n,arr,t,fr,rfl,_,e,_⟩
 ·simp_all
 grind
variable{i:Nat}
theorem jL.real(h:jL m v ps)(hi:i<ps.length):∃b o c,v= .slice (some ⟨b,o,none⟩) ps.length c/\∀(i:Nat) (hi:i<ps.length),gR m b (o+i)=some ps[i].1:=by
 rcases h.ky with⟨c,rfl,e⟩|⟨b,o,c,n,arr,t,fr,rfl,g1,e,_,g2,_⟩
 ·simp_all
 ·have:ps.length=n:=by simpa using e
  exact⟨b,o,c,by rw[this],λj hj=>aF g1 (g2 j _ (by simp[hj]))⟩
def oT(ps:List (Value×List Int)):List Int:=(ps.map (·.2)).flatten
theorem adF(h:i<ps.length):oT (ps.take i)++ps[i].2=oT (ps.take (i+1)):=by
 rw[au h,oT,oT,bD,gk];simp
theorem XD(i:Nat):(oT (ps.take i)).length<=(oT ps).length:=by
 have e:oT ps=oT (ps.take i)++oT (ps.drop i):=by
  rw[oT,oT,oT,<-gk,<-bD,dL]
 grind
theorem ado(h:i<1000000000000):IntKind.i64.wrap ((i:Int)+1)=((i+1:Nat):Int):=by rw[wi];omega
theorem EX(h:jL m v ps)(hb:(oT ps).length<=10000000)(hn:ps.length<=10000000):
  bi tP 248 [.v v] m λr m'=>∃v' p,r=[.v v']/\aq m' [p,m]/\Bs p v' (oT ps):=by
 obtain⟨a,c,rfl⟩:=h.shape;refine ub Tryz.func248 ?_;refine .mk (ι:=Nat) (λi=>ps.length-i) (λi mm=>i<=ps.length/\mm=m) (λi=>[(0,.c (.v (.slice a ps.length c))),(3,.c (i64 (oT (ps.take i)).length)),(9,.c (.v (.slice a ps.length c))),(10,.c (i64 ps.length)),(11,.c (i64 i))]) (λ_=>[]) 0 ⟨by omega,rfl⟩ ?_ ?_
 ·exact Cr
 rintro i mm⟨hi,he⟩;subst mm;apply bI<;>intro h1
 ·have jc:=ah h1
  have bH:i<ps.length:=by omega
  obtain⟨b,o,c',e,nT⟩:=h.real bH;cases e;have AG:=h.la ps[i] (by simp);obtain⟨ai,ci,hvi⟩:=AG.shape;have hc:=nT i bH;rw[hvi]at hc;have hle:=XD (ps:=ps) (i+1);rw[<-adF bH,ax]at hle
  repeat refine xS ?_
  refine⟨_,hc,rfl,?_⟩;conv=>whnf
  have e3:IntKind.i64.wrap (((oT (ps.take i)).length:Int)+(ps[i].2.length:Int))=((oT (ps.take (i+1))).length:Int):=by
   rw[<-adF bH,ax,wi];omega
  rw[e3];refine⟨λh=>absurd h (by(simp;try omega)),λ_=>?_⟩;refine⟨i+1,⟨by omega,rfl⟩,by omega,?_⟩;exact Cr
 ·have jc:=aj h1
  obtain rfl:i=ps.length:=by omega
  rw[aJ];refine aP (ZP (n:=(oT ps).length) (by omega)) ?_;rintro _ m2⟨v2,p2,rfl,bZ,lD⟩;refine .mk (ι:=Nat×Value) (λi=>ps.length-i.1) (λ⟨i,x⟩ mm=>i<=ps.length/\∃p,aq mm [p,m]/\Bs p x (oT (ps.take i))) (λ⟨i,x⟩=>[(6,.c (.v x)),(25,.c (.v (.slice a ps.length c))),(26,.c (i64 ps.length)),(27,.c (i64 i))]) (λ_=>[]) (0,v2) ⟨by omega,p2,bZ,by simpa [oT]using lD⟩ ?_ ?_
  ·exact Cr
  rintro⟨i,x⟩ mm ⟨hi,p,hs,hx⟩;apply bI<;>intro h2
  ·have iD:=ah h2
   have bH:i<ps.length:=by omega
   obtain⟨b,o,c',e,nT⟩:=h.real bH;cases e;have AG:=h.la ps[i] (by simp);have hle:=XD (ps:=ps) (i+1);rw[<-adF bH,ax]at hle
   have hc:gR mm b (o+i)=some ps[i].1:=by
    have:=nT i bH;unfold gR at this⊢
    split at this
    ·rename_i arr t fr hm
     rw[hs.at (i:=1) rfl _ _ hm];exact this
    ·cases this
   repeat refine xS ?_
   refine⟨_,hc,AG.one,?_⟩;refine .mk _ (nQ (i:=0) hs rfl hx (AG.sub (hs.at (i:=1) rfl)) (by omega)) ?_;rintro _ m3⟨v3,p3,rfl,dy,tX⟩;refine⟨(i+1,v3),⟨by omega,p3,dy,?_⟩,by simp only;omega,?_⟩
   ·have:=tX.ux
    rw[adF bH]at this;exact this
   ·exact Cr
  ·have iD:=aj h2
   obtain rfl:i=ps.length:=by omega
   rw[aJ]at hx;exact⟨x,p,rfl,hs,hx⟩
theorem ZN:tt.get 198=some ⟨.slice 100,1,24,[.one (.slice none 0 0)],false⟩:=by rfl
variable{x:Value}
theorem CC:bF tP (.buildSlice 198 1 [0]) [.v x] m λr m'=>∃b,m b=none/\r=[.v (.slice (some ⟨b,0,none⟩) 1 1)]/\m'=m.set b (.cells #[x] 100):=
 dm (n:=1) eR ZN rfl hBs rfl rfl (by simp[CV.cs]) (by simp) (by simp)
variable{y:Value}
theorem aiq:bF tP (.buildSlice 198 2 [0,1]) [.v x,.v y] m λr m'=>∃b,m b=none/\r=[.v (.slice (some ⟨b,0,none⟩) 2 2)]/\m'=m.set b (.cells #[x,y] 100):=
 dm (n:=2) eR ZN rfl hBs rfl rfl (by simp[CV.cs]) (by simp) (by simp)
variable{b:Nat}{t:TypeId}{fr:Nat×Nat}
theorem jL.Je{n:Nat}(h:m b=some (.cells (ps.map (·.1)).toArray t fr))(hn:ps.length=n)(hl:∀p∈ps,La m p.1 p.2):jL m (.slice (some ⟨b,0,none⟩) n n) ps:=by
 refine⟨.inr ⟨b,0,n,n,_,_,_,rfl,h,by simp[hn],aW _,λj u hu=>by simpa using hu,λu hu=>?_⟩,λp hp=>hl p hp⟩;obtain⟨p,hp,rfl⟩:=aV.1 hu;exact(hl p hp).one
variable{l:List Int}
theorem jL.one(h:m b=some (.cells #[v] t fr))(hl:La m v l):jL m (.slice (some ⟨b,0,none⟩) 1 1) [(v,l)]:=
 jL.Je (ps:=[(v,l)]) h rfl (by simpa using hl)
theorem jL.Yf{w:Value}{k:List Int}(h:m b=some (.cells #[v,w] t fr))(hl:La m v l)(hk:La m w k):jL m (.slice (some ⟨b,0,none⟩) 2 2) [(v,l),(w,k)]:=
 jL.Je (ps:=[(v,l),(w,k)]) h rfl (by simpa using⟨hl,hk⟩)
theorem jL.aos{w u:Value}{k j:List Int}(h:m b=some (.cells #[v,w,u] t fr))(hl:La m v l)(hk:La m w k)(hj:La m u j):jL m (.slice (some ⟨b,0,none⟩) 3 3) [(v,l),(w,k),(u,j)]:=
 jL.Je (ps:=[(v,l),(w,k),(u,j)]) h rfl (by simpa using⟨hl,hk,hj⟩)
theorem aip{z:Value}:bF tP (.buildSlice 198 3 [0,1,2]) [.v x,.v y,.v z] m λr m'=>∃b,m b=none/\r=[.v (.slice (some ⟨b,0,none⟩) 3 3)]/\m'=m.set b (.cells #[x,y,z] 100):=
 dm (n:=3) eR ZN rfl hBs rfl rfl (by simp[CV.cs]) (by simp) (by simp)
variable{ls:List aD}{p:aD}
theorem ai4{b':Nat}{vs:List Value}(hs:aq m (p::ls))(hb:m b'=none)(hx:x.oneCell'=true)(hy:mf p 100 1 y vs)(hl:vs.length<=100000000):
  bF tP (.builtin .append [198,198]) [.v y,.v (.slice (some ⟨b',0,none⟩) 1 1)] (m.set b' (.cells #[x] 100)) λr m'=>∃y' p',r=[.v y']/\aq m' (p'::ls)/\mf p' 100 1 y' (vs++[x]):=by
 have bM:=hs.new hb (.cells #[x] 100);have e1:=hy.ky.len;have e2:fg (.slice (some ⟨b',0,none⟩) 1 1)=1:=rfl
 have g:s5 (m.set b' (.cells #[x] 100)) 1 (.slice 100) (.slice (some ⟨b',0,none⟩) 1 1) [x]:=
  .inl ⟨_,rfl,.inl (.inr ⟨b',0,1,1,_,_,_,rfl,aD.bg ..,rfl,aW _,λj u hu=>by simpa using hu,by simpa using hx⟩)⟩
 refine(kC eR ZN rfl hBs ZN rfl bM (i:=1) rfl hy g (by rw[e2];simp only;omega) (by rw[e2];omega)).mono λr m' ⟨v',p',h1,h2,h3⟩=>⟨v',p',h1,h2.dV 0,h3.ux⟩
theorem hIs:tt.get 34=some ⟨.slice 3,1,24,[.one (.slice none 0 0)],false⟩:=by rfl
theorem Tf:tt.get 3=some ⟨.int .i64,1,8,[.one (.int .i64 0)],false⟩:=by rfl
abbrev ic(l:List Int):List Value:=l.map (Value.int .i64)
theorem akW:∀u∈ic l,u.oneCell'=true:=by
 intro u hu;obtain⟨a,_,rfl⟩:=aV.1 hu;rfl
def Il(m:aD)(v:Value)(l:List Int):Prop:=gq m 1 v (ic l)
def Io(m:aD)(v:Value)(l:List Int):Prop:=mf m 3 1 v (ic l)
def Ia(m:aD)(v:Value)(l:List Int):Prop:=Il m v l\/(l=[]/\∃a,v= .slice (some a) 0 0)
theorem Il.sub{m':aD}(h:Il m v l)(hs:cL m m'):Il m' v l:=gq.sub h hs
theorem Io.il(h:Io m v l):Il m v l:=mf.ky h
theorem Il.ia(h:Il m v l):Ia m v l:=.inl h
theorem Ia.sub{m':aD}(h:Ia m v l)(hs:cL m m'):Ia m' v l:=h.imp (·.sub hs) id
theorem Io.nil(m:aD):Io m (.slice none 0 0) []:=.inl ⟨rfl,rfl⟩
theorem Il.shape(h:Il m v l):∃a c,v= .slice a l.length c:=by
 rcases h with⟨c,rfl,e⟩|⟨b,o,c,n,arr,t,fr,rfl,_,e,_⟩
 ·simp_all
 simp_all
theorem Ia.shape(h:Ia m v l):∃a c,v= .slice a l.length c:=by
 rcases h with h|⟨rfl,a,rfl⟩
 ·exact h.shape
 simp_all
theorem Ia.one(h:Ia m v l):v.oneCell'=true:=by obtain⟨a,c,rfl⟩:=h.shape;rfl
theorem Ia.il(h:Ia m v l)(hl:l≠[]):Il m v l:=h.elim id λh=>absurd h.1 hl
theorem Il.real(h:Il m v l)(hi:i<l.length):∃b o c,v= .slice (some ⟨b,o,none⟩) l.length c/\∀j (hj:j<l.length),gR m b (o+j)=some (.int .i64 l[j]):=by
 rcases h with⟨c,rfl,e⟩|⟨b,o,c,n,arr,t,fr,rfl,g1,e,_,g2,_⟩
 ·simp_all
 ·have:l.length=n:=by simpa using e
  exact⟨b,o,c,by rw[this],λj hj=>aF g1 (g2 j _ (by simp[hj]))⟩
theorem Ia.real(h:Ia m v l)(hi:i<l.length):∃b o c,v= .slice (some ⟨b,o,none⟩) l.length c/\∀j (hj:j<l.length),gR m b (o+j)=some (.int .i64 l[j]):=
 (h.il (by rintro rfl;simp at hi)).real hi
theorem Ia.fg{m:aD}{v:Value}{l:List Int}(h:Ia m v l):fg v=l.length:=by obtain⟨a,c,rfl⟩:=h.shape;rfl
variable{x:Int}
theorem qa:bF tP (.buildSlice 34 1 [0]) [.v (.int .i64 x)] m λr m'=>∃b,m b=none/\r=[.v (.slice (some ⟨b,0,none⟩) 1 1)]/\m'=m.set b (.cells #[.int .i64 x] 3):=
 dm (n:=1) eR hIs rfl Tf rfl rfl (by simp[CV.cs]) (by simp) (by simp)
theorem Ia.vh{e:TypeId}(h:Ia m v l):s5 m 1 (.slice e) v (ic l):=.inl ⟨e,rfl,h.imp id λ⟨h1,h2⟩=>⟨by rw[h1];rfl,h2⟩⟩
theorem zQ{x:Value}{news:List Int}(hs:aq m ls)(hi:ls[i]?=some p) (hv:Io p v l) (hg:Ia m x news) (hb:l.length+news.length<=1000000000):
  bF tP (.builtin .append [34,34]) [.v v,.v x] m λr m'=>∃v' p',r=[.v v']/\aq m' (ls.set i p')/\Io p' v' (l++news):=by
 have e1:=hv.il.ia.fg;have e2:=hg.fg;refine(kC eR hIs rfl Tf hIs rfl hs hi hv hg.vh (by rw[e1,e2];simp only;omega) (by rw[e1,e2];omega)).mono λr m' ⟨v',p',h1,h2,h3⟩=>⟨v',p',h1,h2,?_⟩;have:=h3.ux;rw[show ic l++ic news=ic (l++news) by simp[ic]]at this;exact this
theorem Il.blk1(h:m b=some (.cells #[.int .i64 x] t fr)):Il m (.slice (some ⟨b,0,none⟩) 1 1) [x]:=
 .inr ⟨b,0,1,1,_,_,_,rfl,h,rfl,aW _,λj u hu=>by simpa [ic]using hu,by simp[ic,Value.oneCell']⟩
theorem Es{b':Nat}(hs:aq m (p::ls))(hb:m b'=none)(hy:Io p y l)(hl:l.length<=100000000):
  bF tP (.builtin .append [34,34]) [.v y,.v (.slice (some ⟨b',0,none⟩) 1 1)] (m.set b' (.cells #[.int .i64 x] 3)) λr m'=>∃y' p',r=[.v y']/\aq m' (p'::ls)/\Io p' y' (l++[x]):=by
 have bM:=hs.new hb (.cells #[.int .i64 x] 3);refine(zQ (i:=1) bM rfl hy (Il.blk1 (aD.bg ..)).ia (by simp;omega)).mono λr m' ⟨v',p',h1,h2,h3⟩=>⟨v',p',h1,h2.dV 0,h3⟩
theorem LO(h:i<1000000000000):IntKind.i64.wrap ((i:Int)+1)=((i+1:Nat):Int):=by rw[wi];omega
theorem fZ{o j:Nat}{l:List Value}(h:dQ m b o l)(hj:l[j]?=some y):gR m b (o+j)=some y:=by
 obtain⟨arr,t,fr,h1,h2⟩:=h;exact aF h1 (h2 j y hj)
namespace Tr
def mI(p:Int):List Int:=if 0<=p/\p<5 then[4*p+1,4*p+2,4*p+3,4*p+4]else[]
def up(p:Int):Int:=if 0<p/\p<21 then(p-1)/4 else-1
def gF(p:Int):Int:=if 5<=p/\p<21 then p-5 else-1
def fV(l:List Int):List Int:=l.flatMap mI
theorem QF(p:Int):(mI p).length<=4:=by unfold mI;split<;>simp
theorem rN:∀(l:List Int),(fV l).length<=4*l.length
 |[]=>by simp[fV]
 |p::l=>by
  have:=rN l;have:=QF p
  simp only[fV,dw,ax,bd]at*;omega
theorem QH:∀{l:List Int},∀k∈fV l,1<=k/\k<=20:=by
 intro l k hk;obtain⟨p,_,hp⟩:=iu.1 hk;unfold mI at hp
 split at hp
 ·simp at hp;omega
 ·simp at hp
end Tr
variable{m:aD}{p:Int}
theorem rA:eN tP 302 [i64 p] m [bR (decide (0<=p/\p<21))]:=by
 refine ub Tryz.func302 ?_;conv=>whnf
 repeat' (first|(refine⟨λh=>?_,λh=>?_⟩<;>conv=>whnf)|fail)
 ·have h':=ah h
  refine⟨?_,rfl⟩;rw[show decide (0<=p/\p<21)=decide (p<21) from fF.2 (by omega)]
 ·have h':=aj h
  rw[aY (by omega)];exact rR
theorem LF(hp: -9223372036854775808<=p/\p<=9223372036854775807):bi tP 363 [i64 p] m λr m'=>∃v q,r=[.v v]/\aq m' [q,m]/\Io q v (Tr.mI p):=by
 refine ub Tryz.func363 ?_;refine bt (rA) ?_;by_cases h0:0<=p/\p<21
 ·rw[bB h0]
  refine xN ?_;apply bI<;>intro h
  ·have h':=ah h
   refine⟨_,iI,rfl,(aq.one m).cA,?_⟩;rw[Tr.mI,if_neg (by omega)];exact Io.nil _
  ·have h':=aj h
   refine .mk (ι:=Nat×Value) (λi=>4-i.1) (λ⟨i,v⟩ mm=>i<=4/\∃q,aq mm [q,m]/\Io q v ((Tr.mI p).take i)) (λ⟨i,v⟩=>[(0,.c (i64 p)),(3,.c (.v v)),(12,.c (i64 i))]) (λ_=>[]) (0,.slice none 0 0) ⟨by omega,iI,(aq.one m).cA,Io.nil _⟩ ?_ ?_
   ·exact Cr
   rintro⟨i,v⟩ mm ⟨hi,q,hs,hv⟩;have hk:Tr.mI p=[4*p+1,4*p+2,4*p+3,4*p+4]:=by rw[Tr.mI,aC (by omega)]
   apply bI<;>intro h1
   ·have jc:=ah h1
    have bH:i<4:=by omega
    have ew:IntKind.i64.wrap (IntKind.i64.wrap (IntKind.i64.wrap (4*p)+(i:Int))+1)=4*p+i+1:=by rw[wi (n:=4*p) (by omega) (by omega),wi (n:=4*p+(i:Int)) (by omega) (by omega),wi]
    conv=>whnf
    rw[ew];refine .mk _ (qa) ?_;rintro _ _⟨b,hb,rfl,rfl⟩;refine .mk _ (Es hs hb hv (by simp;omega)) ?_;rintro _ m1⟨v',q',rfl,qW,pY⟩;refine⟨(i+1,v'),⟨by omega,q',qW,?_⟩,by simp only;omega,?_⟩
    ·have:(Tr.mI p).take (i+1)=(Tr.mI p).take i++[4*p+i+1]:=by
      rw[hk];rcases i with _|_|_|_|i<;>simp<;>omega
     rw[this];exact pY
    ·exact Cr
   ·have jc:=aj h1
    obtain rfl:i=4:=by omega
    exact⟨v,q,rfl,hs,by rw[hk]at hv⊢;exact hv⟩
 ·rw[aY h0]
  refine xY ?_;refine⟨_,iI,rfl,(aq.one m).cA,?_⟩;rw[Tr.mI,if_neg (by omega)];exact Io.nil _
theorem Jo:eN tP 303 [i64 p] m [i64 (Tr.up p)]:=by
 refine ub Tryz.func303 ?_;refine bt (rA) ?_;by_cases h0:0<=p/\p<21
 ·rw[bB h0]
  refine xN ?_;apply bI<;>intro h
  ·have h':p=0:=by simpa using h
   exact⟨by rw[Tr.up,if_neg (by omega)],rfl⟩
  ·have h':¬p=0:=by simpa using h
   conv=>whnf
   rw[wi (n:=p-1) (by omega) (by omega)];refine⟨?_,rfl⟩;rw[Tr.up,aC (by omega),show Int.tdiv (p-1) 4=(p-1)/4 from Int.tdiv_eq_ediv_of_nonneg (by omega),wi]
 ·rw[aY h0]
  refine xY ?_;exact⟨by rw[Tr.up,if_neg (by omega)],rfl⟩
theorem wX:eN tP 213 [i64 p] m [i64 (Tr.gF p)]:=by
 refine ub Tryz.func213 ?_;refine bt (rA) ?_;by_cases h0:0<=p/\p<21
 ·rw[bB h0]
  refine xN ?_;apply bI<;>intro h
  ·have h':=ah h
   exact⟨by rw[Tr.gF,if_neg (by omega)],rfl⟩
  ·have h':=aj h
   conv=>whnf
   rw[wi (n:=p-5) (by omega) (by omega)];exact⟨by rw[Tr.gF,aC (by omega)],rfl⟩
 ·rw[aY h0]
  refine xY ?_;exact⟨by rw[Tr.gF,if_neg (by omega)],rfl⟩
end Go.E.Y
namespace Go.E
def jR(s:ByteArray):List Nat:=s.data.toList.map UInt8.toNat
theorem ue(s:ByteArray):(jR s).length=s.size:=by simp[jR]
theorem amf(s:ByteArray):∀x∈jR s,x<256:=by
 intro x hx;simp only[jR,aV]at hx;obtain⟨a,_,rfl⟩:=hx;exact a.toNat_lt
section
variable {P:Program}{T:lz}
theorem Cy(hT:fW P T){t t' e:TypeId}{ti' ti ei:TI}(ht':T t'=some ti')(ht:T t=some ti)(hk:ti.k= .slice e)(he:T e=some ei)(hek:ei.k= .int .u8){m:aD}{s:ByteArray}:
  bF P (.conv t' t) [.v (.string s)] m λr m'=>∃b c o,m b=none/\r=[.v (.slice (some ⟨b,0,none⟩) s.size c)]/\m'=m.set b o/\Lb m' (.slice (some ⟨b,0,none⟩) s.size c) ((jR s).map λ(n:Nat)=>(n:Int)):=by
 intro ez ty W hW;have hu:=(hT t ti ht).slice hk
 have hue:P.underlying e=some (.int .u8):=by
  obtain⟨d,h1,h2⟩:=(hT e ei he).desc;rw[hek]at h2
  cases d<;>simp[TK.of]at h2
  rw[h1,h2]
 obtain⟨d',hs,_⟩:=(hT t' ti' ht').desc;have hr:=Lib.run_convert_string_bytes (P:=P) W t' t e s hs hu hue;have Ad:=Lib.bytesWorld_size W e s;refine⟨_,m.set W.heap.size (.cells (Lib.bytesCells W e s) e ((Lib.bytesCells W e s).size,(Lib.bytesCells W e s).size+1)),Lib.bytesWorld W e s,?_,?_,⟨W.heap.size,grownCap W s.size 0 e,_,hW.none (aW _),rfl,rfl,?_⟩,?_⟩
 ·simpa [dF.run,dF.dE,dF.Fz,cond_false,gm,CV.val]using hr
 ·intro x hx
  simp at hx;subst hx;rfl
 ·have yA:=grownCap_ge W s.size 0 e
  refine Lb.mk (aD.bg ..) (by simp[jR]) yA (λj n hj=>?_);rw[cj]at hj;obtain⟨x,hx,rfl⟩:=uE.1 hj;simp only[jR,cj]at hx;obtain⟨y,hy,rfl⟩:=uE.1 hx;have hl:=(aQ.1 hy).1;rw[cD,Lib.bytesCells,fI (by simpa using hl),Array.getElem?_map]
  grind
 ·refine⟨?_,by rw[Ad];omega,rfl,rfl,rfl,?_,λ_=>Nat.le_succ _⟩
  ·intro x u hx
   by_cases ex:x=W.heap.size
   ·subst ex;rw[aD.bg]at hx;cases hx;exact Lib.bytesWorld_at_new W e s
   ·rw[aD.eH _ _ ex]at hx
    rw[Lib.bytesWorld_at_old W e s x (hW.lt hx)];exact hW _ _ hx
  ·intro x hx hm
   exact⟨by rw[aD.eH _ _ (by omega)];exact hm,Lib.bytesWorld_at_old W e s x hx⟩
end
theorem Y4(w a:Nat):BitVec.ofInt w (a:Int)=BitVec.ofNat w a:=by simp
variable{a:Nat}
theorem toNat_ofInt{w:Nat}(h:a<2^w):(BitVec.ofInt w (a:Int)).toNat=a:=by
 grind
variable{b:Nat}
theorem Uo(ha:a<2^64)(hb:b<2^64):cp .or .u64 a b=((a|||b:Nat):Int):=by
 have h:=oO ha hb
 show IntKind.u64.wrap ((BitVec.ofInt 64 a|||BitVec.ofInt 64 b).toNat:Int)=_
 rw[BitVec.toNat_or,toNat_ofInt ha,toNat_ofInt hb,wu]
theorem OK(ha:a<2^64)(hb:b<2^64):cp .and .u64 a b=((a&&& b:Nat):Int):=by
 have h:=Nat.and_lt_two_pow a hb
 show IntKind.u64.wrap ((BitVec.ofInt 64 a&&& BitVec.ofInt 64 b).toNat:Int)=_
 rw[BitVec.toNat_and,toNat_ofInt ha,toNat_ofInt hb,wu]
variable{n:Int}
theorem XY(h0:0<=n)(h1:n<4294967296):IntKind.u32.wrap n=n:=by rw[IntKind.wrap_u32,Int.emod_eq_of_lt h0 h1]
theorem wu8(h0:0<=n)(h1:n<256):IntKind.u8.wrap n=n:=by rw[IntKind.wrap_u8,Int.emod_eq_of_lt h0 h1]
theorem Ng(ha:a<2^32)(hb:b<2^32):cp .or .u32 a b=((a|||b:Nat):Int):=by
 have h:=oO ha hb
 show IntKind.u32.wrap ((BitVec.ofInt 32 a|||BitVec.ofInt 32 b).toNat:Int)=_
 rw[BitVec.toNat_or,toNat_ofInt ha,toNat_ofInt hb,XY (by omega) (by omega)]
theorem zR(ha:a<2^32)(hb:b<2^32):cp .and .u32 a b=((a&&& b:Nat):Int):=by
 have h:=Nat.and_lt_two_pow a hb
 show IntKind.u32.wrap ((BitVec.ofInt 32 a&&& BitVec.ofInt 32 b).toNat:Int)=_
 rw[BitVec.toNat_and,toNat_ofInt ha,toNat_ofInt hb,XY (by omega) (by omega)]
theorem pS(ha:a<2^32)(hb:b<2^32):cp .xor .u32 a b=((a ^^^ b:Nat):Int):=by
 have h:=jB ha hb
 show IntKind.u32.wrap ((BitVec.ofInt 32 a ^^^ BitVec.ofInt 32 b).toNat:Int)=_
 rw[BitVec.toNat_xor,toNat_ofInt ha,toNat_ofInt hb,XY (by omega) (by omega)]
theorem Dp{a c:Nat}(k:Nat)(hc:c<2^k):(a*2^k)|||c=a*2^k+c:=by
 rw[lH,Nat.two_pow_add_eq_or_of_lt hc]
theorem WD(h0: -9223372036854775808<=n)(h1:n<=9223372036854775807):cp .xor .i64 (if IntKind.i64.signed=true then-1 else IntKind.i64.max) n= -n-1:=by
 show IntKind.i64.wrap ((BitVec.ofInt 64 (-1) ^^^ BitVec.ofInt 64 n).toNat:Int)=_
 have e:BitVec.ofInt 64 (-1)=BitVec.allOnes 64:=by rfl
 have e2:BitVec.allOnes 64 ^^^ BitVec.ofInt 64 n= ~~~ (BitVec.ofInt 64 n):=BitVec.allOnes_xor;rw[e,e2,BitVec.toNat_not,BitVec.toNat_ofInt,IntKind.wrap_i64];omega
variable{n:Nat}
theorem agL(h1:n<2^32):cp .xor .u32 (if IntKind.u32.signed=true then-1 else IntKind.u32.max) n=((4294967295-n:Nat):Int):=by
 show IntKind.u32.wrap ((BitVec.ofInt 32 4294967295 ^^^ BitVec.ofInt 32 n).toNat:Int)=_
 have e:BitVec.ofInt 32 4294967295=BitVec.allOnes 32:=by rfl
 have e2:BitVec.allOnes 32 ^^^ BitVec.ofInt 32 n= ~~~ (BitVec.ofInt 32 n):=BitVec.allOnes_xor;rw[e,e2,BitVec.toNat_not,toNat_ofInt h1,XY (by omega) (by omega)]
theorem nZ{k:IntKind}{x:Nat}(hn:n<=k.bits):oV k (x:Int) (n:Int)=((x/2^n:Nat):Int):=by
 show(x:Int).fdiv (2^(min ((n:Int).toNat) k.bits))=_
 grind
theorem agd{x:Nat}(hn:n<=64)(hx:x*2^n<18446744073709551616):nC .u64 (x:Int) (n:Int)=((x*2^n:Nat):Int):=by
 show IntKind.u64.wrap ((x:Int)*2^(min ((n:Int).toNat) 64))=_
 have:((x:Int)*2^n)=((x*2^n:Nat):Int):=by simp
 rw[aA,gH hn,this,wu]
theorem abr(a b:Nat):Int.tmod (a:Int) (b:Int)=((a%b:Nat):Int):=by rw[Int.tmod_eq_emod_of_nonneg (by omega)];omega
end Go.E
namespace Go.E.Y
open Go.Proofs
structure Bk where
 gM:Int
 (cap:Int)
 (dG:Int)
 (gI:Int)
deriving DecidableEq
def rB(n x y:Int):Bool:=decide (x<=n)&&decide (n<=y)
theorem B6{n x y:Int}:rB n x y=true↔x<=n/\n<=y:=by simp[rB]
def Bk.ok(s:Bk):Bool:=((rB s.gM 1 1000&&rB s.cap s.gM 1048576)&&rB s.dG 1 1073741824)&&rB s.gI 0 1073741824
variable{s:Bk}
theorem Bk.lj:s.ok=true↔(1<=s.gM/\s.gM<=1000)/\(s.gM<=s.cap/\s.cap<=1048576)/\(1<=s.dG/\s.dG<=1073741824)/\(0<=s.gI/\s.gI<=1073741824):=by
 simp only[Bk.ok,aB,B6,and_assoc]
abbrev Bk.L(s:Bk):LB:=[.one (.int .i64 s.gM),.one (.int .i64 s.cap),.one (.int .i64 s.dG),.one (.int .i64 s.gI)]
def dbl:Nat->Int->Int->Int
 |0,n,_=>n
 |t+1,n,c=>if n<c then dbl t (n*2) c else n
def Bk.H6(s:Bk):Int:=if s.ok then min (dbl s.gI.toNat s.gM s.cap) s.cap else 0
def Bk.next(s:Bk):Bk:=if s.ok&&decide (s.gI<1073741824)then {s with gI:=s.gI+1}else s
def Bk.lR(s:Bk):Bk:=if s.ok then {s with gI:=0}else s
def Bk.PA(s:Bk):Bool:=!s.ok||decide (s.dG<=s.gI)
variable{m:aD}
theorem aaX{n x y:Int}:eN tP 124 [i64 n,i64 x,i64 y] m [bR (rB n x y)]:=by
 refine ub Tryz.func124 ?_;refine⟨λh=>?_,λh=>?_⟩<;>conv=>whnf
 all_goals exact⟨by rw[rB,h];rfl,rfl⟩
theorem nP:eN tP 63 [.a s.L] m [bR s.ok]:=by
 refine ub Tryz.func63 ?_;refine bt (aaX) ?_;conv=>whnf
 unfold Bk.ok;apply bI<;>intro h
 ·refine bt (aaX) ?_
  apply bI<;>intro h2
  ·refine bt (aaX) ?_
   apply bI<;>intro h3
   ·refine bt (aaX) ?_
    exact⟨by rw[h,h2,h3];rfl,rfl⟩
   ·exact⟨by rw[h,h2,h3];rfl,rfl⟩
  ·exact⟨by rw[h,h2];rfl,rfl⟩
 ·exact⟨by rw[h];rfl,rfl⟩
theorem Me:eN tP 152 [.a s.L] m [i64 s.H6]:=by
 refine ub Tryz.func152 ?_;refine bt (nP) ?_;apply bI<;>intro h
 ·have h':s.ok=false:=by simpa using h
  exact⟨by rw[Bk.H6,h'];rfl,rfl⟩
 have h':s.ok=true:=by simpa using h
 obtain⟨q1,q2,q3,q4⟩:=Bk.lj.1 h';refine .mk (ι:=Nat×Int) (λp=>s.gI.toNat-p.1) (λ⟨i,n⟩ mm=>i<=s.gI.toNat/\(1<=n/\n<=2097152)/\dbl (s.gI.toNat-i) n s.cap=dbl s.gI.toNat s.gM s.cap/\mm=m) (λ⟨i,n⟩=>[(1,.p 0 0),(3,.c (i64 n)),(4,.c (i64 i))]) (λ_=>[(61,s.L)]) (0,s.gM) ⟨by omega,by omega,rfl,rfl⟩ ?_ ?_
 ·exact Cr
 rintro⟨i,n⟩ mm ⟨hi,hn,hd,he⟩;subst mm
 have qX:(¬(i<s.gI.toNat)\/¬n<s.cap)->dbl s.gI.toNat s.gM s.cap=n:=by
  intro hc;rw[<-hd]
  cases ht:s.gI.toNat-i with
  |zero=>rfl
  |succ t=>rcases hc with hc|hc;omega;simp[dbl,hc]
 apply bI<;>intro h1
 ·have jc:=ah h1
  apply bI<;>intro h2
  ·have iD:=ah h2
   refine⟨(i+1,n*2),⟨by omega,by omega,?_,rfl⟩,by show s.gI.toNat-(i+1)<s.gI.toNat-i;omega,?_⟩
   ·rw[<-hd,show s.gI.toNat-i=(s.gI.toNat-(i+1))+1 by omega,dbl,aC iD]
   conv=>whnf
   repeat (refine And.intro (by first|with_reducible rfl|(first|exact cI (LO (by omega))|exact cI (wi))|exact cI (wi)|exact wi|rfl) ?_;conv=>whnf)
   exact xT
  ·have iD:=aj h2
   refine⟨?_,rfl⟩;rw[Bk.H6,h',qX (.inr iD)];rfl
 ·have jc:=aj h1
  refine⟨?_,rfl⟩;rw[Bk.H6,h',qX (.inl (by omega))];rfl
theorem VQ:eN tP 151 [.a s.L] m [.a s.next.L]:=by
 refine ub Tryz.func151 ?_;refine bt (nP) ?_;conv=>whnf
 unfold Bk.next;apply bI<;>intro h
 ·obtain⟨q1,q2,q3,q4⟩:=Bk.lj.1 h
  apply bI<;>intro h2
  ·refine⟨?_,rfl⟩
   rw[h,h2,wi];rfl
  ·exact⟨by rw[h,h2];rfl,rfl⟩
 ·exact⟨by rw[h];rfl,rfl⟩
theorem SE:eN tP 239 [.a s.L] m [.a s.lR.L]:=by
 refine ub Tryz.func239 ?_;refine bt (nP) ?_;conv=>whnf
 unfold Bk.lR;apply bI<;>intro h
 ·exact⟨by rw[h];rfl,rfl⟩
 ·exact⟨by rw[h];rfl,rfl⟩
theorem SD:eN tP 149 [.a s.L] m [bR s.PA]:=by
 refine ub Tryz.func149 ?_;refine bt (nP) ?_;conv=>whnf
 unfold Bk.PA;apply bI<;>intro h
 ·exact⟨by rw[h];rfl,rfl⟩
 ·have h':s.ok=true:=by simpa using h
  exact⟨by rw[h'];rfl,rfl⟩
theorem Uc{n:Nat}{d:Int}(hn:0<n)(h2:n<1000000)(hd:0<=d/\d<18446744073709551616):eN tP 154 [i64 n,u64 d] m [i64 ((d.toNat%n:Nat):Int)]:=by
 refine ub Tryz.func154 ?_;conv=>whnf
 have hm:=fo d.toNat hn;obtain⟨e,rfl⟩:∃e:Nat,d=(e:Int):=⟨d.toNat,by omega⟩;rw[wu];refine⟨by omega,?_⟩;refine⟨?_,rfl⟩;rw[abr,wi (by omega) (by rw[aA]at hm;omega)];rfl
def lV(l:List Int)(d:Int):Int×Int:=if l.length=0 then(0,4)else(l.getD (d.toNat%l.length) 0,0)
theorem K2{v:Value}{l:List Int}{d:Int}(hv:Ia m v l)(hl:l.length<1000000)(hd:0<=d/\d<18446744073709551616):eN tP 84 [.v v,u64 d] m [i64 (lV l d).1,i64 (lV l d).2]:=by
 obtain⟨a,c,rfl⟩:=hv.shape;refine ub Tryz.func84 ?_;conv=>whnf
 unfold lV;apply bI<;>intro h
 ·have h':l.length=0:=by simpa using h
  exact⟨by rw[aC h'],rfl⟩
 have h':l.length≠0:=by simpa using h
 have hm:=fo d.toNat (show 0<l.length by omega);obtain⟨b,o,c',e,hc⟩:=hv.real hm;cases e;refine bt (Uc (by omega) hl hd) ?_;refine⟨⟨by omega,by omega⟩,?_⟩;refine⟨_,hc _ hm,rfl,?_⟩;refine⟨?_,rfl⟩;rw[if_neg h',aI,az hm];rfl
end Go.E.Y
namespace Go.E
section
variable {P:Program}{f:FuncId}{fn:Func}
theorem aj1{args:List CV}{m:aD}{R K:List CV->aD->Prop}(h:zV P f args m R)(k:∀r m',R r m'->K r m'):nR P f args m K:=.ext R h k
theorem aem(hf:P.funcs[f]?=some fn) (Q6:(fn.name== "runtime.NumGoroutine")=false) (hb:fn.body.isNone=true) (hn:Extern.findNext fn=none) (k:IntKind)
  (he:Extern.find fn=some (Extern.Atomic.loadT (.int k))) {m:aD}{b off:Nat}{x:Int} (hc:gR m b off=some (.int k x)):
  zV P f [.v (.pointer (some ⟨b,off,none⟩))] m λr m'=>r=[.v (.int k x)]/\m'=m:=by
 intro _ W hW
 have oY:W.cell? ⟨b,off,none⟩=some (.int k x):=by
  unfold gR at hc
  cases hm:m b with
  |none=>simp[hm]at hc
  |some o=>
   cases o with
   |cells arr t fr=>
    simp only[hm]at hc;rw[iO (hW _ _ hm)];exact hc
   |_=>simp[hm]at hc
 exact⟨[.v (.int k x)],m,W,run_call_load hf Q6 hb hn k he oY,(by intro y hy;simp at hy;subst hy;rfl),⟨rfl,rfl⟩,cr.refl hW⟩
theorem ah4(hf:P.funcs[f]?=some fn) (Q6:(fn.name== "runtime.NumGoroutine")=false) (hb:fn.body.isNone=true) (hn:Extern.findNext fn=none)
  (he:Extern.find fn=some (Extern.Atomic.update (Op.intArith .add) .u64 true)) {m:aD}{b off:Nat}{x y:Int}{arr:Array Value}{t:TypeId} (hm:m b=some (.cells arr t (0,0))) (hx:arr[off]?=some (.int .u64 x)):
  zV P f [.v (.pointer (some ⟨b,off,none⟩)),.v (.int .u64 y)] m λr m'=>r=[.v (.int .u64 (IntKind.u64.wrap (x+y)))]/\m'=m.set b (.cells (arr.setIfInBounds off (.int .u64 (IntKind.u64.wrap (x+y)))) t (0,0)):=by
 intro _ W hW;have hg:=hW _ _ hm;have oY:W.cell? ⟨b,off,none⟩=some (.int .u64 x):=by rw[iO hg];exact hx
 have hz:W.frozen? ⟨b,off,none⟩=false:=by simp[World.frozen?,hg]
 have jG:W.setCell ⟨b,off,none⟩ (.int .u64 (IntKind.u64.wrap (x+y)))=W.setRow b (arr.setIfInBounds off (.int .u64 (IntKind.u64.wrap (x+y)))):=setCell_eq_setRow W b off arr t (0,0) _ hg;have hs:(Op.intArith .add .u64 x y).run P W= .ok (.int .u64 (IntKind.u64.wrap (x+y))) W:=by simp[Op.intArith]
 have hr:=run_call_add hf Q6 hb hn .u64 he oY hz hs;rw[jG]at hr;exact⟨[.v (.int .u64 (IntKind.u64.wrap (x+y)))],_,_,hr,(by intro y hy;simp at hy;subst hy;rfl),⟨rfl,rfl⟩,(cr.refl hW).setRow hm _⟩
end
section
variable {P:Program}{T:lz}
theorem VK(hT:fW P T){t e tx:TypeId}{ti ei:TI}(ht:T t=some ti)(hk:ti.k= .slice e)(he:T e=some ei){m:aD}{b o n c b' o' n' c':Nat}{arr CH:Array Value}{te t':TypeId}{fr':Nat×Nat}(hb:m b=some (.cells arr te))(jH:o+min n' n*ei.size<=arr.size)
  {news:List Value} (qB:m b'=some (.cells CH t' fr')) (hlen:news.length=min n' n*ei.size) (h4:∀j u,news[j]?=some u->CH[o'+j]?=some u) (h5:∀u∈news,u.oneCell'=true):
  bF P (.builtin .copy [t,tx]) [.v (.slice (some ⟨b,o,none⟩) n c),.v (.slice (some ⟨b',o',none⟩) n' c')] m λr m'=>r=[.v (.int .i64 ((min n' n:Nat):Int))]/\m'=m.set b (.cells (arr.toList.take o++(news++arr.toList.drop (o+news.length))).toArray te):=by
 intro ez ty W hW;obtain⟨j,hj,JP,_⟩:=(hT e ei he).WX;have hu:=(hT t ti ht).slice hk;have yD:=hW _ _ hb;have hld:=run_loadCells_list (P:=P) W ⟨b',o',none⟩ news (λj v hv=>by rw[ii,iO (hW _ _ qB)];exact h4 j v hv);rw[hlen]at hld;have dI:=run_storeCells_at P b o te news 0 arr W yD (by rw[hlen];omega) h5;refine⟨[.v (.int .i64 ((min n' n:Nat):Int))],_,_,?_,?_,⟨rfl,rfl⟩,(cr.refl hW).setRow hb _⟩
 ·simp only[dF.run,dF.dE,dF.Fz,cond_false,aZ,lK,CV.val,gm]
  have hm:Nat.min n' n=min n' n:=rfl;simp only[gO,aX]at dI;simp[Builtin.copy_,run_underlying hu,Builtin.lenOf,Builtin.firstCells,sizeOf,typeInfo,hj,JP,hm,hld,dI];rfl
 ·intro y hy;simp at hy;subst hy;rfl
theorem qw(hT:fW P T){t e:TypeId}{ti ei:TI}(ht:T t=some ti)(hk:ti.k= .slice e)(he:T e=some ei)(hz:(LB.cz ei.zero).length=ei.size)(ox:∀u∈LB.cz ei.zero,u.oneCell'=true){m:aD}{b o n c:Nat}{arr:Array Value}{te:TypeId}(hb:m b=some (.cells arr te))(hn:0<n)(jH:o+n*ei.size<=arr.size):
  bF P (.builtin .clear [t]) [.v (.slice (some ⟨b,o,none⟩) n c)] m λr m'=>r=[]/\∃zs,zs.length=n*ei.size/\(∀u∈zs,u.oneCell'=true)/\m'=m.set b (.cells (arr.toList.take o++zs++arr.toList.drop (o+n*ei.size)).toArray te):=by
 intro ez ty W hW;obtain⟨j,hj,JP,_,z,hjz,hzc⟩:=(hT e ei he).WX;have hu:=(hT t ti ht).slice hk;have yD:=hW _ _ hb;have akX:z.cells.size=ei.size:=by rw[hzc];simpa using hz
 have hzl:(Builtin.zeroCells z.cells n).toList.length=n*ei.size:=by rw[cq,kr,akX]
 have hzo:∀u∈(Builtin.zeroCells z.cells n).toList,u.oneCell'=true:=by
  intro u hu;rw[Array.mem_toList_iff,Builtin.zeroCells,Array.mem_map]at hu;obtain⟨i,hi,rfl⟩:=hu;have hi2:=Array.mem_range.1 hi;have bH:i%z.cells.size<z.cells.size:=fo _ (by rcases Nat.eq_zero_or_pos z.cells.size with h|h;simp[h]at hi2;exact h)
  grind
 have dI:=run_storeCells_at P b o te (Builtin.zeroCells z.cells n).toList 0 arr W yD (by rw[hzl];omega) hzo;simp only[gO]at dI;obtain⟨k,rfl⟩:∃k,n=k+1:=⟨n-1,by omega⟩;have wn:(zeroValue e).run P W= .ok z W:=by simp[zeroValue,typeInfo,hj,hjz]
 rw[hzl]at dI;refine⟨[],_,_,?_,(by intro y hy;cases hy),⟨rfl,(Builtin.zeroCells z.cells (k+1)).toList,hzl,hzo,rfl⟩,(cr.refl hW).setRow hb _⟩;simp only[dF.run,dF.dE,dF.Fz,cond_false,aZ,lK,CV.val,gm];simp[Builtin.clear_,run_underlying hu,wn,dI]
theorem Z2{f:FuncId}{fn:Func}(hT:fW P T)(hf:P.funcs[f]?=some fn) (Q6:(fn.name== "runtime.NumGoroutine")=false) (hb:fn.body.isNone=true) (hn:Extern.findNext fn=none)
  {t tr e:TypeId}{ti ei:TI} (ht:T t=some ti) (hk:ti.k= .slice e) (he:T e=some ei) (hx:Extern.find fn=some (Extern.SlicesOverlaps.overlaps #[t,t] #[tr]))
  {m:aD}{b b' o o' n n' c c':Nat}{arr CH:Array Value}{te te':TypeId}{fr':Nat×Nat} (h1:m b=some (.cells arr te)) (h2:m b'=some (.cells CH te' fr')) (ga:b≠b') (JL:CH.size≠0):
  zV P f [.v (.slice (some ⟨b,o,none⟩) n c),.v (.slice (some ⟨b',o',none⟩) n' c')] m λr m'=>r=[.v (.bool false)]/\m'=m:=by
 intro _ W hW;obtain⟨j,hj,JP,_⟩:=(hT e ei he).WX;have hu:=(hT t ti ht).slice hk;have g1:=hW _ _ h1;have g2:=hW _ _ h2
 have hr:=Lib.run_overlaps_apart (P:=P) W t tr e hu j.size (λw=>by simp[sizeOf,typeInfo,hj]) ⟨b,o,none⟩ ⟨b',o',none⟩ n c n' c' ga te te' arr.size CH.size
  (by unfold World.shape?;rw[g1]) (by unfold World.shape?;rw[g2]) JL (by simp[World.frozen?,g1]) (by simp[World.frozen?,g1])
 exact⟨[.v (.bool false)],m,W,by simp only[aZ,lK,CV.val,gm];rw[run_callFunc_extern hf Q6 hb hn hx];exact be (λr:Result Value=>r.andThen λv w'=>Result.ok (Next.value v) w') hr,(by intro y hy;simp at hy;subst hy;rfl),⟨rfl,rfl⟩,cr.refl hW⟩
end
section
variable {α:Type}{enc:α->List Value}{s:Nat}
structure fp(enc:α->List Value)(s:Nat):Prop where
 len:∀x,(enc x).length=s
 one:∀x,∀u∈enc x,u.oneCell'=true
 pos:0<s
theorem fp.wC(h:fp enc s):∀(E:List α),(E.flatMap enc).length=E.length*s
 |[]=>by simp
 |x::E=>by rw[dw,ax,h.len,h.wC E,bd,lG];omega
theorem fp.DW(h:fp enc s){E:List α}:∀u∈E.flatMap enc,u.oneCell'=true:=λu hu=>by
 obtain⟨x,_,hx⟩:=iu.1 hu;exact h.one x u hx
theorem fp.at(h:fp enc s):∀{E:List α}{i j:Nat}{u:Value} (hi:i<E.length),(enc E[i])[j]?=some u->(E.flatMap enc)[i*s+j]?=some u
 |x::E,0,j,u,_,hu=>by
  have hl:=(aQ.1 hu).1;rw[dw,aT (by simpa using hl)];simpa using hu
 |x::E,i+1,j,u,hi,hu=>by
  have ih:=h.at (E:=E) (i:=i) (j:=j) (u:=u) (by simpa using hi) (by simpa using hu);rw[dw,bJ (by rw[h.len,lG];omega),h.len,lG,show i*s+s+j-s=i*s+j by omega];exact ih
theorem fp.take(h:fp enc s):∀(E:List α) (i:Nat),(E.flatMap enc).take (i*s)=(E.take i).flatMap enc
 |[],i=>by simp
 |x::E,0=>by simp
 |x::E,i+1=>by
  rw[dw,List.take_succ_cons,dw,lG,gj,h.len,bP (by rw[h.len];omega),show i*s+s-s=i*s by omega,h.take E i]
theorem fp.drop(h:fp enc s):∀(E:List α) (i:Nat),(E.flatMap enc).drop (i*s)=(E.drop i).flatMap enc
 |[],i=>by simp
 |x::E,0=>by simp
 |x::E,i+1=>by
  rw[dw,List.drop_succ_cons,lG,gQ,h.len,kG (by rw[h.len];omega),bV,show i*s+s-s=i*s by omega,h.drop E i]
theorem fp.count(h:fp enc s){E:List α}{n:Nat}(e:(E.flatMap enc).length=n*s):E.length=n:=by
 rw[h.wC]at e;exact Nat.eq_of_mul_eq_mul_right h.pos e
theorem fp.shape(h:fp enc s){m:aD}{v:Value}{E:List α}(hl:gq m s v (E.flatMap enc)):∃a c,v= .slice a E.length c:=by
 rcases hl with⟨c,rfl,e⟩|⟨b,o,c,n,arr,t,fr,rfl,_,e,_⟩
 ·have:E.length=0:=h.count (n:=0) (by rw[e];simp)
  simp_all
 ·exact⟨_,c,by rw[h.count e]⟩
theorem fp.real(h:fp enc s){m:aD}{v:Value}{E:List α}(hl:gq m s v (E.flatMap enc)){i:Nat}(hi:i<E.length):∃b o c,v= .slice (some ⟨b,o,none⟩) E.length c/\∀j (hj:j<E.length),dQ m b (o+j*s) (enc E[j]):=by
 rcases hl with⟨c,rfl,e⟩|⟨b,o,c,n,arr,t,fr,rfl,g1,e,_,g2,_⟩
 ·have:E.length=0:=h.count (n:=0) (by rw[e];simp)
  omega
 ·refine⟨b,o,c,by rw[h.count e],λj hj=>⟨arr,t,fr,g1,λk u hu=>?_⟩⟩
  rw[gi];exact g2 _ _ (h.at hj hu)
theorem fp.row(h:fp enc s){p:aD}{T:TypeId}{b o n c:Nat}{E:List α}(hl:mf p T s (.slice (some ⟨b,o,none⟩) n c) (E.flatMap enc)):∃arr,p b=some (.cells arr T (0,0))/\E.length=n/\n<=c/\o+c*s<=arr.size/\(∀j u,(E.flatMap enc)[j]?=some u->arr[o+j]?=some u):=by
 rcases hl with⟨e,_⟩|⟨b',o',c',n',arr,e,h1,h2,h3,h4,h5,_⟩
 ·cases e
 ·cases e
  exact⟨arr,h1,h.count h2,h3,h4,h5⟩
theorem fp.mk'(h:fp enc s){p:aD}{T:TypeId}{b o n c:Nat}{arr:Array Value}{E:List α}(h1:p b=some (.cells arr T (0,0)))(h2:E.length=n)(h3:n<=c)(h4:o+c*s<=arr.size)(h5:∀j u,(E.flatMap enc)[j]?=some u->arr[o+j]?=some u):mf p T s (.slice (some ⟨b,o,none⟩) n c) (E.flatMap enc):=
 .inr ⟨b,o,c,n,arr,rfl,h1,by rw[h.wC,h2],h3,h4,h5,h.DW⟩
theorem fp.cut(h:fp enc s){p:aD}{T:TypeId}{b o n c:Nat}{E:List α}(hl:mf p T s (.slice (some ⟨b,o,none⟩) n c) (E.flatMap enc)){i:Nat}(hi:i<=n):mf p T s (.slice (some ⟨b,o,none⟩) i c) ((E.take i).flatMap enc):=by
 obtain⟨arr,h1,h2,h3,h4,h5⟩:=h.row hl;refine h.mk' h1 (by rw[aK];omega) (by omega) h4 λj u hu=>h5 j u ?_;rw[<-h.take]at hu
 grind
theorem fp.pre(h:fp enc s){m:aD}{b o n c c':Nat}{E:List α}(hl:gq m s (.slice (some ⟨b,o,none⟩) n c) (E.flatMap enc)){i:Nat}(hi:i<=n)(hc:i<=c':=by omega):gq m s (.slice (some ⟨b,o,none⟩) i c') ((E.take i).flatMap enc):=by
 rcases hl with⟨c',e,_⟩|⟨b',o2,c2,n',arr,t,fr,e,g1,g2,g3,g4,g5⟩
 ·cases e
 ·cases e
  refine .inr ⟨b,o,c',i,arr,t,fr,rfl,g1,by rw[h.wC,aK,h.count g2,gH hi],hc,λj u hu=>g4 j u ?_,h.DW⟩;rw[<-h.take,bN]at hu
  grind
theorem acU{m:aD}{a:Option Addr}{n c:Nat}{l:List Value}(hp:0<s)(hl:gq m s (.slice a n c) l):n<=c\/n=0:=by
 rcases hl with⟨c',e,h⟩|⟨b',o2,c2,n',arr,t,fr,e,g1,g2,g3,g4,g5⟩
 ·grind
 grind
theorem uU{arr:Array Value}{cs:List Value}{a j:Nat}{u:Value}(jH:a+cs.length<=arr.size):(arr.toList.take a++(cs++arr.toList.drop (a+cs.length))).toArray[j]?=some u↔if j<a then arr[j]?=some u else if j<a+cs.length then cs[j-a]?=some u else arr[j]?=some u:=by
 rw[bz]
 grind
theorem fp.set(h:fp enc s){p:aD}{T:TypeId}{b o n c:Nat}{E:List α}(hl:mf p T s (.slice (some ⟨b,o,none⟩) n c) (E.flatMap enc)){i:Nat}(hi:i<E.length)(x:α):
  ∃arr,p b=some (.cells arr T (0,0))/\o+i*s+s<=arr.size/\mf (p.set b (.cells (arr.toList.take (o+i*s)++(enc x++arr.toList.drop (o+i*s+s))).toArray T (0,0))) T s (.slice (some ⟨b,o,none⟩) n c) ((E.set i x).flatMap enc):=by
 obtain⟨arr,h1,h2,h3,h4,h5⟩:=h.row hl;have aut:i*s+s<=c*s:=by rw[<-lG];exact cS _ (by omega)
 refine⟨arr,h1,by omega,h.mk' (aD.bg ..) (by rw[fc];omega) h3 ?_ λj u hu=>?_⟩
 ·simp only[dM,ax,aK,cC,cq,h.len];omega
 ·have hp:=uU (arr:=arr) (cs:=enc x) (a:=o+i*s) (j:=o+j) (u:=u) (by rw[h.len];omega)
  rw[h.len]at hp;rw[hp];have EN:=(aQ.1 hu).1;rw[h.wC,fc]at EN;have hs:=h.pos;have hq:j/s<E.length:=lI (by rw[lH];exact EN);have hjd:j=j/s*s+j%s:=by rw[lH];exact(Jh j s).symm
  have Zz:=fo j hs
  have key:∀(F:List α) (hF:j/s<F.length),(F.flatMap enc)[j]?=(enc F[j/s])[j%s]?:=λF hF=>by
   cases hx:(enc F[j/s])[j%s]? with
   |none=>have:=List.getElem?_eq_none_iff.1 hx;rw[h.len]at this;omega
   |some w=>have:=h.at hF hx;rw[<-hjd]at this;exact this
  rw[key _ (by rw[fc];exact hq)]at hu;by_cases e:j/s=i
  ·subst e
   rw[jq]at hu;rw[if_neg (by omega),aC (by omega),show o+j-(o+j/s*s)=j%s by omega];exact hu
  ·rw[List.getElem_set_ne (Ne.symm e)]at hu
   have h5':=h5 j u (by rw[key _ hq];exact hu);by_cases bH:j/s<i
   ·have:j/s*s+s<=i*s:=by rw[<-lG];exact cS _ bH
    rw[aC (by omega)];exact h5'
   ·have:i*s+s<=j/s*s:=by rw[<-lG];exact cS _ (by omega)
    rw[if_neg (by omega),if_neg (by omega)];exact h5'
theorem fp.post(h:fp enc s){m:aD}{b o n c:Nat}{E:List α}(hl:gq m s (.slice (some ⟨b,o,none⟩) n c) (E.flatMap enc)){i:Nat}(hi:i<=n){o':Nat}(ho:i<n->o'=o+i*s):gq m s (.slice (some ⟨b,o',none⟩) (n-i) (c-i)) ((E.drop i).flatMap enc):=by
 rcases hl with⟨c',e,_⟩|⟨b',o2,c',n',arr,t,fr,e,g1,g2,g3,g4,g5⟩
 ·cases e
 ·cases e
  have hn:=h.count g2;refine .inr ⟨b,o',c-i,n-i,arr,t,fr,rfl,g1,by rw[h.wC,cC,hn],by omega,λj u hu=>?_,h.DW⟩;have EN:=(aQ.1 hu).1;rw[h.wC,cC,hn]at EN
  have bH:i<n:=by
   grind
  rw[<-h.drop,cT]at hu
  grind
end
theorem aq.grow{m m':aD}{l:List aD}(h:aq m l)(hs:cL m m'):aq m' l:=⟨h.1.trans hs,h.2⟩
def jy(arr:Array Value)(o:Nat)(l:List Value):Prop:=∀j u,l[j]?=some u->arr[o+j]?=some u
variable{arr:Array Value}{o:Nat}{a b:List Value}
theorem jy.append(ha:jy arr o a)(hb:jy arr (o+a.length) b):jy arr o (a++b):=λj u hu=>by
 by_cases h:j<a.length
 ·rw[aT h]at hu;exact ha j u hu
 ·rw[bJ (by omega)]at hu
  have:=hb _ _ hu;rw[show o+a.length+(j-a.length)=o+j by omega]at this;exact this
theorem jy.left(h:jy arr o (a++b)):jy arr o a:=λj u hu=>h j u (by rw[aT (aQ.1 hu).1];exact hu)
theorem jy.right(h:jy arr o (a++b)):jy arr (o+a.length) b:=λj u hu=>by
 rw[gi];exact h (a.length+j) u (by rw[bJ (by omega),show a.length+j-a.length=j by omega];exact hu)
variable{a:Nat}{cs:List Value}
theorem jy.FG(jH:a+cs.length<=arr.size):jy (arr.toList.take a++(cs++arr.toList.drop (a+cs.length))).toArray a cs:=λj u hu=>by
 have hl:=(aQ.1 hu).1;rw[uU jH,if_neg (by omega),aC (by omega),show a+j-a=j by omega];exact hu
theorem jy.uV{l:List Value}(h:jy arr o l)(jH:a+cs.length<=arr.size)(hd:o+l.length<=a\/a+cs.length<=o):jy (arr.toList.take a++(cs++arr.toList.drop (a+cs.length))).toArray o l:=λj u hu=>by
 have hl:=(aQ.1 hu).1;rw[uU jH];rcases hd with hd|hd
 ·rw[aC (by omega)];exact h j u hu
 ·rw[if_neg (by omega),if_neg (by omega)];exact h j u hu
theorem kv(jH:a+cs.length<=arr.size):(arr.toList.take a++(cs++arr.toList.drop (a+cs.length))).toArray.size=arr.size:=by
 grind
theorem BM{mm:aD}{b:Nat}{old:Array Value}{t:TypeId}{fr:Nat×Nat}{v:LB}(Ad:LB.size v=old.size):
  (mm.set b (.cells old t fr)).set b (.cells (old.toList.take 0++(LB.cz v++old.toList.drop (0+LB.size v))).toArray t fr)=mm.set b (.cells (LB.cz v).toArray t fr):=by
 rw[aD.set_set]
 have e:(old.toList.take 0++(LB.cz v++old.toList.drop (0+LB.size v))).toArray=(LB.cz v).toArray:=by
  grind
 rw[e]
theorem Jz{n k:Nat}:∀j,j<n->¬(((0,0):Nat×Nat).1<=k+j/\k+j<((0,0):Nat×Nat).2):=λj _ h=>by simp only at h;omega
abbrev Aj(F:Nat):CV:=.v (.func (.func F) #[] #[])
abbrev l5(F b:Nat):CV:=.v (.func (.func F) #[] #[.pointer (some ⟨b,0,none⟩)])
abbrev Xn(F b b2:Nat):CV:=.v (.func (.func F) #[] #[.pointer (some ⟨b,0,none⟩),.pointer (some ⟨b2,0,none⟩)])
theorem qO(x y:Int):(x==y)=decide (x=y):=by by_cases h:x=y<;>simp[h]
section
variable {α:Type}
def sH(p:α->Bool)(E:List α):Int:=if E.any p then(E.findIdx p:Int)else-1
theorem tW{p:α->Bool}{E:List α}{i:Nat}(hi:i<E.length)(cM:∀x∈E.take i,p x=false)(h:p E[i]=true):sH p E=i:=by
 have h1:E.any p=true:=dh.2 ⟨_,aO hi,h⟩;rw[sH,aC h1]
 have:E.findIdx p=i:=by
  rw[List.findIdx_eq hi];refine⟨h,λj hj=>?_⟩;have:=cM E[j] (lw.2 ⟨j,by omega,rfl⟩);omega
 rw[this]
theorem nL{p:α->Bool}{E:List α}(cM:∀x∈E,p x=false):sH p E= -1:=by
 rw[sH,if_neg]
 grind
theorem tV(p:α->Bool)(E:List α):decide (0<=sH p E)=E.any p:=by
 unfold sH
 grind
theorem lY(p:α->Bool)(E:List α):(sH p E= -1/\∀x∈E,p x=false)\/∃(i:Nat) (h:i<E.length),sH p E=i/\p E[i]=true/\∀x∈E.take i,p x=false:=by
 by_cases h:E.any p=true
 ·refine .inr ?_
  have bH:E.findIdx p<E.length:=List.findIdx_lt_length.2 (dh.1 h);refine⟨E.findIdx p,bH,by rw[sH,aC h],List.findIdx_getElem,λx hx=>?_⟩;obtain⟨j,hj,rfl⟩:=lw.1 hx
  grind
 ·refine .inl ⟨by rw[sH,if_neg h],λx hx=>?_⟩
  grind
end
theorem bi.ret{P:Program}{f:FuncId}{args r:List CV}{m:aD}{R:List CV->aD->Prop}(h:bi P f args m R)(k:∀r' m',R r' m'->r'=r/\cL m m'):eN P f args m r:=by
 refine⟨h.1,λha W hW=>(h.2 ha W hW).mono λe W' ⟨r',m',h1,h2,h3,h4⟩=>?_⟩;obtain⟨rfl,hs⟩:=k _ _ h3;exact⟨_,m,h1,h2,⟨rfl,rfl⟩,h4.H9 hs⟩
end Go.E
namespace Go.E.Y
open Go.Proofs
def mV(p:Int):Int:=if 0<=p/\p<21 then(if p=0 then 0 else if p<5 then 1 else 2)else-1
theorem ag2{p:Int}(h:0<=p/\p<21):mV (Tr.up p)=mV p-1:=by
 unfold mV Tr.up
 repeat' split
 all_goals omega
theorem FK(p:Int): -1<=mV p/\mV p<=2:=by
 unfold mV
 repeat' split
 all_goals omega
variable{m:aD}
theorem u3{p:Int}:eN tP 210 [i64 p] m [i64 (mV p)]:=by
 refine ub Tryz.func210 ?_;refine .mk (ι:=Int) (λq=>(mV q+1).toNat) (λq mm=>mm=m) (λq=>[(3,.c (i64 (mV p-mV q-1))),(4,.c (i64 q))]) (λ_=>[]) p rfl ?_ ?_
 ·conv=>whnf
  repeat (refine And.intro (by first|with_reducible rfl|(first|exact cI (show(-1:Int)=mV p-mV p-1 by omega))|exact cI (wi)|exact wi|rfl) ?_;conv=>whnf)
  exact xT
 rintro q mm he;subst mm;refine bt (rA) ?_;have h1:=FK q;have h2:=FK p;apply bI<;>intro h
 ·have h':=ah h
  have hu:=ag2 h';have h3:=FK (Tr.up q);refine bt (Jo) ?_;refine⟨Tr.up q,rfl,by omega,?_⟩;conv=>whnf
  repeat (refine And.intro (by first|with_reducible rfl|(first|exact cI (by rw[wi];omega))|exact cI (wi)|exact wi|rfl) ?_;conv=>whnf)
  exact xT
 ·have h':=aj h
  have e:mV q= -1:=by unfold mV;rw[if_neg h']
  exact⟨by rw[e];simp,rfl⟩
def BY(l:List Int)(n:Int)(i:Nat):Bool:=decide (mV (l.getD i 0)=n)&&(decide (i=0)||decide (l.getD (i-1) 0<l.getD i 0))
def iR(l:List Int)(n:Int):Bool:=(List.range l.length).all (BY l n)&&decide (0<l.length)
theorem Ay{k n:Nat}{f:Nat->Bool}(hk:k<n)(h:f k=false):(List.range n).all f=false:=by
 rw[uI];exact⟨k,dS.2 hk,by rw[h];decide⟩
theorem xZ{n:Nat}{f:Nat->Bool}(h:∀k,k<n->f k=true):(List.range n).all f=true:=bL.2 λk hk=>h k (dS.1 hk)
theorem ly{l:List Int}{i:Nat}(h:i<l.length):l[i]=l.getD i 0:=by rw[aI,az h];rfl
theorem sC{v:Value}{l:List Int}{n:Int}(hv:Ia m v l)(hl:l.length<=1000000):eN tP 130 [.v v,i64 n] m [bR (iR l n)]:=by
 obtain⟨a,c,rfl⟩:=hv.shape;refine ub Tryz.func130 ?_;refine .mk (ι:=Nat) (λi=>l.length-i) (λi mm=>i<=l.length/\(∀k,k<i->BY l n k=true)/\mm=m) (λi=>[(0,.c (.v (.slice a l.length c))),(1,.c (i64 n)),(7,.c (.v (.slice a l.length c))),(8,.c (i64 l.length)),(9,.c (i64 i))]) (λ_=>[]) 0 ⟨by omega,by omega,rfl⟩ ?_ ?_
 ·exact Cr
 rintro i mm⟨hi,cM,he⟩;subst mm;apply bI<;>intro h
 ·have h':=ah h
  have bH:i<l.length:=by omega
  obtain⟨bl,ol,c',hh,hg⟩:=hv.real bH;injection hh with eK _ fN;subst eK;have wA:=hg i bH;rw[ly bH]at wA
  repeat refine xS ?_
  refine⟨_,wA,rfl,?_⟩;refine bt (u3) ?_;have uK:BY l n i=false->iR l n=false:=λhb=>by rw[iR,Ay bH hb];rfl
  have Oe:BY l n i=true->∀k,k<i+1->BY l n k=true:=λhb k hk=>by
   rcases Nat.lt_or_ge k i with q|q
   ·exact cM k q
   ·rw[show k=i by omega];exact hb
  unfold BY at uK Oe;have e1:(mV (l.getD i 0)!=n)= !decide (mV (l.getD i 0)=n):=by rw[bne,qO]
  apply bI<;>intro h2
  ·rw[e1]at h2
   refine⟨by rw[uK (by simp at h2;simp[h2])],rfl⟩
  ·rw[e1]at h2
   have iD:decide (mV (l.getD i 0)=n)=true:=by cases hd:decide (mV (l.getD i 0)=n)<;>rw[hd]at h2<;>first|rfl|cases h2
   rw[iD,bj]at uK Oe;apply bI<;>intro h3
   ·have yF:=ah h3
    obtain⟨j,rfl⟩:∃j,i=j+1:=⟨i-1,by omega⟩;have Ag:=hg j (by omega);rw[ly (show j<l.length by omega)]at Ag;have ej:IntKind.i64.wrap (((j+1:Nat):Int)-1)=(j:Int):=by rw[wi];omega
    conv=>whnf
    rw[ej]
    repeat refine xS ?_
    refine⟨_,Ag,rfl,?_⟩;apply bI<;>intro h4
    ·have Ai:=ah h4
     refine⟨by rw[uK (by rw[show j+1-1=j from rfl,aY (show ¬l.getD j 0<l.getD (j+1) 0 by omega)];simp)],rfl⟩
    ·have Ai:=aj h4
     refine⟨j+1+1,⟨by omega,Oe (by rw[show j+1-1=j from rfl,bB (show l.getD j 0<l.getD (j+1) 0 by omega)];simp),rfl⟩,by omega,?_⟩;exact Cr
   ·have yF:=aj h3
    obtain rfl:i=0:=by omega
    refine⟨0+1,⟨by omega,Oe (by simp),rfl⟩,by omega,?_⟩;exact Cr
 ·have h':=aj h
  obtain rfl:i=l.length:=by omega
  refine⟨?_,rfl⟩;rw[iR,xZ cM];simp
theorem vZ{n:Int}:eN tP 133 [i64 n] m [bR (rB n 1 8)]:=by
 refine ub Tryz.func133 ?_;refine⟨λh=>?_,λh=>?_⟩<;>conv=>whnf
 all_goals exact⟨by rw[rB,h];rfl,rfl⟩
end Go.E.Y
namespace Go.E
variable{l:List aD}
theorem aq.tQ{mm p:aD}{k:List aD}(hs:aq mm (p::l))(h:aq p k):aq mm (k++l):=
 (aq.under (a:=l) (hs.fm (dY (l₁:=[p]) (l₂:=l))) h).fm dY
theorem aq.fb{mm p:aD}(h:aq mm (p::l)):∃q,(∀x∈l,cL x q)/\aq mm [p,q]/\∀m' k,aq m' (k++[q])->aq m' (k++l):=by
 have h2:aq (gY l) l:=⟨λ_ _ h=>h,(bh.1 h.2).2⟩;refine⟨gY l,λx hx=>h2.sub hx,⟨λx o hx=>?_,?_⟩,λm' k hk=>aq.under hk h2⟩
 ·refine h.1 x o ?_
  simpa [gY,Zn]using hx
 ·refine bh.2 ⟨λy hy=>?_,Fu _ _⟩
  rw[aL.1 hy];intro x;rcases hp:p x with _|o
  ·grind
  ·refine .inr (pM.2 λa ha=>?_)
   rcases(bh.1 h.2).1 a ha x with h|h
   (simp_all;omega)
theorem aq.ir{m:aD}(h:aq m l)(is:List Nat)(hn:is.Nodup:=by decide)(hb:∀i∈is,i<l.length:=by simp):aq m (is.map λi=>l.getD i iI):=by
 have hg:∀i∈is,∃h:i<l.length,l.getD i iI=l[i]:=λi hi=>⟨hb i hi,by rw[aI,az (hb i hi)];rfl⟩;refine⟨λx o hx=>?_,?_⟩
 ·obtain⟨a,ha,AH⟩:=eQ hx
  obtain⟨i,hi,rfl⟩:=aV.1 ha;obtain⟨q,e⟩:=hg i hi;simp only[e]at AH;exact h.sub (aO q) _ _ AH
 ·rw[cG]
  refine hn.imp_of_mem λ{i j} hi hj ZD=>?_;obtain⟨q,e⟩:=hg i hi;obtain⟨q',e'⟩:=hg j hj;rw[e,e'];rcases Nat.lt_or_gt_of_ne ZD with k|k
  ·exact dz.1 h.2 i j q q' k
  ·exact(dz.1 h.2 j i q' q k).symm
end Go.E
namespace Go.E.Y
open Go.Proofs
structure Ty(α:Type) where
 enc:α->List Value
 (s sl el by':Nat)
 (ts ti:TI)
 (ok:fp enc s)
 (h1:tt.get sl=some ts)
 (h2:ts.k= .slice el)
 (h3:tt.get el=some ti)
 (h4:ti.size=s)
 (h5:ti.bytes=by')
 (h6:(LB.cz ti.zero).length=s)
 (h7:by'<=1000)
 (h8:s<=1000)
variable{m m':aD}{b:Nat}
theorem yt{o:Obj}(h:m b=some o)(hs:cL m m'):y3 [b] m m':=λx hx=>by rw[aL.1 hx,h,hs _ _ h]
theorem akV{b2:Nat}{o o2:Obj}(h:m b=some o)(h2:m b2=some o2)(hs:cL m m'):y3 [b,b2] m m':=λx hx=>by
 simp only[aU,fG,rH]at hx;rcases hx with rfl|rfl
 ·rw[h,hs _ _ h]
 ·rw[h2,hs _ _ h2]
variable {α:Type}{t:Ty α}
def Gl(t:Ty α)(m:aD)(v:Value)(E:List α):Prop:=gq m t.s v (E.flatMap t.enc)
def Gw(t:Ty α)(m:aD)(v:Value)(E:List α):Prop:=mf m t.el t.s v (E.flatMap t.enc)
def Ga(t:Ty α)(m:aD)(v:Value)(E:List α):Prop:=Gl t m v E\/(E=[]/\∃a,v= .slice (some a) 0 0)
variable{v:Value}{E:List α}
theorem Gl.sub(h:Gl t m v E)(hs:cL m m'):Gl t m' v E:=gq.sub h hs
theorem Gw.el(h:Gw t m v E):Gl t m v E:=mf.ky h
theorem Gl.ea(h:Gl t m v E):Ga t m v E:=.inl h
theorem Gw.ea(h:Gw t m v E):Ga t m v E:=h.el.ea
theorem Ga.sub(h:Ga t m v E)(hs:cL m m'):Ga t m' v E:=h.imp (·.sub hs) id
theorem Gw.nil(m:aD):Gw t m (.slice none 0 0) []:=.inl ⟨rfl,rfl⟩
theorem Ga.nil(m:aD):Ga t m (.slice none 0 0) []:=(Gw.nil m).ea
theorem Gl.shape(h:Gl t m v E):∃a c,v= .slice a E.length c:=t.ok.shape h
theorem Ga.shape(h:Ga t m v E):∃a c,v= .slice a E.length c:=by
 rcases h with h|⟨rfl,a,rfl⟩
 ·exact h.shape
 simp_all
theorem Ga.el(h:Ga t m v E)(hl:0<E.length):Gl t m v E:=h.elim id λh=>by rw[h.1]at hl;simp at hl
variable{i:Nat}
theorem Ga.real(h:Ga t m v E)(hi:i<E.length):∃b o c,v= .slice (some ⟨b,o,none⟩) E.length c/\∀j (hj:j<E.length),dQ m b (o+j*t.s) (t.enc E[j]):=by
 rcases h with h|⟨rfl,_⟩
 ·exact t.ok.real h hi
 ·simp at hi
theorem Ga.none{m:aD}{E:List α}{n c:Nat}(h:Ga t m (.slice none n c) E):E=[]:=by
 rcases h with(⟨c',e,h⟩|⟨b,o,c',n,arr,t,fr,e,_⟩)|⟨h,_⟩
 ·exact cB (t.ok.count (n:=0) (by rw[h];simp))
 ·cases e
 ·exact h
theorem Ga.fg{m:aD}{v:Value}{E:List α}(h:Ga t m v E):fg v=E.length:=by obtain⟨a,c,rfl⟩:=h.shape;rfl
theorem Ga.one(h:Ga t m v E):v.oneCell'=true:=by obtain⟨a,c,rfl⟩:=h.shape;rfl
theorem Ga.vh{e:TypeId}(h:Ga t m v E):s5 m t.s (.slice e) v (E.flatMap t.enc):=.inl ⟨e,rfl,h.imp id λ⟨h1,h2⟩=>⟨by rw[h1];rfl,h2⟩⟩
theorem amn{p:aD}{ls:List aD}{x:Value}{news:List α}(hs:aq m ls)(hi:ls[i]?=some p) (hv:Gw t p v E) (hg:Ga t m x news) (hb:E.length+news.length<=10000000):
  bF tP (.builtin .append [t.sl,t.sl]) [.v v,.v x] m λr m'=>∃v' p',r=[.v v']/\aq m' (ls.set i p')/\Gw t p' v' (E++news):=by
 have e1:=hv.el.ea.fg;have e2:=hg.fg;have pY:mf p t.el t.ti.size v (E.flatMap t.enc):=by rw[t.h4];exact hv
 have h7:=t.h7;have qB:(2*(E.length+news.length)+768)*t.by'<=(2*(E.length+news.length)+768)*1000:=iV _ h7
 refine(kC (news:=news.flatMap t.enc) eR t.h1 t.h2 t.h3 t.h1 (by rw[t.h6,t.h4]) hs hi pY (by rw[t.h2,t.h4];exact hg.vh) (by rw[e1,e2,t.h5];omega) (by rw[e1,e2];omega)).mono λr m' ⟨v',p',q1,q2,q3⟩=>⟨v',p',q1,q2,?_⟩;have:=q3.ux;rw[t.h4,<-dx]at this;exact this
theorem ajT:bF tP (.buildSlice t.sl 0 []) [] m λr m'=>∃b,m b=none/\r=[.v (.slice (some ⟨b,0,none⟩) 0 0)]/\m'=m.set b (.cells #[] t.el):=mu eR t.h1 t.h2 t.h3
theorem AL{x:CV}{e:α}(hx:x.cs=t.enc e):bF tP (.buildSlice t.sl 1 [0]) [x] m λr m'=>∃b,m b=none/\r=[.v (.slice (some ⟨b,0,none⟩) 1 1)]/\m'=m.set b (.cells (t.enc e).toArray t.el):=by
 refine(dm (n:=1) eR t.h1 t.h2 t.h3 rfl rfl (by simp[hx,t.h4,t.ok.len]) (by have:=t.h8;rw[t.h4];omega) (by have:=t.ok.pos;rw[t.h4];omega)).mono λr m' ⟨b,e1,e2,e3⟩=>⟨b,e1,e2,?_⟩;rw[e3,show fl [x]=t.enc e by simp[fl,hx]]
theorem Gw.blk1{e:α}(h:m b=some (.cells (t.enc e).toArray t.el)):Gw t m (.slice (some ⟨b,0,none⟩) 1 1) [e]:=
 .inr ⟨b,0,1,1,_,rfl,h,by simp[t.ok.len],aW _,by simp[t.ok.len],λj u hu=>by rw[cD,bz];simpa using hu,t.ok.DW⟩
theorem Gw.blk0(h:m b=some (.cells #[] t.el)):Gw t m (.slice (some ⟨b,0,none⟩) 0 0) []:=
 .inr ⟨b,0,0,0,_,rfl,h,by simp,aW _,by simp,λj u hu=>by simp at hu,t.ok.DW⟩
theorem Az{p:aD}{ls:List aD}{b':Nat}{x:α}{y:Value}(hs:aq m ls)(hi:ls[i]?=some p) (hb:m b'=none) (hy:Gw t p y E) (hl:E.length<=1000000):
  bF tP (.builtin .append [t.sl,t.sl]) [.v y,.v (.slice (some ⟨b',0,none⟩) 1 1)] (m.set b' (.cells (t.enc x).toArray t.el)) λr m'=>∃y' p',r=[.v y']/\aq m' (ls.set i p')/\Gw t p' y' (E++[x]):=by
 have bM:=hs.new hb (.cells (t.enc x).toArray t.el);exact(amn (i:=i+1) bM (by simpa using hi) hy (Gw.blk1 (aD.bg ..)).el.ea (by simp;omega)).mono λr m' ⟨v',p',h1,h2,h3⟩=>⟨v',p',h1,h2.dV 0,h3⟩
end Go.E.Y
namespace Go.E
namespace ua
abbrev M:Nat:=4294967296
def lA(x n:Nat):Nat:=(x*2^(32-n))%M|||x/2^n
def s0(x:Nat):Nat:=lA x 7 ^^^ lA x 18 ^^^ x/8
def s1(x:Nat):Nat:=lA x 17 ^^^ lA x 19 ^^^ x/1024
def S1(x:Nat):Nat:=lA x 6 ^^^ lA x 11 ^^^ lA x 25
def S0(x:Nat):Nat:=lA x 2 ^^^ lA x 13 ^^^ lA x 22
def ch(e f g:Nat):Nat:=(e&&& f) ^^^ ((4294967295-e)&&& g)
def maj(a b c:Nat):Nat:=(a&&& b) ^^^ (a&&& c) ^^^ (b&&& c)
def K:List Nat:=[
 0x428a2f98,0x71374491,0xb5c0fbcf,0xe9b5dba5,0x3956c25b,0x59f111f1,0x923f82a4,0xab1c5ed5,
 0xd807aa98,0x12835b01,0x243185be,0x550c7dc3,0x72be5d74,0x80deb1fe,0x9bdc06a7,0xc19bf174,
 0xe49b69c1,0xefbe4786,0x0fc19dc6,0x240ca1cc,0x2de92c6f,0x4a7484aa,0x5cb0a9dc,0x76f988da,
 0x983e5152,0xa831c66d,0xb00327c8,0xbf597fc7,0xc6e00bf3,0xd5a79147,0x06ca6351,0x14292967,
 0x27b70a85,0x2e1b2138,0x4d2c6dfc,0x53380d13,0x650a7354,0x766a0abb,0x81c2c92e,0x92722c85,
 0xa2bfe8a1,0xa81a664b,0xc24b8b70,0xc76c51a3,0xd192e819,0xd6990624,0xf40e3585,0x106aa070,
 0x19a4c116,0x1e376c08,0x2748774c,0x34b0bcb5,0x391c0cb3,0x4ed8aa4a,0x5b9cca4f,0x682e6ff3,
 0x748f82ee,0x78a5636f,0x84c87814,0x8cc70208,0x90befffa,0xa4506ceb,0xbef9a3f7,0xc67178f2]
def H0:List Nat:=[0x6a09e667,0xbb67ae85,0x3c6ef372,0xa54ff53a,0x510e527f,0x9b05688c,0x1f83d9ab,0x5be0cd19]
def Pb(b w:List Nat)(t:Nat):Nat:=
 if t<16 then b.getD (4*t) 0*16777216+b.getD (4*t+1) 0*65536+b.getD (4*t+2) 0*256+b.getD (4*t+3) 0
 else(w.getD (t-16) 0+s0 (w.getD (t-15) 0)+w.getD (t-7) 0+s1 (w.getD (t-2) 0))%M
def iJ(b:List Nat):Nat->List Nat
 |0=>[]
 |t+1=>iJ b t++[Pb b (iJ b t) t]
def step(k w:Nat)(v:List Nat):List Nat:=
 let x:=(v.getD 7 0+S1 (v.getD 4 0)+ch (v.getD 4 0) (v.getD 5 0) (v.getD 6 0)+k+w)%M
 let y:=(S0 (v.getD 0 0)+maj (v.getD 0 0) (v.getD 1 0) (v.getD 2 0))%M
 [(x+y)%M,v.getD 0 0,v.getD 1 0,v.getD 2 0,(v.getD 3 0+x)%M,v.getD 4 0,v.getD 5 0,v.getD 6 0]
def vS(w v:List Nat):Nat->List Nat
 |0=>v
 |t+1=>step (K.getD t 0) (w.getD t 0) (vS w v t)
def CK(h v:List Nat):List Nat:=(List.range 8).map λi=>(h.getD i 0+v.getD i 0)%M
def block(h b:List Nat):List Nat:=CK h (vS (iJ b 64) h 64)
def fx(n:Nat):Nat:=(119-n%64)%64
def be8(n:Nat):List Nat:=(List.range 8).map λi=>n/256^(7-i)%256
def Ab(b:List Nat):List Nat:=b++[128]++List.replicate (fx b.length) 0++be8 (8*b.length)
def ke(h:List Nat):Nat->List Nat->List Nat
 |0,_=>h
 |n+1,p=>ke (block h (p.take 64)) n (p.drop 64)
def mJ(h:List Nat):List Nat:=(List.range 32).map λi=>h.getD (i/4) 0/256^(3-i%4)%256
def sum(b:List Nat):List Nat:=mJ (ke H0 ((Ab b).length/64) (Ab b))
def uW(b:List Nat):Nat:=(List.range 8).foldl (λn i=>n*256+(sum b).getD i 0) 0
end ua
end Go.E
namespace Go.E.Y
open Go.Proofs
abbrev u32(n:Int):CV:=.v (.int .u32 n)
variable{n:Nat}
theorem abP(h1:1<=n)(h2:n<=31):cp .and .u64 (IntKind.u64.wrap (IntKind.i64.wrap (0-(n:Int)))) 31=((32-n:Nat):Int):=by
 have e:IntKind.u64.wrap (IntKind.i64.wrap (0-(n:Int)))=((18446744073709551616-n:Nat):Int):=by
  rw[wi,IntKind.wrap_u64];omega
 have e2:=OK (a:=18446744073709551616-n) (b:=31) (by omega) (by omega);rw[e];refine e2.trans ?_;have:(18446744073709551616-n)&&& 31=(18446744073709551616-n)%2^5:=Nat.and_two_pow_sub_one_eq_mod (18446744073709551616-n) 5;omega
variable{x:Nat}
theorem FE(hn:n<=32):nC .u32 (x:Int) (n:Int)=((x*2^n%ua.M:Nat):Int):=by
 show IntKind.u32.wrap ((x:Int)*2^(min ((n:Int).toNat) 32))=_
 rw[aA,gH hn,IntKind.wrap_u32]
 grind
theorem lx(hx:x<2^32):ua.lA x n<2^32:=oO (fo _ (by decide)) (ny (za ..) hx)
variable{m:aD}
theorem YG(h1:1<=n)(h2:n<=31)(hx:x<2^32):eN tP 460 [u32 x,i64 (IntKind.i64.wrap (0-(n:Int)))] m [u32 ((ua.lA x n:Nat):Int)]:=by
 refine ub Tryz.func460 ?_;conv=>whnf
 rw[abP h1 h2]
 repeat (refine xS ?_;conv=>whnf)
 have e1:IntKind.u64.wrap (32-((32-n:Nat):Int))=(n:Int):=by rw[wu];omega
 rw[e1]
 repeat refine xS ?_
 refine⟨?_,rfl⟩;rw[FE (by omega),nZ (by show n<=32;omega)];have:=Ng (a:=x*2^(32-n)%ua.M) (b:=x/2^n) (fo _ (by decide)) (ny (za ..) hx);rw[this];rfl
theorem ka(h1:1<=n)(h2:n<=31)(hx:x<2^32):eN tP 434 [u32 x,i64 n] m [u32 ((ua.lA x n:Nat):Int)]:=by
 refine ub Tryz.func434 ?_;refine bt (YG h1 h2 hx) ?_;exact rR
theorem Sp:eN tP 432 [] m [.a [.bG .u32 64 (ua.K.map λ(n:Nat)=>(n:Int))]]:=by
 refine ub Tryz.func432 ?_;exact rR
theorem Vp:eN tP 373 [] m [.a [.bG .u32 8 (ua.H0.map λ(n:Nat)=>(n:Int))]]:=by
 refine ub Tryz.func373 ?_;exact rR
def wc(b:List Nat)(i:Nat):List Int:=(ua.iJ b i).map (λ(n:Nat)=>(n:Int))++List.replicate (64-i) 0
theorem zc(b:List Nat):∀t,(ua.iJ b t).length=t
 |0=>rfl
 |t+1=>by simp[ua.iJ,zc b t]
variable{b:List Nat}{i j:Nat}
theorem aj3(h:j<i):(wc b i).getD j 0=(((ua.iJ b i).getD j 0:Nat):Int):=by
 have hl:=zc b i;simp only[wc,aI]
 grind
theorem abd{x:Int}(h:i<64)(hx:x=((ua.Pb b (ua.iJ b i) i:Nat):Int)):(wc b i).set i x=wc b (i+1):=by
 have hl:=zc b i
 have e:List.replicate (64-i) (0:Int)=0::List.replicate (64-(i+1)) 0:=by
  rw[<-List.replicate_succ];congr 1;omega
 rw[wc,e,fA _ _ (by simp[hl]),wc,ua.iJ,hx];simp[hl]
theorem afS(hb:∀x∈b,x<256)(w:List Nat)(t:Nat):ua.Pb b w t<2^32:=by
 have g:∀k,b.getD k 0<256:=λk=>by
  simp only[aI]
  cases h:b[k]? with
  |none=>simp
  |some x=>simpa using hb x (dJ h)
 unfold ua.Pb
 grind
theorem Pa{b:List Nat}(hb:∀x∈b,x<256):∀(t:Nat) (k:Nat),(ua.iJ b t).getD k 0<2^32
 |0,k=>by simp[ua.iJ]
 |t+1,k=>by
  have ih:=Pa hb t k;have hl:=zc b t;simp only[ua.iJ,aI]at ih⊢;rcases Nat.lt_trichotomy k t with h|h|h
  ·rw[aT (by omega)];exact ih
  ·subst h;rw[bJ (by omega),hl];simpa using afS hb _ _
  ·rw[jr (by simp;omega)];simp
variable{b o c:Nat}{l:List Int}
theorem Lb.at(h:Lb m (.slice (some ⟨b,o,none⟩) n c) l){x:Int}(hj:l[j]?=some x):gR m b (o+j)=some (.int .u8 x):=by
 obtain⟨arr,t,fr,h1,h2⟩:=h.range;exact aF h1 (h2 j _ (by simp[hj]))
variable{a:Nat}
theorem ait{d:Nat}(ha:a<256)(hb:b<256)(hc:c<256)(hd:d<256):
  ((a*2^24%4294967296|||b*2^16%4294967296)|||c*2^8%4294967296)|||d=a*16777216+b*65536+c*256+d:=by
 have q24:(2:Nat)^24=16777216:=rfl;have q16:(2:Nat)^16=65536:=rfl;have q8:(2:Nat)^8=256:=rfl;have m1:=@Dp a (b*65536) 24
 have m2:=@Dp (a*256+b) (c*256) 16
 have m3:=@Dp (a*65536+b*256+c) d 8
 grind
theorem aiu{d:Nat}(ha:a<256)(hb:b<256)(hc:c<256)(hd:d<256):
  cp .or .u32 (cp .or .u32 (cp .or .u32 (nC .u32 (a:Int) 24) (nC .u32 (b:Int) 16)) (nC .u32 (c:Int) 8)) (d:Int)=((a*16777216+b*65536+c*256+d:Nat):Int):=by
 have ea:=FE (x:=a) (n:=24) (by decide);have eb:=FE (x:=b) (n:=16) (by decide);have ec:=FE (x:=c) (n:=8) (by decide);rw[show((24:Int))=((24:Nat):Int) from rfl,show((16:Int))=((16:Nat):Int) from rfl,show((8:Int))=((8:Nat):Int) from rfl,ea,eb,ec];have p1:a*2^24%ua.M<2^32:=fo _ (by decide);have p2:b*2^16%ua.M<2^32:=fo _ (by decide);have p3:c*2^8%ua.M<2^32:=fo _ (by decide);rw[Ng p1 p2,Ng (oO p1 p2) p3,Ng (oO (oO p1 p2) p3) (fR hd (by decide)),ait ha hb hc hd]
variable{bs:List Nat}
theorem Cd(hn:0<n)(hb:∀x∈bs,x<n)(k:Nat):bs.getD k 0<n:=by
 simp only[aI]
 cases h:bs[k]? with
 |none=>simpa using hn
 |some x=>simpa using hb x (dJ h)
theorem w32(h:a<256):IntKind.u32.wrap (a:Int)=(a:Int):=XY (by omega) (by omega)
theorem Ts(hb:∀x∈bs,x<256)(hi:i<16){w:List Nat}:
  cp .or .u32 (cp .or .u32 (cp .or .u32 (nC .u32 (IntKind.u32.wrap ((bs.getD (4*i+0) 0:Nat):Int)) 24) (nC .u32 (IntKind.u32.wrap ((bs.getD (4*i+1) 0:Nat):Int)) 16)) (nC .u32 (IntKind.u32.wrap ((bs.getD (4*i+2) 0:Nat):Int)) 8)) (IntKind.u32.wrap ((bs.getD (4*i+3) 0:Nat):Int))
   =((ua.Pb bs w i:Nat):Int):=by
 have g:=Cd (by decide) hb;rw[w32 (g _),w32 (g _),w32 (g _),w32 (g _),aiu (g _) (g _) (g _) (g _),ua.Pb,aC hi,gO]
theorem oH(a b:Nat):IntKind.u32.wrap ((a:Int)+(b:Int))=(((a+b)%ua.M:Nat):Int):=by
 rw[IntKind.wrap_u32,<-Int.natCast_add];rfl
theorem aoz(hx:x<2^32):cp .xor .u32 (cp .xor .u32 ((ua.lA x 7:Nat):Int) ((ua.lA x 18:Nat):Int)) (oV .u32 (x:Int) 3)=((ua.s0 x:Nat):Int):=by
 have e:=nZ (k:=.u32) (x:=x) (n:=3) (by decide);rw[show((3:Int))=((3:Nat):Int) from rfl,e,pS (lx hx) (lx hx),pS (jB (lx hx) (lx hx)) (ny (za ..) hx)];rfl
theorem aoy(hx:x<2^32):cp .xor .u32 (cp .xor .u32 ((ua.lA x 17:Nat):Int) ((ua.lA x 19:Nat):Int)) (oV .u32 (x:Int) 10)=((ua.s1 x:Nat):Int):=by
 have e:=nZ (k:=.u32) (x:=x) (n:=10) (by decide);rw[show((10:Int))=((10:Nat):Int) from rfl,e,pS (lx hx) (lx hx),pS (jB (lx hx) (lx hx)) (ny (za ..) hx)];rfl
theorem atf(a b c d:Nat):(((a+b)%ua.M+c)%ua.M+d)%ua.M=(a+b+c+d)%ua.M:=by show(((a+b)%4294967296+c)%4294967296+d)%4294967296=(a+b+c+d)%4294967296;omega
theorem Tq(hw:∀k,(ua.iJ bs i).getD k 0<2^32)(hi:16<=i):
  IntKind.u32.wrap (IntKind.u32.wrap (IntKind.u32.wrap ((((ua.iJ bs i).getD (i-16) 0:Nat):Int)+cp .xor .u32 (cp .xor .u32 ((ua.lA ((ua.iJ bs i).getD (i-15) 0) 7:Nat):Int) ((ua.lA ((ua.iJ bs i).getD (i-15) 0) 18:Nat):Int)) (oV .u32 (((ua.iJ bs i).getD (i-15) 0:Nat):Int) 3))+(((ua.iJ bs i).getD (i-7) 0:Nat):Int))
   +cp .xor .u32 (cp .xor .u32 ((ua.lA ((ua.iJ bs i).getD (i-2) 0) 17:Nat):Int) ((ua.lA ((ua.iJ bs i).getD (i-2) 0) 19:Nat):Int)) (oV .u32 (((ua.iJ bs i).getD (i-2) 0:Nat):Int) 10))=((ua.Pb bs (ua.iJ bs i) i:Nat):Int):=by
 rw[aoz (hw _),aoy (hw _),oH,oH,oH,atf,ua.Pb,if_neg (by omega)]
theorem Px(hl:bs.length=64)(hb:∀x∈bs,x<256)(hv:Lb m (.slice (some ⟨b,o,none⟩) 64 c) (bs.map λ(n:Nat)=>(n:Int)))(hc:64<=c):
  eN tP 433 [.v (.slice (some ⟨b,o,none⟩) 64 c)] m [.a [.bG .u32 64 ((ua.iJ bs 64).map λ(n:Nat)=>(n:Int))]]:=by
 refine A4 avS Tryz.func433 ?_
 refine .mk (ι:=Nat) (λi=>16-i) (λi mm=>i<=16/\mm=m) (λi=>[(0,.c (.v (.slice (some ⟨b,o,none⟩) 64 c))),(2,.p 0 0),(3,.p 1 0),(9,.c (i64 i))])
  (λi=>[(511,[.bG .u32 64 (List.replicate 64 0)]),(511,[.bG .u32 64 (wc bs i)])]) 0 ⟨by omega,rfl⟩ ?_ ?_
 ·exact Cr
 rintro i mm⟨hi,he⟩;subst mm;apply bI<;>intro h
 ·have h':=ah h
  have bH:i<16:=by omega
  have e4:IntKind.i64.wrap (4*(i:Int))=((4*i:Nat):Int):=by rw[wi];omega
  conv=>whnf
  rw[e4]
  repeat refine xS ?_
  intro o' ho _;obtain rfl:o'=o+4*i:=by have:=ho (by omega);rw[aA]at this;simpa using this
  have ld:∀k,k<4->gR m b (o+4*i+k)=some (.int .u8 ((bs.getD (4*i+k) 0:Nat):Int)):=λk hk=>by
   have:=Lb.at hv (j:=4*i+k) (x:=((bs.getD (4*i+k) 0:Nat):Int)) (by simp[az (show 4*i+k<bs.length by omega)]);rw[gi];exact this
  repeat refine xS ?_
  refine⟨_,ld 0 (by decide),rfl,?_⟩
  repeat refine xS ?_
  refine⟨_,ld 1 (by decide),rfl,?_⟩
  repeat refine xS ?_
  refine⟨_,ld 2 (by decide),rfl,?_⟩
  repeat refine xS ?_
  refine⟨_,ld 3 (by decide),rfl,?_⟩
  repeat refine xS ?_
  refine⟨i+1,⟨by omega,rfl⟩,by omega,?_⟩;conv=>whnf
  repeat (refine And.intro (by first|with_reducible rfl|(first|exact cI (qJ (by omega))|exact abd (by omega) (Ts hb bH))|exact cI (wi)|exact wi|rfl) ?_;conv=>whnf)
  exact xT
 ·have h':=aj h
  obtain rfl:i=16:=by omega
  refine .mk (ι:=Nat) (λi=>64-i) (λi mm=>16<=i/\i<=64/\mm=m) (λi=>[(2,.p 0 0),(3,.p 1 0),(6,.c (i64 i))])
   (λi=>[(511,[.bG .u32 64 (List.replicate 64 0)]),(511,[.bG .u32 64 (wc bs i)])]) 16 ⟨by omega,by omega,rfl⟩ ?_ ?_
  ·exact Cr
  rintro i mm⟨Ja,hi,he⟩;subst mm;apply bI<;>intro h
  ·have h':=ah h
   have bH:i<64:=by omega
   have hw:=Pa hb i;have sb:∀k:Nat,1<=k->k<=16->IntKind.i64.wrap ((i:Int)-(k:Int))=((i-k:Nat):Int):=λk h1 h2=>by rw[wi];omega
   have gt:∀k:Nat,1<=k->k<=16->(wc bs i).getD (i-k) 0=(((ua.iJ bs i).getD (i-k) 0:Nat):Int):=λk h1 h2=>aj3 (by omega);conv=>whnf
   rw[show IntKind.i64.wrap ((i:Int)-15)=_ from sb 15 (by decide) (by decide)]
   repeat (refine xS ?_;conv=>whnf)
   rw[show IntKind.i64.wrap ((i:Int)-2)=_ from sb 2 (by decide) (by decide)]
   repeat (refine xS ?_;conv=>whnf)
   rw[show IntKind.i64.wrap ((i:Int)-16)=_ from sb 16 (by decide) (by decide)]
   repeat (refine xS ?_;conv=>whnf)
   simp only[bK,aA,gt 15 (by decide) (by decide),gt 2 (by decide) (by decide),gt 16 (by decide) (by decide)];rw[show IntKind.i64.wrap ((i:Int)-7)=_ from sb 7 (by decide) (by decide)]
   repeat refine xS ?_
   simp only[aA,gt 7 (by decide) (by decide)];refine fU (ka (n:=7) (by decide) (by decide) (hw _)) ?_;refine fU (ka (n:=18) (by decide) (by decide) (hw _)) ?_;refine fU (ka (n:=17) (by decide) (by decide) (hw _)) ?_;refine fU (ka (n:=19) (by decide) (by decide) (hw _)) ?_
   repeat refine xS ?_
   refine⟨i+1,⟨by omega,by omega,rfl⟩,by omega,?_⟩;conv=>whnf
   repeat (refine And.intro (by first|with_reducible rfl|(first|exact cI (qJ (by omega))|exact abd (by omega) (Tq hw Ja))|exact cI (wi)|exact wi|rfl) ?_;conv=>whnf)
   exact xT
  ·have h':=aj h
   obtain rfl:i=64:=by omega
   exact⟨by simp[wc],rfl⟩
abbrev nc(l:List Nat):List Int:=l.map λ(n:Nat)=>(n:Int)
theorem mH(l:List Nat):(nc l).length=l.length:=by simp
theorem KG(a b:ByteArray):(a.toList==b.toList)=decide (a=b):=by
 by_cases h:a=b
 ·subst h;simp
 ·rw[aY h]
  refine beq_eq_false_iff_ne.2 λe=>h ?_;rw[ByteArray.toList_eq,ByteArray.toList_eq]at e
  cases a;cases b
  congr 1
  exact Array.toList_inj.1 e
theorem Hj(l:List Nat)(k:Nat):(nc l).getD k 0=((l.getD k 0:Nat):Int):=by
 simp only[nc,aI,cj]
 cases l[k]?<;>rfl
structure W8(v:List Nat):Prop where
 len:v.length=8
 lt:∀k,v.getD k 0<2^32
variable{v:List Nat}
theorem af7{k w:Nat}(h:W8 v):W8 (ua.step k w v):=by
 refine⟨rfl,λj=>Cd (by decide) (λx hx=>?_) j⟩;simp only[ua.step,aU,fG,rH]at hx;rcases hx with rfl|rfl|rfl|rfl|rfl|rfl|rfl|rfl
 ·exact fo _ (by decide)
 ·exact h.lt 0
 ·exact h.lt 1
 ·exact h.lt 2
 ·exact fo _ (by decide)
 ·exact h.lt 4
 ·exact h.lt 5
 ·exact h.lt 6
theorem Dd{w v:List Nat}(h:W8 v):∀t,W8 (ua.vS w v t)
 |0=>h
 |t+1=>af7 (Dd h t)
theorem aj0(ha:a<2^32)(hb:b<2^32)(hc:c<2^32):cp .xor .u32 (cp .xor .u32 (a:Int) (b:Int)) (c:Int)=((a ^^^ b ^^^ c:Nat):Int):=by
 rw[pS ha hb,pS (jB ha hb) hc]
theorem IT(ha:a<2^32):a&&& b<2^32:=ny Nat.and_le_left ha
theorem arc{e f g:Nat}(he:e<2^32)(hf:f<2^32)(hg:g<2^32):
  cp .xor .u32 (cp .and .u32 (e:Int) (f:Int)) (cp .and .u32 (cp .xor .u32 (if IntKind.u32.signed=true then-1 else IntKind.u32.max) (e:Int)) (g:Int))=((ua.ch e f g:Nat):Int):=by
 have hn:4294967295-e<2^32:=by omega
 rw[agL he,zR he hf,zR hn hg,pS (IT he) (IT hn)];rfl
theorem akK(ha:a<2^32)(hb:b<2^32)(hc:c<2^32):
  cp .xor .u32 (cp .xor .u32 (cp .and .u32 (a:Int) (b:Int)) (cp .and .u32 (a:Int) (c:Int))) (cp .and .u32 (b:Int) (c:Int))=((ua.maj a b c:Nat):Int):=by
 rw[zR ha hb,zR ha hc,zR hb hc,aj0 (IT ha) (IT ha) (IT hb)];rfl
theorem ate(a b c d e:Nat):((((a+b)%ua.M+c)%ua.M+d)%ua.M+e)%ua.M=(a+b+c+d+e)%ua.M:=by
 show((((a+b)%4294967296+c)%4294967296+d)%4294967296+e)%4294967296=(a+b+c+d+e)%4294967296;omega
theorem asM(h:W8 v)(k w:Nat):
  IntKind.u32.wrap (IntKind.u32.wrap (IntKind.u32.wrap (IntKind.u32.wrap (((v.getD 7 0:Nat):Int)+cp .xor .u32 (cp .xor .u32 ((ua.lA (v.getD 4 0) 6:Nat):Int) ((ua.lA (v.getD 4 0) 11:Nat):Int)) ((ua.lA (v.getD 4 0) 25:Nat):Int))
   +cp .xor .u32 (cp .and .u32 ((v.getD 4 0:Nat):Int) ((v.getD 5 0:Nat):Int)) (cp .and .u32 (cp .xor .u32 (if IntKind.u32.signed=true then-1 else IntKind.u32.max) ((v.getD 4 0:Nat):Int)) ((v.getD 6 0:Nat):Int)))+(k:Int))+(w:Int))
   =(((v.getD 7 0+ua.S1 (v.getD 4 0)+ua.ch (v.getD 4 0) (v.getD 5 0) (v.getD 6 0)+k+w)%ua.M:Nat):Int):=by
 rw[aj0 (lx (h.lt 4)) (lx (h.lt 4)) (lx (h.lt 4)),arc (h.lt 4) (h.lt 5) (h.lt 6),oH,oH,oH,oH,ate];rfl
theorem asL(h:W8 v):
  IntKind.u32.wrap (cp .xor .u32 (cp .xor .u32 ((ua.lA (v.getD 0 0) 2:Nat):Int) ((ua.lA (v.getD 0 0) 13:Nat):Int)) ((ua.lA (v.getD 0 0) 22:Nat):Int)
   +cp .xor .u32 (cp .xor .u32 (cp .and .u32 ((v.getD 0 0:Nat):Int) ((v.getD 1 0:Nat):Int)) (cp .and .u32 ((v.getD 0 0:Nat):Int) ((v.getD 2 0:Nat):Int))) (cp .and .u32 ((v.getD 1 0:Nat):Int) ((v.getD 2 0:Nat):Int)))
   =(((ua.S0 (v.getD 0 0)+ua.maj (v.getD 0 0) (v.getD 1 0) (v.getD 2 0))%ua.M:Nat):Int):=by
 rw[aj0 (lx (h.lt 0)) (lx (h.lt 0)) (lx (h.lt 0)),akK (h.lt 0) (h.lt 1) (h.lt 2),oH];rfl
theorem af8(h:W8 v){k w:Nat}:[IntKind.u32.wrap (IntKind.u32.wrap (IntKind.u32.wrap (IntKind.u32.wrap (IntKind.u32.wrap (((v.getD 7 0:Nat):Int)+cp .xor .u32 (cp .xor .u32 ((ua.lA (v.getD 4 0) 6:Nat):Int) ((ua.lA (v.getD 4 0) 11:Nat):Int)) ((ua.lA (v.getD 4 0) 25:Nat):Int))
   +cp .xor .u32 (cp .and .u32 ((v.getD 4 0:Nat):Int) ((v.getD 5 0:Nat):Int)) (cp .and .u32 (cp .xor .u32 (if IntKind.u32.signed=true then-1 else IntKind.u32.max) ((v.getD 4 0:Nat):Int)) ((v.getD 6 0:Nat):Int)))+(k:Int))+(w:Int))+IntKind.u32.wrap (cp .xor .u32 (cp .xor .u32 ((ua.lA (v.getD 0 0) 2:Nat):Int) ((ua.lA (v.getD 0 0) 13:Nat):Int)) ((ua.lA (v.getD 0 0) 22:Nat):Int)
   +cp .xor .u32 (cp .xor .u32 (cp .and .u32 ((v.getD 0 0:Nat):Int) ((v.getD 1 0:Nat):Int)) (cp .and .u32 ((v.getD 0 0:Nat):Int) ((v.getD 2 0:Nat):Int))) (cp .and .u32 ((v.getD 1 0:Nat):Int) ((v.getD 2 0:Nat):Int)))),
   ((v.getD 0 0:Nat):Int),((v.getD 1 0:Nat):Int),((v.getD 2 0:Nat):Int),
   IntKind.u32.wrap (((v.getD 3 0:Nat):Int)+IntKind.u32.wrap (IntKind.u32.wrap (IntKind.u32.wrap (IntKind.u32.wrap (((v.getD 7 0:Nat):Int)+cp .xor .u32 (cp .xor .u32 ((ua.lA (v.getD 4 0) 6:Nat):Int) ((ua.lA (v.getD 4 0) 11:Nat):Int)) ((ua.lA (v.getD 4 0) 25:Nat):Int))
   +cp .xor .u32 (cp .and .u32 ((v.getD 4 0:Nat):Int) ((v.getD 5 0:Nat):Int)) (cp .and .u32 (cp .xor .u32 (if IntKind.u32.signed=true then-1 else IntKind.u32.max) ((v.getD 4 0:Nat):Int)) ((v.getD 6 0:Nat):Int)))+(k:Int))+(w:Int))),
   ((v.getD 4 0:Nat):Int),((v.getD 5 0:Nat):Int),((v.getD 6 0:Nat):Int)]=nc (ua.step k w v):=by
 rw[asM h,asL h,oH,oH];rfl
variable{h:List Nat}
theorem agV{B:List Nat}(hh:h.length=8)(hi:i<8):((nc B).take i++(nc h).drop i).getD i 0=((h.getD i 0:Nat):Int)\/B.length<i:=by
 by_cases hb:B.length<i
 ·exact .inr hb
 ·left
  have hl:((nc B).take i).length=i:=by simp;omega
  simp only[aI];rw[bJ (by omega),hl,kF,cT,gO,cj,az (by omega)];rfl
theorem IX(h v:List Nat):(ua.CK h v).length=8:=by simp[ua.CK]
theorem acN{x:List Nat}(hh:h.length=8)(hi:i<8):((nc (ua.CK x v)).take i++(nc h).drop i).getD i 0=((h.getD i 0:Nat):Int):=
 (agV hh hi).resolve_right (by rw[IX];omega)
theorem agU(hh:h.length=8)(hi:i<8):((nc (ua.CK h v)).take i++(nc h).drop i).set i (((h.getD i 0+v.getD i 0)%ua.M:Nat):Int)=(nc (ua.CK h v)).take (i+1)++(nc h).drop (i+1):=by
 have hl:((nc (ua.CK h v)).take i).length=i:=by simp[IX];omega
 have hB:(nc (ua.CK h v)).length=8:=by simp[IX]
 have e:(nc h).drop i=(((h.getD i 0:Nat):Int))::(nc h).drop (i+1):=by
  rw[qD (by simp;omega)];simp[az (show i<h.length by omega)]
 rw[e,fA _ _ (by omega),hl,kF,s7,au (by omega),aX];simp[ua.CK]
theorem VR(hl:bs.length=64)(hb:∀x∈bs,x<256)(hv:Lb m (.slice (some ⟨b,o,none⟩) 64 c) (nc bs))(hc:64<=c)(hh:W8 h):
  eN tP 376 [.a [.bG .u32 8 (nc h)],.v (.slice (some ⟨b,o,none⟩) 64 c)] m [.a [.bG .u32 8 (nc (ua.block h bs))]]:=by
 refine A4 avV Tryz.func376 ?_;refine fU (Sp) ?_;refine fU (Px hl hb hv hc) ?_
 refine .mk (ι:=Nat) (λi=>64-i) (λi mm=>i<=64/\mm=m) (λi=>[(2,.p 0 0),(4,.p 1 0),(5,.p 2 0),(6,.p 3 0),(7,.p 4 0),(19,.c (i64 i))])
  (λi=>[(463,[.bG .u32 8 (nc h)]),(463,[.bG .u32 8 (List.replicate 8 0)]),(511,[.bG .u32 64 (nc ua.K)]),(511,[.bG .u32 64 (nc (ua.iJ bs 64))]),(463,[.bG .u32 8 (nc (ua.vS (ua.iJ bs 64) h i))])]) 0 ⟨by omega,rfl⟩ ?_ ?_
 ·exact Cr
 rintro i mm⟨hi,he⟩;subst mm;apply bI<;>intro h1
 ·have jc:=ah h1
  have bH:i<64:=by omega
  have hw:=Dd (w:=ua.iJ bs 64) hh i;generalize hvv:ua.vS (ua.iJ bs 64) h i=v at hw⊢
  repeat refine xS ?_
  simp only[Hj,bK,aA,cD,eG];refine fU (ka (n:=6) (by decide) (by decide) (hw.lt 4)) ?_;refine fU (ka (n:=11) (by decide) (by decide) (hw.lt 4)) ?_;refine fU (ka (n:=25) (by decide) (by decide) (hw.lt 4)) ?_;conv=>whnf
  simp only[Hj];refine fU (ka (n:=2) (by decide) (by decide) (hw.lt 0)) ?_;refine fU (ka (n:=13) (by decide) (by decide) (hw.lt 0)) ?_;refine fU (ka (n:=22) (by decide) (by decide) (hw.lt 0)) ?_;refine⟨i+1,⟨by omega,rfl⟩,by omega,?_⟩;rw[show ua.vS (ua.iJ bs 64) h (i+1)=ua.step (ua.K.getD i 0) ((ua.iJ bs 64).getD i 0) v by rw[<-hvv];rfl];simp only[Hj,cD,eG];conv=>whnf
  repeat (refine And.intro (by first|with_reducible rfl|(first|exact cI (qJ (by omega))|exact af8 hw)|exact cI (wi)|exact wi|rfl) ?_;conv=>whnf)
  exact xT
 ·have jc:=aj h1
  obtain rfl:i=64:=by omega
  have hw:=Dd (w:=ua.iJ bs 64) hh 64;have hB:ua.block h bs=ua.CK h (ua.vS (ua.iJ bs 64) h 64):=rfl
  refine .mk (ι:=Nat) (λi=>8-i) (λi mm=>i<=8/\mm=m) (λi=>[(2,.p 0 0),(4,.p 1 0),(99,.c (.a [.bG .u32 8 (nc (ua.vS (ua.iJ bs 64) h 64))])),(100,.c (i64 i))])
   (λi=>[(463,[.bG .u32 8 ((nc (ua.block h bs)).take i++(nc h).drop i)]),(463,[.bG .u32 8 (List.replicate 8 0)])]) 0 ⟨by omega,rfl⟩ ?_ ?_
  ·exact Cr
  rintro i mm⟨hi,he⟩;subst mm;generalize ua.vS (ua.iJ bs 64) h 64=v at hw hB⊢;apply bI<;>intro h1
  ·have jc:=ah h1
   have bH:i<8:=by omega
   repeat refine xS ?_
   simp only[Hj,bK,aA,hB,acN hh.len bH];refine⟨i+1,⟨by omega,by trivial⟩,by omega,?_⟩;conv=>whnf
   repeat (refine And.intro (by first|with_reducible rfl|(first|exact cI (qJ (by omega))|(rw[oH];exact agU hh.len bH))|exact cI (wi)|exact wi|rfl) ?_;conv=>whnf)
   exact xT
  ·have jc:=aj h1
   obtain rfl:i=8:=by omega
   refine⟨?_,rfl⟩;rw[bP (by simp[ua.block,ua.CK]),kG (by simp[hh.len]),cO]
def dgc(h:List Nat)(n:Nat):List Int:=(nc (ua.mJ h)).take n++List.replicate (32-n) 0
theorem Iv(h:List Nat):(ua.mJ h).length=32:=by simp[ua.mJ]
theorem ah7{k:Nat}(hi:i<8)(hk:k<4):(dgc h (4*i+k)).set (4*i+k) ((h.getD i 0/256^(3-k)%256:Nat):Int)=dgc h (4*i+(k+1)):=by
 have hB:(nc (ua.mJ h)).length=32:=by simp[Iv]
 have hl:((nc (ua.mJ h)).take (4*i+k)).length=4*i+k:=by rw[aK];omega
 have e:List.replicate (32-(4*i+k)) (0:Int)=0::List.replicate (32-(4*i+(k+1))) 0:=by
  rw[<-List.replicate_succ];congr 1;omega
 have d1:(4*i+k)/4=i:=by omega
 have d2:(4*i+k)%4=k:=by omega
 rw[dgc,e,fA _ _ (by omega),hl,kF,s7,dgc,show 4*i+(k+1)=4*i+k+1 by omega,au (by omega),aX];simp[ua.mJ,d1,d2]
theorem ail{k:Nat}(hk:k<4):IntKind.u8.wrap (oV .u32 (x:Int) ((24-8*k:Nat):Int))=((x/256^(3-k)%256:Nat):Int):=by
 rw[nZ (by show 24-8*k<=32;omega),IntKind.wrap_u8]
 have:2^(24-8*k)=256^(3-k):=by
  rw[show(256:Nat)=2^8 from rfl,<-Nat.pow_mul];congr 1;omega
 rw[this];rfl
theorem Se:eN tP 377 [.a [.bG .u32 8 (nc h)]] m [.a [.bG .u8 32 (nc (ua.mJ h))]]:=by
 refine ub Tryz.func377 ?_
 refine .mk (ι:=Nat) (λi=>8-i) (λi mm=>i<=8/\mm=m) (λi=>[(2,.p 1 0),(3,.p 2 0),(7,.c (.a [.bG .u32 8 (nc h)])),(8,.c (i64 i))])
  (λi=>[(463,[.bG .u32 8 (nc h)]),(33,[.bG .u8 32 (List.replicate 32 0)]),(33,[.bG .u8 32 (dgc h (4*i))])]) 0 ⟨by omega,rfl⟩ ?_ ?_
 ·exact Cr
 rintro i mm⟨hi,he⟩;subst mm;apply bI<;>intro h1
 ·have jc:=ah h1
  have bH:i<8:=by omega
  repeat refine xS ?_
  simp only[Hj,bK,aA]
  refine .mk (ι:=Nat) (λk=>4-k) (λk mm=>k<=4/\mm=m) (λk=>[(2,.p 1 0),(3,.p 2 0),(4,.c (i64 i)),(5,.c (u32 ((h.getD i 0:Nat):Int))),(7,.c (.a [.bG .u32 8 (nc h)])),(8,.c (i64 i)),(12,.c (i64 k))])
   (λk=>[(463,[.bG .u32 8 (nc h)]),(33,[.bG .u8 32 (List.replicate 32 0)]),(33,[.bG .u8 32 (dgc h (4*i+k))])]) 0 ⟨by omega,rfl⟩ ?_ ?_
  ·exact Cr
  rintro k mm⟨hk,he⟩;subst mm;apply bI<;>intro h2
  ·have iD:=ah h2
   have hkt:k<4:=by omega
   have e1:IntKind.i64.wrap (IntKind.i64.wrap (4*(i:Int))+(k:Int))=((4*i+k:Nat):Int):=by rw[wi (n:=4*(i:Int)) (by omega) (by omega),wi];omega
   have e2:IntKind.i64.wrap (24-IntKind.i64.wrap (8*(k:Int)))=((24-8*k:Nat):Int):=by rw[wi (n:=8*(k:Int)) (by omega) (by omega),wi];omega
   conv=>whnf
   rw[e1,e2]
   repeat refine xS ?_
   simp only[bK,aA,ail hkt];refine⟨k+1,⟨by omega,by trivial⟩,by omega,?_⟩;conv=>whnf
   repeat (refine And.intro (by first|with_reducible rfl|(first|exact cI (qJ (by omega))|exact ah7 bH hkt)|exact cI (wi)|exact wi|rfl) ?_;conv=>whnf)
   exact xT
  ·have iD:=aj h2
   obtain rfl:k=4:=by omega
   refine⟨i+1,⟨by omega,by trivial⟩,by omega,?_⟩;conv=>whnf
   repeat (refine And.intro (by first|with_reducible rfl|(first|exact cI (qJ (by omega))|rfl)|exact cI (wi)|exact wi|rfl) ?_;conv=>whnf)
   exact xT
 ·have jc:=aj h1
  obtain rfl:i=8:=by omega
  refine⟨?_,rfl⟩;rw[dgc,bP (by simp[Iv])];simp
theorem Dx(a b:List Nat):nc (a++b)=nc a++nc b:=by simp[nc]
theorem O1{k:Nat}(hk:k<=ua.fx n):(n+1+k)%64=56↔k=ua.fx n:=by
 unfold ua.fx at*;omega
theorem CG(n:Nat):(ua.be8 n).length=8:=by simp[ua.be8]
theorem aeY(hj:j<8):IntKind.u8.wrap (oV .u64 (n:Int) ((8*(7-j):Nat):Int))=((n/256^(7-j)%256:Nat):Int):=by
 rw[nZ (by show 8*(7-j)<=64;omega),IntKind.wrap_u8];have:2^(8*(7-j))=256^(7-j):=by rw[show(256:Nat)=2^8 from rfl,<-Nat.pow_mul]
 rw[this];rfl
theorem aeX(hj:j<8):(ua.be8 n).take j++[n/256^(7-j)%256]=(ua.be8 n).take (j+1):=by
 rw[au (by rw[CG];exact hj)];simp[ua.be8]
variable{l:List Nat}{v:Value}{ps:List (Value×List Int)}
theorem P5(h:jL m v ps)(Ve:oT ps=nc l)(hb:l.length<=9000000)(hn:ps.length<=10000000):
  bi tP 375 [.v v] m λr m'=>∃v' p,r=[.v v']/\aq m' [p,m]/\Bs p v' (nc (ua.Ab l)):=by
 have hlen:(oT ps).length=l.length:=by rw[Ve];simp
 refine ub Tryz.func375 ?_;refine aP (EX h (by omega) hn) ?_;rintro _ m1⟨v1,p1,rfl,bM,lZ⟩;conv=>whnf
 rw[Ve]at lZ;obtain⟨a1,c1,rfl⟩:=lZ.lb.shape;refine .mk _ (Bt) ?_;rintro _ _⟨b',qB,rfl,rfl⟩;refine .mk _ (Bs.one bM qB lZ (by simp;omega)) ?_;rintro _ m2⟨v2,p2,rfl,bZ,lD⟩;have hz:ua.fx l.length<64:=fo _ (by decide);have en:IntKind.u64.wrap (IntKind.u64.wrap ((l.length:Nat):Int)*8)=((8*l.length:Nat):Int):=by rw[wu (n:=((l.length:Nat):Int)) (by omega) (by omega),wu];omega
 refine .mk (ι:=Nat×Value) (λi=>ua.fx l.length-i.1) (λ⟨k,x⟩ mm=>k<=ua.fx l.length/\∃p,aq mm [p,m]/\Bs p x (nc (l++[128]++List.replicate k 0))) (λ⟨k,x⟩=>[(3,.c (.v x)),(4,.c (u64 ((8*l.length:Nat):Int)))]) (λ_=>[]) (0,v2) ⟨by omega,p2,bZ,by simpa using lD⟩ ?_ ?_
 ·conv=>whnf
  repeat (refine And.intro (by first|with_reducible rfl|((first|exact cI en|(simp only[nc,aH];exact cI en)))|exact cI (wi)|exact wi|rfl) ?_;conv=>whnf)
  exact xT
 rintro⟨k,x⟩ mm ⟨hk,p,hs,hx⟩;obtain⟨a,c,rfl⟩:=hx.lb.shape;have ZA:(nc (l++[128]++List.replicate k 0)).length=l.length+1+k:=by simp;omega
 rw[ZA]at hx⊢;have aqZ:Int.tmod ((l.length+1+k:Nat):Int) 64=(((l.length+1+k)%64:Nat):Int):=by rw[Int.tmod_eq_emod_of_nonneg (by omega)];omega
 apply bI<;>intro h1
 ·have ga:k≠ua.fx l.length:=by
   intro e;have:=(O1 hk).2 e;simp only[aqZ,this]at h1
   revert h1;decide
  refine .mk _ (Bt) ?_;rintro _ _⟨b',qB,rfl,rfl⟩;refine .mk _ (Bs.one hs qB hx (by simp;omega)) ?_;rintro _ m3⟨v3,p3,rfl,dy,tX⟩;refine⟨(k+1,v3),⟨by omega,p3,dy,?_⟩,by simp only;omega,?_⟩
  ·have e:nc (l++[128]++List.replicate (k+1) 0)=nc (l++[128]++List.replicate k 0)++[0]:=by
    rw[List.replicate_succ',<-aX,Dx];rfl
   rw[e];exact tX
  ·exact Cr
 ·have hke:k=ua.fx l.length:=by
   refine(O1 hk).1 ?_;simp only[aqZ]at h1;have:=h1;simp at this;omega
  subst hke;refine .mk (ι:=Nat×Value) (λi=>8-i.1) (λ⟨j,x⟩ mm=>j<=8/\∃p,aq mm [p,m]/\Bs p x (nc (l++[128]++List.replicate (ua.fx l.length) 0++(ua.be8 (8*l.length)).take j))) (λ⟨j,x⟩=>[(3,.c (.v x)),(4,.c (u64 ((8*l.length:Nat):Int))),(5,.c (i64 (7-(j:Int))))]) (λ_=>[]) (0,_) ⟨by omega,p,hs,by simpa using hx⟩ ?_ ?_
  ·exact Cr
  rintro⟨j,x⟩ mm ⟨hj,p,hs,hx⟩;apply bI<;>intro h2
  ·have iD:=ah h2
   have hjt:j<8:=by omega
   have ej:IntKind.i64.wrap (8*(7-(j:Int)))=((8*(7-j):Nat):Int):=by rw[wi];omega
   conv=>whnf
   rw[ej]
   repeat (refine xS ?_;conv=>whnf)
   rw[aeY hjt];refine .mk _ (Bt) ?_;rintro _ _⟨b',qB,rfl,rfl⟩;refine .mk _ (Bs.one hs qB hx (by simp[CG];omega)) ?_;rintro _ m3⟨v3,p3,rfl,dy,tX⟩;refine⟨(j+1,v3),⟨by omega,p3,dy,?_⟩,by simp only;omega,?_⟩
   ·have e:nc (l++[128]++List.replicate (ua.fx l.length) 0++(ua.be8 (8*l.length)).take (j+1))=nc (l++[128]++List.replicate (ua.fx l.length) 0++(ua.be8 (8*l.length)).take j)++[((8*l.length/256^(7-j)%256:Nat):Int)]:=by
     rw[<-aeX hjt,<-aX,Dx (l++[128]++List.replicate (ua.fx l.length) 0++(ua.be8 (8*l.length)).take j)];rfl
    rw[e];exact tX
   ·conv=>whnf
    repeat (refine And.intro (by first|with_reducible rfl|(exact cI (by rw[wi];omega))|exact cI (wi)|exact wi|rfl) ?_;conv=>whnf)
    exact xT
  ·have iD:=aj h2
   obtain rfl:j=8:=by omega
   conv=>whnf
   rw[bP (by rw[CG];omega)]at hx;exact⟨_,p,rfl,hs,hx⟩
abbrev cx(b:Nat):CV:=.v (.pointer (some ⟨b,0,none⟩))
theorem VN(hv:v.oneCell'=true):bi tP 374 [.v v,.v (.int .i64 64)] m λr m'=>∃b1 b2,m b1=none/\(m.set b1 (.cells #[v] 100)) b2=none/\
  r=[.v (.func (.func 431) #[] #[.pointer (some ⟨b1,0,none⟩),.pointer (some ⟨b2,0,none⟩)])]/\m'=(m.set b1 (.cells #[v] 100)).set b2 (.cells #[.int .i64 64] 3):=by
 refine A4 avW Tryz.func374 ?_;intro b1 kW;intro b2 oM;refine xM (aD.bg ..) ?_;refine xN ?_;refine .mk _ (df (cs:=[.pointer (some ⟨b1,0,none⟩),.pointer (some ⟨b2,0,none⟩)]) (by simp[Value.oneCell'])) ?_;rintro _ _⟨rfl,rfl⟩;exact⟨b1,b2,kW,oM,rfl,rfl⟩
abbrev Wy(b o k:Nat):CV:=.v (.slice (some ⟨b,o+64*k,none⟩) 64 64)
theorem II{I:Nat->aD->Prop}{l b1 b2 b o n c:Nat}(hn:n<=1000000000)(hc:64*n<=c)
  (hI:∀k m,I k m->m b1=some (.cells #[.slice (some ⟨b,o,none⟩) (64*n) c] 100)/\m b2=some (.cells #[.int .i64 64] 3))
  (hy:∀k m,k<n->I k m->CL tP l [Wy b o k] m λr m'=>r=[.v (.bool true)]/\I (k+1) m') {m:aD} (h0:I 0 m):
  bi tP 431 [.v (.func (.yield l) #[] #[]),cx b1,cx b2] m λr m'=>r=[]/\I n m':=by
 refine A4 avT Tryz.func431 ?_;refine .mk (ι:=Nat) (λk=>n-k) (λk mm=>k<=n/\I k mm) (λk=>[(0,.c (.v (.func (.yield l) #[] #[]))),(1,.c (cx b1)),(2,.c (cx b2)),(4,.c (i64 ((64*k:Nat):Int)))]) (λ_=>[]) 0 ⟨by omega,h0⟩ ?_ ?_
 ·exact Cr
 rintro k mm⟨hk,hi⟩;obtain⟨g1,g2⟩:=hI k mm hi;refine⟨.slice (some ⟨b,o,none⟩) (64*n) c,aF g1 rfl,rfl,?_⟩;apply bI<;>intro h1
 ·have jc:=ah h1
  have bH:k<n:=by omega
  refine⟨.int .i64 64,aF g2 rfl,rfl,?_⟩;refine⟨.slice (some ⟨b,o,none⟩) (64*n) c,aF g1 rfl,rfl,?_⟩;have e:min (64:Int) (((64*n-(((64*k:Nat):Int)).toNat:Nat):Int))=64:=by omega
  repeat refine xS ?_
  intro o1 I8 ho2
  have I8:o1=o+64*k:=by
   by_cases ZI:c=64*k
   ·omega
   ·have:=I8 ZI
    have h2:(({k:=TK.int Go.IntKind.u8,size:=1,bytes:=1,zero:=[eB.one (Value.int Go.IntKind.u8 0)],eq:=false}:TI)).size=1:=rfl;rw[this,h2];omega
  subst o1;refine⟨.slice (some ⟨b,o,none⟩) (64*n) c,aF g1 rfl,rfl,?_⟩;conv=>whnf
  rw[e];have w1:Go.IntKind.wrap .i64 (((64*k:Nat):Int)+64)=((64*k+64:Nat):Int):=wi;rw[w1]
  repeat refine xS ?_
  intro o2 ho3 _;have h2:(({k:=TK.int Go.IntKind.u8,size:=1,bytes:=1,zero:=[eB.one (Value.int Go.IntKind.u8 0)],eq:=false}:TI)).size=1:=rfl
  obtain rfl:o2=o+64*k:=by
   rw[ho3 (by omega),h2];omega
  have w2:(((64*k+64:Nat):Int)).toNat-(((64*k:Nat):Int)).toNat=64:=by omega
  conv=>whnf
  rw[w2];refine .mk _ (hy k mm bH hi) ?_;rintro _ m'⟨rfl,HR⟩;refine xN ?_;refine⟨.int .i64 64,aF (hI _ _ HR).2 rfl,rfl,?_⟩;refine⟨k+1,?_⟩;refine⟨⟨by omega,HR⟩,by omega,?_⟩;rw[w1];exact Cr
  all_goals exact cI (by omega)
 ·have jc:=aj h1
  obtain rfl:k=n:=by omega
  exact⟨rfl,hi⟩
theorem Lb.Wy{l:List Int}(h:Lb m (.slice (some ⟨b,o,none⟩) n c) l)(i len:Nat)(hk:i+len<=l.length):Lb m (.slice (some ⟨b,o+i,none⟩) len len) ((l.drop i).take len):=by
 rcases h.cases with⟨c,h1,h2⟩|⟨b',o',c',arr,t,fr,h1,h2,h3,h4⟩
 ·cases h1
 ·cases h1
  refine Lb.mk h2 (by simp;omega) (aW _) (λj x hj=>?_);rw[bN]at hj
  split at hj
  ·rw[cT]at hj
   rw[gi];exact h4 _ _ hj
  ·cases hj
theorem Lb.cap{l:List Int}(h:Lb m (.slice (some ⟨b,o,none⟩) n c) l):l.length<=c:=by
 rcases h.cases with⟨c,h1,h2⟩|⟨b',o',c',arr,t,fr,h1,h2,h3,h4⟩
 ·cases h1
 ·cases h1;exact h3
theorem yY:∀(k:Nat) (h p:List Nat),ua.ke h (k+1) p=ua.block (ua.ke h k p) ((p.drop (64*k)).take 64)
 |0,h,p=>by simp[ua.ke]
 |k+1,h,p=>by
  rw[ua.ke,yY k,ua.ke,dU]
  congr 3;omega
theorem aiE(h v:List Nat):W8 (ua.CK h v):=by
 refine⟨by simp[ua.CK],λj=>Cd (by decide) (λx hx=>?_) j⟩;simp only[ua.CK,aV]at hx;obtain⟨i,_,rfl⟩:=hx;exact fo _ (by decide)
theorem Md(hh:W8 h)(p:List Nat):∀k,W8 (ua.ke h k p)
 |0=>hh
 |k+1=>by rw[yY];exact aiE _ _
theorem ajZ:W8 ua.H0:=⟨rfl,λj=>Cd (by decide) (by decide) j⟩
theorem ags(l:List Nat):(ua.Ab l).length=64*((ua.Ab l).length/64):=by
 have:(ua.Ab l).length%64=0:=by
  simp only[ua.Ab,ax,List.length_replicate,CG,bd,cW,ua.fx];omega
 omega
theorem aky(l:List Nat):(ua.Ab l).length<=l.length+73:=by
 simp only[ua.Ab,ax,List.length_replicate,CG,bd,cW,ua.fx];omega
theorem aco(h:∀x∈l,x<256):∀x∈ua.Ab l,x<256:=by
 intro x hx;simp only[ua.Ab,aR,aL,List.mem_replicate,ua.be8,aV]at hx;rcases hx with((h1|rfl)|⟨_,rfl⟩)|⟨i,_,rfl⟩
 ·exact h _ h1
 ·decide
 ·decide
 ·exact fo _ (by decide)
theorem G9{old:List Value}{new:LB}{t:TypeId}(hk:old.length<=LB.size new):Obj.cells ((old.toArray).toList.take 0++(LB.cz new++(old.toArray).toList.drop (0+LB.size new))).toArray t= .cells (LB.cz new).toArray t:=by
 have:(old.toArray).toList.drop (0+LB.size new)=[]:=cF (by simpa using hk);rw[this];simp
abbrev Wq(h:List Nat):Obj:=.cells (LB.cz [.bG .u32 8 (nc h)]).toArray 463
abbrev Cv(h:List Int):Obj:=.cells (LB.cz [.bG .u8 32 h]).toArray 33
theorem Gk(h:jL m v ps)(Ve:oT ps=nc l)(hb:l.length<=9000000)(hn:ps.length<=10000000)(xt:∀x∈l,x<256):
  bi tP 333 [.v v] m λr m'=>r=[.a [.bG .u8 32 (nc (ua.sum l))]]/\cL m m':=by
 refine A4 awa Tryz.func333 ?_;intro bo Xj;refine bt (Vp) ?_;intro b3 Ah;refine⟨_,_,_,aD.bg ..,⟨by decide,λj _=>by simp⟩,?_⟩;have hs:=(((aq.one m).new Xj (Cv (List.replicate 32 0))).new Ah (Wq (List.replicate 8 0))).gu (i:=0) rfl (aG ..) (Wq ua.H0);rw[cJ]at hs
 change aq _ [blk1 b3 (Wq ua.H0),blk1 bo (Cv (List.replicate 32 0)),m]at hs
 obtain⟨M1,hM⟩:∃M1,M1=((m.set bo (Cv (List.replicate 32 0))).set b3 (Wq (List.replicate 8 0))).set b3 (Wq ua.H0):=⟨_,rfl⟩;rw[<-hM]at hs
 change nR _ _ _ (((m.set bo (Cv (List.replicate 32 0))).set b3 (Wq (List.replicate 8 0))).set b3 (Wq ua.H0)) _
 rw[<-hM];have LK:cL m M1:=hs.sub (by simp);refine aP (P5 ⟨h.ky.sub LK,λp hp=>(h.la p hp).sub LK⟩ Ve hb hn) ?_;rintro _ m1⟨v',p,rfl,bM,lZ⟩;have bM:=bM.under (a:=[p]) hs;refine aP (VN lZ.lb.one) ?_;rintro _ m2⟨c1,c2,hc1,hc2,rfl,rfl⟩;have bZ:=(bM.new hc1 _).new hc2 (.cells #[.int .i64 64] 3);have CU:=ags l;have hpe:=aky l;have ga:nc (ua.Ab l)≠[]:=by simp[nc,ua.Ab]
 obtain⟨b,o,c,rfl⟩:=lZ.lb.real ga;have yA:=Lb.cap lZ.lb;have wz:(nc (ua.Ab l)).length=(ua.Ab l).length:=by simp
 obtain⟨n,kV⟩:∃n,n=(ua.Ab l).length/64:=⟨_,rfl⟩;rw[<-kV]at CU;rw[wz]at yA;have hlb:=lZ.lb;rw[wz,CU]at hlb bZ⊢
 refine .mk 431 #[.pointer (some ⟨c1,0,none⟩),.pointer (some ⟨c2,0,none⟩)] rfl rfl rfl (ι:=Nat)
  (λk mm=>k<=n/\aq mm [blk1 c2 (.cells #[.int .i64 64] 3),blk1 c1 (.cells #[.slice (some ⟨b,o,none⟩) (64*n) c] 100),p,blk1 b3 (Wq (ua.ke ua.H0 k (ua.Ab l))),blk1 bo (Cv (List.replicate 32 0)),m]) 0 ⟨by omega,bZ⟩
  (λk x j=>x=[Wy b o k]/\j=k+1/\k<n) (λk x j ⟨h1,_⟩=>by subst h1;rfl) ?_
  (λmm=>aq mm [blk1 c2 (.cells #[.int .i64 64] 3),blk1 c1 (.cells #[.slice (some ⟨b,o,none⟩) (64*n) c] 100),p,blk1 b3 (Wq (ua.ke ua.H0 n (ua.Ab l))),blk1 bo (Cv (List.replicate 32 0)),m]) ?_ ?_
 ·rintro k _ _ mm⟨hk,hs⟩ ⟨rfl,rfl,bH⟩
  have hw:=Md ajZ (ua.Ab l) k;refine⟨[.bG .u32 8 (nc (ua.ke ua.H0 k (ua.Ab l)))],⟨show(nc _).length=8 by simp[hw.len],trivial⟩,rfl,dQ.Wl [] [] (hs.get (a:=blk1 b3 (Wq (ua.ke ua.H0 k (ua.Ab l)))) (by simp) (aG ..)) rfl,?_⟩;have hpc:=Lb.Wy (hlb.sub (hs.sub (a:=p))) (64*k) 64 (by rw[wz];omega);have e1:((nc (ua.Ab l)).drop (64*k)).take 64=nc (((ua.Ab l).drop (64*k)).take 64):=by simp only[nc,List.map_drop,jJ]
  rw[e1]at hpc;refine bt (VR (by simp;omega) (λx hx=>aco xt x (fk (bX hx))) hpc (aW _) hw) ?_;have hg:=hs.get (a:=blk1 b3 (Wq (ua.ke ua.H0 k (ua.Ab l)))) (by simp) (aG ..);have Ad:(LB.cz [.bG .u32 8 (nc (ua.ke ua.H0 k (ua.Ab l)))]).length=8:=by simp[LB.cz,eB.cells,hw.len]
  refine⟨_,_,_,hg,⟨by show 0+8<=(LB.cz _).toArray.size;simp only[dM];omega,λj _=>by simp⟩,?_⟩;rw[G9 (by show _<=8;omega)];refine⟨bH,?_⟩;have qW:=hs.gu (i:=3) rfl (aG ..) (Wq (ua.ke ua.H0 (k+1) (ua.Ab l)));rw[cJ]at qW;rw[<-yY];exact qW
 ·intro lb ob _ sI
  refine(II (I:=λk mm=>∃m1,(k<=n/\aq m1 [blk1 c2 (.cells #[.int .i64 64] 3),blk1 c1 (.cells #[.slice (some ⟨b,o,none⟩) (64*n) c] 100),p,blk1 b3 (Wq (ua.ke ua.H0 k (ua.Ab l))),blk1 bo (Cv (List.replicate 32 0)),m])/\m1 lb=none/\mm=m1.set lb ob) (l:=lb) (b1:=c1) (b2:=c2) (b:=b) (o:=o) (n:=n) (c:=c) (by omega) (by omega) ?_ ?_ ⟨_,⟨lF _,bZ⟩,by assumption,rfl⟩).mono ?_
  ·rintro k mm⟨m1,⟨_,hs⟩,hl,rfl⟩
   have g1:=hs.get (a:=blk1 c1 (.cells #[.slice (some ⟨b,o,none⟩) (64*n) c] 100)) (by simp) (aG ..);have g2:=hs.get (a:=blk1 c2 (.cells #[.int .i64 64] 3)) (by simp) (aG ..);exact⟨by rw[aD.eH _ _ (by rintro rfl;rw[hl]at g1;cases g1)];exact g1,by rw[aD.eH _ _ (by rintro rfl;rw[hl]at g2;cases g2)];exact g2⟩
  ·rintro k mm hk⟨m1,hi,hl,rfl⟩
   exact sI k _ _ m1 hi ⟨rfl,rfl,hk⟩ hl
  ·rintro r m'⟨rfl,m1,⟨_,hs⟩,hl,rfl⟩
   exact⟨m1,hs,hl,rfl⟩
 ·intro mm hs
  have hw:=Md ajZ (ua.Ab l) n;refine⟨[.bG .u32 8 (nc (ua.ke ua.H0 n (ua.Ab l)))],⟨show(nc _).length=8 by simp[hw.len],trivial⟩,rfl,dQ.Wl [] [] (hs.get (a:=blk1 b3 (Wq (ua.ke ua.H0 n (ua.Ab l)))) (by simp) (aG ..)) rfl,?_⟩;refine bt (Se) ?_;have hg:=hs.get (a:=blk1 bo (Cv (List.replicate 32 0))) (by simp) (aG ..);refine⟨_,_,_,hg,⟨aW 32,λj _=>by simp⟩,?_⟩;rw[G9 (show(LB.cz [.bG .u8 32 (List.replicate 32 0)]).length<=LB.size [.bG .u8 32 (nc (ua.mJ (ua.ke ua.H0 n (ua.Ab l))))] from aW 32)];have qW:=hs.gu (i:=4) rfl (aG ..) (Cv (nc (ua.mJ (ua.ke ua.H0 n (ua.Ab l)))));rw[cJ]at qW
  change aq _ [_,_,_,_,_,_]at qW
  refine⟨[.bG .u8 32 (nc (ua.mJ (ua.ke ua.H0 n (ua.Ab l))))],⟨show(nc _).length=32 by simp[ua.mJ],trivial⟩,rfl,dQ.Wl [] [] (aD.bg ..) rfl,?_⟩;exact⟨by rw[ua.sum,<-kV],qW.sub⟩
theorem ajS:oT [(v,nc l)]=nc l:=by simp[oT]
def pt(l:List Nat)(i:Nat):Nat:=(List.range i).foldl (λn i=>n*256+(ua.sum l).getD i 0) 0
theorem M4(l:List Nat)(i:Nat):pt l (i+1)=pt l i*256+(ua.sum l).getD i 0:=by simp[pt,Ji]
theorem MA(l:List Nat)(i:Nat):(ua.sum l).getD i 0<256:=by
 refine Cd (by decide) (λx hx=>?_) i;simp only[ua.sum,ua.mJ,aV]at hx;obtain⟨i,_,rfl⟩:=hx;exact fo _ (by decide)
theorem ace(l:List Nat):∀i,pt l i<256^i
 |0=>by simp[pt]
 |i+1=>by
  have:=ace l i;have:=MA l i
  rw[M4,gN];omega
theorem asX(hx:x<72057594037927936):nC .u64 (x:Int) 8=((x*256:Nat):Int):=by
 show IntKind.u64.wrap ((x:Int)*2^(min ((8:Int).toNat) 64))=_
 have:(min ((8:Int).toNat) 64)=8:=by decide
 rw[this,show((2:Int)^8)=256 from rfl,wu];omega
theorem aoJ(hi:i<8):cp .or .u64 (nC .u64 ((pt l i:Nat):Int) 8) (IntKind.u64.wrap (((ua.sum l).getD i 0:Nat):Int))=((pt l (i+1):Nat):Int):=by
 have h1:=ace l i;have h2:(256:Nat)^i<=256^7:=pQ (by decide) (by omega);rw[show(256:Nat)^7=72057594037927936 from rfl]at h2;have h3:=MA l i;rw[M4];generalize pt l i=x at h1⊢;generalize (ua.sum l).getD i 0=y at h3⊢;have hx:x<72057594037927936:=fR h1 h2;rw[asX hx,wu (n:=(y:Int)) (by omega) (by omega),Uo (fR (show x*256<18446744073709551616 by omega) (by decide)) (fR h3 (by decide))];have:=@Dp x y 8 (by simpa using h3)
 rw[show(2:Nat)^8=256 from rfl]at this;rw[this]
theorem GY(hv:La m v (nc l))(hb:l.length<=9000000)(xt:∀x∈l,x<256):
  bi tP 259 [.v v] m λr m'=>r=[.v (.int .u64 ((ua.uW l:Nat):Int))]/\cL m m':=by
 refine A4 awl Tryz.func259 ?_;refine .mk _ (CC) ?_;rintro _ _⟨b1,kW,rfl,rfl⟩;refine aP (Gk (l:=l) (jL.Je (ps:=[(v,nc l)]) (aD.bg ..) rfl (by simpa using hv.sub (aD.bT _ kW))) ajS hb (by simp) xt) ?_;rintro _ m1⟨rfl,bM⟩;intro b2 oM;have hd:(nc (ua.sum l)).length=32:=by simp[ua.sum,ua.mJ]
 refine⟨_,_,_,aD.bg ..,⟨aW 32,λj _=>by simp⟩,?_⟩;rw[G9 (show(LB.cz [.bG .u8 32 (List.replicate 32 0)]).length<=LB.size [.bG .u8 32 (nc (ua.sum l))] from aW 32),aD.set_set];have bZ:cL m1 (m1.set b2 (Cv (nc (ua.sum l)))):=aD.bT _ oM;have LK:cL m (m1.set b2 (Cv (nc (ua.sum l)))):=((aD.bT _ kW).trans bM).trans bZ;have hg:(m1.set b2 (Cv (nc (ua.sum l)))) b2=some (Cv (nc (ua.sum l))):=aD.bg ..;conv=>whnf
 change (0<=(8:Int)/\(8:Int)<=((32:Nat):Int))/\_
 refine⟨by omega,?_⟩;intro o' ho _;obtain rfl:o'=0:=by have:=ho (by decide);simpa using this
 obtain⟨M,hM⟩:∃M,M=m1.set b2 (Cv (nc (ua.sum l))):=⟨_,rfl⟩;conv=>whnf
 rw[<-hM]at hg LK;refine .mk (ι:=Nat) (λi=>8-i) (λi mm=>i<=8/\mm=M) (λi=>[(3,.c (.v (.int .u64 ((pt l i:Nat):Int)))),(10,.c (.v (.slice (some ⟨b2,0,none⟩) 8 32))),(11,.c (i64 8)),(12,.c (i64 i))]) (λ_=>[]) 0 ⟨by omega,hM.symm⟩ ?_ ?_
 ·exact Cr
 rintro i mm⟨hi,he⟩;subst mm;apply bI<;>intro h1
 ·have jc:=ah h1
  have bH:i<8:=by omega
  repeat refine xS ?_
  have JS:gR M b2 (0+i)=some (.int .u8 (((ua.sum l).getD i 0:Nat):Int)):=by
   refine aF hg ?_;simp[LB.cz,eB.cells,az (show i<(ua.sum l).length by simp at hd;omega)]
  refine⟨_,JS,rfl,?_⟩;refine⟨i+1,⟨by omega,by trivial⟩,by omega,?_⟩;conv=>whnf
  repeat (refine And.intro (by first|with_reducible rfl|(first|exact cI (qJ (by omega))|exact cI (aoJ bH))|exact cI (wi)|exact wi|rfl) ?_;conv=>whnf)
  exact xT
 ·have jc:=aj h1
  obtain rfl:i=8:=by omega
  exact⟨rfl,LK⟩
namespace Tr
def jI(t:List Nat)(p:Nat):List Nat:=(t.drop (32*p)).take 32
def put(t:List Nat)(p:Nat)(d:List Nat):List Nat:=t.take (32*p)++d++t.drop (32*p+32)
def below(t:List Nat)(p:Nat):List Nat:=if p<5 then 1::((mI p).flatMap λk=>jI t k.toNat)else[]
structure Ok(t:List Nat):Prop where
 len:t.length=672
 xA:∀x∈t,x<256
variable{t:List Nat}{p:Nat}
theorem Oq(h:t.length=672)(hp:p<21):(jI t p).length=32:=by simp[jI];omega
theorem Ot(h:∀x∈t,x<256)(p:Nat):∀x∈jI t p,x<256:=λx hx=>h x (fk (bX hx))
theorem ab5{d:List Nat}(h:Ok t)(hd:d.length=32)(hb:∀x∈d,x<256)(hp:p<21):Ok (put t p d):=by
 refine⟨by have:=h.len;simp[put];omega,λx hx=>?_⟩;simp only[put,aR]at hx;rcases hx with(hx|hx)|hx
 ·exact h.xA x (bX hx)
 ·exact hb x hx
 ·exact h.xA x (fk hx)
theorem Mf(h:t.length=672):(below t p).length<=129:=by
 unfold below;split
 ·rename_i h5
  unfold mI;rw[aC (by omega)];simp only[dw,List.flatMap_nil,bd,ax,cW,jI,aK];omega
 ·simp
theorem aaq(h:Ok t):∀x∈below t p,x<256:=by
 unfold below;split
 ·intro x hx
  rcases aU.1 hx with rfl|hx
  ·decide
  ·obtain⟨k,_,hk⟩:=iu.1 hx
   exact Ot h.xA _ x hk
 ·simp
end Tr
theorem acH(t:List Nat)(i n:Nat):((nc t).drop i).take n=nc ((t.drop i).take n):=by simp only[nc,List.map_drop,jJ]
abbrev Gf(t:List Nat):CV:=.a [.bG .u8 672 (nc t)]
abbrev ajP(d:List Nat):CV:=.a [.bG .u8 32 (nc d)]
variable{m:aD}
theorem al5{b k:Nat}{t:List Nat}{T:TypeId}{fr:Nat×Nat}(h:m b=some (.cells (LB.cz [.bG .u8 672 (nc t)]).toArray T fr))(ht:t.length=672)(hk:k<21):Lb m (.slice (some ⟨b,k*32,none⟩) 32 32) (nc (Tr.jI t k)):=by
 refine Lb.mk h (by simp[Tr.jI];omega) (aW _) (λj x hj=>?_);rw[Tr.jI,<-acH,bN]at hj
 split at hj
 ·rw[cT,lH]at hj
  simp[LB.cz,eB.cells];simp at hj;obtain⟨y,h1,rfl⟩:=hj;exact⟨y,h1,rfl⟩
 ·cases hj
theorem VS{t:List Nat}{p:Nat}(ht:t.length=672)(hp:p<5):bi tP 361 [Gf t,i64 p] m λr m'=>∃v q,r=[.v v]/\aq m' [q,m]/\Bs q v (nc (Tr.below t p)):=by
 have hk:Tr.mI p=[4*(p:Int)+1,4*(p:Int)+2,4*(p:Int)+3,4*(p:Int)+4]:=by rw[Tr.mI,aC (by omega)]
 refine A4 avY Tryz.func361 ?_;intro b hb;have LK:=(aq.one m).new hb (.cells (LB.cz [.bG .u8 672 (nc t)]).toArray 340);refine aP (LF (p:=(p:Int)) (by omega)) ?_;rintro _ m1⟨v1,q1,rfl,bM,lZ⟩;have bM:=bM.under (a:=[q1]) LK;have bM:aq m1 [q1,_,m]:=bM;obtain⟨a1,c1,rfl⟩:=lZ.il.shape;have hl4:(Tr.mI p).length=4:=by rw[hk];rfl
 rw[hl4]at lZ⊢;refine xN ?_;refine .mk _ (Bt) ?_;rintro _ _⟨b2,oM,rfl,rfl⟩;have bZ:=bM.new oM (.cells (bc [1]).toArray 5);refine .mk (ι:=Nat×Value) (λi=>4-i.1) (λ⟨i,v⟩ mm=>i<=4/\∃q,aq mm [q,q1,blk1 b (.cells (LB.cz [.bG .u8 672 (nc t)]).toArray 340),m]/\Bs q v (nc (1::(((Tr.mI p).take i).flatMap λk=>Tr.jI t k.toNat)))) (λ⟨i,v⟩=>[(2,.c (cx b)),(6,.c (.v v)),(15,.c (.v (.slice a1 4 c1))),(16,.c (i64 4)),(17,.c (i64 i))]) (λ_=>[]) (0,_) ⟨by omega,_,bZ,Bs.Je (l:=[1]) (aG ..) rfl⟩ ?_ ?_
 ·exact Cr
 rintro⟨i,v⟩ mm ⟨hi,q,hs,hv⟩;apply bI<;>intro h1
 ·have jc:=ah h1
  have bH:i<4:=by omega
  have Ae:i<(Tr.mI p).length:=by omega
  have atN:Il mm (.slice a1 (Tr.mI p).length c1) (Tr.mI p):=by rw[hl4];exact lZ.il.sub (hs.sub)
  obtain⟨bk,ok,ck,hh,hg⟩:=atN.real Ae;injection hh with eK _ fN;subst eK;have hg:=hg i Ae
  have hki:(Tr.mI p)[i]=((4*p+i+1:Nat):Int):=by
   simp only[hk];rcases i with _|_|_|_|i<;>simp<;>omega
  have dI:(Tr.mI p).take (i+1)=(Tr.mI p).take i++[((4*p+i+1:Nat):Int)]:=by rw[au Ae,hki]
  rw[hki]at hg;have als:4*p+i+1<21:=by omega
  generalize 4*p+i+1=k at hg dI als
  repeat refine xS ?_
  refine⟨_,by simp only[bK,aA];exact hg,rfl,?_⟩
  repeat refine xS ?_
  intro o' ho _;obtain rfl:o'=k*32:=by have:=ho (by decide);rw[this];simp[bK]
  have NW:=(Tr.Oq ht als);have hlb:=al5 (hs.sub (a:=blk1 b (.cells (LB.cz [.bG .u8 672 (nc t)]).toArray 340)) (by simp) _ _ (aG ..)) ht als
  have Fc:(nc (1::((Tr.mI (p:Int)).take i).flatMap λk=>Tr.jI t k.toNat)).length+(nc (Tr.jI t k)).length<=1000000000:=by
   have h1:=Tr.Mf ht (p:=p)
   have:(nc (1::((Tr.mI (p:Int)).take i).flatMap λk=>Tr.jI t k.toNat)).length<=129:=by
    have h2:Tr.below t p=(1::((Tr.mI (p:Int)).take i).flatMap λk=>Tr.jI t k.toNat)++((Tr.mI (p:Int)).drop i).flatMap λk=>Tr.jI t k.toNat:=by
     rw[Tr.below,aC hp,db,<-dx,dL]
    rw[h2,ax]at h1;rw[aH];omega
   have h3:(nc (Tr.jI t k)).length=32:=by simp[NW]
   omega
  refine .mk _ (nQ (i:=0) hs rfl hv hlb.la Fc) ?_;rintro _ m2⟨v',q',rfl,qW,pY⟩;refine⟨(i+1,v'),⟨by omega,q',qW,?_⟩,by simp only;omega,?_⟩
  ·have:=pY.ux
   rw[<-Dx]at this;rw[dI,dx];simpa using this
  ·exact Cr
 ·have jc:=aj h1
  obtain rfl:i=4:=by omega
  refine⟨v,q,rfl,(hs.dV 1).dV 1,?_⟩;rw[Tr.below,aC hp];rw[bP (by omega)]at hv;exact hv
theorem aqO:∃ti,tt.get 35=some ti/\ti.k= .slice 33:=⟨_,rfl,rfl⟩
theorem hDg:∃ti,tt.get 33=some ti/\ti.size=32/\ti.bytes=32/\(LB.cz ti.zero).length=32:=⟨_,rfl,rfl,rfl,rfl⟩
def IB(D:List (List Nat)):List Value:=D.flatMap λd=>(nc d).map (Value.int .u8)
def D32(D:List (List Nat)):Prop:=∀d∈D,d.length=32
theorem VI(a b:List (List Nat)):IB (a++b)=IB a++IB b:=by simp[IB]
theorem zG:∀{D:List (List Nat)},D32 D->(IB D).length=D.length*32
 |[],_=>rfl
 |d::D,h=>by
  have ih:=zG (D:=D) λx hx=>h x (by simp[hx]);have:=h d (by simp);simp only[IB,dw,ax,aH,bd]at ih⊢;omega
variable{D:List (List Nat)}
theorem ah9:∀u∈IB D,u.oneCell'=true:=by
 intro u hu;obtain⟨d,_,h⟩:=iu.1 hu;obtain⟨x,_,rfl⟩:=aV.1 h;rfl
theorem aez:∀{D:List (List Nat)}{i j:Nat}{u:Value},D32 D->(hi:i<D.length)->((nc D[i]).map (Value.int .u8))[j]?=some u->(IB D)[i*32+j]?=some u
 |d::D,0,j,u,h,_,hu=>by
  have hl:=(aQ.1 hu).1;simp only[IB,dw];rw[aT (by simpa using hl)];simpa using hu
 |d::D,i+1,j,u,h,hi,hu=>by
  have hd:=h d (by simp);have ih:=aez (D:=D) (i:=i) (j:=j) (u:=u) (λx hx=>h x (by simp[hx])) (by simpa using hi) (by simpa using hu);simp only[IB,dw]at ih⊢;rw[bJ (by simp[hd];omega)];simp only[aH,hd];rw[show(i+1)*32+j-32=i*32+j by omega];exact ih
structure Gdl(m:aD)(v:Value)(D:List (List Nat)):Prop where
 ky:gq m 32 v (IB D)
 ok:D32 D
structure I0(m:aD)(v:Value)(D:List (List Nat)):Prop where
 ux:mf m 33 32 v (IB D)
 ok:D32 D
def OO(m:aD)(v:Value)(D:List (List Nat)):Prop:=Gdl m v D\/(D=[]/\∃a,v= .slice (some a) 0 0)
variable{v:Value}
theorem Gdl.sub{m':aD}(h:Gdl m v D)(hs:cL m m'):Gdl m' v D:=⟨h.ky.sub hs,h.ok⟩
theorem I0.dl(h:I0 m v D):Gdl m v D:=⟨h.ux.ky,h.ok⟩
theorem Gdl.da(h:Gdl m v D):OO m v D:=.inl h
theorem OO.sub{m':aD}(h:OO m v D)(hs:cL m m'):OO m' v D:=h.imp (·.sub hs) id
theorem OO.ok(h:OO m v D):D32 D:=by
 rcases h with h|⟨rfl,_⟩
 ·exact h.ok
 ·intro d hd;cases hd
theorem I0.nil(m:aD):I0 m (.slice none 0 0) []:=⟨.inl ⟨rfl,rfl⟩,λd hd=>by cases hd⟩
theorem Gdl.shape(h:Gdl m v D):∃a c,v= .slice a D.length c:=by
 have hl:=zG h.ok;rcases h.ky with⟨c,rfl,e⟩|⟨b,o,c,n,arr,t,fr,rfl,_,e,_⟩
 ·(simp_all;omega)
 grind
theorem OO.shape(h:OO m v D):∃a c,v= .slice a D.length c:=by
 rcases h with h|⟨rfl,a,rfl⟩
 ·exact h.shape
 simp_all
theorem Gdl.real(h:Gdl m v D){i:Nat}(hi:i<D.length):∃b o c,v= .slice (some ⟨b,o,none⟩) D.length c/\∀j (hj:j<D.length),dQ m b (o+j*32) (LB.cz [.bG .u8 32 (nc D[j])]):=by
 have hl:=zG h.ok;rcases h.ky with⟨c,rfl,e⟩|⟨b,o,c,n,arr,t,fr,rfl,g1,e,_,g2,_⟩
 ·grind
 ·have:D.length=n:=by omega
  refine⟨b,o,c,by rw[this],λj hj=>⟨arr,t,fr,g1,λk u hu=>?_⟩⟩;rw[gi];exact g2 _ _ (aez h.ok hj (by simpa [LB.cz,eB.cells]using hu))
theorem OO.real(h:OO m v D){i:Nat}(hi:i<D.length):∃b o c,v= .slice (some ⟨b,o,none⟩) D.length c/\∀j (hj:j<D.length),dQ m b (o+j*32) (LB.cz [.bG .u8 32 (nc D[j])]):=by
 rcases h with h|⟨rfl,_⟩
 ·exact h.real hi
 ·simp at hi
theorem SA{d:List Nat}(hd:d.length=32):bF tP (.buildSlice 35 1 [0]) [ajP d] m λr m'=>∃b,m b=none/\r=[.v (.slice (some ⟨b,0,none⟩) 1 1)]/\m'=m.set b (.cells (IB [d]).toArray 33):=by
 obtain⟨ti,h1,h2⟩:=aqO;obtain⟨ei,g1,g2,g3,g4⟩:=hDg;refine(dm (n:=1) eR h1 h2 g1 rfl rfl (by simp[CV.cs,LB.cz,eB.cells,hd,g2]) (by omega) (by omega)).mono λr m' ⟨b,e1,e2,e3⟩=>⟨b,e1,e2,?_⟩;rw[e3];simp[fl,CV.cs,LB.cz,eB.cells,IB]
theorem acb{p:aD}{ls:List aD}{b':Nat}{d:List Nat}{y:Value}(hs:aq m (p::ls))(hb:m b'=none)(hd:d.length=32)(hy:I0 p y D)(hl:D.length<=10000000):
  bF tP (.builtin .append [35,35]) [.v y,.v (.slice (some ⟨b',0,none⟩) 1 1)] (m.set b' (.cells (IB [d]).toArray 33)) λr m'=>∃y' p',r=[.v y']/\aq m' (p'::ls)/\I0 p' y' (D++[d]):=by
 obtain⟨ti,h1,h2⟩:=aqO;obtain⟨ei,g1,g2,g3,g4⟩:=hDg;have bM:=hs.new hb (.cells (IB [d]).toArray 33);have hds:D32 [d]:=λx hx=>by rw[aL.1 hx];exact hd
 have e1:fg y=D.length:=by obtain⟨a,c,rfl⟩:=hy.dl.shape;rfl
 have e2:fg (.slice (some ⟨b',0,none⟩) 1 1)=1:=rfl;have wz:=zG hds
 have g:s5 (m.set b' (.cells (IB [d]).toArray 33)) ei.size ti.k (.slice (some ⟨b',0,none⟩) 1 1) (IB [d]):=by
  rw[h2,g2];exact .inl ⟨_,rfl,.inl (.inr ⟨b',0,1,1,_,_,_,rfl,aD.bg ..,by rw[wz];rfl,aW _,λj u hu=>by rw[cD,bz];exact hu,ah9⟩)⟩
 have I7:mf p 33 ei.size y (IB D):=by rw[g2];exact hy.ux
 refine(kC eR h1 h2 g1 h1 (by rw[g2,g4]) bM (i:=1) rfl I7 g (by rw[e1,e2,g3];omega) (by rw[e1,e2];omega)).mono λr m' ⟨v',p',q1,q2,q3⟩=>⟨v',p',q1,q2.dV 0,?_,?_⟩
 ·have:=q3.ux
  rw[g2]at this;rw[VI];exact this
 ·intro x hx
  rcases aR.1 hx with hx|hx
  ·exact hy.ok x hx
  grind
theorem akF{a b:List Nat}(h:nc a=nc b):a=b:=by
 have:=be (List.map Int.toNat) h;simpa [nc,Function.comp_def]using this
theorem Ck(n k:Nat)(a b:List Nat):rD [.bG .u8 n (nc a)] [.bG .u8 k (nc b)]=decide (a=b):=by
 by_cases h:a=b
 ·subst h;simp[rD]
 ·have:¬nc a=nc b:=λe=>h (akF e)
  simp only[rD,aY h,mj];exact beq_false_of_ne this
theorem aew(t:List Nat)(k:Nat):((nc t).drop (bK (k:Int) 32)).take 32=nc (Tr.jI t k):=by
 have:bK (k:Int) 32=32*k:=by simp[bK];omega
 rw[this,acH];rfl
theorem ul{l:List Int}(hv:Ia m v l)(hl:l.length<=1000000)(hI:∀x∈l,-9223372036854775808<=x/\x<=9223372036854775807):bi tP 319 [.v v] m λr m'=>∃v' q,r=[.v v']/\aq m' [q,m]/\Io q v' (Tr.fV l):=by
 obtain⟨a,c,rfl⟩:=hv.shape;refine ub Tryz.func319 ?_;refine .mk (ι:=Nat×Value) (λi=>l.length-i.1) (λ⟨i,v⟩ mm=>i<=l.length/\∃q,aq mm [q,m]/\Io q v (Tr.fV (l.take i))) (λ⟨i,v⟩=>[(3,.c (.v v)),(6,.c (.v (.slice a l.length c))),(7,.c (i64 l.length)),(8,.c (i64 i))]) (λ_=>[]) (0,.slice none 0 0) ⟨by omega,iI,(aq.one m).cA,Io.nil _⟩ ?_ ?_
 ·exact Cr
 rintro⟨i,v⟩ mm ⟨hi,q,hs,pY⟩;apply bI<;>intro h1
 ·have jc:=ah h1
  have bH:i<l.length:=by omega
  obtain⟨b,o,c',hh,hg⟩:=hv.real bH;injection hh with eK _ fN;subst eK;have hg:=hg i bH;have hIi:=hI _ (aO bH)
  have dI:Tr.fV (l.take (i+1))=Tr.fV (l.take i)++Tr.mI l[i]:=by
   rw[au bH,Tr.fV,Tr.fV,dx];simp
  have hlen:=Tr.rN (l.take i);have apU:=Tr.QF l[i];have Ac:(l.take i).length<=i:=by rw[aK];omega
  generalize l[i]=x at hg hIi dI apU
  repeat refine xS ?_
  refine⟨_,by simp only[bK,aA];exact nH hg (hs.sub),rfl,?_⟩;refine aP (LF hIi) ?_;rintro _ m1⟨v1,q1,rfl,bM,lZ⟩;have bM:=bM.under (a:=[q1]) hs;refine .mk _ (zQ (i:=1) bM rfl pY (lZ.il.ia.sub (bM.sub)) (by omega)) ?_;rintro _ m2⟨v2,q2,rfl,bZ,lD⟩;refine⟨(i+1,v2),⟨by omega,q2,bZ.dV 0,by rw[dI];exact lD⟩,by simp only;omega,?_⟩;exact Cr
 ·have jc:=aj h1
  obtain rfl:i=l.length:=by omega
  rw[aJ]at pY;exact⟨v,q,rfl,hs,pY⟩
def Pls(l:List Int):Prop:=∀x∈l,-9223372036854775808<=x/\x<=9223372036854775807
namespace Tr
def D8(t:List Nat)(l:List Int):List (List Nat):=(fV l).map λk=>jI t k.toNat
def I6(t:List Nat):List Int->List (List Nat)->List Int
 |k::ks,d::ds=>if jI t k.toNat=d then I6 t ks ds else k::I6 t ks ds
 |_,_=>[]
theorem Ph(t:List Nat):∀{ks:List Int}{ds:List (List Nat)}{k:Int}{d:List Nat},ks.length=ds.length->I6 t (ks++[k]) (ds++[d])=if jI t k.toNat=d then I6 t ks ds else I6 t ks ds++[k]
 |[],[],k,d,_=>by simp[I6]
 |k'::ks,d'::ds,k,d,h=>by
  have ih:=Ph t (ks:=ks) (ds:=ds) (k:=k) (d:=d) (by simpa using h);simp only[db,I6,ih]
  split<;>split<;>simp
theorem BH(t:List Nat):∀{ks:List Int}{ds:List (List Nat)},(I6 t ks ds).length<=ks.length
 |[],_=>by simp[I6]
 |k::ks,[]=>by simp[I6]
 |k::ks,d::ds=>by
  have:=BH t (ks:=ks) (ds:=ds);unfold I6;split
  ·simp only[bd];omega
  ·simp only[bd];omega
end Tr
variable{m:aD}
theorem Cu{t:List Nat}{v:Value}{l:List Int}(ht:t.length=672)(hv:Ia m v l)(hl:l.length<=1000000)(hI:Pls l):bi tP 241 [Gf t,.v v] m λr m'=>∃v' q,r=[.v v']/\aq m' [q,m]/\I0 q v' (Tr.D8 t l):=by
 obtain⟨a,c,rfl⟩:=hv.shape;have Xd:=Tr.rN l
 have zw:∀i (h:i<(Tr.fV l).length),∃k:Nat,(Tr.fV l)[i]=k/\k<21:=λi h=>by
  have:=Tr.QH _ (aO h);exact⟨((Tr.fV l)[i]).toNat,by omega,by omega⟩
 refine ub Tryz.func241 ?_;refine aP (ul hv hl hI) ?_;rintro _ m1⟨v1,q1,rfl,bM,lZ⟩;obtain⟨a1,c1,rfl⟩:=lZ.il.shape;refine .mk (ι:=Nat×Value) (λi=>(Tr.fV l).length-i.1) (λ⟨i,v⟩ mm=>i<=(Tr.fV l).length/\∃q,aq mm [q,q1,m]/\I0 q v (((Tr.fV l).take i).map λk=>Tr.jI t k.toNat)) (λ⟨i,v⟩=>[(2,.p 0 0),(5,.c (.v v)),(9,.c (.v (.slice a1 (Tr.fV l).length c1))),(10,.c (i64 (Tr.fV l).length)),(11,.c (i64 i))]) (λ_=>[(340,[.bG .u8 672 (nc t)])]) (0,.slice none 0 0) ⟨by omega,iI,bM.cA,I0.nil _⟩ ?_ ?_
 ·exact Cr
 rintro⟨i,v⟩ mm ⟨hi,q,hs,pY⟩;apply bI<;>intro h1
 ·have jc:=ah h1
  have bH:i<(Tr.fV l).length:=by omega
  obtain⟨b,o,c',hh,hg⟩:=(lZ.il.sub (hs.sub (a:=q1))).real bH;injection hh with eK _ fN;subst eK;have hg:=hg i bH;obtain⟨k,hk,alr⟩:=zw i bH
  have dI:((Tr.fV l).take (i+1)).map (λk=>Tr.jI t k.toNat)=((Tr.fV l).take i).map (λk=>Tr.jI t k.toNat)++[Tr.jI t k]:=by
   rw[au bH,bD,hk];simp
  rw[hk]at hg
  repeat refine xS ?_
  refine⟨_,by simp only[bK,aA];exact hg,rfl,?_⟩
  repeat refine xS ?_
  simp only[aew];have NW:=Tr.Oq ht alr;refine .mk _ (SA NW) ?_;rintro _ _⟨b2,oM,rfl,rfl⟩;refine .mk _ (acb hs oM NW pY (by simp;omega)) ?_;rintro _ m2⟨v2,q2,rfl,bZ,lD⟩;refine⟨(i+1,v2),⟨by omega,q2,bZ,by rw[dI];exact lD⟩,by simp only;omega,?_⟩;exact Cr
 ·have jc:=aj h1
  obtain rfl:i=(Tr.fV l).length:=by omega
  rw[aJ]at pY;exact⟨v,q,rfl,hs.dV 1,pY⟩
abbrev M62:Int:=4611686018427387904
def U(n:Int):Prop:=0<=n/\n<18446744073709551616
def I(n:Int):Prop:=-9223372036854775808<=n/\n<9223372036854775808
def xn(a b:Int):Int:=min (min a M62+min b M62) M62
abbrev tal(a b:Int):CV:=.a [.one (.int .u64 a),.one (.int .u64 b)]
def V8(l:List Int):Prop:=l.length=8/\∀i,U (l.getD i 0)
def Ha(n:Int):Int:=if n<0 then 0 else n
def sy(n:Int):Int:=if n<0 then-n else 0
variable{a b:Int}
theorem Lp(ha:U a)(hb:U b):eN tP 359 [u64 a,u64 b] m [u64 (xn a b)]:=by
 obtain⟨ha,_⟩:=ha;obtain⟨hb,_⟩:=hb
 refine bW (c:=du) Tryz.func359 rfl ?_;refine⟨?_,rfl⟩;rw[wu];rfl
variable{n:Int}
theorem agC(hn:I n):eN tP 314 [i64 n] m [tal (Ha n) (sy n)]:=by
 obtain⟨h0,h1⟩:=hn;refine bW (c:=du) Tryz.func314 rfl ?_;apply bI<;>intro h
 ·have h':=ah h
  refine⟨?_,rfl⟩;rw[wi (n:=n+1) (by omega) (by omega),wi,wu (n:=0-(n+1)) (by omega) (by omega),wu];simp only[Ha,sy,aC h'];have:0-(n+1)+1= -n:=by omega
  rw[this]
 ·have h':=aj h
  refine⟨?_,rfl⟩;rw[wu];simp only[Ha,sy,if_neg h']
theorem YX{c d:Int}(ha:U a)(hb:U b)(hc:U c)(hd:U d):eN tP 313 [tal a b,tal c d] m [tal (xn a c) (xn b d)]:=by
 refine bW (c:=awb) Tryz.func313 rfl ?_;refine fU (Lp ha hc) ?_;refine bt (Lp hb hd) ?_;exact rR
theorem afc(ha:U a)(hb:U b)(hn:I n):eN tP 233 [tal a b,i64 n] m [tal (xn a (Ha n)) (xn b (sy n))]:=by
 refine bW (c:=aAg) Tryz.func233 rfl ?_;refine fU (agC hn) ?_;have h1:U (Ha n):=by unfold Ha U;obtain⟨_,_⟩:=hn;split<;>omega
 have h2:U (sy n):=by unfold sy U;obtain⟨_,_⟩:=hn;split<;>omega
 refine bt (YX ha hb h1 h2) ?_;exact rR
theorem TB(ha:U a)(hb:U b):eN tP 234 [tal a b] m [u64 (max (a-b) 0)]:=by
 obtain⟨_,_⟩:=ha;obtain⟨_,_⟩:=hb
 refine bW (c:=du) Tryz.func234 rfl ?_;apply bI<;>intro h
 ·have h':=ah h
  refine⟨?_,rfl⟩;rw[show max (a-b) 0=0 by omega]
 ·have h':=aj h
  refine⟨?_,rfl⟩;rw[wu,show max (a-b) 0=a-b by omega]
def Aq(f:Int->Int->Int):Nat->List Int->List Int->List Int
 |n+1,a::u,b::v=>f a b::Aq f n u v
 |_,u,_=>u
theorem Tj(f:Int->Int->Int)(u v:List Int):Aq f 0 u v=u:=by cases u<;>rfl
theorem Kf(f:Int->Int->Int):∀(i:Nat) (u v:List Int),i<u.length->u.length=v.length->(Aq f i u v).set i (f ((Aq f i u v).getD i 0) (v.getD i 0))=Aq f (i+1) u v
 |0,a::u,b::v,_,_=>by cases u<;>cases v<;>simp[Aq]
 |i+1,a::u,b::v,h,h'=>by simpa [Aq]using Kf f i u v (by simpa using h) (by simpa using h')
 |_,[],_,h,_=>by simp at h
 |_,_::_,[],_,h=>by simp at h
theorem Kg(f:Int->Int->Int):∀(i:Nat) (u v:List Int),u.length<=i->u.length=v.length->Aq f i u v=List.zipWith f u v
 |0,[],[],_,_=>rfl
 |i+1,[],[],_,_=>rfl
 |i+1,a::u,b::v,h,h'=>by simp[Aq,Kg f i u v (by simpa using h) (by simpa using h')]
 |0,_::_,_,h,_=>by simp at h
 |_,[],_::_,_,h=>by simp at h
 |_+1,_::_,[],_,h=>by simp at h
theorem EQ{p:Int->Prop}:∀{l:List Int},(∀x∈l,p x)->p 0->∀i,p (l.getD i 0)
 |[],_,h0,i=>by simpa using h0
 |a::l,h,h0,0=>by simpa using h a (by simp)
 |a::l,h,h0,i+1=>by simpa using EQ (λx hx=>h x (by simp[hx])) h0 i
theorem V8.of{l:List Int}(h:l.length=8)(h2:l.all (λx=>decide (0<=x)&&decide (x<18446744073709551616))=true):V8 l:=by
 refine⟨h,EQ (p:=U) (λx hx=>?_) ⟨by decide,by decide⟩⟩;have:=bL.1 h2 x hx;simpa [U]using this
theorem V8.zip{u u':List Int}(h:V8 u)(h':V8 u'):V8 (List.zipWith max u u'):=by
 obtain⟨h1,h2⟩:=h;obtain⟨jc,iD⟩:=h';refine⟨by simp[h1,jc],λi=>?_⟩;by_cases hi:i<8
 ·have e:(List.zipWith max u u').getD i 0=max (u.getD i 0) (u'.getD i 0):=by
   simp[h1,jc,hi]
  rw[e];obtain⟨_,_⟩:=h2 i;obtain⟨_,_⟩:=iD i;exact⟨by omega,by omega⟩
 ·have e:(List.zipWith max u u').getD i 0=0:=by
   simp[h1,jc,hi]
  rw[e];exact⟨by decide,by decide⟩
abbrev AP(a:List Int):CV:=.a [.bG .u64 8 a]
abbrev VG(n k:Int):CV:=.a [.one (.int .i64 n),.one (.int .u64 k)]
def S7(n:Int):Bool:=decide (1<=n)&&decide (n<=8)
def uw(n k:Int):Bool:=S7 n&&decide (0<k)
def tk(v:List Int)(n:Int):Int:=if S7 n=true then v.getD (n-1).toNat 0 else 0
def wR(v:List Int)(n k:Int):List Int:=if S7 n=true then v.set (n-1).toNat (max (v.getD (n-1).toNat 0) k)else v
theorem NG:S7 n=true↔1<=n/\n<=8:=by simp[S7]
theorem tU:eN tP 220 [i64 n] m [bR (S7 n)]:=by
 refine bW (c:=du) Tryz.func220 rfl ?_;apply bI<;>intro h
 ·refine⟨?_,rfl⟩
  simp only[S7,h,bj]
 ·refine⟨?_,rfl⟩
  simp only[S7,h,fH]
theorem Eo{k:Int}:eN tP 300 [VG n k] m [bR (uw n k)]:=by
 refine bW (c:=du) Tryz.func300 rfl ?_;refine bt (tU) ?_;apply bI<;>intro h
 ·refine⟨?_,rfl⟩
  simp only[uw,h,bj]
 ·refine⟨?_,rfl⟩
  simp only[uw,h,fH]
variable{v:List Int}
theorem mY(hn:I n):eN tP 221 [AP v,i64 n] m [u64 (tk v n)]:=by
 obtain⟨_,_⟩:=hn;refine bW (c:=du) Tryz.func221 rfl ?_;refine bt (tU) ?_;apply bI<;>intro h
 ·have h':S7 n=false:=by simpa using h
  refine⟨?_,rfl⟩;rw[tk,if_neg (by rw[h'];simp)]
 ·have h':S7 n=true:=by simpa using h
  have hb:=NG.1 h';have hw:IntKind.i64.wrap (n-1)=n-1:=wi;conv=>whnf
  repeat (refine And.intro (by first|omega|(simp only[bK,hw];omega)) ?_;conv=>whnf)
  refine⟨?_,rfl⟩;rw[tk,aC h'];simp only[bK,hw]
theorem Tx{k:Int}(hn:I n):eN tP 139 [AP v,VG n k] m [AP (wR v n k)]:=by
 obtain⟨_,_⟩:=hn;refine bW (c:=awL) Tryz.func139 rfl ?_;refine bt (tU) ?_;apply bI<;>intro h
 ·have hb:=NG.1 h
  have hw:IntKind.i64.wrap (n-1)=n-1:=wi;conv=>whnf
  repeat (refine And.intro (by first|omega|(simp only[bK,hw];omega)) ?_;conv=>whnf)
  refine⟨?_,rfl⟩;rw[wR,aC h];simp only[bK,hw]
 ·refine⟨?_,rfl⟩
  rw[wR,if_neg (by rw[h];simp)]
theorem HX{k:Int}(hn:I n):eN tP 206 [AP v,VG n k] m [bR (uw n k&&decide (k<=tk v n))]:=by
 refine bW (c:=aww) Tryz.func206 rfl ?_;refine bt (Eo) ?_;apply bI<;>intro h
 ·refine fU (mY hn) ?_
  refine⟨?_,rfl⟩;simp only[h,bj]
 ·refine⟨?_,rfl⟩
  simp only[h,fH]
def Ll(v:List Int)(n:Int):List CV:=
 if S7 n=false then[VG 0 0,i64 11]else if tk v n=18446744073709551615 then[VG 0 0,i64 13]else[VG n (tk v n+1),i64 0]
theorem ad6(hv:V8 v)(n:Int):U (tk v n):=by
 unfold tk;split
 ·exact hv.2 _
 ·exact⟨by decide,by decide⟩
theorem Tz(hv:V8 v)(hn:I n):eN tP 136 [AP v,i64 n] m (Ll v n):=by
 have hU:=ad6 hv n;obtain⟨hU0,hU1⟩:=hU;refine bW (c:=du) Tryz.func136 rfl ?_;refine bt (tU) ?_;apply bI<;>intro h
 ·have h':S7 n=false:=by simpa using h
  refine⟨?_,rfl⟩;rw[Ll,aC h']
 ·have h':S7 n=true:=by simpa using h
  refine bt (mY hn) ?_;apply bI<;>intro h2
  ·have iD:tk v n=18446744073709551615:=by simpa using h2
   refine⟨?_,rfl⟩;rw[Ll,if_neg (by rw[h'];simp),aC iD]
  ·have iD:¬tk v n=18446744073709551615:=by simpa using h2
   refine bt (mY hn) ?_;refine⟨?_,rfl⟩;rw[Ll,if_neg (by rw[h'];simp),if_neg iD,wu]
abbrev Dt:=Int×Int
abbrev En:=Int×Int×Int×Int
abbrev Ct:=List Int×List En
abbrev Ev:=(Int×Int×Int)×Dt×List Dt
def kz(e:En):Dt:=(e.2.1,e.2.2.1)
def tm(d:Dt):List Value:=[.int .i64 d.1,.int .u64 d.2]
def qp(e:En):List Value:=[.int .i64 e.1,.int .i64 e.2.1,.int .u64 e.2.2.1,.int .i64 e.2.2.2]
theorem jD:fp tm 2:=⟨λ_=>rfl,λx u hu=>by simp[tm]at hu;rcases hu with rfl|rfl<;>rfl,by decide⟩
theorem mr:fp qp 4:=⟨λ_=>rfl,λx u hu=>by simp[qp]at hu;rcases hu with rfl|rfl|rfl|rfl<;>rfl,by decide⟩
def CS(e:En):Prop:=I e.1/\I e.2.1/\U e.2.2.1/\I e.2.2.2
def fx:List Int:=List.replicate 8 0
def sP(a b:Int):Int:=if a<b then-1 else if b<a then 1 else 0
def Qb:List Int->Int
 |[]=>0
 |x::r=>if x=0 then Qb r else x
def qY(a b:Dt):Bool:=decide (a.1<b.1\/(a.1=b.1/\a.2<b.2))
def VJ(a b:Dt):Int:=if qY a b then-1 else if qY b a then 1 else 0
def VC(a b:En):Int:=Qb [sP a.1 b.1,sP a.2.1 b.2.1,sP a.2.2.1 b.2.2.1,sP a.2.2.2 b.2.2.2]
def aaO(a b:En):Bool:=decide (VC a b<0)
theorem L9{a b:En}:aaO a b=true↔a.1<b.1\/(a.1=b.1/\(a.2.1<b.2.1\/(a.2.1=b.2.1/\(a.2.2.1<b.2.2.1\/(a.2.2.1=b.2.2.1/\a.2.2.2<b.2.2.2))))):=by
 unfold aaO VC;simp only[Qb,sP]
 grind
def ku(d:Dt):Bool:=uw d.1 d.2
def uP(l:List Dt):List Dt:=l.mergeSort λx y=>!qY y x
def gL:List Dt->List Dt
 |[]=>[]
 |[a]=>[a]
 |a::b::r=>if a=b then gL (b::r)else a::gL (b::r)
def TW(l:List Dt):List Dt:=(gL (uP (l.filter ku))).take 2000
def Bi(v:List Int)(d:Dt):Bool:=ku d&&decide (d.2<=tk v d.1)
def nY(l:List En):List En:=l.mergeSort λx y=>!aaO y x
def E8(k i q:Int):Bool:=
 if k=4 then decide (i=0)&&decide (q=0)
 else if ¬(1<=i/\i<=60)then false
 else if k=1 then !decide (q=0)&&decide (-1000<=q/\q<=1000)
 else if k=2 then decide (0<=q/\q<=1000)
 else decide (k=3)&&decide (q=0)
theorem Mc:∀(l:List Dt),(gL l).length<=l.length
 |[]=>aW _
 |[a]=>aW _
 |a::b::r=>by
  have ih:=Mc (b::r);unfold gL
  split<;>simp only[bd]at* <;>omega
end Go.E.Y
namespace Go.E
def wN:Nat->Nat->List Nat
 |0,_=>[]
 |f+1,n=>if n=0 then[]else wN f (n/256)++[n%256]
theorem Cs(n i:Nat):n/256^(i+1)=n/256/256^i:=by
 rw[gN,lH,uF]
theorem CF:∀(f n i:Nat),n<256^f->(0<n/256^i↔i<(wN f n).length)
 |0,n,i,h=>by
  have:n=0:=by simpa using h
  subst this;simp[wN]
 |f+1,n,i,h=>by
  by_cases hn:n=0
  ·subst hn;simp[wN]
  ·simp only[wN,hn,gS,ax,eV]
   cases i with
   |zero=>simp;omega
   |succ i=>
    rw[Cs,CF f (n/256) i (by rw[gN]at h;exact lI (by rw[lH];exact h))];omega
theorem VV:∀(f n j:Nat),j<(wN f n).length->(wN f n)[j]?=some (n/256^((wN f n).length-1-j)%256)
 |0,n,j,h=>by simp[wN]at h
 |f+1,n,j,h=>by
  by_cases hn:n=0
  ·subst hn;simp[wN]at h
  ·simp only[wN,hn,gS,ax,eV]at h⊢
   by_cases hj:j<(wN f (n/256)).length
   ·rw[aT hj,VV f (n/256) j hj]
    rw[show(wN f (n/256)).length+1-1-j=(wN f (n/256)).length-1-j+1 by omega,Cs]
   ·have:j=(wN f (n/256)).length:=by omega
    subst this;simp
theorem XH:∀(f n:Nat),(wN f n).length<=f
 |0,_=>by simp[wN]
 |f+1,n=>by
  by_cases hn:n=0
  ·subst hn;simp[wN]
  ·simp only[wN,hn,gS,ax,eV]
   have:=XH f (n/256);omega
theorem aeU:∀(f n:Nat),∀x∈wN f n,x<256
 |0,_,x,h=>by simp[wN]at h
 |f+1,n,x,h=>by
  by_cases hn:n=0
  ·subst hn;simp[wN]at h
  ·simp only[wN,hn,gS,aR,aL]at h
   rcases h with h|h
   ·exact aeU f _ x h
   ·omega
theorem XG:∀(f n:Nat),n<256^f->(wN f n).foldl (λa c=>256*a+c) 0=n
 |0,n,h=>by simp at h;subst h;simp[wN]
 |f+1,n,h=>by
  by_cases hn:n=0
  ·subst hn;simp[wN]
  ·simp only[wN,hn,gS,iT,gd,List.foldl_nil]
   rw[XG f (n/256) (by rw[gN]at h;exact lI (by rw[lH];exact h))];omega
theorem aeV:∀(f n:Nat),n<256^f->∀x,(wN f n)[0]?=some x->0<x:=by
 intro f n h x hx;have hl:0<(wN f n).length:=(aQ.1 hx).1;rw[VV f n 0 hl]at hx;have xq:n/256^((wN f n).length-1-0)%256=x:=by simpa using hx
 have h1:=(CF f n ((wN f n).length-1) h).2 (by omega)
 have h2:n/256^((wN f n).length-1)<256:=by
  have h3:¬(0<n/256^(wN f n).length):=λh'=>by have:=(CF f n _ h).1 h';omega
  have h4:n<256^(wN f n).length:=by
   rcases Nat.lt_or_ge n (256^(wN f n).length)with h'|h'
   ·exact h'
   ·exact absurd (Nat.div_pos h' (Nat.pow_pos (by decide))) h3
  refine lI ?_;rw[<-gN];rw[show((wN f n).length-1).succ=(wN f n).length by omega];exact h4
 simp only[Nat.sub_zero]at xq;rw[Nat.mod_eq_of_lt h2]at xq;omega
def mR(n:Int):List Int:=(wN 8 n.toNat).map (λ(x:Nat)=>(x:Int))
def fe(n:Int):List Int:=((mR n).length:Int)::mR n
def BC(n:Int):Prop:=0<=n/\n<18446744073709551616
variable{n:Int}
theorem BC.lt(h:BC n):n.toNat<256^8:=by have:=h.1;have:=h.2;omega
theorem zM(n:Int):(mR n).length<=8:=by simp only[mR,aH];exact XH 8 _
theorem aei(h:BC n)(i:Nat):Int.fdiv n (2^(8*i))=((n.toNat/256^i:Nat):Int):=by
 have e:(2:Int)^(8*i)=((256^i:Nat):Int):=by
  rw[Int.pow_mul];simp
 rw[e,kU _ (s9 _)];have:n=(n.toNat:Int):=(Int.toNat_of_nonneg h.1).symm;rw[this];simp
theorem amj{j:Nat}(hj:j<(mR n).length):(mR n)[j]?=some ((n.toNat/256^((mR n).length-1-j)%256:Nat):Int):=by
 simp only[mR,aH]at hj⊢;rw[cj,VV 8 _ j hj];rfl
theorem XI(h:BC n)(i:Nat):(0<n.toNat/256^i↔i<(mR n).length):=by
 simp only[mR,aH];exact CF 8 _ i h.lt
theorem aeW(n:Int):∀x∈mR n,0<=x/\x<256:=by
 intro x hx;simp only[mR,aV]at hx;obtain⟨y,hy,rfl⟩:=hx;have:=aeU 8 _ y hy;omega
theorem Lf(n:Int):∀x∈fe n,0<=x/\x<256:=by
 intro x hx;rcases aU.1 hx with rfl|hx
 ·have:=zM n;omega
 ·exact aeW n x hx
theorem eI(n:Int):(fe n).length<=9:=by have:=zM n;simp only[fe,bd];omega
def sF(n:Int):Int:=if 0<=n then 2*n else 2*(-n-1)+1
def BJ(b:List Int):List Int:=fe b.length++b
def kH(v:List Int):List Int:=(v.map fe).flatten
abbrev RS:=List Int×Int
def fL(n:Nat)(s:RS):List Int×RS:=
 if s.2≠0 then([],s)else if s.1.length<n then([],(s.1,8))else(s.1.take n,(s.1.drop n,0))
def ef(b:Bool)(s:RS):RS:=if s.2=0/\b=false then(s.1,3)else s
def VU(l:List Int):Int:=l.foldl (λa c=>256*a+c) 0
def FQ(l:List Int):Int:=l.headD 0
def og(s:RS):Int×RS:=
 let (h,s1):=fL 1 s
 if h=[]then(0,s1)else
 let s2:=ef (decide (FQ h<=8)) s1
 let (l,s3):=fL (FQ h).toNat s2
 let s4:=ef (l.isEmpty||decide (0<FQ l)) s3
 (if s4.2≠0 then 0 else VU l,s4)
def cZ(dG:Int)(s:RS):Int×RS:=
 let (n,s1):=og s
 let s2:=ef (decide (0<=dG)&&decide (n<=max dG 0)) s1
 (if s2.2≠0 then 0 else n,s2)
def Jt(s:RS):Int×RS:=
 let (n,s1):=og s
 let s2:=if n%2=0 then ef (decide (n/2<=4611686018427387904)) s1 else ef (decide (n/2<4611686018427387904)) s1
 (if s2.2≠0 then 0 else if n%2=1 then-(n/2)-1 else n/2,s2)
def kM(dG:Int)(s:RS):List Int×RS:=
 let (k,s1):=cZ dG s
 fL k.toNat s1
def gZ(s:RS):List Int×RS:=
 let (b,s1):=fL 32 s
 (b++(List.replicate 32 0).drop b.length,s1)
def mz:Nat->RS->List Int×RS
 |0,s=>([],s)
 |k+1,s=>let (l,s1):=mz k s;let (n,s2):=og s1;(l++[n],s2)
def uS(s:RS):List Int×RS:=
 let (l,s1):=mz 8 s
 (if s1.2≠0 then List.replicate 8 0 else l,s1)
def jl(l:List Int):Prop:=∀x∈l,0<=x/\x<256
variable{l:List Int}
theorem jl.take(h:jl l)(n:Nat):jl (l.take n):=λx hx=>h x (bX hx)
theorem jl.drop(h:jl l)(n:Nat):jl (l.drop n):=λx hx=>h x (fk hx)
theorem jl.nil:jl []:=λx hx=>by cases hx
variable{b:List Int}
theorem jl.append{a:List Int}(ha:jl a)(hb:jl b):jl (a++b):=λx hx=>(aR.1 hx).elim (ha x) (hb x)
variable{s:RS}
theorem nF{n:Nat}(h:jl s.1):jl (fL n s).1/\jl (fL n s).2.1:=by
 unfold fL;split
 ·exact⟨jl.nil,h⟩
 ·split
  ·exact⟨jl.nil,h⟩
  ·exact⟨h.take n,h.drop n⟩
theorem rK{n:Nat}:(fL n s).1.length<=n:=by
 unfold fL;split
 ·simp
 ·split
  ·simp
  ·simp;omega
theorem KQ{b:Bool}:(ef b s).1=s.1:=by unfold ef;split<;>rfl
theorem zj{b:Bool}(h:jl s.1):jl (ef b s).1:=by rw[KQ];exact h
theorem aeT(l:List Int)(c:Int):VU (l++[c])=256*VU l+c:=by simp[VU]
theorem XF:∀{l:List Int}{a:Int},jl l->0<=a->0<=l.foldl (λa c=>256*a+c) a/\l.foldl (λa c=>256*a+c) a<(a+1)*256^l.length
 |[],a,_,h=>by simp;omega
 |c::l,a,hb,h=>by
  have hc:=hb c (by simp);have:=XF (l:=l) (a:=256*a+c) (λx hx=>hb x (by simp[hx])) (by omega);simp only[gd,bd];refine⟨this.1,Int.lt_of_lt_of_le this.2 ?_⟩;rw[Int.pow_succ,<-Int.mul_assoc,Int.mul_right_comm];exact Int.mul_le_mul_of_nonneg_right (by omega) (Int.le_of_lt (Int.pow_pos (by decide)))
theorem Mg(h:jl l):0<=VU l/\VU l<256^l.length:=by
 have:=XF (a:=0) h (by omega);simpa [VU]using this
theorem arj(h:jl l)(hl:l.length<=8):BC (VU l):=by
 obtain⟨h1,h2⟩:=Mg h;refine⟨h1,Int.lt_of_lt_of_le h2 ?_⟩;have:(256:Nat)^l.length<=256^8:=pQ (by decide) hl;have e:((256^l.length:Nat):Int)=(256:Int)^l.length:=by simp
 omega
theorem ais(h:BC n):VU (mR n)=n:=by
 have h1:=XG 8 n.toNat h.lt
 have e:∀(l:List Nat) (a:Nat),(l.map (λ(x:Nat)=>(x:Int))).foldl (λa c=>256*a+c) (a:Int)=((l.foldl (λa c=>256*a+c) a:Nat):Int):=by
  intro l
  induction l with
  |nil=>intro a;rfl
  |cons x l ih=>intro a;simp only[aZ,gd];rw[<-ih];simp
 have:=e (wN 8 n.toNat) 0;simp only[VU,mR];rw[show(0:Int)=((0:Nat):Int) from rfl,this,h1];have:=h.1;omega
theorem uT(hn:BC n)(t:List Int):og (fe n++t,0)=(n,(t,0)):=by
 have h8:=zM n
 have e1:fL 1 (fe n++t,0)=([((mR n).length:Int)],(mR n++t,0)):=by
  simp[fL,fe]
 have e2:fL (mR n).length (mR n++t,0)=(mR n,(t,0)):=by simp[fL]
 have e3:((mR n).isEmpty||decide (0<FQ (mR n)))=true:=by
  cases hb:mR n with
  |nil=>rfl
  |cons x r=>
   have hf:=aeV 8 n.toNat hn.lt
   have:0<x:=by
    have hx:(mR n)[0]?=some x:=by rw[hb];rfl
    simp only[mR,cj,uE]at hx;obtain⟨y,h1,rfl⟩:=hx;have:=hf y h1;omega
   simp[FQ,this]
 have h8':((mR n).length:Int)<=8:=by omega
 unfold og;rw[e1];dsimp only;rw[if_neg (by simp)];have hd:FQ [((mR n).length:Int)]=(mR n).length:=rfl;have m1:ef (decide (((mR n).length:Int)<=8)) (mR n++t,0)=(mR n++t,0):=by simp[ef,h8']
 rw[hd,m1,aA,e2];dsimp only;have m2:ef ((mR n).isEmpty||decide (0<FQ (mR n))) (t,0)=(t,0):=by rw[e3];simp[ef]
 rw[m2];simp[ais hn]
theorem ab2{t:List Int}(k:Nat)(hk:k<(fe n).length)(ht:t=(fe n).take k):∃u,og (t,0)=(0,(u,8)):=by
 subst ht;have h8:=zM n
 cases k with
 |zero=>exact⟨[],by simp[og,fL]⟩
 |succ k=>
  have ve:k<(mR n).length:=by simpa [fe]using hk
  have e1:fL 1 ((fe n).take (k+1),0)=([((mR n).length:Int)],((mR n).take k,0)):=by simp[fL,fe]
  have h8':((mR n).length:Int)<=8:=by omega
  have e2:fL (mR n).length ((mR n).take k,0)=([],((mR n).take k,8)):=by simp[fL];omega
  have hd:FQ [((mR n).length:Int)]=(mR n).length:=rfl;have m1:ef (decide (((mR n).length:Int)<=8)) ((mR n).take k,0)=((mR n).take k,0):=by simp[ef,h8']
  refine⟨(mR n).take k,?_⟩;unfold og;rw[e1];dsimp only;rw[if_neg (by simp),hd,m1,aA,e2];dsimp only;simp[ef]
theorem Kw(a:Int)(v:List Int):kH (a::v)=fe a++kH v:=by simp[kH]
theorem Ku(v:List Int)(a:Int):kH (v++[a])=kH v++fe a:=by simp[kH]
def I62(n:Int):Prop:=-4611686018427387904<=n/\n<=4611686018427387904
theorem adi(h:I62 n):BC (sF n):=by
 have:=h.1;have:=h.2;unfold sF BC;split<;>omega
theorem YQ(h:I62 n)(t:List Int):Jt (fe (sF n)++t,0)=(n,(t,0)):=by
 have h0:=h.1;have h1:=h.2;have e:=uT (adi h) t;unfold Jt;rw[e];dsimp only;by_cases hn:0<=n
 ·have e1:sF n=2*n:=by rw[sF,aC hn]
  have e2:sF n%2=0:=by omega
  have e3:sF n/2=n:=by omega
  rw[aC e2,e3];have:ef (decide (n<=4611686018427387904)) (t,0)=(t,0):=by simp[ef,h1]
  rw[this,e2];simp
 ·have e1:sF n=2*(-n-1)+1:=by rw[sF,if_neg hn]
  have e2:sF n%2=1:=by omega
  have e3:sF n/2= -n-1:=by omega
  rw[if_neg (show ¬sF n%2=0 by omega),e3]
  have:ef (decide (-n-1<4611686018427387904)) (t,0)=(t,0):=by
   have: -n-1<4611686018427387904:=by omega
   simp[ef,this]
  rw[this];simp[e2];omega
theorem gJ{dG:Int}(hn:BC n)(h:n<=dG)(t:List Int):cZ dG (fe n++t,0)=(n,(t,0)):=by
 have e:=uT hn t;have h0:=hn.1;unfold cZ;rw[e];dsimp only;have:(decide (0<=dG)&&decide (n<=max dG 0))=true:=by simp;omega
 rw[this];simp[ef]
theorem ao3(h:b.length<=1000000):BC (b.length:Int):=⟨by omega,by omega⟩
theorem GN{dG:Int}(hb:b.length<=1000000)(h:(b.length:Int)<=dG)(t:List Int):kM dG (BJ b++t,0)=(b,(t,0)):=by
 have e:=gJ (ao3 hb) h (b++t);unfold kM;rw[BJ,aX,e];simp[fL]
theorem BT{d:List Int}(hd:d.length=32)(t:List Int):gZ (d++t,0)=(d,(t,0)):=by
 have e:fL 32 (d++t,0)=(d,(t,0)):=by
  unfold fL;rw[if_neg (by simp),if_neg (by simp;omega)];simp[<-hd]
 unfold gZ;rw[e];simp[hd]
theorem GO:∀(k:Nat) (v t:List Int),(∀x∈v,BC x)->k<=v.length->mz k (kH v++t,0)=(v.take k,(kH (v.drop k)++t,0))
 |0,v,t,_,_=>by simp[mz]
 |k+1,v,t,hv,hk=>by
  have ih:=GO k v t hv (by omega);have hd:v.drop k=v[k]::v.drop (k+1):=qD (by omega);unfold mz;rw[ih];dsimp only;have e:kH (v.drop k)++t=fe v[k]++(kH (v.drop (k+1))++t):=by rw[hd,Kw,aX]
  rw[e,uT (hv _ (by simp))];rw[au (show k<v.length by omega)]
theorem YN{v:List Int}(hl:v.length=8)(hv:∀x∈v,BC x)(t:List Int):uS (kH v++t,0)=(v,(t,0)):=by
 unfold uS;rw[GO 8 v t hv (by omega)];simp[<-hl,kH]
end Go.E
namespace Go.E.Y
open Go.Proofs
variable{m:aD}{v:Value}{l:List Int}
theorem sQ(hv:La m v l)(hb:l.length<=100000000):
  bi tP 128 [.v v] m λr m'=>∃v' p,r=[.v v']/\aq m' [p,m]/\Bs p v' l:=by
 have key:(∃c,v= .slice none 0 c/\l=[])\/∃a c,v= .slice (some a) l.length c:=by
  rcases hv with hv|⟨rfl,a,rfl⟩
  ·rcases hv.cases with⟨c,rfl,rfl⟩|⟨b,o,c,arr,t,fr,rfl,_⟩
   ·exact .inl ⟨c,rfl,rfl⟩
   ·exact .inr ⟨_,_,rfl⟩
  ·exact .inr ⟨_,_,rfl⟩
 rcases key with⟨c,rfl,rfl⟩|⟨a,c,rfl⟩
 ·refine ub Tryz.func128 ?_
  refine⟨λ_=>?_,λh=>absurd h (by decide)⟩;exact⟨_,iI,rfl,(aq.one m).cA,Bs.nil _⟩
 ·refine ub Tryz.func128 ?_
  refine⟨λh=>absurd h (by decide),λ_=>?_⟩;refine .mk _ (mu eR hBs rfl hU8) ?_;rintro _ _⟨b',qB,rfl,rfl⟩;refine .mk _ (nQ (i:=0) ((aq.one m).new qB _) rfl (Bs.Je (l:=[]) (aG ..) rfl) (hv.sub (aD.bT _ qB)) (by simp;omega)) ?_;rintro _ m'⟨v',p',rfl,h1,h2⟩;exact⟨v',p',rfl,h1,h2.ux⟩
def Wr(m:aD)(bp:Nat)(l:List Int):Prop:=∃v,m bp=some (.cells #[v] 162)/\Bs m v l/\lp v≠some bp
theorem asV(n:Int)(i:Nat):oV .u64 ((n.toNat/256^i:Nat):Int) 8=((n.toNat/256^(i+1):Nat):Int):=by
 have e:oV .u64 ((n.toNat/256^i:Nat):Int) 8=((n.toNat/256^i:Nat):Int).fdiv 256:=rfl;rw[e,kU _ (by decide),gN,<-uF];rfl
variable{bp:Nat}
theorem Wr.CJ{m':aD}{v':Value}{t:TypeId}{fr:Nat×Nat}(hb:m bp=some (.cells #[v] t fr))(hn:lp v≠some bp)(h:afk m v l v' m')(ht:t=162:=by rfl)(DQ:fr=(0,0):=by rfl):
  m' bp=some (.cells #[v] t fr)/\Wr (m'.set bp (.cells (#[v].setIfInBounds 0 v') t fr)) bp l:=by
 subst ht DQ
 have pY:lp v'≠some bp:=λe=>by
  rcases h.new bp e with h'|h'
  ·exact hn h'
  grind
 refine⟨h.cR _ _ hb hn,v',aD.bg ..,h.ux.cR λb e=>?_,pY⟩;exact aD.eH _ _ (λe'=>pY (by rw[e,e']))
theorem HG{m':aD}{b:Nat}(h:m' b=m b):y3 [b] m m':=λx hx=>by rw[aL.1 hx];exact h
variable{n:Int}
theorem aol(hn:BC n){j:Nat}{e:Int}(hj:j<(mR n).length)(he:e=((8*((mR n).length-1-j):Nat):Int)):IntKind.u8.wrap (oV .u64 n e)=(mR n)[j]:=by
 have h8:=zM n;have h:=amj hj;rw[az hj,aM]at h;rw[h,he]
 have e1:oV .u64 n ((8*((mR n).length-1-j):Nat):Int)=n.fdiv (2^(8*((mR n).length-1-j))):=by
  show n.fdiv (2^(min _ 64))=_
  grind
 rw[e1,aei hn,IntKind.wrap_u8];omega
theorem iK(hw:Wr m bp l)(hn:BC n)(hb:l.length<=100000000):
  bi tP 65 [cx bp,u64 n] m λr m'=>r=[]/\Wr m' bp (l++fe n):=by
 obtain⟨v,hbp,hv,ga⟩:=hw;have h8:=zM n;have hn0:=hn.1;have ml:=hn.2;refine A4 c65 Tryz.func65 ?_;refine xN ?_
 refine .mk (ι:=Nat) (λi=>(mR n).length-i) (λi mm=>i<=(mR n).length/\mm=m)
  (λi=>[(0,.c (cx bp)),(1,.c (u64 n)),(4,.c (i64 i)),(5,.c (u64 ((n.toNat/256^i:Nat):Int)))]) (λ_=>[]) 0 ⟨by omega,rfl⟩ ?_ ?_
 ·conv=>whnf
  repeat (refine And.intro (by first|with_reducible rfl|(exact cI (by simp;omega))|exact cI (wi)|exact wi|rfl) ?_;conv=>whnf)
  exact xT
 rintro i mm⟨hi,rfl⟩;apply bI<;>intro h
 ·have h':=ah h
  have bH:i<(mR n).length:=(XI hn i).1 (by omega);refine⟨i+1,⟨by omega,rfl⟩,by omega,?_⟩;conv=>whnf
  repeat (refine And.intro (by first|with_reducible rfl|(first|exact cI (qJ (by omega))|exact cI (asV n i))|exact cI (wi)|exact wi|rfl) ?_;conv=>whnf)
  exact xT
 ·have h':=aj h
  have HR:i=(mR n).length:=by
   have:=(not_congr (XI hn i)).1 (by omega);omega
  subst HR;refine⟨v,aF hbp rfl,hv.lb.one,?_⟩;refine .mk _ (Bt) ?_;rintro _ _⟨b',qB,rfl,rfl⟩;refine .mk _ (OI (hv.sub (aD.bT _ qB)) (Lb.Je (aD.bg ..) rfl).la (by simp;omega)) ?_;rintro _ m'⟨v',rfl,h1⟩;obtain⟨h2,h3⟩:=Wr.CJ hbp ga (GW qB h1);refine⟨_,_,_,h2,⟨by simp,by omega⟩,?_⟩;have hk:IntKind.u8.wrap ((mR n).length:Int)=((mR n).length:Int):=by rw[IntKind.wrap_u8];omega
  rw[hk]at h3
  refine .mk (ι:=Nat) (λj=>(mR n).length-j) (λj mm=>j<=(mR n).length/\Wr mm bp (l++(((mR n).length:Int)::(mR n).take j)))
   (λj=>[(0,.c (cx bp)),(1,.c (u64 n)),(6,.c (i64 (((mR n).length:Int)-1-j)))]) (λ_=>[]) 0 ⟨by omega,by simpa using h3⟩ ?_ ?_
  ·conv=>whnf
   repeat (refine And.intro (by first|with_reducible rfl|(exact cI (by rw[wi];omega))|exact cI (wi)|exact wi|rfl) ?_;conv=>whnf)
   exact xT
  rintro j m2⟨hj,v2,ahU,lD,ahy⟩;apply bI<;>intro h
  ·have h':=ah h
   refine⟨v2,aF ahU rfl,lD.lb.one,?_⟩;have hw8:IntKind.i64.wrap (8*(((mR n).length:Int)-1-j))=((8*((mR n).length-1-j):Nat):Int):=by rw[wi];omega
   refine⟨by omega,?_⟩;refine .mk _ Bt ?_;rintro _ _⟨b2,oM,rfl,rfl⟩;refine⟨HG (by rw[aD.eH _ _ (λe=>by subst e;rw[ahU]at oM;cases oM)]),?_⟩;refine .mk _ (OI (lD.sub (aD.bT _ oM)) (Lb.Je (aD.bg ..) rfl).la (by simp;omega)) ?_;rintro _ m3⟨v3,rfl,h4⟩;have h4:=GW oM h4;rw[aol hn (by omega) hw8]at h4;obtain⟨h5,h6⟩:=Wr.CJ ahU ahy h4;refine⟨_,_,_,h5,⟨by simp,by omega⟩,?_⟩;refine⟨j+1,⟨by omega,?_⟩,by omega,?_⟩
   ·rw[<-List.take_append_getElem (by omega)];simpa using h6
   ·conv=>whnf
    repeat (refine And.intro (by first|with_reducible rfl|(exact cI (by rw[wi];omega))|exact cI (wi)|exact wi|rfl) ?_;conv=>whnf)
    exact xT
  ·have h':=aj h
   have:j=(mR n).length:=by omega
   subst this;conv=>whnf
   rw[aJ]at lD;exact⟨rfl,v2,ahU,lD,ahy⟩
def I64(n:Int):Prop:=-9223372036854775808<=n/\n<=9223372036854775807
theorem adj(h:I64 n):BC (sF n):=by
 have:=h.1;have:=h.2
 unfold sF BC;split<;>omega
theorem aa9(h:I64 n)(h0:0<=n):nC .u64 (IntKind.u64.wrap n) 1=sF n:=by
 have:=h.2;rw[wu h0 (by omega)]
 show IntKind.u64.wrap (n*2)=sF n
 rw[wu,sF,aC h0];omega
theorem aba(h:I64 n)(h0:n<0):cp BinOp.or .u64 (nC .u64 (IntKind.u64.wrap (cp .xor .i64 (if IntKind.i64.signed=true then-1 else IntKind.i64.max) n)) 1) 1=sF n:=by
 have:=h.1;rw[WD h.1 h.2,wu]
 have e1:nC .u64 (-n-1) 1=(((-n-1).toNat*2^1:Nat):Int):=by
  show IntKind.u64.wrap ((-n-1)*2)=_
  rw[wu];omega
 have e2:=Uo (a:=(-n-1).toNat*2^1) (b:=1) (by omega) (by omega);rw[e1];refine e2.trans ?_;rw[Dp 1 (by omega),sF,if_neg (by omega)];omega
theorem X3(hw:Wr m bp l)(hn:I64 n)(hb:l.length<=100000000):
  bi tP 127 [cx bp,i64 n] m λr m'=>r=[]/\Wr m' bp (l++fe (sF n)):=by
 refine ub Tryz.func127 ?_;apply bI<;>intro h
 ·have h':=ah h
  conv=>whnf
  rw[aa9 hn h'];refine aP (iK hw (adj hn) hb) ?_;rintro _ m'⟨rfl,h1⟩;exact⟨rfl,h1⟩
 ·have h':=aj h
  conv=>whnf
  rw[aba hn (by omega)];refine aP (iK hw (adj hn) hb) ?_;rintro _ m'⟨rfl,h1⟩;exact⟨rfl,h1⟩
theorem yf{k:Nat}(h:k<1000000000000):BC k:=⟨by omega,by omega⟩
theorem F5{p q:aD}{ls:List aD}{i j:Nat}{b:List Int}(hs:aq m ls)(hi:ls[i]?=some p) (hj:ls[j]?=some q) (ZD:i≠j) (hw:Wr p bp l) (hv:La q v b) (hb:l.length<=10000000) (hbb:b.length<=10000000):
  bi tP 66 [cx bp,.v v] m λr m'=>r=[]/\∃p',aq m' (ls.set i p')/\Wr p' bp (l++BJ b):=by
 obtain⟨a,c,rfl⟩:=hv.shape;refine ub Tryz.func66 ?_;refine xN ?_;conv=>whnf
 rw[wu];refine aP ((iK hw (yf (by omega)) (by omega)).at hs hi) ?_;rintro _ m1⟨p1,⟨rfl,v1,kW,lZ,ml⟩,bM⟩;have hi1:=abJ hi p1;have LR:=BO hj ZD p1;refine⟨v1,aF (bM.at hi1 _ _ kW) rfl,lZ.lb.one,?_⟩;refine .mk _ (nQ bM hi1 lZ (hv.sub (bM.at LR)) (by simp only[ax];have:=eI (b.length:Int);omega)) ?_;rintro _ m2⟨v2,p2,rfl,bZ,h2⟩;obtain⟨h3,h4⟩:=Wr.CJ kW ml h2;rw[List.set_set]at bZ;have hi2:=abJ hi p2;refine⟨_,_,_,bZ.at hi2 _ _ h3,⟨by simp,by omega⟩,?_⟩;have h5:=bZ.gu hi2 h3 (Obj.cells (#[v1].setIfInBounds 0 v2) 162);rw[List.set_set]at h5;rw[aX]at h4;exact⟨rfl,_,h5,h4⟩
abbrev aq7(d:List Int):CV:=.a [.bG .u8 32 d]
abbrev aa4(v:List Int):CV:=.a [.bG .u64 8 v]
theorem Lb.jI{b:Nat}{d:List Int}{t:TypeId}{fr:Nat×Nat}(h:m b=some (.cells (LB.cz [.bG .u8 32 d]).toArray t fr))(hd:d.length=32):Lb m (.slice (some ⟨b,0,none⟩) 32 32) d:=
 Lb.mk h hd (aW _) λj n hj=>by simp[LB.cz,eB.cells,hj]
theorem BF{d:List Int}(hw:Wr m bp l)(hd:d.length=32)(hb:l.length<=100000000):
  bi tP 307 [cx bp,aq7 d] m λr m'=>r=[]/\Wr m' bp (l++d):=by
 obtain⟨v,hbp,hv,ga⟩:=hw;refine A4 awf Tryz.func307 ?_;intro b qB;refine xY ?_;refine⟨v,aF (aD.bT _ qB _ _ hbp) rfl,hv.lb.one,?_⟩;intro o' ho _;obtain rfl:o'=0:=ho (by decide);refine .mk _ (OI (hv.sub (aD.bT _ qB)) (Lb.jI (aD.bg ..) hd).la (by omega)) ?_;rintro _ m2⟨v2,rfl,h2⟩;obtain⟨h3,h4⟩:=Wr.CJ hbp ga (GW qB h2);refine⟨_,_,_,h3,⟨by simp,by omega⟩,?_⟩;exact⟨rfl,h4⟩
def yZ(v:List Int):Prop:=v.length=8/\∀x∈v,BC x
theorem qd(v:List Int):(kH v).length<=9*v.length:=by
 induction v with
 |nil=>simp[kH]
 |cons a v ih=>have:=eI a;simp only[kH,aZ,dX,ax,bd]at ih⊢;omega
variable{v:List Int}
theorem X5{i:Nat}(h:i<v.length):kH (v.take i)++fe (v.getD i 0)=kH (v.take (i+1)):=by
 rw[au h,kH,kH,bD,gk];simp[h]
theorem yZ.at(h:yZ v)(i:Nat):BC (v.getD i 0):=by
 by_cases hi:i<v.length
 ·have:v.getD i 0∈v:=by simp[hi]
  exact h.2 _ this
 ·simp[jr (Nat.le_of_not_lt hi)];exact⟨by decide,by decide⟩
theorem XX(hw:Wr m bp l)(hv:yZ v)(hb:l.length<=10000000):
  bi tP 126 [cx bp,aa4 v] m λr m'=>r=[]/\Wr m' bp (l++kH v):=by
 have hl:=hv.1;refine ub Tryz.func126 ?_
 refine .mk (ι:=Nat) (λi=>8-i) (λi mm=>i<=8/\Wr mm bp (l++kH (v.take i)))
  (λi=>[(0,.c (cx bp)),(6,.c (aa4 v)),(7,.c (i64 i))]) (λ_=>[]) 0 ⟨by omega,by simpa [kH]using hw⟩ ?_ ?_
 ·exact Cr
 rintro i mm⟨hi,h1⟩;apply bI<;>intro h
 ·have h':=ah h
  repeat refine xS ?_
  refine aP (iK (n:=v.getD i 0) h1 (hv.at i) (by have:=qd (v.take i);simp only[ax,aK]at*;omega)) ?_;rintro _ m2⟨rfl,h2⟩;conv=>whnf
  rw[aX,X5 (by omega)]at h2;refine⟨i+1,⟨by omega,h2⟩,by omega,?_⟩;exact Cr
 ·have h':=aj h
  obtain rfl:i=8:=by omega
  conv=>whnf
  rw[bP (by omega)]at h1;exact⟨rfl,h1⟩
theorem tF(hw:Wr m bp l)(hb:l.length<=100000000):
  bi tP 68 [cx bp] m λr m'=>∃v' p,r=[.v v']/\aq m' [p,m]/\Bs p v' l:=by
 obtain⟨v,hbp,hv,ga⟩:=hw;refine ub Tryz.func68 ?_;refine xN ?_;refine⟨v,aF hbp rfl,hv.lb.one,?_⟩;refine aP (sQ hv.lb.la hb) ?_;rintro _ m'⟨v',p,rfl,h1,h2⟩;exact⟨v',p,rfl,h1,h2⟩
def isB(c:Nat):Bool:=(decide (97<=c)&&decide (c<=122))||(decide (48<=c)&&decide (c<=57))||decide (c=45)
def kZ(l:List Nat):Bool:=decide (0<l.length)&&decide (l.length<=20)&&l.all isB
theorem QP{c:Nat}:eN tP 177 [.v (.int .u8 (c:Int))] m [bR (isB c)]:=by
 have e45:((c:Int)==45)=decide (c=45):=by by_cases h:c=45<;>simp[h];omega
 refine ub Tryz.func177 ?_;conv=>whnf
 repeat' (first|(refine⟨λh=>?_,λh=>?_⟩<;>conv=>whnf)|fail)
 all_goals (refine⟨?_,rfl⟩;(try simp only[e45]);by_cases h45:c=45<;>simp[isB,h45]at* <;>omega)
theorem amg(s:ByteArray)(i:Nat):(s.data.toList.getD i 0).toNat=(jR s).getD i 0:=by
 simp only[jR,aI,cj]
 cases s.data.toList[i]?<;>rfl
theorem iB{s:ByteArray}(hs:s.size<=1000000):eN tP 103 [.v (.string s)] m [bR (kZ (jR s))]:=by
 refine ub Tryz.func103 ?_;refine .mk (ι:=Nat) (λi=>s.size-i) (λi mm=>i<=s.size/\i<=20/\(∀x∈(jR s).take i,isB x=true)/\mm=m) (λi=>[(0,.c (.v (.string s))),(5,.c (i64 s.size)),(6,.c (i64 i))]) (λ_=>[]) 0 ⟨by omega,by omega,by simp,rfl⟩ ?_ ?_
 ·exact Cr
 rintro i mm⟨hi,hi2,cM,he⟩;subst mm;apply bI<;>intro h1
 ·have jc:=ah h1
  apply bI<;>intro h2
  ·have iD:=ah h2
   refine⟨?_,rfl⟩;have:¬(s.size<=20):=by omega
   simp[kZ,ue,this]
  ·have iD:=aj h2
   have bH:i<s.size:=by omega
   refine⟨⟨by omega,by omega⟩,?_⟩;conv=>whnf
   rw[aA,amg];refine bt (QP) ?_;have HP:i<(jR s).length:=by rw[ue];omega
   have U8:(jR s)[i]?=some ((jR s).getD i 0):=by simp[az HP]
   apply bI<;>intro h3
   ·refine⟨?_,rfl⟩
    have yF:isB ((jR s).getD i 0)=false:=by simpa using h3
    have:(jR s).all isB=false:=by
     rw[uI];exact⟨_,dJ U8,by simp only[yF,cU,not_false_eq_true]⟩
    simp[kZ,this]
   ·have yF:isB ((jR s).getD i 0)=true:=by simpa using h3
    refine⟨i+1,⟨by omega,by omega,?_,rfl⟩,by omega,?_⟩
    ·intro x hx
     rw[au HP]at hx;rcases aR.1 hx with hx|hx
     ·exact cM x hx
     ·rw[aL.1 hx]
      rw[az HP]at U8;rw[eL U8];exact yF
    ·exact Cr
 ·have jc:=aj h1
  obtain rfl:i=s.size:=by omega
  refine⟨?_,rfl⟩;have hl:=ue s;rw[<-hl,aJ]at cM;have:(jR s).all isB=true:=bL.2 cM;simp[kZ,this,hl];omega
theorem avj:∃ti,tt.get 9=some ti:=⟨_,rfl⟩
theorem ara{s:ByteArray}:bF tP (.conv 9 100) [.v (.string s)] m λr m'=>∃v,r=[.v v]/\cL m m'/\La m' v (nc (jR s)):=
 (Cy eR avj.choose_spec hBs rfl hU8 rfl).mono λ_ _ ⟨_,_,_,h0,h1,h2,h3⟩=>⟨_,h1,by rw[h2];exact aD.bT _ h0,h3.la⟩
end Go.E.Y
namespace Go.E
instance (l:List Int):Decidable (jl l):=inferInstanceAs (Decidable (∀x∈l,0<=x/\x<256))
namespace Fr
def stp(s:Nat):Nat:=if s%2=1 then(s/2) ^^^ 3988292384 else s/2
def Jq:Nat->Nat->Nat
 |0,s=>s
 |k+1,s=>Jq k (stp s)
def JZ(s c:Nat):Nat:=Jq 8 (s ^^^ c)
def Ov(l:List Int):Nat:=(l.foldl (λs c=>JZ s c.toNat) 4294967295) ^^^ 4294967295
theorem akg{s:Nat}(h:s<2^32):stp s<2^32:=by
 unfold stp;have:s/2<2^32:=by omega
 split
 ·exact jB this (by decide)
 ·exact this
theorem MD:∀{k s:Nat},s<2^32->Jq k s<2^32
 |0,_,h=>h
 |k+1,_,h=>MD (k:=k) (akg h)
theorem KH:∀(k s:Nat),Jq (k+1) s=stp (Jq k s)
 |0,_=>rfl
 |k+1,s=>by rw[Jq,KH k,Jq]
theorem FU:∀{l:List Int}{s:Nat},s<2^32->jl l->l.foldl (λs c=>JZ s c.toNat) s<2^32
 |[],_,h,_=>h
 |c::l,s,h,hb=>FU (l:=l) (MD (jB h (by have:=hb c (by simp);omega))) λx hx=>hb x (by simp[hx])
theorem aeE{l:List Int}(hb:jl l):Ov l<2^32:=jB (FU (by decide) hb) (by decide)
def pC(s:Nat):List Int:=[((s%256:Nat):Int),((s/256%256:Nat):Int),((s/65536%256:Nat):Int),((s/16777216%256:Nat):Int)]
theorem ad8(s:Nat):jl (pC s):=by
 intro x hx;simp only[pC,aU,fG,rH]at hx;omega
def wr(r:List Int):List Int:=fe (r.length:Int)++r++pC (Ov r)
def mB(n:Nat):Bool:=decide (1<=n)&&decide (n<=20000)
def next(b:List Int):List Int×Nat×Int:=
 let s:=cZ 20000 (b,0)
 if s.2.2=8 then([],0,0)else if s.2.2≠0\/s.1=0 then([],0,3)else
 let je:=(fe s.1).length
 let n:=s.1.toNat
 if (b.length:Int)-je<n+4 then([],0,0)else
 let d:=(b.drop je).take n
 if pC (Ov d)=(b.drop (je+n)).take 4 then(d,je+n+4,0)else([],0,9)
def lU:Nat->List Int->List (List Int)×Nat×Int
 |0,_=>([],0,0)
 |f+1,b=>let (d,n,e):=next b;if 0<n then let (l,k,e'):=lU f (b.drop n);(d::l,n+k,e')else([],0,e)
theorem acC(n:Int):0<(fe n).length:=by simp[fe]
theorem agQ(b:List Int):(next b).2.1<=b.length:=by
 unfold next
 grind
theorem Gu{n:Nat}(h:n<=20000)(t:List Int):cZ 20000 (fe (n:Int)++t,0)=((n:Int),(t,0)):=by
 have h1:=uT (n:=(n:Int)) ⟨by omega,by omega⟩ t;unfold cZ;rw[h1];dsimp only;have:(decide ((0:Int)<=20000)&&decide ((n:Int)<=max 20000 0))=true:=by simp;omega
 rw[this];simp[ef]
theorem KJ{n:Nat}(h:n<=20000)(k:Nat)(hk:k<(fe (n:Int)).length):(cZ 20000 ((fe (n:Int)).take k,0)).2.2=8:=by
 obtain⟨u,hu⟩:=ab2 (n:=(n:Int)) k hk rfl;unfold cZ;rw[hu];simp[ef]
theorem Za{r:List Int}(h:mB r.length=true)(t:List Int):next (wr r++t)=(r,(wr r).length,0):=by
 have h':1<=r.length/\r.length<=20000:=by simpa [mB]using h
 have e:wr r++t=fe (r.length:Int)++(r++(pC (Ov r)++t)):=by simp[wr]
 unfold next;dsimp only;rw[e,Gu h'.2,if_neg (by simp),if_neg (λhh=>hh.elim (λh=>h rfl) λh=>by have:(r.length:Int)=0:=h;omega),aA];have hl:(wr r).length=(fe (r.length:Int)).length+r.length+4:=by simp[wr,pC];omega
 rw[if_neg (by simp[pC];omega)];have d1:(fe (r.length:Int)++(r++(pC (Ov r)++t))).drop (fe (r.length:Int)).length=r++(pC (Ov r)++t):=by simp
 have d2:(fe (r.length:Int)++(r++(pC (Ov r)++t))).drop ((fe (r.length:Int)).length+r.length)=pC (Ov r)++t:=by
  rw[<-dU,d1];simp
 rw[d1,d2];have t1:(r++(pC (Ov r)++t)).take r.length=r:=by simp
 have t2:(pC (Ov r)++t).take 4=pC (Ov r):=by simp[pC]
 rw[t1,t2,aC rfl,hl]
theorem acE{r:List Int}(h:mB r.length=true){k:Nat}(hk:k<(wr r).length):next ((wr r).take k)=([],0,0):=by
 have h':1<=r.length/\r.length<=20000:=by simpa [mB]using h
 have hl:(wr r).length=(fe (r.length:Int)).length+r.length+4:=by simp[wr,pC];omega
 have e:wr r=fe (r.length:Int)++(r++pC (Ov r)):=by simp[wr]
 unfold next;dsimp only;by_cases hn:k<(fe (r.length:Int)).length
 ·have:(wr r).take k=(fe (r.length:Int)).take k:=by rw[e,dD (by omega)]
  rw[this,KJ h'.2 k hn,aC rfl]
 ·have:(wr r).take k=fe (r.length:Int)++(r++pC (Ov r)).take (k-(fe (r.length:Int)).length):=by
   rw[e,gj,bP (by omega)]
  have hlen:((wr r).take k).length=k:=by simp;omega
  have hs:=Gu h'.2 ((r++pC (Ov r)).take (k-(fe (r.length:Int)).length))
  grind
theorem Hi:next []=([],0,0):=by
 have:=@KJ 0 (by decide) 0 (by simp[fe])
 unfold next
 grind
def kP(l:List (List Int)):List Int:=(l.map wr).flatten
def fC:List (List Int)->Nat->Nat×Nat
 |[],_=>(0,0)
 |r::l,k=>if (wr r).length<=k then let (a,b):=fC l (k-(wr r).length);(a+1,(wr r).length+b)else(0,0)
theorem aa5(r:List Int):0<(wr r).length:=by have:=acC (r.length:Int);simp only[wr,ax];omega
theorem GK:∀{l:List (List Int)}{k f:Nat},(∀r∈l,mB r.length=true)->(fC l k).1<f->lU f ((kP l).take k)=(l.take (fC l k).1,(fC l k).2,0)
 |[],k,f+1,_,_=>by simp[kP,lU,Hi,fC]
 |r::l,k,f+1,h,hf=>by
  have hr:=h r (by simp);have hc:kP (r::l)=wr r++kP l:=by simp[kP]
  have hp:=aa5 r;unfold fC at hf⊢;by_cases hk:(wr r).length<=k
  ·have e:(kP (r::l)).take k=wr r++(kP l).take (k-(wr r).length):=by
    rw[hc,gj,bP hk]
   rw[aC hk]at hf;have ih:=GK (l:=l) (k:=k-(wr r).length) (f:=f) (λr hr=>h r (by simp[hr])) (by simp only at hf;omega);rw[aC hk,lU,e,Za hr];dsimp only;rw[aC hp];have:(wr r++(kP l).take (k-(wr r).length)).drop (wr r).length=(kP l).take (k-(wr r).length):=by simp
   rw[this,ih];simp
  ·have e:(kP (r::l)).take k=(wr r).take k:=by
    rw[hc,dD (by omega)]
   rw[if_neg hk,lU,e,acE hr (by omega)];simp
theorem C5:∀{l:List (List Int)}{k:Nat},(fC l k).1<=k
 |[],_=>by simp[fC]
 |r::l,k=>by
  have ih:=C5 (l:=l) (k:=k-(wr r).length);have hp:=aa5 r;unfold fC;split
  ·simp only;omega
  ·simp
theorem IJ(a b:List (List Int)):kP (a++b)=kP a++kP b:=by simp[kP]
theorem BE:∀{l:List (List Int)}{k:Nat},(fC l k).1<=l.length
 |[],_=>by simp[fC]
 |r::l,k=>by
  have:=BE (l:=l) (k:=k-(wr r).length);unfold fC;split
  ·simp only[bd];omega
  ·simp
theorem zJ:∀{l:List (List Int)},(∀r∈l,jl r)->jl (kP l)
 |[],_=>by intro x hx;simp[kP]at hx
 |r::l,h=>by
  have e:kP (r::l)=wr r++kP l:=by simp[kP]
  rw[e];refine jl.append (jl.append (jl.append (Lf _) (h r (by simp))) (ad8 _)) (zJ λq hq=>h q (by simp[hq]))
end Fr
end Go.E
namespace Go.E.Y
open Go.Proofs
abbrev Kd:=ByteArray×Ct
def UR(e:En):Bool:=(decide (1<=e.1)&&decide (e.1<=60))&&decide (-1000<=e.2.2.2)&&decide (e.2.2.2<=1000)
def Z8(E:List En)(i:Nat):En:=E.getD i (0,0,0,0)
variable{E:List En}{i:Nat}
theorem On(h:i<E.length):E[i]=Z8 E i:=by rw[Z8,aI,az h];rfl
theorem ah6(h:i<E.length):Z8 E i∈E:=by rw[<-On h];exact aO h
def Up(u:List Int)(E:List En)(i:Nat):Bool:=UR (Z8 E i)&&Bi u (kz (Z8 E i))&&(decide (i=0)||aaO (Z8 E (i-1)) (Z8 E i))
def AD(E:List En):List Dt:=TW (E.map kz)
def dA(u:List Int)(E:List En):Bool:=decide (E.length<=400)&&(List.range E.length).all (Up u E)&&decide ((AD E).length=E.length)
def OA(K:List En)(e:En):Bool:=K.any λf=>!decide (e=f)&&decide (kz e=kz f)
def yS(E K:List En):Bool:=E.any (OA K)
def qH(u:List Int)(K:List En)(both:Bool)(e:En):Bool:=(both&&K.contains e)|| !Bi u (kz e)
def jO(E:List En)(u:List Int)(K:List En)(both:Bool):List En:=E.filter (qH u K both)
def yv(u w:List Int)(E K:List En):List En:=jO E w K true++jO K u E false
def QL(u w:List Int):List Int:=List.zipWith max (List.zipWith max (List.replicate 8 0) u) w
def nh(a b:Ct):Ct×Int:=
 if dA a.1 a.2=false\/dA b.1 b.2=false then((fx,[]),3)
 else if yS a.2 b.2 then((fx,[]),14)
 else if 400<(yv a.1 b.1 a.2 b.2).length then((fx,[]),5)
 else((QL a.1 b.1,nY (yv a.1 b.1 a.2 b.2)),0)
abbrev chI(s:ByteArray):List Int:=(jR s).map (λ(n:Nat)=>(n:Int))
def JW(e:En):List Int:=fe e.1++fe e.2.1++fe e.2.2.1++fe (sF e.2.2.2)
def oB(E:List En):List Int:=(E.map JW).flatten
def yV(c:Ct):List Int:=kH c.1++fe c.2.length++oB c.2
def AY(c:Ct):List Int:=if dA c.1 c.2 then yV c else[]
def nJ(x:Kd):List Int:=BJ (chI x.1)++AY x.2
def B3(L:List Kd):List Int:=fe L.length++(L.map nJ).flatten
def Iq(s:RS):En×RS:=
 (((cZ 60 s).1,(cZ 8 (cZ 60 s).2).1,(og (cZ 8 (cZ 60 s).2).2).1,(Jt (og (cZ 8 (cZ 60 s).2).2).2).1),(Jt (og (cZ 8 (cZ 60 s).2).2).2).2)
def w8:Nat->List En->RS->List En×RS
 |0,E,s=>(E,s)
 |n+1,E,s=>if s.2≠0 then(E,s)else w8 n (E++[(Iq s).1]) (Iq s).2
def wS(s:RS):List En×RS:=w8 (cZ 400 (uS s).2).1.toNat [] (cZ 400 (uS s).2).2
def Av(s:RS):RS:=ef (dA (uS s).1 (wS s).1) (wS s).2
def oU(s:RS):Ct×RS:=(if (Av s).2≠0 then(fx,[])else((uS s).1,(wS s).1),Av s)
def AR(l:List Int):ByteArray:=⟨(l.map λx=>UInt8.ofNat x.toNat).toArray⟩
def Ir(s:RS):Int:=if s.2≠0 then s.2 else if s.1=[]then 0 else 2
def PV(b:List Int):Kd×Bool:=
 ((AR (kM 20 (b,0)).1,(oU (kM 20 (b,0)).2).1),decide (Ir (oU (kM 20 (b,0)).2).2=0)&&kZ (jR (AR (kM 20 (b,0)).1)))
def eZ(a b:ByteArray):Bool:=Op.bytesLess a.toList b.toList
def vj(L:List Kd)(k:ByteArray):Option Ct:=(L.find? λx=>decide (x.1=k)).map (·.2)
def gh(L:List Kd)(k:ByteArray):Ct:=(vj L k).getD (fx,[])
def sG(k:ByteArray)(c:Ct):List Kd->List Kd
 |[]=>[(k,c)]
 |x::L=>if eZ k x.1 then(k,c)::x::L else x::sG k c L
def iz(L:List Kd)(k:ByteArray)(c:Ct):List Kd:=
 if L.any λx=>decide (x.1=k)then L.map λx=>if x.1=k then(k,c)else x else sG k c L
def iy(L:List Kd)(R:List Kd):List Kd:=R.foldl (λL x=>iz L x.1 x.2) L
theorem aij(s:ByteArray):jl (chI s):=by
 intro x hx;obtain⟨n,hn,rfl⟩:=aV.1 hx;obtain⟨c,_,rfl⟩:=aV.1 hn;have:=c.toNat_lt;omega
theorem Ps(s:ByteArray):AR (chI s)=s:=by
 obtain⟨⟨l⟩⟩:=s;simp[AR,chI,jR,Function.comp_def]
variable{u:List Int}
theorem adW(hu:yZ u){d:Dt}(h:Bi u d=true):1<=d.1/\d.1<=8/\1<=d.2/\d.2<18446744073709551616:=by
 simp only[Bi,ku,uw,S7,aB,bA]at h;obtain⟨⟨⟨h1,h2⟩,h3⟩,h4⟩:=h;refine⟨h1,h2,by omega,?_⟩
 have h5:BC (tk u d.1):=by
  unfold tk;split
  ·exact hu.at _
  ·exact⟨by omega,by omega⟩
 have:=h5.2;omega
structure IZ(e:En):Prop where
 i1:1<=e.1
 i2:e.1<=60
 n1:1<=e.2.1
 n2:e.2.1<=8
 k1:1<=e.2.2.1
 k2:e.2.2.1<18446744073709551616
 q1: -1000<=e.2.2.2
 q2:e.2.2.2<=1000
theorem tM(hu:yZ u)(h:dA u E=true):∀e∈E,IZ e:=by
 intro e he;simp only[dA,aB,bL,dS,bA]at h;obtain⟨i,hi,rfl⟩:=dc he;have:=h.1.2 i hi;rw[On hi];simp only[Up,UR,aB,bA]at this;obtain⟨⟨⟨⟨⟨h1,h2⟩,h3⟩,h4⟩,h5⟩,_⟩:=this;obtain⟨g1,g2,g3,g4⟩:=adW hu h5;exact⟨h1,h2,g1,g2,g3,g4,h3,h4⟩
theorem pj(h:dA u E=true):E.length<=400:=by
 simp only[dA,aB,bA]at h;exact h.1.1
variable{e:En}
theorem Z5(h:IZ e)(t:List Int):Iq (JW e++t,0)=(e,(t,0)):=by
 obtain⟨i,n,k,q⟩:=e;obtain⟨h1,h2,h3,h4,h5,h6,h7,h8⟩:=h;simp only at h1 h2 h3 h4 h5 h6 h7 h8;simp only[Iq,JW,aX];rw[gJ ⟨by omega,by omega⟩ h2];simp only;rw[gJ ⟨by omega,by omega⟩ h4];simp only;rw[uT ⟨by omega,h6⟩];simp only;rw[YQ ⟨by omega,by omega⟩]
theorem Ip:∀(E:List En) (E0:List En) (t:List Int),(∀e∈E,IZ e)->w8 E.length E0 (oB E++t,0)=(E0++E,(t,0))
 |[],E0,t,_=>by simp[w8,oB]
 |e::E,E0,t,h=>by
  have ih:=Ip E (E0++[e]) t λx hx=>h x (bO _ hx);have e1:oB (e::E)++t=JW e++(oB E++t):=by simp[oB]
  rw[bd,w8,if_neg (by simp),e1,Z5 (h e (by simp)),ih];simp
variable{c:Ct}
theorem Gi(hu:yZ c.1)(h:dA c.1 c.2=true)(t:List Int):oU (yV c++t,0)=(c,(t,0)):=by
 obtain⟨u,E⟩:=c;have hl:=pj h;simp only at hl h hu
 have e1:uS (yV (u,E)++t,0)=(u,(fe (E.length:Int)++(oB E++t),0)):=by
  simp only[yV,aX];exact YN hu.1 hu.2 _
 have e2:wS (yV (u,E)++t,0)=(E,(t,0)):=by
  unfold wS;rw[e1];simp only;rw[gJ (yf (by omega)) (by omega)];simp only[aA];rw[Ip E [] t (tM hu h)];rfl
 have e3:Av (yV (u,E)++t,0)=(t,0):=by
  unfold Av;rw[e1,e2,h];simp[ef]
 unfold oU
 grind
variable{x:Kd}
theorem T6(hk:kZ (jR x.1)=true)(hu:yZ x.2.1)(h:dA x.2.1 x.2.2=true):PV (nJ x)=(x,true):=by
 have hl:(chI x.1).length<=20:=by
  simp only[kZ,aB,bA]at hk
  grind
 unfold PV nJ AY;rw[aC h,GN (by omega) (by omega)];simp only;have:=Gi hu h [];rw[cO]at this;rw[this];simp only[Ps,Ir]
 grind
theorem BP(a b:ByteArray):eZ a b=decide (a.data.toList<b.data.toList):=by
 unfold eZ;rw[bytesLess_eq,ByteArray.toList_eq,ByteArray.toList_eq]
theorem oa(a:ByteArray):eZ a a=false:=by
 rw[BP];exact aY (List.lt_irrefl _)
variable{a b:ByteArray}
theorem qh{c:ByteArray}(h:eZ a b=true)(k:eZ b c=true):eZ a c=true:=by
 rw[BP]at*
 grind
theorem qi(h:eZ a b=false)(k:eZ b a=false):a=b:=by
 rw[BP]at*;have h1:=aj h;have h2:=aj k;have:a.data.toList=b.data.toList:=List.le_antisymm (List.not_lt.1 h2) (List.not_lt.1 h1)
 cases a;cases b
 grind
theorem tL(h:eZ a b=true):eZ b a=false:=by
 cases k:eZ b a with
 |false=>rfl
 |true=>have:=qh h k;rw[oa]at this;cases this
theorem PI(h:eZ a b=true):a≠b:=λe=>by rw[e,oa]at h;cases h
def s6(L:List Kd):Prop:=L.Pairwise λx y=>eZ x.1 y.1=true
theorem Ho{k:ByteArray}{c:Ct}{x:Kd}:∀{L:List Kd},x∈sG k c L↔x=(k,c)\/x∈L
 |[]=>by simp[sG]
 |y::L=>by
  unfold sG;split
  ·simp
  ·rw[aU,Ho (L:=L),aU]
   constructor
   ·rintro(h|h|h)
    ·exact .inr (.inl h)
    ·exact .inl h
    ·exact .inr (.inr h)
   ·rintro(h|h|h)
    ·exact .inr (.inl h)
    ·exact .inl h
    ·exact .inr (.inr h)
theorem QU{k:ByteArray}{c:Ct}:∀{L:List Kd},s6 L->(∀x∈L,x.1≠k)->s6 (sG k c L)
 |[],_,_=>by simp[sG,s6]
 |y::L,h,hk=>by
  unfold s6 at h⊢;rw[bh]at h;unfold sG;split
  ·rename_i bH
   rw[bh];refine⟨λx hx=>?_,bh.2 h⟩;rcases aU.1 hx with rfl|hx
   ·exact bH
   ·exact qh bH (h.1 x hx)
  ·rename_i bH
   rw[bh];refine⟨λx hx=>?_,QU h.2 λx hx=>hk x (by simp[hx])⟩;rcases Ho.1 hx with rfl|hx
   ·cases h2:eZ y.1 k with
    |true=>rfl
    |false=>exact absurd (qi h2 (by simpa using bH)) (hk y (by simp))
   ·exact h.1 x hx
theorem Kr{L:List Kd}{k:ByteArray}(h:s6 L):s6 (iz L k c):=by
 unfold iz;split
 ·unfold s6 at h⊢
  grind
 ·rename_i hn
  refine QU h λx hx e=>hn ?_
  grind
theorem Zc{L:List Kd}{k:ByteArray}(h:x∈iz L k c):x=(k,c)\/x∈L:=by
 unfold iz at h
 split at h
 ·grind
 ·exact Ho.1 h
theorem QS(k:ByteArray)(c:Ct):∀L:List Kd,(sG k c L).length=L.length+1
 |[]=>rfl
 |y::L=>by
  unfold sG;split
  ·rfl
  ·rw[bd,QS k c L];rfl
theorem C4(L:List Kd)(k:ByteArray)(c:Ct):(iz L k c).length<=L.length+1:=by
 unfold iz;split
 ·grind
 ·rw[QS];omega
theorem QT{k:ByteArray}{c:Ct}:∀{L:List Kd},(∀x∈L,eZ x.1 k=true)->sG k c L=L++[(k,c)]
 |[],_=>rfl
 |y::L,h=>by
  unfold sG;rw[if_neg (by rw[tL (h y (by simp))];decide),QT λx hx=>h x (by simp[hx])];rfl
theorem X2{L:List Kd}{k:ByteArray}(h:∀x∈L,eZ x.1 k=true):iz L k c=L++[(k,c)]:=by
 unfold iz;rw[if_neg,QT h];intro hc;rw[dh]at hc;obtain⟨x,hx,e⟩:=hc;exact PI (h x hx) (ah e)
theorem ri(L A B:List Kd):iy L (A++B)=iy (iy L A) B:=by simp[iy]
theorem F7(L A:List Kd)(x:Kd):iy L (A++[x])=iz (iy L A) x.1 x.2:=by simp[iy]
theorem rJ{L:List Kd}(h:s6 L):∀R:List Kd,s6 (iy L R)
 |[]=>h
 |x::R=>rJ (L:=iz L x.1 x.2) (Kr h) R
theorem Wf{P:Kd->Prop}:∀(R L:List Kd),(∀x∈L,P x)->(∀x∈R,P x)->∀x∈iy L R,P x
 |[],L,h,_=>h
 |y::R,L,h,k=>Wf R (iz L y.1 y.2) (λx hx=>by
   rcases Zc hx with rfl|hx
   ·exact k y (by simp)
   ·exact h x hx) λx hx=>k x (by simp[hx])
theorem uL(L:List Kd):∀R:List Kd,(iy L R).length<=L.length+R.length
 |[]=>aW _
 |x::R=>by
  have h1:=uL (iz L x.1 x.2) R;have h2:=C4 L x.1 x.2
  show(iy (iz L x.1 x.2) R).length<=_
  rw[bd];omega
theorem Pc:∀(R L:List Kd),s6 (L++R)->iy L R=L++R
 |[],L,_=>by simp[iy]
 |x::R,L,h=>by
  have h1:∀y∈L,eZ y.1 x.1=true:=λy hy=>(cm.1 h).2.2 y hy x (by simp)
  show iy (iz L x.1 x.2) R=_
  rw[X2 h1,Pc R (L++[(x.1,x.2)]) (by simpa using h)];simp
theorem Tt{L:List Kd}(h:s6 L):iy [] L=L:=Pc L [] h
theorem adl:s6 []:=List.Pairwise.nil
theorem L6{L:List Kd}{k:ByteArray}(h:vj L k=some c):(k,c)∈L:=by
 unfold vj at h
 cases e:L.find? λx=>decide (x.1=k)with
 |none=>rw[e]at h;cases h
 |some x=>
  rw[e]at h;injection h with h;have h1:=List.find?_some e;have h2:=jn e;obtain⟨x1,x2⟩:=x;simp only[bA]at h1 h;rw[<-h1,<-h];exact h2
theorem Nj{n:Int}{k:Nat}(h:n.toNat<256^k)(hk:k<=8):(fe n).length<=k+1:=by
 have h1:(mR n).length<=k:=by
  rw[mR,aH];have:=(CF 8 n.toNat k (fR h (pQ (by decide) hk)))
  (simp_all;omega)
 rw[fe,bd];omega
theorem RZ(h:IZ e):(JW e).length<=16:=by
 have h1:=h.i1;have h2:=h.i2;have h3:=h.n1;have h4:=h.n2;have h5:=h.q1;have h6:=h.q2;have a1:(fe e.1).length<=2:=Nj (k:=1) (by omega) (by omega);have a2:(fe e.2.1).length<=2:=Nj (k:=1) (by omega) (by omega);have a3:=eI e.2.2.1;have a4:(fe (sF e.2.2.2)).length<=3:=Nj (k:=2) (by unfold sF;split<;>omega) (by omega);simp only[JW,ax];omega
theorem D6:∀{E:List En},(∀e∈E,IZ e)->(oB E).length<=16*E.length
 |[],_=>by simp[oB]
 |e::E,h=>by
  have h1:=RZ (h e (by simp));have h2:=D6 (E:=E) λx hx=>h x (by simp[hx]);have e1:oB (e::E)=JW e++oB E:=by simp[oB]
  rw[e1,ax,bd];omega
structure ki(x:Kd):Prop where
 k:kZ (jR x.1)=true
 u:yZ x.2.1
 r:dA x.2.1 x.2.2=true
theorem zH(s:ByteArray):(chI s).length=s.size:=by
 rw[aH,jR,aH];rfl
theorem ki.key(h:ki x):1<=x.1.size/\x.1.size<=20:=by
 have:=h.k;simp only[kZ,aB,bA]at this;have hl:=zH x.1
 grind
theorem Ec(hu:yZ c.1)(h:dA c.1 c.2=true):(yV c).length<=6500:=by
 have h1:=qd c.1;rw[hu.1]at h1;have h2:=pj h;have h3:=D6 (tM hu h);have h4:=eI (c.2.length:Int);simp only[yV,ax];omega
theorem ki.len(h:ki x):1<=(nJ x).length/\(nJ x).length<=6600:=by
 have h1:=h.key;have h2:=Ec h.u h.r;have h3:=eI ((chI x.1).length:Int);have h4:=zH x.1;simp only[nJ,AY,BJ,ax]
 grind
theorem ju(n:Int):jl (fe n):=Lf n
theorem IL{α:Type}{f:α->List Int}:∀{l:List α},(∀x∈l,jl (f x))->jl (l.map f).flatten
 |[],_=>by simp[jl.nil]
 |x::l,h=>by
  rw[aZ,dX];exact jl.append (h x (by simp)) (IL λy hy=>h y (by simp[hy]))
theorem Pf(v:List Int):jl (kH v):=IL λx _=>ju x
theorem aep(e:En):jl (JW e):=jl.append (jl.append (jl.append (ju _) (ju _)) (ju _)) (ju _)
theorem aal(c:Ct):jl (yV c):=jl.append (jl.append (Pf _) (ju _)) (IL λx _=>aep x)
theorem ab7(c:Ct):jl (AY c):=by
 unfold AY;split
 ·exact aal c
 ·exact jl.nil
theorem FL(x:Kd):jl (nJ x):=jl.append (jl.append (ju _) (aij _)) (ab7 _)
abbrev Nv(x:En):CV:=.a [.one (.int .i64 x.1),.one (.int .i64 x.2.1),.one (.int .u64 x.2.2.1),.one (.int .i64 x.2.2.2)]
theorem hNs:∃ti,tt.get 77=some ti/\ti.k= .slice 134:=⟨_,rfl,rfl⟩
theorem hNn:∃ti,tt.get 134=some ti/\ti.size=4/\ti.bytes=32/\LB.cz ti.zero=qp (0,0,0,0):=⟨_,rfl,rfl,rfl,rfl⟩
def Nl(m:aD)(v:Value)(E:List En):Prop:=gq m 4 v (E.flatMap qp)
def No(m:aD)(v:Value)(E:List En):Prop:=mf m 134 4 v (E.flatMap qp)
def Na(m:aD)(v:Value)(E:List En):Prop:=Nl m v E\/(E=[]/\∃a,v= .slice (some a) 0 0)
variable{m m':aD}{v:Value}
theorem Nl.sub(h:Nl m v E)(hs:cL m m'):Nl m' v E:=gq.sub h hs
theorem No.el(h:No m v E):Nl m v E:=mf.ky h
theorem Nl.ea(h:Nl m v E):Na m v E:=.inl h
theorem No.ea(h:No m v E):Na m v E:=h.el.ea
theorem Na.sub(h:Na m v E)(hs:cL m m'):Na m' v E:=h.imp (·.sub hs) id
theorem No.nil(m:aD):No m (.slice none 0 0) []:=.inl ⟨rfl,rfl⟩
theorem Na.nil(m:aD):Na m (.slice none 0 0) []:=(No.nil m).ea
theorem Nl.shape(h:Nl m v E):∃a c,v= .slice a E.length c:=mr.shape h
theorem Na.shape(h:Na m v E):∃a c,v= .slice a E.length c:=by
 rcases h with h|⟨rfl,a,rfl⟩
 ·exact h.shape
 ·exact⟨_,_,rfl⟩
theorem Na.real(h:Na m v E)(hi:i<E.length):∃b o c,v= .slice (some ⟨b,o,none⟩) E.length c/\∀j (hj:j<E.length),dQ m b (o+j*4) (qp E[j]):=by
 rcases h with h|⟨rfl,_⟩
 ·exact mr.real h hi
 ·simp at hi
theorem Na.fg{m:aD}{v:Value}{E:List En}(h:Na m v E):fg v=E.length:=by obtain⟨a,c,rfl⟩:=h.shape;rfl
theorem Na.one(h:Na m v E):v.oneCell'=true:=by obtain⟨a,c,rfl⟩:=h.shape;rfl
theorem Na.vh{e:TypeId}(h:Na m v E):s5 m 4 (.slice e) v (E.flatMap qp):=.inl ⟨e,rfl,h.imp id λ⟨h1,h2⟩=>⟨by rw[h1];rfl,h2⟩⟩
variable{p:aD}{ls:List aD}
theorem Mj{x:Value}{news:List En}(hs:aq m ls)(hi:ls[i]?=some p) (hv:No p v E) (hg:Na m x news) (hb:E.length+news.length<=100000000):
  bF tP (.builtin .append [77,77]) [.v v,.v x] m λr m'=>∃v' p',r=[.v v']/\aq m' (ls.set i p')/\No p' v' (E++news):=by
 obtain⟨ti,h1,h2⟩:=hNs;obtain⟨ei,g1,g2,g3,g4⟩:=hNn;have e1:=hv.el.ea.fg;have e2:=hg.fg;have pY:mf p 134 ei.size v (E.flatMap qp):=by rw[g2];exact hv
 refine(kC (news:=news.flatMap qp) eR h1 h2 g1 h1 (by rw[g4,g2];rfl) hs hi pY (by rw[h2,g2];exact hg.vh) (by rw[e1,e2,g3];omega) (by rw[e1,e2];omega)).mono λr m' ⟨v',p',q1,q2,q3⟩=>⟨v',p',q1,q2,?_⟩;have:=q3.ux;rw[g2,<-dx]at this;exact this
theorem ain:bF tP (.buildSlice 77 0 []) [] m λr m'=>∃b,m b=none/\r=[.v (.slice (some ⟨b,0,none⟩) 0 0)]/\m'=m.set b (.cells #[] 134):=by
 obtain⟨ti,h1,h2⟩:=hNs;obtain⟨ei,g1,g2,g3,g4⟩:=hNn;exact mu eR h1 h2 g1
theorem FW:bF tP (.buildSlice 77 1 [0]) [Nv e] m λr m'=>∃b,m b=none/\r=[.v (.slice (some ⟨b,0,none⟩) 1 1)]/\m'=m.set b (.cells (qp e).toArray 134):=by
 obtain⟨ti,h1,h2⟩:=hNs;obtain⟨ei,g1,g2,g3,g4⟩:=hNn;exact(dm (n:=1) eR h1 h2 g1 rfl rfl (by simp[CV.cs,LB.cz,eB.cells,g2]) (by omega) (by omega)).mono λr m' ⟨b,e1,e2,e3⟩=>⟨b,e1,e2,e3⟩
variable{b:Nat}
theorem No.blk1(h:m b=some (.cells (qp e).toArray 134)):No m (.slice (some ⟨b,0,none⟩) 1 1) [e]:=
 .inr ⟨b,0,1,1,_,rfl,h,rfl,aW _,aW _,λj u hu=>by rw[cD,bz];simpa using hu,mr.DW⟩
theorem No.blk0(h:m b=some (.cells #[] 134)):No m (.slice (some ⟨b,0,none⟩) 0 0) []:=
 .inr ⟨b,0,0,0,_,rfl,h,rfl,aW _,aW _,λj u hu=>by simp at hu,mr.DW⟩
variable{b':Nat}
theorem Wx{x:En}{y:Value}(hs:aq m ls)(hi:ls[i]?=some p) (hb:m b'=none) (hy:No p y E) (hl:E.length<=10000000):
  bF tP (.builtin .append [77,77]) [.v y,.v (.slice (some ⟨b',0,none⟩) 1 1)] (m.set b' (.cells (qp x).toArray 134)) λr m'=>∃y' p',r=[.v y']/\aq m' (ls.set i p')/\No p' y' (E++[x]):=by
 have bM:=hs.new hb (.cells (qp x).toArray 134);exact(Mj (i:=i+1) bM (by simpa using hi) hy (No.blk1 (aD.bg ..)).el.ea (by simp;omega)).mono λr m' ⟨v',p',h1,h2,h3⟩=>⟨v',p',h1,h2.dV 0,h3⟩
theorem l7(hv:Na m v E)(hl:E.length<=10000000):bi tP 47 [.v v] m λr m'=>∃v' p,r=[.v v']/\aq m' [p,m]/\No p v' E:=by
 obtain⟨a,c,rfl⟩:=hv.shape
 cases a with
 |none=>
  have hE:E=[]:=by
   rcases hv with(⟨c',e,h⟩|⟨b,o,c',n,arr,t,fr,e,_⟩)|⟨h,_⟩
   ·exact cB (mr.count (n:=0) (by rw[h];rfl))
   ·cases e
   ·exact h
  subst hE;refine ub Tryz.func47 ?_;refine xY ?_;exact⟨_,iI,rfl,(aq.one m).cA,No.nil _⟩
 |some a=>
  refine ub Tryz.func47 ?_;refine xN ?_;refine .mk _ (ain) ?_;rintro _ _⟨b,hb,rfl,rfl⟩;refine .mk _ (Mj (i:=0) ((aq.one m).new hb _) rfl (No.blk0 (aG ..)) (hv.sub (aD.bT _ hb)) (by simp;omega)) ?_;rintro _ m'⟨v',p,rfl,hs,pY⟩;exact⟨v',p,rfl,hs,pY⟩
abbrev Rk:=ByteArray×List Int×(Option Addr×Nat×Nat)
def n8(u:List Int):List Int:=[u.getD 0 0,u.getD 1 0,u.getD 2 0,u.getD 3 0,u.getD 4 0,u.getD 5 0,u.getD 6 0,u.getD 7 0]
theorem yn(h:u.length=8):n8 u=u:=by
 match u,h with
 |[a,b,c,d,e,f,g,i],_=>rfl
def fj(r:Rk):List Value:=[.string r.1]++(n8 r.2.1).map (Value.int .u64)++[.slice r.2.2.1 r.2.2.2.1 r.2.2.2.2]
theorem dW:fp fj 10:=⟨λ_=>rfl,λx u hu=>by
 simp only[fj,aR,aL,aV]at hu
 rcases hu with(rfl|⟨_,_,rfl⟩)|rfl<;>rfl,by decide⟩
structure pP(m:aD)(r:Rk)(x:Kd):Prop where
 k:r.1=x.1
 u:r.2.1=x.2.1
 u8:x.2.1.length=8
 e:Na m (.slice r.2.2.1 r.2.2.2.1 r.2.2.2.2) x.2.2
variable{r:Rk}
theorem pP.sub(h:pP m r x)(hs:cL m m'):pP m' r x:=⟨h.k,h.u,h.u8,h.e.sub hs⟩
theorem pP.len{m:aD}{r:Rk}{x:Kd}(h:pP m r x):r.2.2.2.1=x.2.2.length:=by
 obtain⟨a,c,e⟩:=h.e.shape;injection e
structure dC(m:aD)(R:List Rk)(L:List Kd):Prop where
 len:R.length=L.length
 je:∀i (h1:i<R.length) (h2:i<L.length),pP m R[i] L[i]
theorem dC.nil(m:aD):dC m [] []:=⟨rfl,λi h=>by simp at h⟩
variable{R:List Rk}
theorem dC.sub{L:List Kd}(h:dC m R L)(hs:cL m m'):dC m' R L:=⟨h.len,λi h1 h2=>(h.je i h1 h2).sub hs⟩
theorem dC.append{R':List Rk}{L L':List Kd}(h:dC m R L)(h':dC m R' L'):dC m (R++R') (L++L'):=by
 refine⟨by rw[ax,ax,h.len,h'.len],λi h1 h2=>?_⟩;have hl:=h.len;by_cases hi:i<R.length
 ·rw[List.getElem_append_left hi,List.getElem_append_left (by omega)]
  exact h.je i hi (by omega)
 ·rw[qC (by omega),qC (by omega)]
  simp only[hl];rw[ax]at h1 h2;have:=h'.je (i-L.length) (by omega) (by omega);exact this
theorem dC.one(h:pP m r x):dC m [r] [x]:=⟨rfl,λi h1 h2=>by
 have:i=0:=by simp at h1;omega
 subst this;exact h⟩
theorem dC.take{L:List Kd}(h:dC m R L)(i:Nat):dC m (R.take i) (L.take i):=by
 refine⟨by rw[aK,aK,h.len],λj h1 h2=>?_⟩;rw[List.getElem_take,List.getElem_take];exact h.je j _ _
theorem dC.drop{L:List Kd}(h:dC m R L)(i:Nat):dC m (R.drop i) (L.drop i):=by
 refine⟨by rw[cC,cC,h.len],λj h1 h2=>?_⟩;rw[List.getElem_drop,List.getElem_drop];exact h.je _ _ _
theorem dC.set{L:List Kd}(h:dC m R L)(hx:pP m r x):dC m (R.set i r) (L.set i x):=by
 refine⟨by rw[fc,fc,h.len],λj h1 h2=>?_⟩;rw[qy,qy];split
 ·exact hx
 ·exact h.je j _ _
theorem dC.UL{L:List Kd}(h:dC m R L):R.map (·.1)=L.map (·.1):=by
 refine List.ext_getElem (by simp[h.len]) λi h1 h2=>?_;rw[qz,qz];exact(h.je i (by simpa using h1) (by simpa using h2)).k
theorem dC.any{L:List Kd}(h:dC m R L)(q:ByteArray->Bool):(R.any λr=>q r.1)=L.any λx=>q x.1:=by
 have e1:(R.any λr=>q r.1)=(R.map (·.1)).any q:=by rw[List.any_map];rfl
 have e2:(L.any λx=>q x.1)=(L.map (·.1)).any q:=by rw[List.any_map];rfl
 rw[e1,e2,h.UL]
abbrev Kv(x:Rk):CV:=.a [.one (.string x.1),.bG .u64 8 (n8 x.2.1),.one (.slice x.2.2.1 x.2.2.2.1 x.2.2.2.2)]
theorem hKs:∃ti,tt.get 36=some ti/\ti.k= .slice 81:=⟨_,rfl,rfl⟩
theorem hKn:∃ti,tt.get 81=some ti/\ti.size=10/\ti.bytes=104/\LB.cz ti.zero=fj (ByteArray.empty,[],(none,0,0)):=⟨_,rfl,rfl,rfl,rfl⟩
def Kl(m:aD)(v:Value)(E:List Rk):Prop:=gq m 10 v (E.flatMap fj)
def Ko(m:aD)(v:Value)(E:List Rk):Prop:=mf m 81 10 v (E.flatMap fj)
def Ka(m:aD)(v:Value)(E:List Rk):Prop:=Kl m v E\/(E=[]/\∃a,v= .slice (some a) 0 0)
variable{E:List Rk}
theorem Kl.sub(h:Kl m v E)(hs:cL m m'):Kl m' v E:=gq.sub h hs
theorem Ko.el(h:Ko m v E):Kl m v E:=mf.ky h
theorem Kl.ea(h:Kl m v E):Ka m v E:=.inl h
theorem Ko.ea(h:Ko m v E):Ka m v E:=h.el.ea
theorem Ka.sub(h:Ka m v E)(hs:cL m m'):Ka m' v E:=h.imp (·.sub hs) id
theorem Ko.nil(m:aD):Ko m (.slice none 0 0) []:=.inl ⟨rfl,rfl⟩
theorem Ka.nil(m:aD):Ka m (.slice none 0 0) []:=(Ko.nil m).ea
theorem Kl.shape(h:Kl m v E):∃a c,v= .slice a E.length c:=dW.shape h
theorem Ka.shape(h:Ka m v E):∃a c,v= .slice a E.length c:=by
 rcases h with h|⟨rfl,a,rfl⟩
 ·exact h.shape
 ·exact⟨_,_,rfl⟩
theorem Ka.real(h:Ka m v E)(hi:i<E.length):∃b o c,v= .slice (some ⟨b,o,none⟩) E.length c/\∀j (hj:j<E.length),dQ m b (o+j*10) (fj E[j]):=by
 rcases h with h|⟨rfl,_⟩
 ·exact dW.real h hi
 ·simp at hi
theorem Ka.fg{m:aD}{v:Value}{E:List Rk}(h:Ka m v E):fg v=E.length:=by obtain⟨a,c,rfl⟩:=h.shape;rfl
theorem Ka.one(h:Ka m v E):v.oneCell'=true:=by obtain⟨a,c,rfl⟩:=h.shape;rfl
theorem Ka.vh{e:TypeId}(h:Ka m v E):s5 m 10 (.slice e) v (E.flatMap fj):=.inl ⟨e,rfl,h.imp id λ⟨h1,h2⟩=>⟨by rw[h1];rfl,h2⟩⟩
theorem zO{x:Value}{news:List Rk}(hs:aq m ls)(hi:ls[i]?=some p) (hv:Ko p v E) (hg:Ka m x news) (hb:E.length+news.length<=100000000):
  bF tP (.builtin .append [36,36]) [.v v,.v x] m λr m'=>∃v' p',r=[.v v']/\aq m' (ls.set i p')/\Ko p' v' (E++news):=by
 obtain⟨ti,h1,h2⟩:=hKs;obtain⟨ei,g1,g2,g3,g4⟩:=hKn;have e1:=hv.el.ea.fg;have e2:=hg.fg;have pY:mf p 81 ei.size v (E.flatMap fj):=by rw[g2];exact hv
 refine(kC (news:=news.flatMap fj) eR h1 h2 g1 h1 (by rw[g4,g2];rfl) hs hi pY (by rw[h2,g2];exact hg.vh) (by rw[e1,e2,g3];omega) (by rw[e1,e2];omega)).mono λr m' ⟨v',p',q1,q2,q3⟩=>⟨v',p',q1,q2,?_⟩;have:=q3.ux;rw[g2,<-dx]at this;exact this
theorem air:bF tP (.buildSlice 36 0 []) [] m λr m'=>∃b,m b=none/\r=[.v (.slice (some ⟨b,0,none⟩) 0 0)]/\m'=m.set b (.cells #[] 81):=by
 obtain⟨ti,h1,h2⟩:=hKs;obtain⟨ei,g1,g2,g3,g4⟩:=hKn;exact mu eR h1 h2 g1
theorem OC{e:Rk}:bF tP (.buildSlice 36 1 [0]) [Kv e] m λr m'=>∃b,m b=none/\r=[.v (.slice (some ⟨b,0,none⟩) 1 1)]/\m'=m.set b (.cells (fj e).toArray 81):=by
 obtain⟨ti,h1,h2⟩:=hKs;obtain⟨ei,g1,g2,g3,g4⟩:=hKn;exact(dm (n:=1) eR h1 h2 g1 rfl rfl (by simp[CV.cs,LB.cz,eB.cells,g2]<;>rfl) (by omega) (by omega)).mono λr m' ⟨b,e1,e2,e3⟩=>⟨b,e1,e2,e3⟩
theorem Ko.blk1{e:Rk}(h:m b=some (.cells (fj e).toArray 81)):Ko m (.slice (some ⟨b,0,none⟩) 1 1) [e]:=
 .inr ⟨b,0,1,1,_,rfl,h,rfl,aW _,aW _,λj u hu=>by rw[cD,bz];simpa using hu,dW.DW⟩
theorem Ko.blk0(h:m b=some (.cells #[] 81)):Ko m (.slice (some ⟨b,0,none⟩) 0 0) []:=
 .inr ⟨b,0,0,0,_,rfl,h,rfl,aW _,aW _,λj u hu=>by simp at hu,dW.DW⟩
theorem aca{x:Rk}{y:Value}(hs:aq m ls)(hi:ls[i]?=some p) (hb:m b'=none) (hy:Ko p y E) (hl:E.length<=10000000):
  bF tP (.builtin .append [36,36]) [.v y,.v (.slice (some ⟨b',0,none⟩) 1 1)] (m.set b' (.cells (fj x).toArray 81)) λr m'=>∃y' p',r=[.v y']/\aq m' (ls.set i p')/\Ko p' y' (E++[x]):=by
 have bM:=hs.new hb (.cells (fj x).toArray 81);exact(zO (i:=i+1) bM (by simpa using hi) hy (Ko.blk1 (aD.bg ..)).el.ea (by simp;omega)).mono λr m' ⟨v',p',h1,h2,h3⟩=>⟨v',p',h1,h2.dV 0,h3⟩
theorem nO(hv:Ka m v E)(hl:E.length<=10000000):bi tP 46 [.v v] m λr m'=>∃v' p,r=[.v v']/\aq m' [p,m]/\Ko p v' E:=by
 obtain⟨a,c,rfl⟩:=hv.shape
 cases a with
 |none=>
  have hE:E=[]:=by
   rcases hv with(⟨c',e,h⟩|⟨b,o,c',n,arr,t,fr,e,_⟩)|⟨h,_⟩
   ·exact cB (dW.count (n:=0) (by rw[h];rfl))
   ·cases e
   ·exact h
  subst hE;refine ub Tryz.func46 ?_;refine xY ?_;exact⟨_,iI,rfl,(aq.one m).cA,Ko.nil _⟩
 |some a=>
  refine ub Tryz.func46 ?_;refine xN ?_;refine .mk _ (air) ?_;rintro _ _⟨b,hb,rfl,rfl⟩;refine .mk _ (zO (i:=0) ((aq.one m).new hb _) rfl (Ko.blk0 (aG ..)) (hv.sub (aD.bT _ hb)) (by simp;omega)) ?_;rintro _ m'⟨v',p,rfl,hs,pY⟩;exact⟨v',p,rfl,hs,pY⟩
theorem wm{F:Nat}{p:Rk->Bool}(hv:Ka m v E)(hF:∀e∈E,eN tP F [Kv e,cx b] m [bR (p e)])(hl:E.length<=100000000):eN tP 111 [.v v,(l5 F b)] m [i64 (sH p E)]:=by
 obtain⟨a,c,rfl⟩:=hv.shape;refine ub Tryz.func111 ?_;refine .mk (ι:=Nat) (λi=>E.length-i) (λi mm=>i<=E.length/\(∀x∈E.take i,p x=false)/\mm=m) (λi=>[(0,.c (.v (.slice a E.length c))),(1,.c (l5 F b)),(7,.c (i64 E.length)),(8,.c (i64 i))]) (λ_=>[]) 0 ⟨by omega,by simp,rfl⟩ ?_ ?_
 ·exact Cr
 rintro i mm⟨hi,cM,he⟩;subst mm;apply bI<;>intro h
 ·have h':=ah h
  have bH:i<E.length:=by omega
  obtain⟨bl,ol,c',hh,hg⟩:=hv.real bH;injection hh with eK _ fN;subst eK;have hg:=hg i bH
  repeat refine xS ?_
  refine⟨[.one (.string E[i].1),.bG .u64 8 (n8 E[i].2.1),.one (.slice E[i].2.2.1 E[i].2.2.2.1 E[i].2.2.2.2)],⟨rfl,rfl,rfl,trivial⟩,rfl,by simp only[bK,aA];exact hg,?_⟩;refine bt ((hF E[i] (aO bH))) ?_;have dI:E.take (i+1)=E.take i++[E[i]]:=au bH;apply bI<;>intro h
  ·exact⟨by rw[tW bH cM h],rfl⟩
  ·refine⟨i+1,⟨by omega,λx hx=>?_,rfl⟩,by omega,?_⟩
   ·rw[dI]at hx
    rcases aR.1 hx with hx|hx
    ·exact cM x hx
    ·rw[aL.1 hx];exact h
   ·exact Cr
 ·have h':=aj h
  obtain rfl:i=E.length:=by omega
  rw[aJ]at cM;exact⟨by rw[nL cM],rfl⟩
theorem Fj{F:Nat}{p:Rk->Bool}(hv:Ka m v E)(hF:∀e∈E,eN tP F [Kv e,cx b] m [bR (p e)])(hl:E.length<=100000000):eN tP 215 [.v v,(l5 F b)] m [bR (E.any p)]:=by
 obtain⟨a,c,rfl⟩:=hv.shape;refine ub Tryz.func215 ?_;refine bt (wm hv hF hl) ?_;exact⟨by rw[tV],rfl⟩
theorem avw:∃ti,tt.get 3=some ti/\ti.k= .int .i64:=⟨_,rfl,rfl⟩
def yx(E:List Rk)(k:Nat)(x:Rk):List Rk:=E.take k++(x::E.drop k)
theorem EG(E:List Rk)(k:Nat)(x:Rk):(yx E k x).flatMap fj=(E.take k).flatMap fj++(fj x++(E.drop k).flatMap fj):=by rw[yx,dx,dw]
abbrev Xx{m:aD}{b o n c b' o' n' c':Nat}{arr CH:Array Value}{te t':TypeId}{fr':Nat×Nat}{news:List Value}(hb:m b=some (.cells arr te))(jH:o+min n' n*10<=arr.size)(qB:m b'=some (.cells CH t' fr'))(hlen:news.length=min n' n*10)(h4:jy CH o' news)(h5:∀u∈news,u.oneCell'=true):
  bF tP (.builtin .copy [36,36]) [.v (.slice (some ⟨b,o,none⟩) n c),.v (.slice (some ⟨b',o',none⟩) n' c')] m λr m'=>r=[.v (.int .i64 ((min n' n:Nat):Int))]/\m'=m.set b (.cells (arr.toList.take o++(news++arr.toList.drop (o+news.length))).toArray te):=by
 obtain⟨ti,h1,h2⟩:=hKs;obtain⟨ei,g1,g2,g3,g4⟩:=hKn;exact VK eR h1 h2 g1 hb (by rw[g2];exact jH) qB (by rw[g2];exact hlen) h4 h5
theorem afa{a:Option Addr}{n c k:Nat}(hl:Kl m (.slice a n c) E)(h0:0<k)(hg:c<n+k)(hb:n+k<=10000000):
  bF tP (.builtin .append [36,3]) [.v (.slice a n c),.v (.int .i64 k)] m λr m'=>∃b C,m b=none/\n+k<=C/\r=[.v (.slice (some ⟨b,0,none⟩) (n+k) C)]/\∃arr:Array Value,jy arr 0 (E.flatMap fj)/\arr.size=C*10/\m'=m.set b (.cells arr 81):=by
 obtain⟨ti,h1,h2⟩:=hKs;obtain⟨ei,g1,g2,g3,g4⟩:=hKn;obtain⟨ni,n1,n2⟩:=avw;have hn:E.length=n:=by obtain⟨a',c',e⟩:=hl.shape;cases e;rfl
 have Xc:gq m ei.size (.slice a n c) (E.flatMap fj):=by rw[g2];exact hl
 refine(aaK eR h1 h2 g1 n1 n2 (by rw[g2];decide) rfl Xc h0 hg (by rw[g3];omega) (by omega)).mono λr m' ⟨b,C,q1,q2,q3,q4⟩=>⟨b,C,q1,q2,q3,_,?_,?_,q4⟩
 ·intro j u hu
  have EN:=(aQ.1 hu).1;rw[cD,Array.append_assoc,fI (by simpa using EN),bz];exact hu
 ·simp only[oQ,kr,dM,dW.wC,g4,hn]
  have:(fj (ByteArray.empty,[],(none,0,0))).length=10:=rfl;rw[this];omega
theorem B4{mm:aD}{x:Rk}{k:Nat}(hs:aq mm [p,blk1 b' (.cells (fj x).toArray 81),m])(hv:Ko p v E)(hk:k<=E.length)(hl:E.length<=1000000):
  bi tP 203 [.v v,i64 k,.v (.slice (some ⟨b',0,none⟩) 1 1)] mm λr m'=>∃v' p',r=[.v v']/\aq m' [p',m]/\Ko p' v' (yx E k x):=by
 have hx:=(Ko.blk1 (e:=x) (m:=blk1 b' (.cells (fj x).toArray 81)) (aG ..)).el.ea;have ave:E.length=k->yx E k x=E++[x]:=λe=>by rw[yx,bP (by omega),kG (by omega)]
 rcases hv with⟨rfl,hE⟩|⟨b,o,c,n,arr,rfl,h1,h2,h3,h4,h5,h6⟩
 ·have hE0:E.length=0:=dW.count (n:=0) (by rw[hE];rfl)
  obtain rfl:k=0:=by omega
  have hE':E=[]:=cB hE0;subst hE';refine A4 arf Tryz.func203 ?_
  repeat refine xS ?_
  refine xN ?_;refine xY ?_;refine .mk _ (zO (i:=0) hs rfl (Ko.nil _) (hx.sub (hs.sub)) (by simp)) ?_;rintro _ m'⟨v',p',rfl,qW,pY⟩;exact⟨v',p',rfl,qW.dV 1,pY⟩
 have hn:E.length=n:=dW.count h2;subst hn;have hv:Ko p (.slice (some ⟨b,o,none⟩) E.length c) E:=.inr ⟨b,o,c,E.length,arr,rfl,h1,h2,h3,h4,h5,h6⟩;refine A4 arf Tryz.func203 ?_
 repeat refine xS ?_
 intro o1 _ _;refine xN ?_;apply bI<;>intro h
 ·have h':E.length=k:=by simp at h;omega
  refine .mk _ (zO (i:=0) hs rfl hv (hx.sub (hs.sub)) (by first|(rw[dW.len];omega)|(simp;omega))) ?_;rintro _ m'⟨v',p',rfl,qW,pY⟩;exact⟨v',p',rfl,qW.dV 1,by rw[ave h'];exact pY⟩
 have bH:k<E.length:=by simp at h;omega
 have ew1:IntKind.i64.wrap ((E.length:Int)+((1:Nat):Int))=((E.length+1:Nat):Int):=by rw[wi];omega
 refine .mk _ (sR eR (by rfl) rfl) ?_;rintro _ _⟨rfl,rfl⟩;conv=>whnf
 rw[ew1];have xq:mm b'=some (.cells (fj x).toArray 81):=hs.sub (a:=blk1 b' (.cells (fj x).toArray 81)) (by simp) _ _ (aG ..);have jc:mm b=some (.cells arr 81):=hs.sub (a:=p) (by simp) _ _ h1;have ak7:jy arr o (E.flatMap fj):=h5;have ak3:E.flatMap fj=(E.take k).flatMap fj++(E.drop k).flatMap fj:=by rw[<-dx,dL]
 have hA:((E.take k).flatMap fj).length=k*10:=by rw[dW.wC,aK];omega
 have hB:((E.drop k).flatMap fj).length=(E.length-k)*10:=by rw[dW.wC,cC]
 rw[ak3]at ak7;have hrA:=ak7.left;have hrB:=ak7.right;rw[hA]at hrB;have ek:(k:Int).toNat=k:=by omega
 have ew2:IntKind.i64.wrap (((E.length+1:Nat):Int)-(k:Int))=((E.length+1-k:Nat):Int):=by rw[wi];omega
 have ew3:IntKind.i64.wrap ((k:Int)+((1:Nat):Int))=((k+1:Nat):Int):=by rw[wi];omega
 apply bI<;>intro h
 ·have hc:c=E.length:=by have:=ah h;omega
  subst hc
  repeat refine xS ?_
  intro o2 q1 q2;obtain rfl:o2=o:=by have:=q1 (by omega);simpa [bK]using this
  conv=>whnf
  rw[ew1,ew2,ek];refine .mk _ (afa (E:=E.take k) (dW.pre (hv.el.sub (hs.sub)) (by omega) (by omega)) (by omega) (by omega) (by omega)) ?_;rintro _ m'⟨b2,C,oM,hC,rfl,aiC,r0,Ad,rfl⟩;conv=>whnf
  rw[show k-0+(E.length+1-k)=E.length+1 by omega]at hC⊢;have aup:b'≠b2:=λe=>by rw[e,oM]at xq;cases xq
  have ahy:b≠b2:=λe=>by rw[e,oM]at jc;cases jc
  repeat refine xS ?_
  intro o3 q1 q2;obtain rfl:o3=k*10:=by have:=q1 (by omega);simpa using this
  conv=>whnf
  rw[ek];refine .mk _ (Xx (news:=fj x) (aD.bg ..) (by omega) ((aD.eH _ _ aup).trans xq) (by first|(rw[dW.len];omega)|(simp;omega)) (λj u hu=>by rw[cD,bz];exact hu) (dW.one x)) ?_;rintro _ _⟨rfl,rfl⟩;conv=>whnf
  rw[aD.set_set];have Xg:k*10+(fj x).length<=aiC.size:=by first|(rw[dW.len];omega)|(simp;omega)
  have r1:jy _ (k*10) (fj x):=jy.FG Xg;have r2:=r0.uV Xg (.inl (by rw[hA];omega));have ahk:=kv Xg;rw[Ad]at ahk;generalize (aiC.toList.take (k*10)++(fj x++aiC.toList.drop (k*10+(fj x).length))).toArray=ae9 at r1 r2 ahk⊢;rw[ew3]
  repeat refine xS ?_
  intro o4 q1 q2;have ek1:((k+1:Nat):Int).toNat=k+1:=by omega
  rw[ek1]at q1;obtain rfl:o4=(k+1)*10:=by have:=q1 (by omega);simpa using this
  conv=>whnf
  rw[ek1]
  repeat refine xS ?_
  intro o5 q1 q2;rw[ek]at q1;obtain rfl:o5=o2+k*10:=by have:=q1 (by omega);simpa using this
  conv=>whnf
  rw[ek];refine .mk _ (Xx (news:=(E.drop k).flatMap fj) (aD.bg ..) (by omega) ((aD.eH _ _ ahy).trans jc) (by rw[hB];omega) hrB dW.DW) ?_;rintro _ m4⟨rfl,rfl⟩
  try refine⟨λ_ h=>(by cases h),?_⟩
  conv=>whnf
  rw[aD.set_set];have U9:(k+1)*10+((E.drop k).flatMap fj).length<=ae9.size:=by rw[hB,ahk];omega
  have r3:=jy.FG U9;have r4:=r1.uV U9 (.inl (by first|(rw[dW.len];omega)|(simp;omega)));have r5:=r2.uV U9 (.inl (by rw[hA];omega));have apl:=kv U9;generalize (ae9.toList.take ((k+1)*10)++((E.drop k).flatMap fj++ae9.toList.drop ((k+1)*10+((E.drop k).flatMap fj).length))).toArray=awZ at r3 r4 r5 apl⊢;refine⟨_,_,rfl,((hs.new oM (.cells awZ 81)).dV 1).dV 1,?_⟩;refine dW.mk' (aG ..) (by simp[yx];omega) hC (by rw[apl,ahk];omega) ?_;rw[EG];exact r5.append (by rw[hA,cD];exact r4.append (by rw[show k*10+(fj x).length=(k+1)*10 by first|(rw[dW.len];omega)|(simp;omega)];exact r3))
 ·have hc:E.length+1<=c:=by have:=aj h;omega
  conv=>whnf
  rw[ew1]
  repeat refine xS ?_
  intro o2 q1 q2;obtain rfl:o2=o:=by have:=q1 (by omega);simpa [bK]using this
  have en1:((E.length+1:Nat):Int).toNat=E.length+1:=by omega
  conv=>whnf
  rw[ew3,en1]
  repeat refine xS ?_
  intro o3 _ _
  have aqs:b'≠b:=λe=>by
   have hd:=(bh.1 hs.2).1 (blk1 b' (.cells (fj x).toArray 81)) (by simp) b;rcases hd with hd|hd
   ·rw[h1]at hd;cases hd
   ·rw[e,aG]at hd;cases hd
  obtain⟨ti,t1,t2⟩:=hKs;obtain⟨ei,g1,g2,g3,g4⟩:=hKn;refine aj1 (Z2 (P:=tP) (t:=36) (tr:=4) eR Tryz.func298 (by rfl) (by rfl) (by kernel_rfl) t1 t2 g1 (by kernel_rfl) xq jc aqs (by omega)) ?_;rintro _ _⟨rfl,rfl⟩;refine xY ?_;conv=>whnf
  rw[ew3]
  repeat refine xS ?_
  intro o4 q1 q2;rw[show((k+1:Nat):Int).toNat=k+1 by omega]at q1;obtain rfl:o4=o2+(k+1)*10:=by have:=q1 (by omega);simpa using this
  repeat refine xS ?_
  intro o5 q1 q2;rw[ek]at q1;obtain rfl:o5=o2+k*10:=by have:=q1 (by omega);simpa using this
  conv=>whnf
  rw[ek,show((k+1:Nat):Int).toNat=k+1 by omega];rw[show E.length+1-0=E.length+1 by omega,show c-0=c by omega];have ah5:min (E.length+1-k) (E.length+1-(k+1))=E.length-k:=by omega
  refine .mk _ (Xx (news:=(E.drop k).flatMap fj) jc (by rw[ah5];omega) jc (by rw[hB,ah5]) hrB dW.DW) ?_;rintro _ m4⟨rfl,rfl⟩
  try refine⟨λ_ h=>(by cases h),?_⟩
  have Xg:o2+(k+1)*10+((E.drop k).flatMap fj).length<=arr.size:=by rw[hB];omega
  have r1:=jy.FG Xg;have r2:=hrA.uV Xg (.inl (by rw[hA];omega));have apn:=kv Xg;have Ta:=λo'=>hs.set h1 (o':Obj);generalize (arr.toList.take (o2+(k+1)*10)++((E.drop k).flatMap fj++arr.toList.drop (o2+(k+1)*10+((E.drop k).flatMap fj).length))).toArray=amm at r1 r2 apn⊢
  repeat refine xS ?_
  intro o6 q1 q2;rw[ek]at q1;obtain rfl:o6=o2+k*10:=by have:=q1 (by omega);simpa using this
  conv=>whnf
  rw[ek];refine .mk _ (Xx (news:=fj x) (aD.bg ..) (by omega) ((aD.eH _ _ aqs).trans xq) (by first|(rw[dW.len];omega)|(simp;omega)) (λj u hu=>by rw[cD,bz];exact hu) (dW.one x)) ?_;rintro _ _⟨rfl,rfl⟩;conv=>whnf
  rw[aD.set_set];have U9:o2+k*10+(fj x).length<=amm.size:=by first|(rw[dW.len];omega)|(simp;omega)
  have r3:=jy.FG U9;have r4:=r1.uV U9 (.inr (by first|(rw[dW.len];omega)|(simp;omega)));have r5:=r2.uV U9 (.inl (by rw[hA];omega));have apm:=kv U9;generalize (amm.toList.take (o2+k*10)++(fj x++amm.toList.drop (o2+k*10+(fj x).length))).toArray=aiC at r3 r4 r5 apm⊢;refine⟨_,_,rfl,(Ta _).dV 1,?_⟩;refine dW.mk' (aD.bg ..) (by simp[yx];omega) hc (by rw[apm,apn];exact h4) ?_;rw[EG];exact r5.append (by rw[hA];exact r3.append (by rw[show o2+k*10+(fj x).length=o2+(k+1)*10 by first|(rw[dW.len];omega)|(simp;omega)];exact r4))
variable{x:Int}
theorem EF:eN tP 336 [i64 x] m [bR false]:=by
 refine ub Tryz.func336 ?_;exact⟨by simp,rfl⟩
theorem EE:eN tP 335 [u64 x] m [bR false]:=by
 refine ub Tryz.func335 ?_;exact⟨by simp,rfl⟩
variable{y:Int}
theorem qu:eN tP 264 [i64 x,i64 y] m [i64 (sP x y)]:=by
 refine ub Tryz.func264 ?_;refine bt (EF) ?_;refine bt (EF) ?_;refine xN ?_;refine xN ?_;apply bI<;>intro h
 ·exact⟨by rw[sP,aC (ah h)],rfl⟩
 have h1:=aj h;apply bI<;>intro h
 ·exact⟨by rw[sP,if_neg h1,aC (ah h)],rfl⟩
 ·exact⟨by rw[sP,if_neg h1,if_neg (aj h)],rfl⟩
theorem wJ:eN tP 263 [u64 x,u64 y] m [i64 (sP x y)]:=by
 refine ub Tryz.func263 ?_;refine bt (EE) ?_;refine bt (EE) ?_;refine xN ?_;refine xN ?_;apply bI<;>intro h
 ·exact⟨by rw[sP,aC (ah h)],rfl⟩
 have h1:=aj h;apply bI<;>intro h
 ·exact⟨by rw[sP,if_neg h1,aC (ah h)],rfl⟩
 ·exact⟨by rw[sP,if_neg h1,if_neg (aj h)],rfl⟩
theorem Qa:∀{l:List Int},(∀x∈l,x=0)->Qb l=0
 |[],_=>rfl
 |x::r,h=>by rw[Qb,aC (h x (by simp)),Qa λy hy=>h y (by simp[hy])]
theorem acr:∀{l:List Int}{i:Nat} (hi:i<l.length),(∀x∈l.take i,x=0)->l[i]≠0->Qb l=l[i]
 |x::r,0,_,_,ga=>by
  have ga:x≠0:=ga;rw[Qb,if_neg ga];rfl
 |x::r,i+1,hi,h,ga=>by
  rw[Qb,aC (h x (by simp))];exact acr (l:=r) (by simpa using hi) (λy hy=>h y (by simp[hy])) ga
theorem adO{l:List Int}(hv:Il m v l)(hl:l.length<=1000000):eN tP 262 [.v v] m [i64 (Qb l)]:=by
 obtain⟨a,c,rfl⟩:=hv.shape;refine ub Tryz.func262 ?_;refine .mk (ι:=Nat) (λi=>l.length-i) (λi mm=>i<=l.length/\(∀x∈l.take i,x=0)/\mm=m) (λi=>[(3,.c (i64 0)),(6,.c (.v (.slice a l.length c))),(7,.c (i64 l.length)),(8,.c (i64 i))]) (λ_=>[]) 0 ⟨by omega,by simp,rfl⟩ ?_ ?_
 ·exact Cr
 rintro i mm⟨hi,cM,he⟩;subst mm;apply bI<;>intro h
 ·have h':=ah h
  have bH:i<l.length:=by omega
  obtain⟨bl,ol,c',hh,hg⟩:=hv.real bH;injection hh with eK _ fN;subst eK;have hg:=hg i bH
  repeat refine xS ?_
  refine⟨_,by simp only[bK,aA];exact hg,rfl,?_⟩;have dI:l.take (i+1)=l.take i++[l[i]]:=au bH;apply bI<;>intro h
  ·have ga:l[i]≠0:=by simpa using h
   exact⟨by rw[acr bH cM ga],rfl⟩
  ·have hz:l[i]=0:=by simpa using h
   refine⟨i+1,⟨by omega,λx hx=>?_,rfl⟩,by omega,?_⟩
   ·rw[dI]at hx
    rcases aR.1 hx with hx|hx
    ·exact cM x hx
    ·rw[aL.1 hx];exact hz
   ·exact Cr
 ·have h':=aj h
  obtain rfl:i=l.length:=by omega
  rw[aJ]at cM;exact⟨by rw[Qa cM],rfl⟩
theorem IN:bF tP (.buildSlice 34 2 [0,1]) [i64 x,i64 y] m λr m'=>∃b,m b=none/\r=[.v (.slice (some ⟨b,0,none⟩) 2 2)]/\m'=m.set b (.cells (ic [x,y]).toArray 3):=
 dm (n:=2) eR hIs rfl Tf rfl rfl (by simp[CV.cs]) (by simp) (by simp)
theorem aeP{z u:Int}:bF tP (.buildSlice 34 4 [0,1,2,3]) [i64 x,i64 y,i64 z,i64 u] m λr m'=>∃b,m b=none/\r=[.v (.slice (some ⟨b,0,none⟩) 4 4)]/\m'=m.set b (.cells (ic [x,y,z,u]).toArray 3):=
 dm (n:=4) eR hIs rfl Tf rfl rfl (by simp[CV.cs]) (by simp) (by simp)
theorem Il.Je{l:List Int}{t:TypeId}{fr:Nat×Nat}(h:m b=some (.cells (ic l).toArray t fr)):Il m (.slice (some ⟨b,0,none⟩) l.length l.length) l:=
 .inr ⟨b,0,l.length,l.length,_,_,_,rfl,h,by simp,aW _,λj u hu=>by rw[cD,bz];exact hu,akW⟩
end Go.E.Y
