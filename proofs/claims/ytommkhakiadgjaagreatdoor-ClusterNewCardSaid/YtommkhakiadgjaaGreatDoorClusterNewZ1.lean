import Derived.WalkKit
import Derived.DeepKeys
import Derived.Laws.BytesString
import Derived.OrdersIn
import Derived.TacticsIn
import Derived.RangeFuncRecord
import Derived.OrdersHeld
import Derived.ScopeJumps
import Derived.RangeFuncLeaves
import Derived.RangeFuncCalls
import Derived.Great.BuildSlice
import Derived.Deep.AppendSrc
set_option maxHeartbeats 40000000
set_option maxRecDepth 100000
set_option linter.unusedVariables false
namespace Go
abbrev ah:=@of_decide_eq_true
abbrev aj:=@of_decide_eq_false
abbrev au:=@List.take_succ_eq_append_getElem
abbrev ax:=@List.length_append
abbrev aB:=@Bool.and_eq_true
abbrev aA:=@Int.toNat_natCast
abbrev az:=@List.getElem?_eq_getElem
abbrev aM:=@Option.some.injEq
abbrev aQ:=@List.getElem?_eq_some_iff
abbrev aC:=@if_pos
abbrev aH:=@List.length_map
abbrev aZ:=@List.map_cons
abbrev aK:=@List.length_take
abbrev aJ:=@List.take_length
abbrev aI:=@List.getD_eq_getElem?_getD
abbrev aR:=@List.mem_append
abbrev aX:=@List.append_assoc
abbrev aU:=@List.mem_cons
abbrev aL:=@List.mem_singleton
abbrev aW:=@Nat.le_refl
abbrev aV:=@List.mem_map
abbrev aT:=@List.getElem?_append_left
abbrev bu:=@Nat.eq_of_beq_eq_true
abbrev aO:=@List.getElem_mem
abbrev aY:=@decide_eq_false
abbrev bh:=@List.pairwise_cons
abbrev bj:=@Bool.true_and
abbrev ae:=@List.length_cons
abbrev bE:=@Array.getElem?_eq_some_iff
abbrev bP:=@List.take_of_length_le
abbrev bB:=@decide_eq_true
abbrev bD:=@List.map_append
abbrev bO:=@List.mem_cons_of_mem
abbrev bL:=@List.all_eq_true
abbrev bA:=@decide_eq_true_eq
abbrev bz:=@List.getElem?_toArray
abbrev bq:=@Nat.le_trans
abbrev cm:=@List.pairwise_append
abbrev cD:=@Nat.zero_add
abbrev dJ:=@List.mem_of_getElem?
abbrev bC:=@List.length_filter_le
abbrev aaB:=@List.filter_append
abbrev bJ:=@List.getElem?_append_right
abbrev cF:=@List.drop_eq_nil_of_le
abbrev dP:=@List.perm_iff_count
abbrev be:=@congrArg
abbrev cU:=@Bool.false_eq_true
abbrev cV:=@Prod.mk.injEq
abbrev bV:=@List.nil_append
abbrev cO:=@List.append_nil
abbrev cS:=@Nat.mul_le_mul_right
abbrev bX:=@List.mem_of_mem_take
abbrev db:=@List.cons_append
abbrev cj:=@List.getElem?_map
abbrev cW:=@List.length_nil
abbrev bU:=@Array.getElem?_toList
abbrev dD:=@List.take_append_of_le_length
abbrev cG:=@List.pairwise_map
abbrev dv:=@List.mem_cons_self
abbrev cC:=@List.length_drop
abbrev bN:=@List.getElem?_take
abbrev fE:=@List.count_cons
abbrev eG:=@Nat.mul_one
abbrev dY:=@List.perm_append_comm
abbrev dZ:=@Option.map_some
abbrev dM:=@List.size_toArray
abbrev dL:=@List.take_append_drop
abbrev jr:=@List.getElem?_eq_none
abbrev cB:=@List.eq_nil_of_length_eq_zero
abbrev eu:=@List.map_congr_left
abbrev dc:=@List.getElem_of_mem
abbrev fG:=@List.not_mem_nil
abbrev dw:=@List.flatMap_cons
abbrev fA:=@List.set_append_right
abbrev eW:=@List.length_mergeSort
abbrev eM:=@Bool.or_eq_true
abbrev dS:=@List.mem_range
abbrev dU:=@List.drop_drop
abbrev fH:=@Bool.false_and
abbrev eL:=@Option.some.inj
abbrev cH:=@List.mem_filter
abbrev gj:=@List.take_append
abbrev fM:=@Nat.add_mul
abbrev cq:=@Array.length_toList
abbrev fR:=@Nat.lt_of_lt_of_le
abbrev cT:=@List.getElem?_drop
abbrev BA:=@List.findIdx?_cons
abbrev gQ:=@List.drop_append
abbrev gS:=@if_false
abbrev gk:=@List.flatten_append
abbrev bY:=@List.filter_eq_self
abbrev lF:=@Nat.zero_le
abbrev gV:=@List.drop_append_of_le_length
abbrev dH:=@Bool.not_eq_true'
abbrev eV:=@List.length_singleton
abbrev gN:=@Nat.pow_succ
abbrev lK:=@List.map_nil
abbrev gU:=@beq_iff_eq
abbrev gz:=@decide_eq_false_iff_not
abbrev jA:=@Option.getD_some
abbrev iw:=@Array.toArray_toList
abbrev fS:=@List.map_map
abbrev dX:=@List.flatten_cons
abbrev fI:=@Array.getElem?_append_left
abbrev fF:=@decide_eq_decide
abbrev jB:=@Nat.xor_lt_two_pow
abbrev mh:=@Option.isSome_iff_exists
abbrev gi:=@Nat.add_assoc
abbrev fc:=@List.length_set
abbrev gO:=@Nat.add_zero
abbrev ks:=@List.perm_middle
abbrev fo:=@Nat.mod_lt
abbrev jp:=@List.mem_append_right
abbrev dz:=@List.pairwise_iff_getElem
abbrev fa:=@List.mem_or_eq_of_mem_set
abbrev jn:=@List.mem_of_find?_eq_some
abbrev gH:=@Nat.min_eq_left
abbrev iZ:=@List.find?_cons
abbrev nV:=@Bool.eq_iff_iff
abbrev nw:=@Nat.zero_mul
abbrev lG:=@Nat.succ_mul
abbrev kF:=@Nat.sub_self
abbrev lI:=@Nat.div_lt_of_lt_mul
abbrev fk:=@List.mem_of_mem_drop
abbrev nu:=@List.count_append
abbrev o8:=@List.sum_cons
abbrev mj:=@Bool.and_true
abbrev jh:=@Array.getElem?_setIfInBounds_ne
abbrev iV:=@Nat.mul_le_mul_left
abbrev dx:=@List.flatMap_append
abbrev aaM:=@Nat.zero_lt_succ
abbrev Fu:=@List.pairwise_singleton
abbrev qz:=@List.getElem_map
abbrev Fv:=@List.getElem?_cons_succ
abbrev lH:=@Nat.mul_comm
abbrev ny:=@Nat.lt_of_le_of_lt
abbrev s7:=@List.set_cons_zero
abbrev kG:=@List.drop_of_length_le
abbrev nU:=@List.nodup_cons
abbrev oN:=@if_true
abbrev oO:=@Nat.or_lt_two_pow
abbrev rH:=@or_false
abbrev pQ:=@Nat.pow_le_pow_right
abbrev lJ:=@List.mem_append_left
abbrev jS:=@List.contains_eq_mem
abbrev iu:=@List.mem_flatMap
abbrev lw:=@List.mem_take_iff_getElem
abbrev qD:=@List.drop_eq_getElem_cons
abbrev km:=@List.drop_set_of_lt
abbrev nW:=@Bool.false_or
abbrev gd:=@List.foldl_cons
abbrev rU:=@List.cons.injEq
abbrev kT:=@List.find?_eq_none
abbrev nA:=@Array.ext'
abbrev CX:=@Nat.one_mul
abbrev lL:=@List.map_id
abbrev td:=@List.length_eq_zero_iff
abbrev aaJ:=@decide_false
abbrev uE:=@Option.map_eq_some_iff
abbrev uF:=@Nat.div_div_eq_div_mul
abbrev Ap:=@List.map_set
abbrev y1:=@List.getElem?_set_self
abbrev iT:=@List.foldl_append
abbrev oQ:=@Array.size_append
abbrev vG:=@List.set_getElem_self
abbrev jq:=@List.getElem_set_self
abbrev dh:=@List.any_eq_true
abbrev jJ:=@List.map_take
abbrev pR:=@List.set_append_left
abbrev LK:=@List.getElem?_set_ne
abbrev za:=@Nat.div_le_self
abbrev qR:=@List.mergeSort_perm
abbrev qS:=@List.length_pos_iff
abbrev zX:=@List.length_flatMap
abbrev Ao:=@Nat.beq_refl
abbrev adQ:=@List.take_zero
abbrev s9:=@Int.natCast_nonneg
abbrev oP:=@List.any_eq_false
abbrev uI:=@List.all_eq_false
abbrev Fq:=@forall_eq_or_imp
abbrev Ft:=@List.range'_succ
abbrev ahM:=@List.pairwise_mergeSort
abbrev Fw:=@Int.eq_ofNat_of_zero_le
abbrev aiH:=@Nat.sub_zero
abbrev I3:=@List.length_eq_one_iff
abbrev gP:=@List.filter_eq_nil_iff
abbrev Jh:=@Nat.div_add_mod
abbrev ajl:=@List.modify_succ_cons
abbrev Mq:=@Array.getElem?_setIfInBounds_self_of_lt
end Go
namespace Go.E
abbrev aD:=Nat->Option Obj
def iI:aD:=λ_=>none
def mg(m:aD)(W:World):Prop:=∀b o,m b=some o->W.heap[b]?=some o
abbrev sZ(m:aD)(W:World):Prop:=m 2=none/\2<W.heap.size
variable{m m':aD}{W W':World}
theorem sZ.next(h:sZ m W)(hs:W.heap.size<=W'.heap.size)(hf:∀b,b<W.heap.size->m b=none->m' b=none):sZ m' W':=by
 grind
theorem sZ.lB(h:sZ m W)(hs:W.heap.size<=W'.heap.size)(hf:∀b,m b=none->m' b=none):sZ m' W':=h.next hs λb _=>hf b
structure cr(m:aD)(W:World)(m':aD)(W':World):Prop where
 jF:mg m' W'
 size:W.heap.size<=W'.heap.size
 tape:W'.tape=W.tape
 os:W'.os=W.os
 output:W'.output=W.output
 frame:∀b,b<W.heap.size->m b=none->m' b=none/\W'.heap[b]?=W.heap[b]?
 drawn:sZ m W->W.drawn<=W'.drawn
theorem cr.refl(h:mg m W):cr m W m W:=⟨h,aW _,rfl,rfl,rfl,λ_ _ hb=>⟨hb,rfl⟩,λ_=>aW _⟩
theorem cr.trans{m'':aD}{W'':World}(h:cr m W m' W')(k:cr m' W' m'' W''):cr m W m'' W'':=
 ⟨k.jF,bq h.size k.size,k.tape.trans h.tape,k.os.trans h.os,k.output.trans h.output,λb hb hm=>
  let ⟨h1,h2⟩:=h.frame b hb hm
  let ⟨k1,k2⟩:=k.frame b (fR hb h.size) h1
  ⟨k1,k2.trans h2⟩,λs=>bq (h.drawn s) (k.drawn (s.next h.size λb hb hm=>(h.frame b hb hm).1))⟩
def cL(m m':aD):Prop:=∀b o,m b=some o->m' b=some o
theorem cL.refl(m:aD):cL m m:=λ_ _ h=>h
theorem cL.trans{a b c:aD}(h:cL a b)(k:cL b c):cL a c:=λx o hx=>k x o (h x o hx)
theorem mg.sub(h:mg m W)(hs:cL m' m):mg m' W:=λb o hb=>h b o (hs b o hb)
theorem cr.H9{m'':aD}(h:cr m W m' W')(hs:cL m'' m'):cr m W m'' W':=
 ⟨h.jF.sub hs,h.size,h.tape,h.os,h.output,λb hb hm=>by
  obtain⟨h1,h2⟩:=h.frame b hb hm;refine⟨?_,h2⟩
  cases hx:m'' b with
  |none=>rfl
  |some o=>(have:=hs b o hx;rw[h1]at this;cases this),h.drawn⟩
def aD.set(m:aD)(b:Nat)(o:Obj):aD:=λx=>if x=b then some o else m x
theorem aD.bg(m:aD)(b:Nat)(o:Obj):m.set b o b=some o:=by simp[aD.set]
variable{b:Nat}
theorem aD.eH(m:aD){x:Nat}(o:Obj)(h:x≠b):m.set b o x=m x:=by simp[aD.set,h]
theorem aD.bT(o:Obj)(h:m b=none):cL m (m.set b o):=λx u hx=>by
 by_cases e:x=b
 ·subst e;rw[h]at hx;cases hx
 ·rw[aD.eH _ _ e];exact hx
theorem aD.set_set(m:aD)(b:Nat)(o o':Obj):(m.set b o).set b o'=m.set b o':=by
 funext x;by_cases e:x=b<;>simp[aD.set,e]
def cK(m:aD):Prop:=∀W,mg m W->sZ iI W
theorem cK.sub(h:cK m)(hs:cL m m'):cK m':=λW hW=>h W (hW.sub hs)
theorem mg.lt(h:mg m W){o:Obj}(hb:m b=some o):b<W.heap.size:=by
 have:=h b o hb
 grind
theorem mg.none{m:aD}{W:World}(h:mg m W){b:Nat}(hb:W.heap.size<=b):m b=none:=by
 cases hx:m b with
 |none=>rfl
 |some o=>have:=h.lt hx;omega
variable{m0:aD}{W0:World}
theorem cr.alloc(h:cr m0 W0 m W)(o:Obj):cr m0 W0 (m.set W.heap.size o) (W.alloc o):=by
 refine h.trans ⟨?_,by simp,rfl,rfl,rfl,?_,λ_=>aW _⟩
 ·intro b u hb
  by_cases e:b=W.heap.size
  ·subst e;rw[aD.bg]at hb;cases hb;exact heap_alloc_new W o
  ·rw[aD.eH _ _ e]at hb
   rw[heap_alloc_old W o (h.jF.lt hb)];exact h.jF b u hb
 ·intro b hb hm
  exact⟨by rw[aD.eH _ _ (by omega)];exact hm,heap_alloc_old W o hb⟩
theorem cr.IU(h:cr m0 W0 m W)(o:Obj):cr m0 W0 m (W.alloc o):=
 (h.alloc o).H9 (aD.bT _ (h.jF.none (aW _)))
theorem cr.drew(h:cr m0 W0 m W):cr m0 W0 m {W with drawn:=W.drawn+1}:=
 h.trans ⟨h.jF,aW _,rfl,rfl,rfl,λ_ _ hb=>⟨hb,rfl⟩,λ_=>Nat.le_succ _⟩
theorem Dc(w:World)(g:Nat)(cs:Array Value)(old:Array Value)(t:TypeId)(fr:Nat×Nat)(hg:w.heap[g]?=some (.cells old t fr)):
  (w.setRow g cs).heap[g]?=some (.cells cs t fr):=setRow_heap w g old cs t fr hg
theorem cr.setRow(h:cr m0 W0 m W){old:Array Value}{t:TypeId}{fr:Nat×Nat}(hm:m b=some (.cells old t fr))(cs:Array Value):
  cr m0 W0 (m.set b (.cells cs t fr)) (W.setRow b cs):=by
 have hW:=h.jF _ _ hm;refine h.trans ⟨?_,by simp[World.setRow],rfl,rfl,rfl,?_,λ_=>aW _⟩
 ·intro x u hx
  by_cases e:x=b
  ·subst e;rw[aD.bg]at hx;cases hx;exact Dc W x cs old t fr hW
  ·rw[aD.eH _ _ e]at hx
   rw[setRow_other W b x cs e];exact h.jF x u hx
 ·intro x hx hn
  have e:x≠b:=λe=>by subst e;rw[hm]at hn;cases hn
  exact⟨by rw[aD.eH _ _ e];exact hn,setRow_other W b x cs e⟩
theorem cr.YC(h:cr m0 W0 m W)(hm:m b=none)(hb:W0.heap.size<=b)(cs:Array Value):cr m0 W0 m (W.setRow b cs):=by
 refine⟨?_,by simp[World.setRow];exact h.size,h.tape,h.os,h.output,?_,h.drawn⟩
 ·intro x u hx
  have e:x≠b:=λe=>by subst e;rw[hm]at hx;cases hx
  rw[setRow_other W b x cs e];exact h.jF x u hx
 ·intro x hx hn
  have e:x≠b:=by omega
  rw[setRow_other W b x cs e];exact h.frame x hx hn
inductive eB where
 |one (x:Value)
 |bG (k:IntKind) (n:Nat) (l:List Int)
 |fq (n:Nat) (l:List Value)
abbrev LB:=List eB
def eB.cells:eB->List Value
 | .one x=>[x]
 | .bG k _ l=>l.map (Value.int k)
 | .fq _ l=>l
def eB.size:eB->Nat
 | .one _=>1
 | .bG _ n _=>n
 | .fq n _=>n
def eB.ok:eB->Prop
 | .one x=>x.oneCell'=true
 | .bG _ n l=>l.length=n
 | .fq n l=>l.length=n/\∀v∈l,v.oneCell'=true
def LB.cz:LB->List Value
 |[]=>[]
 |s::r=>s.cells++LB.cz r
def LB.size:LB->Nat
 |[]=>0
 |s::r=>s.size+LB.size r
def LB.ok:LB->Prop
 |[]=>True
 |s::r=>s.ok/\LB.ok r
variable{s:eB}
theorem eB.fJ(h:s.ok):s.cells.length=s.size:=by
 cases s<;>simp[eB.ok,eB.cells,eB.size]at* <;>first|exact h|exact h.1
theorem LB.fJ:∀{c:LB},LB.ok c->(LB.cz c).length=LB.size c
 |[],_=>rfl
 |s::r,h=>by simp only[LB.cz,LB.size,ax];rw[eB.fJ h.1,LB.fJ h.2]
theorem eB.iN(h:s.ok):∀v∈s.cells,v.oneCell'=true:=by
 cases s with
 |one x=>intro v hv;simp[eB.cells]at hv;subst hv;exact h
 |bG k n l=>intro v hv;simp[eB.cells]at hv;obtain⟨a,_,rfl⟩:=hv;rfl
 |fq n l=>exact h.2
theorem LB.iN:∀{c:LB},LB.ok c->∀v∈LB.cz c,v.oneCell'=true
 |[],_=>λv hv=>by simp[LB.cz]at hv
 |s::r,h=>λv hv=>by
  simp only[LB.cz,aR]at hv;exact hv.elim (eB.iN h.1 v) (LB.iN h.2 v)
theorem LB.jW:∀(c d:LB),LB.cz (c++d)=LB.cz c++LB.cz d
 |[],_=>rfl
 |s::r,d=>by simp only[db,LB.cz,LB.jW r d,aX]
theorem LB.zn:∀{c d:LB},LB.ok c->LB.ok d->LB.ok (c++d)
 |[],_,_,h=>h
 |_::_,_,h,k=>⟨h.1,LB.zn h.2 k⟩
inductive CV where
 |v (x:Value)
 |a (c:LB)
def CV.val:CV->Value
 | .v x=>x
 | .a c=>.agg (LB.cz c).toArray
def CV.ok:CV->Prop
 | .v x=>x.oneCell'=true
 | .a c=>LB.ok c
def gm:List CV->Value
 |[x]=>x.val
 |l=>.tuple (l.map CV.val).toArray
inductive SV where
 |c (x:CV)
 |t (l:List CV)
 |p (h off:Nat)
 |q (h off d:Nat)
 |sl (h off d len cap:Nat)
 |tt
 |ff
 |un
 |any
def eY(ρ:List Nat):SV->Value
 | .c x=>x.val
 | .t l=>.tuple (l.map CV.val).toArray
 | .p h off=>.pointer (some ⟨ρ.getD h 0,off,none⟩)
 | .q h off d=>.pointer (some ⟨ρ.getD h 0,off+d,none⟩)
 | .sl h off d len cap=>.slice (some ⟨ρ.getD h 0,off+d,none⟩) len cap
 | .tt=>.bool true
 | .ff=>.bool false
 | .un=>undef
 | .any=>undef
def SV.ok:SV->Prop
 | .c x=>x.ok
 | .t l=>∀x∈l,x.ok
 |_=>True
def SV.under(n:Nat):SV->Prop
 | .p h _=>h<n
 | .q h _ _=>h<n
 | .sl h _ _ _ _=>h<n
 |_=>True
variable{x:SV}{n:Nat}
theorem SV.Gc{k:Nat}(h:x.under n)(hk:n<=k):x.under k:=by
 cases x<;>simp only[SV.under]at* <;>omega
structure St where
 fr:Nat->SV
 L:List (TypeId×LB)
 m:aD
 x:List Nat
def fO(fr:Nat->SV)(d:Option Nat)(y:SV):Nat->SV:=
 match d with
 |none=>fr
 |some d=>λj=>bif Nat.beq j d then y else fr j
def ev(s:St):Operand->SV
 | .tmp t=>s.fr t
 | .const (.bool true)=>.tt
 | .const (.bool false)=>.ff
 | .const (.agg _)=>.any
 | .const (.tuple _)=>.any
 | .const x=>.c (.v x)
 | .func f=>.c (.v (.func (.func f) #[] #[]))
 | .global g=>.c (.v (.pointer (some ⟨g,0,none⟩)))
def zo{α:Type}:List α->Nat->Option α
 |[],_=>none
 |x::_,0=>some x
 |_::r,n+1=>zo r n
theorem pq{α:Type}:∀(l:List α) (n:Nat),zo l n=l[n]?
 |[],_=>rfl
 |_::_,0=>rfl
 |_::r,n+1=>by simp[zo,pq r n]
structure iG(nt:Nat)(D:List Deferred)(m0:aD)(W0:World)(ρ:List Nat)(s:St)(a:Act)(W:World):Prop where
 defers:a.defers=D
 size:a.tmps.size=nt
 nB:∀i,s.fr i= .any\/(a.tmps[i]?=some (eY ρ (s.fr i))/\(s.fr i).ok/\(s.fr i).under ρ.length)
 len:ρ.length=s.L.length
 rz:∀h t c,s.L[h]?=some (t,c)->W.heap[ρ.getD h 0]?=some (.cells (LB.cz c).toArray t (0,0))/\LB.ok c/\s.m (ρ.getD h 0)=none/\W0.heap.size<=ρ.getD h 0
 ot:ρ.Nodup
 after:cr m0 W0 s.m W
 z7:∀b∈s.x,∃o,s.m b=some o
variable{ρ:List Nat}
theorem EY(h:x.under ρ.length)(e:List Nat):eY (ρ++e) x=eY ρ x:=by
 have hg:∀i,i<ρ.length->(ρ++e).getD i 0=ρ.getD i 0:=λi hi=>by
  grind
 cases x<;>simp only[SV.under]at h<;>simp only[eY]<;>try rw[hg _ h]
section
variable {nt:Nat}{D:List Deferred}{m0:aD}{W0:World}{ρ:List Nat}{s:St}{a:Act}{W:World}
theorem iG.eval(h:iG nt D m0 W0 ρ s a W)(o:Operand)(ga:ev s o≠.any):a.eval o=eY ρ (ev s o):=by
 cases o with
 |tmp t=>
  rcases h.nB t with h1|⟨h1,_⟩
  ·exact absurd h1 ga
  ·simp only[Act.eval,ev,Array.getD_eq_getD_getElem?,h1,jA]
 |const x=>cases x<;>first|rfl|exact absurd rfl ga|(rename_i b;cases b<;>rfl)
 |global g=>rfl
 |func f=>rfl
theorem iG.Oh(h:iG nt D m0 W0 ρ s a W)(o:Operand)(ga:ev s o≠.any):(ev s o).ok/\(ev s o).under ρ.length:=by
 cases o with
 |tmp t=>
  rcases h.nB t with h1|⟨_,h2⟩
  ·exact absurd h1 ga
  ·exact h2
 |const x=>
  cases x<;>first|exact⟨rfl,trivial⟩|exact absurd rfl ga|(rename_i b;cases b<;>exact⟨trivial,trivial⟩)
 |global g=>exact⟨rfl,trivial⟩
 |func f=>exact⟨rfl,trivial⟩
def nN(d:Option Nat)(n:Nat):Prop:=∀i,d=some i->i<n
theorem mn(fr:Nat->SV)(d:Option Nat)(y:SV)(i:Nat):fO fr d y i=if d=some i then y else fr i:=by
 cases d with
 |none=>simp[fO]
 |some k=>
  simp only[fO,aM];by_cases e:k=i
  ·subst e;simp
  ·have:Nat.beq i k=false:=by
    cases hb:Nat.beq i k with
    |false=>rfl
    |true=>exact absurd (bu hb).symm e
   simp[this,e]
theorem iG.sq(h:iG nt D m0 W0 ρ s a W){d:Option Nat}(hd:nN d a.tmps.size){y:SV}{e:List Nat}(hy:y= .any\/(y.ok/\y.under (ρ++e).length))(v:Value)(hv:y= .any\/v=eY (ρ++e) y):
  ∀i,fO s.fr d y i= .any\/((a.put d v).tmps[i]?=some (eY (ρ++e) (fO s.fr d y i))/\(fO s.fr d y i).ok/\(fO s.fr d y i).under (ρ++e).length):=by
 intro i;rw[mn];by_cases hi:d=some i
 ·rw[aC hi]
  subst hi;rcases hy with hy|hy
  ·grind
  ·rcases hv with hv|hv
   ·grind
   ·refine .inr ⟨?_,hy⟩
    simp only[Act.put];rw[Mq (hd i rfl),hv]
 ·rw[if_neg hi]
  rcases h.nB i with h1|⟨h1,h2,h3⟩
  ·grind
  ·refine .inr ⟨?_,h2,SV.Gc h3 (by simp)⟩
   rw[EY h3]
   cases d with
   |none=>exact h1
   |some k=>
    simp only[Act.put];rw[jh (λe=>hi (by rw[e]))];exact h1
theorem Act.kv(a:Act)(d:Option Nat)(v:Value):(a.put d v).tmps.size=a.tmps.size:=by
 cases d<;>simp[Act.put]
theorem Act.ji(a:Act)(d:Option Nat)(v:Value):(a.put d v).defers=a.defers:=by
 cases d<;>rfl
theorem iG.put(h:iG nt D m0 W0 ρ s a W){d:Option Nat}(hd:nN d a.tmps.size){y:SV}(hy:y= .any\/(y.ok/\y.under ρ.length))(v:Value)(hv:y= .any\/v=eY ρ y)(x:List Nat)(hx:∀b∈x,∃o,s.m b=some o):
  iG nt D m0 W0 ρ ⟨fO s.fr d y,s.L,s.m,x⟩ (a.put d v) W:=
 ⟨by rw[Act.ji];exact h.defers,by rw[Act.kv];exact h.size,
  by have:=h.sq hd (e:=[]) (by simpa using hy) v (by simpa using hv);simpa using this,
  h.len,h.rz,h.ot,h.after,hx⟩
theorem iG.clear(hr:iG nt D m0 W0 ρ s a W):iG nt D m0 W0 ρ ⟨s.fr,s.L,s.m,[]⟩ a W:=
 ⟨hr.defers,hr.size,hr.nB,hr.len,hr.rz,hr.ot,hr.after,by simp⟩
end
def wY:IntKind->IntKind->Bool
 | .i8,.i8=>true
 | .i16,.i16=>true
 | .i32,.i32=>true
 | .i64,.i64=>true
 | .u8,.u8=>true
 | .u16,.u16=>true
 | .u32,.u32=>true
 | .u64,.u64=>true
 |_,_=>false
variable{k:IntKind}
theorem pA{k':IntKind}(h:wY k k'=true):k=k':=by
 cases k<;>cases k'<;>first|rfl|(simp[wY]at h)
def LB.get:LB->Nat->Option Value
 |[],_=>none
 | .one x::_,0=>some x
 | .one _::r,n+1=>LB.get r n
 | .bG k n l::r,o=>bif Nat.blt o n then some (.int k (l.getD o 0))else LB.get r (o-n)
 | .fq n l::r,o=>bif Nat.blt o n then some (l.getD o undef)else LB.get r (o-n)
theorem pK{a b:Nat}:Nat.blt a b=true↔a<b:=by
 simp_all
theorem pL{a:Nat}:Nat.blt a b=false↔b<=a:=by
 have:=@pK a b
 grind
theorem wM{a b:Nat}:Nat.ble a b=true↔a<=b:=by rw[Nat.ble_eq]
theorem OD{a:Nat}:Nat.ble a b=false↔b<a:=by
 have:=@wM a b
 grind
theorem LB.mY:∀{c:LB}{o:Nat}{x:Value},LB.ok c->LB.get c o=some x->(LB.cz c)[o]?=some x/\x.oneCell'=true
 |[],o,x,_,h=>by simp[LB.get]at h
 | .one y::r,0,x,hc,h=>by
  simp only[LB.get,aM]at h;subst h;exact⟨by simp[LB.cz,eB.cells],hc.1⟩
 | .one y::r,n+1,x,hc,h=>by
  simp only[LB.get]at h;have:=LB.mY hc.2 h;simpa [LB.cz,eB.cells]using this
 | .bG k n l::r,o,x,hc,h=>by
  have hl:l.length=n:=hc.1;simp only[LB.get]at h
  cases hb:Nat.blt o n with
  |true=>
   have bH:=pK.1 hb;simp only[hb,cond_true,aM]at h;subst h;refine⟨?_,rfl⟩;simp only[LB.cz,eB.cells];rw[aT (by simp;omega),cj,az (by omega)];simp[az (show o<l.length by omega)]
  |false=>
   have HS:=pL.1 hb;simp only[hb,cond_false]at h;have:=LB.mY hc.2 h;refine⟨?_,this.2⟩;simp only[LB.cz,eB.cells];rw[bJ (by simp;omega)];simpa [hl]using this.1
 | .fq n l::r,o,x,hc,h=>by
  have hl:l.length=n:=hc.1.1;simp only[LB.get]at h
  cases hb:Nat.blt o n with
  |true=>
   have bH:=pK.1 hb;simp only[hb,cond_true,aM]at h;subst h;have e:l.getD o undef=l[o]:=by simp[az (show o<l.length by omega)]
   refine⟨?_,by rw[e];exact hc.1.2 _ (aO _)⟩;simp only[LB.cz,eB.cells];rw[aT (by omega),az (by omega),e]
  |false=>
   have HS:=pL.1 hb;simp only[hb,cond_false]at h;have:=LB.mY hc.2 h;refine⟨?_,this.2⟩;simp only[LB.cz,eB.cells];rw[bJ (by omega)];simpa [hl]using this.1
def LB.Am:LB->Nat->Nat->(Value->Prop)->Prop
 |[],_,_,_=>False
 | .one _::_,0,_,_=>False
 | .one _::r,o+1,d,K=>LB.Am r o d K
 | .bG k n l::r,o,d,K=>bif Nat.blt o n then(match o with|0=>d<n/\K (.int k (l.getD d 0))|o+1=>o+1+d<n/\K (.int k (l.getD (o+1+d) 0)))else LB.Am r (o-n) d K
 | .fq n l::r,o,d,K=>bif Nat.blt o n then(match o with|0=>d<n/\K (l.getD d undef)|o+1=>o+1+d<n/\K (l.getD (o+1+d) undef))else LB.Am r (o-n) d K
theorem LB.vv:∀{c:LB}{o d:Nat}{K:Value->Prop},LB.ok c->LB.Am c o d K->∃x,K x/\(LB.cz c)[o+d]?=some x/\x.oneCell'=true
 |[],_,_,_,_,h=>by simp[LB.Am]at h
 | .one _::_,0,_,_,_,h=>by simp[LB.Am]at h
 | .one _::r,o+1,d,K,hc,h=>by
  obtain⟨x,hk,hx,h1⟩:=LB.vv hc.2 (by simpa [LB.Am]using h);refine⟨x,hk,?_,h1⟩;have e:o+1+d=(o+d)+1:=by omega
  simpa [LB.cz,eB.cells,e]using hx
 | .bG k n l::r,o,d,K,hc,h=>by
  have hl:l.length=n:=hc.1;simp only[LB.Am]at h
  cases hb:Nat.blt o n with
  |true=>
   simp only[hb,cond_true]at h
   have h':o+d<n/\K (.int k (l.getD (o+d) 0)):=by
    cases o with
    |zero=>simpa using h
    |succ o=>exact h
   refine⟨_,h'.2,?_,rfl⟩;simp only[LB.cz,eB.cells];rw[aT (by simp;omega),cj,az (by omega)];simp[az (show o+d<l.length by omega)]
  |false=>
   have HS:=pL.1 hb;simp only[hb,cond_false]at h;obtain⟨x,hk,hx,h1⟩:=LB.vv hc.2 h;refine⟨x,hk,?_,h1⟩;simp only[LB.cz,eB.cells];rw[bJ (by simp;omega)];have e:o+d-(l.map (Value.int k)).length=o-n+d:=by simp;omega
   rw[e];exact hx
 | .fq n l::r,o,d,K,hc,h=>by
  have hl:l.length=n:=hc.1.1;simp only[LB.Am]at h
  cases hb:Nat.blt o n with
  |true=>
   simp only[hb,cond_true]at h
   have h':o+d<n/\K (l.getD (o+d) undef):=by
    cases o with
    |zero=>simpa using h
    |succ o=>exact h
   have e:l.getD (o+d) undef=l[o+d]'(by omega):=by simp[az (show o+d<l.length by omega)]
   refine⟨_,h'.2,?_,by rw[e];exact hc.1.2 _ (aO _)⟩;simp only[LB.cz,eB.cells];rw[aT (by omega),az (by omega),e]
  |false=>
   have HS:=pL.1 hb;simp only[hb,cond_false]at h;obtain⟨x,hk,hx,h1⟩:=LB.vv hc.2 h;refine⟨x,hk,?_,h1⟩;simp only[LB.cz,eB.cells];rw[bJ (by omega)];have e:o+d-l.length=o-n+d:=by omega
   rw[e];exact hx
def LB.drop:LB->Nat->Option LB
 |c,0=>some c
 |[],_+1=>none
 | .one _::r,n+1=>LB.drop r n
 | .bG k n l::r,o+1=>bif Nat.ble n (o+1)then LB.drop r (o+1-n)else some (.bG k (n-(o+1)) (l.drop (o+1))::r)
 | .fq n l::r,o+1=>bif Nat.ble n (o+1)then LB.drop r (o+1-n)else some (.fq (n-(o+1)) (l.drop (o+1))::r)
theorem LB.pF:∀{c:LB}{o:Nat}{d:LB},LB.ok c->LB.drop c o=some d->LB.ok d/\LB.cz d=(LB.cz c).drop o/\o<=(LB.cz c).length
 |c,0,d,hc,h=>by
  have h':c=d:=by cases c<;>simpa [LB.drop]using h
  subst h';exact⟨hc,rfl,lF _⟩
 |[],_+1,_,_,h=>by simp[LB.drop]at h
 | .one _::r,n+1,d,hc,h=>by
  obtain⟨h1,h2,h3⟩:=LB.pF hc.2 (by simpa [LB.drop]using h);exact⟨h1,by simpa [LB.cz,eB.cells]using h2,by simp[LB.cz,eB.cells];omega⟩
 | .bG k n l::r,o+1,d,hc,h=>by
  have hl:l.length=n:=hc.1;simp only[LB.drop]at h
  cases hb:Nat.ble n (o+1)with
  |true=>
   have hle:=wM.1 hb;simp only[hb,cond_true]at h;obtain⟨h1,h2,h3⟩:=LB.pF hc.2 h;refine⟨h1,?_,by simp[LB.cz,eB.cells];omega⟩;simp only[LB.cz,eB.cells];rw[gQ,cF (by simp;omega),bV,h2];simp[hl]
  |false=>
   have U7:=OD.1 hb;simp only[hb,cond_false,aM]at h;subst h;refine⟨⟨by simp[eB.ok];omega,hc.2⟩,?_,by simp[LB.cz,eB.cells];omega⟩;simp only[LB.cz,eB.cells];rw[gV (by simp;omega)];simp
 | .fq n l::r,o+1,d,hc,h=>by
  have hl:l.length=n:=hc.1.1;simp only[LB.drop]at h
  cases hb:Nat.ble n (o+1)with
  |true=>
   have hle:=wM.1 hb;simp only[hb,cond_true]at h;obtain⟨h1,h2,h3⟩:=LB.pF hc.2 h;refine⟨h1,?_,by simp[LB.cz,eB.cells];omega⟩;simp only[LB.cz,eB.cells];rw[gQ,cF (by omega),bV,h2];simp[hl]
  |false=>
   have U7:=OD.1 hb;simp only[hb,cond_false,aM]at h;subst h;refine⟨⟨⟨by simp;omega,λv hv=>hc.1.2 v (fk hv)⟩,hc.2⟩,?_,by simp[LB.cz,eB.cells];omega⟩;simp only[LB.cz,eB.cells];rw[gV (by omega)]
def LB.take:LB->Nat->Option LB
 |_,0=>some []
 |[],_+1=>none
 | .one x::r,n+1=>match LB.take r n with
  |some c=>some (.one x::c)
  |none=>none
 | .bG k n l::r,o+1=>bif Nat.ble n (o+1)then(match LB.take r (o+1-n)with|some c=>some (.bG k n l::c)|none=>none)else some [.bG k (o+1) (l.take (o+1))]
 | .fq n l::r,o+1=>bif Nat.ble n (o+1)then(match LB.take r (o+1-n)with|some c=>some (.fq n l::c)|none=>none)else some [.fq (o+1) (l.take (o+1))]
theorem LB.jT:∀{c:LB}{o:Nat}{d:LB},LB.ok c->LB.take c o=some d->LB.ok d/\LB.cz d=(LB.cz c).take o/\o<=(LB.cz c).length
 |c,0,d,hc,h=>by
  have h':[]=d:=by cases c<;>simpa [LB.take]using h
  subst h';exact⟨trivial,by simp[LB.cz],lF _⟩
 |[],_+1,_,_,h=>by simp[LB.take]at h
 | .one x::r,n+1,d,hc,h=>by
  simp only[LB.take]at h
  cases ht:LB.take r n with
  |none=>simp[ht]at h
  |some e=>
   simp only[ht,aM]at h;subst h;obtain⟨h1,h2,h3⟩:=LB.jT hc.2 ht;exact⟨⟨hc.1,h1⟩,by simp[LB.cz,eB.cells,h2],by simp[LB.cz,eB.cells];omega⟩
 | .bG k n l::r,o+1,d,hc,h=>by
  have hl:l.length=n:=hc.1;simp only[LB.take]at h
  cases hb:Nat.ble n (o+1)with
  |true=>
   have hle:=wM.1 hb;simp only[hb,cond_true]at h
   cases ht:LB.take r (o+1-n)with
   |none=>simp[ht]at h
   |some e=>
    simp only[ht,aM]at h;subst h;obtain⟨h1,h2,h3⟩:=LB.jT hc.2 ht;refine⟨⟨hc.1,h1⟩,?_,by simp[LB.cz,eB.cells];omega⟩;simp only[LB.cz,eB.cells];rw[gj,bP (by simp;omega),h2];simp[hl]
  |false=>
   have U7:=OD.1 hb;simp only[hb,cond_false,aM]at h;subst h;refine⟨⟨by simp[eB.ok];omega,trivial⟩,?_,by simp[LB.cz,eB.cells];omega⟩;simp only[LB.cz,eB.cells];rw[dD (by simp;omega)];simp
 | .fq n l::r,o+1,d,hc,h=>by
  have hl:l.length=n:=hc.1.1;simp only[LB.take]at h
  cases hb:Nat.ble n (o+1)with
  |true=>
   have hle:=wM.1 hb;simp only[hb,cond_true]at h
   cases ht:LB.take r (o+1-n)with
   |none=>simp[ht]at h
   |some e=>
    simp only[ht,aM]at h;subst h;obtain⟨h1,h2,h3⟩:=LB.jT hc.2 ht;refine⟨⟨hc.1,h1⟩,?_,by simp[LB.cz,eB.cells];omega⟩;simp only[LB.cz,eB.cells];rw[gj,bP (by omega),h2];simp[hl]
  |false=>
   have U7:=OD.1 hb;simp only[hb,cond_false,aM]at h;subst h;refine⟨⟨⟨by simp;omega,λv hv=>hc.1.2 v (bX hv)⟩,trivial⟩,?_,by simp[LB.cz,eB.cells];omega⟩;simp only[LB.cz,eB.cells];rw[dD (by omega)];simp
def LB.sub(c:LB)(o n:Nat):Option LB:=
 match LB.drop c o with
 |some d=>LB.take d n
 |none=>none
variable{o:Nat}
theorem LB.Gm{c:LB}{d:LB}(hc:LB.ok c)(h:LB.sub c o n=some d):LB.ok d/\LB.cz d=((LB.cz c).drop o).take n/\(LB.cz d).length=n:=by
 unfold LB.sub at h
 cases hd:LB.drop c o with
 |none=>simp[hd]at h
 |some e=>
  simp only[hd]at h;obtain⟨h1,h2,h3⟩:=LB.pF hc hd;obtain⟨k1,k2,k3⟩:=LB.jT h1 h;refine⟨k1,by rw[k2,h2],?_⟩;rw[k2,aK];omega
def LB.Ak:LB->Nat->Nat->Nat->(LB->Prop)->Prop
 |[],_,_,_,_=>False
 | .one _::_,0,_,_,_=>False
 | .one _::r,o+1,d,n,K=>LB.Ak r o d n K
 | .bG k n l::r,o,d,z,K=>bif Nat.blt o n then(match o with|0=>d+z<=n/\K [.bG k z ((l.drop d).take z)]|o+1=>o+1+d+z<=n/\K [.bG k z ((l.drop (o+1+d)).take z)])else LB.Ak r (o-n) d z K
 | .fq n l::r,o,d,z,K=>bif Nat.blt o n then(match o with|0=>d+z<=n/\K [.fq z ((l.drop d).take z)]|o+1=>o+1+d+z<=n/\K [.fq z ((l.drop (o+1+d)).take z)])else LB.Ak r (o-n) d z K
theorem LB.vq:∀{c:LB}{o d z:Nat}{K:LB->Prop},LB.ok c->LB.Ak c o d z K->∃e,K e/\LB.ok e/\LB.cz e=((LB.cz c).drop (o+d)).take z/\(LB.cz e).length=z
 |[],_,_,_,_,_,h=>by simp[LB.Ak]at h
 | .one _::_,0,_,_,_,_,h=>by simp[LB.Ak]at h
 | .one _::r,o+1,d,z,K,hc,h=>by
  obtain⟨e,hk,h1,h2,h3⟩:=LB.vq hc.2 (by simpa [LB.Ak]using h);refine⟨e,hk,h1,?_,h3⟩;have e':o+1+d=(o+d)+1:=by omega
  simpa [LB.cz,eB.cells,e']using h2
 | .bG k n l::r,o,d,z,K,hc,h=>by
  have hl:l.length=n:=hc.1;simp only[LB.Ak]at h
  cases hb:Nat.blt o n with
  |true=>
   simp only[hb,cond_true]at h
   have h':o+d+z<=n/\K [.bG k z ((l.drop (o+d)).take z)]:=by
    cases o with
    |zero=>simpa using h
    |succ o=>exact h
   refine⟨_,h'.2,⟨by simp[eB.ok];omega,trivial⟩,?_,by simp[LB.cz,eB.cells];omega⟩;simp only[LB.cz,eB.cells,cO];rw[gV (by simp;omega),dD (by simp;omega)];simp
  |false=>
   have HS:=pL.1 hb;simp only[hb,cond_false]at h;obtain⟨e,hk,h1,h2,h3⟩:=LB.vq hc.2 h;refine⟨e,hk,h1,?_,h3⟩;simp only[LB.cz,eB.cells];rw[gQ,cF (by simp;omega),bV,h2]
   congr 2
   simp;omega
 | .fq n l::r,o,d,z,K,hc,h=>by
  have hl:l.length=n:=hc.1.1;simp only[LB.Ak]at h
  cases hb:Nat.blt o n with
  |true=>
   simp only[hb,cond_true]at h
   have h':o+d+z<=n/\K [.fq z ((l.drop (o+d)).take z)]:=by
    cases o with
    |zero=>simpa using h
    |succ o=>exact h
   refine⟨_,h'.2,⟨⟨by simp;omega,λv hv=>hc.1.2 v (fk (bX hv))⟩,trivial⟩,?_,by simp[LB.cz,eB.cells];omega⟩;simp only[LB.cz,eB.cells,cO];rw[gV (by omega),dD (by simp;omega)]
  |false=>
   have HS:=pL.1 hb;simp only[hb,cond_false]at h;obtain⟨e,hk,h1,h2,h3⟩:=LB.vq hc.2 h;refine⟨e,hk,h1,?_,h3⟩;simp only[LB.cz,eB.cells];rw[gQ,cF (by omega),bV,h2]
   congr 2
   omega
def LB.set:LB->Nat->Value->Option LB
 |[],_,_=>none
 | .one _::r,0,x=>some (.one x::r)
 | .one y::r,n+1,x=>match LB.set r n x with
  |some c=>some (.one y::c)
  |none=>none
 | .bG k n l::r,o,x=>bif Nat.blt o n then(match x with| .int k' z=>bif wY k k' then some (.bG k n (l.set o z)::r)else none|_=>none)else(match LB.set r (o-n) x with|some c=>some (.bG k n l::c)|none=>none)
 | .fq n l::r,o,x=>bif Nat.blt o n then some (.fq n (l.set o x)::r)else(match LB.set r (o-n) x with|some c=>some (.fq n l::c)|none=>none)
theorem LB.uQ:∀{c:LB}{o:Nat}{x:Value}{c':LB},LB.ok c->x.oneCell'=true->LB.set c o x=some c'->LB.ok c'/\LB.cz c'=(LB.cz c).set o x/\o<(LB.cz c).length
 |[],_,_,_,_,_,h=>by simp[LB.set]at h
 | .one y::r,0,x,c',hc,hx,h=>by
  simp only[LB.set,aM]at h;subst h
  exact⟨⟨hx,hc.2⟩,by simp[LB.cz,eB.cells],by simp[LB.cz,eB.cells]⟩
 | .one y::r,n+1,x,c',hc,hx,h=>by
  simp only[LB.set]at h
  cases hs:LB.set r n x with
  |none=>simp[hs]at h
  |some e=>
   simp only[hs,aM]at h;subst h
   obtain⟨h1,h2,h3⟩:=LB.uQ hc.2 hx hs;exact⟨⟨hc.1,h1⟩,by simp[LB.cz,eB.cells,h2],by simp[LB.cz,eB.cells];omega⟩
 | .bG k n l::r,o,x,c',hc,hx,h=>by
  have hl:l.length=n:=hc.1;simp only[LB.set]at h
  cases hb:Nat.blt o n with
  |true=>
   have bH:=pK.1 hb;simp only[hb,cond_true]at h
   cases x with
   |int k' z=>
    cases hk:wY k k' with
    |false=>simp[hk]at h
    |true=>
     simp only[hk,cond_true,aM]at h;have:=pA hk;subst this;subst h
     refine⟨⟨by simp[eB.ok,hl],hc.2⟩,?_,by simp[LB.cz,eB.cells];omega⟩;simp only[LB.cz,eB.cells];rw[pR _ _ (by simp;omega),Ap]
   |_=>simp at h
  |false=>
   have HS:=pL.1 hb;simp only[hb,cond_false]at h
   cases hs:LB.set r (o-n) x with
   |none=>simp[hs]at h
   |some e=>
    simp only[hs,aM]at h;subst h
    obtain⟨h1,h2,h3⟩:=LB.uQ hc.2 hx hs;refine⟨⟨hc.1,h1⟩,?_,by simp[LB.cz,eB.cells];omega⟩;simp only[LB.cz,eB.cells];rw[fA _ _ (by simp;omega),h2];simp[hl]
 | .fq n l::r,o,x,c',hc,hx,h=>by
  have hl:l.length=n:=hc.1.1;simp only[LB.set]at h
  cases hb:Nat.blt o n with
  |true=>
   have bH:=pK.1 hb;simp only[hb,cond_true,aM]at h;subst h;refine⟨⟨⟨by simp[hl],λv hv=>?_⟩,hc.2⟩,?_,by simp[LB.cz,eB.cells];omega⟩
   ·rcases fa hv with h1|h1
    ·exact hc.1.2 v h1
    ·rw[h1];exact hx
   ·simp only[LB.cz,eB.cells]
    rw[pR _ _ (by omega)]
  |false=>
   have HS:=pL.1 hb;simp only[hb,cond_false]at h
   cases hs:LB.set r (o-n) x with
   |none=>simp[hs]at h
   |some e=>
    simp only[hs,aM]at h;subst h
    obtain⟨h1,h2,h3⟩:=LB.uQ hc.2 hx hs;refine⟨⟨hc.1,h1⟩,?_,by simp[LB.cz,eB.cells];omega⟩;simp only[LB.cz,eB.cells];rw[fA _ _ (by omega),h2];simp[hl]
def LB.vu:LB->Nat->Nat->Value->(LB->Prop)->Prop
 |[],_,_,_,_=>False
 | .one _::_,0,_,_,_=>False
 | .one y::r,o+1,d,x,K=>LB.vu r o d x (λc=>K (.one y::c))
 | .bG k n l::r,o,d,x,K=>bif Nat.blt o n then(match x with| .int k' z=>bif wY k k' then(match o with|0=>d<n/\K (.bG k n (l.set d z)::r)|o+1=>o+1+d<n/\K (.bG k n (l.set (o+1+d) z)::r))else False|_=>False)else LB.vu r (o-n) d x (λc=>K (.bG k n l::c))
 | .fq n l::r,o,d,x,K=>bif Nat.blt o n then(match o with|0=>d<n/\K (.fq n (l.set d x)::r)|o+1=>o+1+d<n/\K (.fq n (l.set (o+1+d) x)::r))else LB.vu r (o-n) d x (λc=>K (.fq n l::c))
theorem LB.zA:∀{c:LB}{o d:Nat}{x:Value}{K:LB->Prop},LB.ok c->x.oneCell'=true->LB.vu c o d x K->∃c',K c'/\LB.ok c'/\LB.cz c'=(LB.cz c).set (o+d) x/\o+d<(LB.cz c).length
 |[],_,_,_,_,_,_,h=>by simp[LB.vu]at h
 | .one _::_,0,_,_,_,_,_,h=>by simp[LB.vu]at h
 | .one y::r,o+1,d,x,K,hc,hx,h=>by
  obtain⟨e,hk,h1,h2,h3⟩:=LB.zA (c:=r) (K:=λc=>K (.one y::c)) hc.2 hx (by simpa [LB.vu]using h);have e':o+1+d=(o+d)+1:=by omega
  exact⟨_,hk,⟨hc.1,h1⟩,by simp[LB.cz,eB.cells,h2,e'],by simp[LB.cz,eB.cells];omega⟩
 | .bG k n l::r,o,d,x,K,hc,hx,h=>by
  have hl:l.length=n:=hc.1;simp only[LB.vu]at h
  cases hb:Nat.blt o n with
  |true=>
   simp only[hb,cond_true]at h
   cases x with
   |int k' z=>
    cases hk:wY k k' with
    |false=>simp[hk]at h
    |true=>
     simp only[hk,cond_true]at h;have:=pA hk;subst this
     have h':o+d<n/\K (.bG k n (l.set (o+d) z)::r):=by
      cases o with
      |zero=>simpa using h
      |succ o=>exact h
     refine⟨_,h'.2,⟨by simp[eB.ok,hl],hc.2⟩,?_,by simp[LB.cz,eB.cells];omega⟩;simp only[LB.cz,eB.cells];rw[pR _ _ (by simp;omega),Ap]
   |_=>simp at h
  |false=>
   have HS:=pL.1 hb;simp only[hb,cond_false]at h;obtain⟨e,hk,h1,h2,h3⟩:=LB.zA (K:=λc=>K (.bG k n l::c)) hc.2 hx h;refine⟨_,hk,⟨hc.1,h1⟩,?_,by simp[LB.cz,eB.cells];omega⟩;simp only[LB.cz,eB.cells];rw[fA _ _ (by simp;omega),h2]
   congr 2
   simp;omega
 | .fq n l::r,o,d,x,K,hc,hx,h=>by
  have hl:l.length=n:=hc.1.1;simp only[LB.vu]at h
  cases hb:Nat.blt o n with
  |true=>
   simp only[hb,cond_true]at h
   have h':o+d<n/\K (.fq n (l.set (o+d) x)::r):=by
    cases o with
    |zero=>simpa using h
    |succ o=>exact h
   refine⟨_,h'.2,⟨⟨by simp[hl],λv hv=>?_⟩,hc.2⟩,?_,by simp[LB.cz,eB.cells];omega⟩
   ·rcases fa hv with h1|h1
    ·exact hc.1.2 v h1
    ·rw[h1];exact hx
   ·simp only[LB.cz,eB.cells]
    rw[pR _ _ (by omega)]
  |false=>
   have HS:=pL.1 hb;simp only[hb,cond_false]at h;obtain⟨e,hk,h1,h2,h3⟩:=LB.zA (K:=λc=>K (.fq n l::c)) hc.2 hx h;refine⟨_,hk,⟨hc.1,h1⟩,?_,by simp[LB.cz,eB.cells];omega⟩;simp only[LB.cz,eB.cells];rw[fA _ _ (by omega),h2]
   congr 2
   omega
def NJ(k:IntKind)(n:Nat)(l:List Int)(o:Nat)(v:LB):Option eB:=
 match v with
 |[.bG k' n' l']=>bif wY k k'&&Nat.ble (o+n') n then some (.bG k n (l.take o++(l'++l.drop (o+n'))))else none
 |_=>none
theorem QR{l:List Int}{v:LB}(hl:l.length=n)(hv:LB.ok v)(h:NJ k n l o v=some s):
  s.ok/\s.cells=(l.map (Value.int k)).take o++(LB.cz v++(l.map (Value.int k)).drop (o+(LB.cz v).length))/\o+(LB.cz v).length<=n:=by
 unfold NJ at h
 split at h
 ·rename_i k' n' l'
  cases hb:wY k k'&&Nat.ble (o+n') n with
  |false=>simp[hb]at h
  |true=>
   simp only[hb,cond_true,aM]at h;simp only[aB]at hb;have:=pA hb.1;subst this
   have hle:=wM.1 hb.2;have Xc:l'.length=n':=hv.1;subst h;refine⟨by simp[eB.ok];omega,?_,by simp[LB.cz,eB.cells];omega⟩;simp[LB.cz,eB.cells,Xc]
 ·simp at h
def LB.mS:LB->Nat->LB->Option LB
 |[],_,_=>none
 | .bG k n l::r,o,v=>bif Nat.blt o n then(match NJ k n l o v with|some s=>some (s::r)|none=>(match o with|0=>(match LB.drop (.bG k n l::r) (LB.size v)with|some e=>some (v++e)|none=>none)|_+1=>none))else(match LB.mS r (o-n) v with|some c=>some (.bG k n l::c)|none=>none)
 | .one x::r,0,v=>match LB.drop (.one x::r) (LB.size v)with
  |some e=>some (v++e)
  |none=>none
 | .one x::r,o+1,v=>match LB.mS r o v with
  |some c=>some (.one x::c)
  |none=>none
 | .fq n l::r,0,v=>match LB.drop (.fq n l::r) (LB.size v)with
  |some e=>some (v++e)
  |none=>none
 | .fq n l::r,o+1,v=>bif Nat.ble n (o+1)then(match LB.mS r (o+1-n) v with|some c=>some (.fq n l::c)|none=>none)else none
theorem LB.zl:∀{c:LB}{o:Nat}{v c':LB},LB.ok c->LB.ok v->LB.mS c o v=some c'->
  LB.ok c'/\LB.cz c'=(LB.cz c).take o++(LB.cz v++(LB.cz c).drop (o+(LB.cz v).length))/\o+(LB.cz v).length<=(LB.cz c).length
 |[],_,_,_,_,_,h=>by simp[LB.mS]at h
 | .bG k n l::r,o,v,c',hc,hv,h=>by
  have hl:l.length=n:=hc.1;simp only[LB.mS]at h
  cases hb:Nat.blt o n with
  |true=>
   have bH:=pK.1 hb;simp only[hb,cond_true]at h
   cases hi:NJ k n l o v with
   |none=>
    simp only[hi]at h
    cases o with
    |succ o=>simp at h
    |zero=>
     cases hd:LB.drop (.bG k n l::r) (LB.size v)with
     |none=>simp[hd]at h
     |some e=>
      simp only[hd,aM]at h;subst h;obtain⟨h1,h2,h3⟩:=LB.pF hc hd;have U2:=LB.fJ hv;refine⟨LB.zn hv h1,?_,by omega⟩;rw[LB.jW,h2];simp[U2]
   |some s=>
    simp only[hi,aM]at h;subst h;obtain⟨h1,h2,h3⟩:=QR hl hv hi;refine⟨⟨h1,hc.2⟩,?_,by simp[LB.cz,eB.cells];omega⟩;simp only[LB.cz,h2];rw[show eB.cells (.bG k n l)=l.map (Value.int k) from rfl,dD (by simp;omega),gV (by simp;omega)];simp
  |false=>
   have HS:=pL.1 hb;simp only[hb,cond_false]at h
   cases hs:LB.mS r (o-n) v with
   |none=>simp[hs]at h
   |some e=>
    simp only[hs,aM]at h;subst h
    obtain⟨h1,h2,h3⟩:=LB.zl hc.2 hv hs;refine⟨⟨hc.1,h1⟩,?_,by simp[LB.cz,eB.cells];omega⟩;simp only[LB.cz,h2];have e1:(l.map (Value.int k)).take o=l.map (Value.int k):=bP (by simp;omega);have e2:(l.map (Value.int k)).drop (o+(LB.cz v).length)=[]:=cF (by simp;omega);rw[show eB.cells (.bG k n l)=l.map (Value.int k) from rfl,gj,gQ,e1,e2];simp only[aH,hl,bV,aX];rw[show o+(LB.cz v).length-n=o-n+(LB.cz v).length from by omega]
 | .one x::r,0,v,c',hc,hv,h=>by
  simp only[LB.mS]at h
  cases hd:LB.drop (.one x::r) (LB.size v)with
  |none=>simp[hd]at h
  |some e=>
   simp only[hd,aM]at h;subst h
   obtain⟨h1,h2,h3⟩:=LB.pF hc hd;have U2:=LB.fJ hv;refine⟨LB.zn hv h1,?_,by omega⟩;rw[LB.jW,h2];simp[U2]
 | .one x::r,o+1,v,c',hc,hv,h=>by
  simp only[LB.mS]at h
  cases hs:LB.mS r o v with
  |none=>simp[hs]at h
  |some e=>
   simp only[hs,aM]at h;subst h
   obtain⟨h1,h2,h3⟩:=LB.zl hc.2 hv hs;refine⟨⟨hc.1,h1⟩,?_,by simp[LB.cz,eB.cells];omega⟩;have e':o+1+(LB.cz v).length=(o+(LB.cz v).length)+1:=by omega
   simp[LB.cz,eB.cells,h2,e']
 | .fq n l::r,0,v,c',hc,hv,h=>by
  simp only[LB.mS]at h
  cases hd:LB.drop (.fq n l::r) (LB.size v)with
  |none=>simp[hd]at h
  |some e=>
   simp only[hd,aM]at h;subst h
   obtain⟨h1,h2,h3⟩:=LB.pF hc hd;have U2:=LB.fJ hv;refine⟨LB.zn hv h1,?_,by omega⟩;rw[LB.jW,h2];simp[U2]
 | .fq n l::r,o+1,v,c',hc,hv,h=>by
  have hl:l.length=n:=hc.1.1;simp only[LB.mS]at h
  cases hb:Nat.ble n (o+1)with
  |false=>simp[hb]at h
  |true=>
   have hle:=wM.1 hb;simp only[hb,cond_true]at h
   cases hs:LB.mS r (o+1-n) v with
   |none=>simp[hs]at h
   |some e=>
    simp only[hs,aM]at h;subst h
    obtain⟨h1,h2,h3⟩:=LB.zl hc.2 hv hs;refine⟨⟨hc.1,h1⟩,?_,by simp[LB.cz,eB.cells];omega⟩;simp only[LB.cz,h2];have e1:l.take (o+1)=l:=bP (by omega);have e2:l.drop (o+1+(LB.cz v).length)=[]:=cF (by omega);rw[show eB.cells (.fq n l)=l from rfl,gj,gQ,e1,e2];simp only[hl,bV,aX];rw[show o+1+(LB.cz v).length-n=o+1-n+(LB.cz v).length from by omega]
def LB.YS(c:LB)(o:Nat)(v:LB):Option LB:=
 bif Nat.beq o 0&&Nat.beq (LB.size v) (LB.size c)then some v else LB.mS c o v
theorem LB.KV{c:LB}{v c':LB}(hc:LB.ok c)(hv:LB.ok v)(h:LB.YS c o v=some c'):
  LB.ok c'/\LB.cz c'=(LB.cz c).take o++(LB.cz v++(LB.cz c).drop (o+(LB.cz v).length))/\o+(LB.cz v).length<=(LB.cz c).length:=by
 unfold LB.YS at h
 cases hb:Nat.beq o 0&&Nat.beq (LB.size v) (LB.size c)with
 |false=>simp only[hb,cond_false]at h;exact LB.zl hc hv h
 |true=>
  simp only[hb,cond_true,aM]at h;subst h;simp only[aB]at hb;have e0:=bu hb.1;have e1:=bu hb.2;subst e0;have h1:=LB.fJ hc;have h2:=LB.fJ hv;refine⟨hv,?_,by omega⟩;rw[cF (by omega)];simp
def LB.Bq:LB->Nat->Nat->LB->(LB->Prop)->Prop
 |[],_,_,_,_=>False
 | .one _::_,0,_,_,_=>False
 | .one y::r,o+1,d,v,K=>LB.Bq r o d v (λc=>K (.one y::c))
 | .bG k n l::r,o,d,v,K=>bif Nat.blt o n then(match v with|[.bG k' n' l']=>bif wY k k' then(match o with|0=>d+n'<=n/\K (.bG k n (l.take d++(l'++l.drop (d+n')))::r)|o+1=>o+1+d+n'<=n/\K (.bG k n (l.take (o+1+d)++(l'++l.drop (o+1+d+n')))::r))else False|_=>False)else LB.Bq r (o-n) d v (λc=>K (.bG k n l::c))
 | .fq n l::r,o,d,v,K=>bif Nat.blt o n then False else LB.Bq r (o-n) d v (λc=>K (.fq n l::c))
theorem LB.adD:∀{c:LB}{o d:Nat}{v:LB}{K:LB->Prop},LB.ok c->LB.ok v->LB.Bq c o d v K->∃c',K c'/\LB.ok c'/\
  LB.cz c'=(LB.cz c).take (o+d)++(LB.cz v++(LB.cz c).drop (o+d+(LB.cz v).length))/\o+d+(LB.cz v).length<=(LB.cz c).length
 |[],_,_,_,_,_,_,h=>by simp[LB.Bq]at h
 | .one _::_,0,_,_,_,_,_,h=>by simp[LB.Bq]at h
 | .one y::r,o+1,d,v,K,hc,hv,h=>by
  obtain⟨e,hk,h1,h2,h3⟩:=LB.adD (c:=r) (K:=λc=>K (.one y::c)) hc.2 hv (by simpa [LB.Bq]using h);have e':o+1+d=(o+d)+1:=by omega
  have e'':o+1+d+(LB.cz v).length=(o+d+(LB.cz v).length)+1:=by omega
  refine⟨_,hk,⟨hc.1,h1⟩,?_,by simp[LB.cz,eB.cells];omega⟩;rw[e'',e'];simp[LB.cz,eB.cells,h2]
 | .bG k n l::r,o,d,v,K,hc,hv,h=>by
  have hl:l.length=n:=hc.1;simp only[LB.Bq]at h
  cases hb:Nat.blt o n with
  |true=>
   simp only[hb,cond_true]at h
   split at h
   ·rename_i k' n' l'
    cases hk:wY k k' with
    |false=>simp[hk]at h
    |true=>
     simp only[hk,cond_true]at h;have:=pA hk;subst this
     have Xc:l'.length=n':=hv.1
     have h':o+d+n'<=n/\K (.bG k n (l.take (o+d)++(l'++l.drop (o+d+n')))::r):=by
      cases o with
      |zero=>simpa using h
      |succ o=>exact h
     refine⟨_,h'.2,⟨by simp[eB.ok];omega,hc.2⟩,?_,by simp[LB.cz,eB.cells];omega⟩;simp only[LB.cz,eB.cells,cO,aH,Xc];rw[dD (by simp;omega),gV (by simp;omega)];simp
   ·exact h.elim
  |false=>
   have HS:=pL.1 hb;simp only[hb,cond_false]at h;obtain⟨e,hk,h1,h2,h3⟩:=LB.adD (K:=λc=>K (.bG k n l::c)) hc.2 hv h;refine⟨_,hk,⟨hc.1,h1⟩,?_,by simp[LB.cz,eB.cells];omega⟩;simp only[LB.cz,h2];have e1:(l.map (Value.int k)).take (o+d)=l.map (Value.int k):=bP (by simp;omega);have e2:(l.map (Value.int k)).drop (o+d+(LB.cz v).length)=[]:=cF (by simp;omega);rw[show eB.cells (.bG k n l)=l.map (Value.int k) from rfl,gj,gQ,e1,e2];simp only[aH,hl,bV,aX];rw[show o+d-n=o-n+d from by omega,show o+d+(LB.cz v).length-n=o-n+d+(LB.cz v).length from by omega]
 | .fq n l::r,o,d,v,K,hc,hv,h=>by
  have hl:l.length=n:=hc.1.1;simp only[LB.Bq]at h
  cases hb:Nat.blt o n with
  |true=>simp[hb]at h
  |false=>
   have HS:=pL.1 hb;simp only[hb,cond_false]at h;obtain⟨e,hk,h1,h2,h3⟩:=LB.adD (K:=λc=>K (.fq n l::c)) hc.2 hv h;refine⟨_,hk,⟨hc.1,h1⟩,?_,by simp[LB.cz,eB.cells];omega⟩;simp only[LB.cz,h2];have e1:l.take (o+d)=l:=bP (by omega);have e2:l.drop (o+d+(LB.cz v).length)=[]:=cF (by omega);rw[show eB.cells (.fq n l)=l from rfl,gj,gQ,e1,e2];simp only[hl,bV,aX];rw[show o+d-n=o-n+d from by omega,show o+d+(LB.cz v).length-n=o-n+d+(LB.cz v).length from by omega]
def xU:Value->Value->Bool
 | .int k _,.int k' _=>wY k k'
 | .bool _,.bool _=>true
 | .string _,.string _=>true
 |_,_=>false
def ceq:Value->Value->Bool
 | .int _ a,.int _ b=>a==b
 | .bool a,.bool b=>a==b
 | .string a,.string b=>a.toList==b.toList
 |_,_=>false
def jM:List Value->List Value->Prop
 |[],[]=>True
 |z::zs,x::xs=>xU z x=true/\jM zs xs
 |_,_=>False
def gw:List Value->List Value->Bool
 |[],[]=>true
 |x::xs,y::ys=>ceq x y&&gw xs ys
 |_,_=>false
theorem jM.length:∀{z x:List Value},jM z x->z.length=x.length
 |[],[],_=>rfl
 |_::_,_::_,h=>by simp[jM.length h.2]
 |[],_::_,h=>h.elim
 |_::_,[],h=>h.elim
theorem jM.take:∀{z x:List Value} (n:Nat),jM z x->jM (z.take n) (x.take n)
 |[],[],n,_=>by simp[jM]
 |_::_,_::_,0,_=>by simp[jM]
 |_::_,_::_,n+1,h=>⟨h.1,jM.take n h.2⟩
 |[],_::_,_,h=>h.elim
 |_::_,[],_,h=>h.elim
theorem jM.drop:∀{z x:List Value} (n:Nat),jM z x->jM (z.drop n) (x.drop n)
 |[],[],n,_=>by simp[jM]
 |_::_,_::_,0,h=>h
 |_::_,_::_,n+1,h=>by simpa using jM.drop n h.2
 |[],_::_,_,h=>h.elim
 |_::_,[],_,h=>h.elim
theorem uC:∀(n:Nat) {x y:List Value},x.length=y.length->gw x y=(gw (x.take n) (y.take n)&&gw (x.drop n) (y.drop n))
 |_,[],[],_=>by simp[gw]
 |0,_::_,_::_,_=>by simp[gw]
 |n+1,a::x,b::y,h=>by
  simp only[List.take_succ_cons,List.drop_succ_cons,gw];rw[uC n (by simpa using h),Bool.and_assoc]
 |_,[],_::_,h=>by simp at h
 |_,_::_,[],h=>by simp at h
theorem jM.append:∀{z x z' x':List Value},jM z x->jM z' x'->jM (z++z') (x++x')
 |[],[],_,_,_,h=>h
 |_::_,_::_,_,_,h,h'=>⟨h.1,jM.append h.2 h'⟩
 |[],_::_,_,_,h,_=>h.elim
 |_::_,[],_,_,h,_=>h.elim
theorem yU:∀{x y x' y':List Value},x.length=y.length->gw (x++x') (y++y')=(gw x y&&gw x' y')
 |[],[],_,_,_=>by simp[gw]
 |_::_,_::_,_,_,h=>by simp only[db,gw];rw[yU (by simpa using h),Bool.and_assoc]
 |[],_::_,_,_,h=>by simp at h
 |_::_,[],_,_,h=>by simp at h
def Rt(P:Program)(g:TypeId->List Value->Bool):List Field->List Value->Nat->Bool
 |[],z,off=>z.length==off
 |f::fs,z,off=>f.name != "_" &&f.offset==off&&decide (off+P.cellsOf f.type<=z.length)&&g f.type ((z.drop off).take (P.cellsOf f.type))&&Rt P g fs z (off+P.cellsOf f.type)
def oz(P:Program):Nat->TypeId->List Value->Bool
 |0,_,_=>false
 |d+1,t,z=>match P.underlying t with
  |some .bool=>match z with
   |[.bool _]=>true
   |_=>false
  |some (.int k)=>match z with
   |[.int k' _]=>wY k k'
   |_=>false
  |some .string=>match z with
   |[.string _]=>true
   |_=>false
  |some (.array n e)=>(P.info? e).isSome&&(z.length==n*P.cellsOf e)&&(List.range n).all λi=>oz P d e ((z.drop (i*P.cellsOf e)).take (P.cellsOf e))
  |some (.struct fs)=>!P.stoodInHeld t&&Rt P (oz P d) fs.toList z 0
  |_=>false
def Vl(P:Program)(t:TypeId)(a:Value)(cs:List Value):Prop:=
 match P.underlying t with
 |some (.array _ _)=>a= .agg cs.toArray
 |some (.struct _)=>a= .agg cs.toArray
 |_=>cs=[a]
section
variable {P:Program}
theorem pU{d:Nat}{e:TypeId}{z:List Value}{off:Nat}{xs:Array Value}(hg:oz P d e ((z.drop off).take (P.cellsOf e))=true)(hk:jM z xs.toList)(w:World):
  ∃a,(part e xs off).run P w= .ok a w/\Vl P e a ((xs.toList.drop off).take (P.cellsOf e)):=by
 cases d with
 |zero=>simp[oz]at hg
 |succ d=>
  have ve:=(hk.drop off).take (P.cellsOf e);have hlen:=ve.length
  cases hu:P.underlying e with
  |none=>simp[oz,hu]at hg
  |some kd=>
   obtain⟨i,hi⟩:=info_of_underlying hu
   have acj:(∃v,(z.drop off).take (P.cellsOf e)=[v])->P.plainKey e=true->∃a,(part e xs off).run P w= .ok a w/\(xs.toList.drop off).take (P.cellsOf e)=[a]:=by
    intro⟨v,hv⟩ hp;rw[hv]at hlen;obtain⟨a,ha⟩:=I3.1 hlen.symm;exact⟨a,run_part_plain w hp (getElem?_of_chunk ha),ha⟩
   have agg:(∃n e',kd= .array n e')\/(∃fs,kd= .struct fs)->(part e xs off).run P w= .ok (.agg ((xs.toList.drop off).take (P.cellsOf e)).toArray) w:=by
    intro hkd
    have hl:xs.extract off (off+P.cellsOf e)=((xs.toList.drop off).take (P.cellsOf e)).toArray:=by
     apply Array.toList_inj.1
     rw[Array.toList_extract];simp[List.extract]
    rcases hkd with⟨n,e',rfl⟩|⟨fs,rfl⟩<;>simp[part,isAgg,run_underlying hu,run_sizeOf w hi,hl]
   unfold oz at hg;rw[hu]at hg
   cases kd with
   |bool=>
    simp only at hg
    split at hg
    ·rename_i b hz
     obtain⟨a,h1,h2⟩:=acj ⟨_,hz⟩ (by simp[Program.plainKey,hu]);exact⟨a,h1,by simpa [Vl,hu]using h2⟩
    ·cases hg
   |int q=>
    simp only at hg
    split at hg
    ·rename_i k' b hz
     obtain⟨a,h1,h2⟩:=acj ⟨_,hz⟩ (by simp[Program.plainKey,hu]);exact⟨a,h1,by simpa [Vl,hu]using h2⟩
    ·cases hg
   |string=>
    simp only at hg
    split at hg
    ·rename_i b hz
     obtain⟨a,h1,h2⟩:=acj ⟨_,hz⟩ (by simp[Program.plainKey,hu]);exact⟨a,h1,by simpa [Vl,hu]using h2⟩
    ·cases hg
   |array n e'=>exact⟨_,agg (.inl ⟨n,e',rfl⟩),by simp[Vl,hu]⟩
   |struct fs=>exact⟨_,agg (.inr ⟨fs,rfl⟩),by simp[Vl,hu]⟩
   |_=>simp at hg
def EqG(P:Program)(d:Nat)(t:TypeId)(z:List Value):Prop:=
 ∀w a b xs ys,Vl P t a xs->Vl P t b ys->jM z xs->jM z ys->(Op.equalIn d t a b).run P w= .ok (gw xs ys) w
theorem Cm{d:Nat}{e:TypeId}{D:Nat}{z:List Value}{xs ys:Array Value}(hx:jM z xs.toList)(hy:jM z ys.toList)(w:World):∀(n k:Nat),(n+k)*P.cellsOf e=z.length->
  (∀i,i<n+k->oz P D e ((z.drop (i*P.cellsOf e)).take (P.cellsOf e))=true/\EqG P d e ((z.drop (i*P.cellsOf e)).take (P.cellsOf e)))->
  (Op.eqItems d e (P.cellsOf e) xs ys (List.range' k n)).run P w= .ok (gw (xs.toList.drop (k*P.cellsOf e)) (ys.toList.drop (k*P.cellsOf e))) w
 |0,k,hl,_=>by
  have h1:xs.toList.drop (k*P.cellsOf e)=[]:=cF (by rw[<-hx.length,<-hl];simp);have h2:ys.toList.drop (k*P.cellsOf e)=[]:=cF (by rw[<-hy.length,<-hl];simp);rw[h1,h2];simp[Op.eqItems,gw]
 |n+1,k,hl,cM=>by
  simp only[Ft,Op.eqItems,Sem.run_bind];obtain⟨hg,he⟩:=cM k (by omega);obtain⟨a,h1,h2⟩:=pU hg hx w;obtain⟨b,h3,h4⟩:=pU hg hy w;rw[h1];simp only[Result.andThen_ok]
  rw[h3];simp only[Result.andThen_ok]
  rw[he w a b _ _ h2 h4 ((hx.drop _).take _) ((hy.drop _).take _)];simp only[Result.andThen_ok]
  have ih:=Cm hx hy w n (k+1) (by rw[<-hl];congr 1;omega) (λi hi=>cM i (by omega))
  have hlen:(xs.toList.drop (k*P.cellsOf e)).length=(ys.toList.drop (k*P.cellsOf e)).length:=by
   simp only[cC];rw[<-hx.length,<-hy.length]
  rw[uC (P.cellsOf e) hlen];simp only[dU];rw[show k*P.cellsOf e+P.cellsOf e=(k+1)*P.cellsOf e by rw[fM,CX]]
  cases gw ((xs.toList.drop (k*P.cellsOf e)).take (P.cellsOf e)) ((ys.toList.drop (k*P.cellsOf e)).take (P.cellsOf e))with
  |false=>simp
  |true=>simpa using ih
theorem AJ{d D:Nat}{z:List Value}{xs ys:Array Value}(hx:jM z xs.toList)(hy:jM z ys.toList)(IH:∀t z,oz P D t z=true->EqG P d t z)(w:World):∀(fs:List Field) (off:Nat),Rt P (oz P D) fs z off=true->
  (Op.eqFields d xs ys fs).run P w= .ok (gw (xs.toList.drop off) (ys.toList.drop off)) w
 |[],off,h=>by
  simp only[Rt,gU]at h;have h1:xs.toList.drop off=[]:=cF (by rw[<-hx.length,h];exact aW _);have h2:ys.toList.drop off=[]:=cF (by rw[<-hy.length,h];exact aW _);rw[h1,h2];simp[Op.eqFields,gw]
 |f::fs,off,h=>by
  simp only[Rt,aB,bne_iff_ne,ne_eq,gU]at h;obtain⟨⟨⟨⟨hn,ho⟩,_⟩,hg⟩,hr⟩:=h;obtain⟨a,h1,h2⟩:=pU hg hx w;obtain⟨b,h3,h4⟩:=pU hg hy w;simp only[Op.eqFields,ne_eq,hn,not_false_eq_true,oN,Sem.run_bind,ho];rw[h1];simp only[Result.andThen_ok]
  rw[h3];simp only[Result.andThen_ok]
  rw[IH _ _ hg w a b _ _ h2 h4 ((hx.drop _).take _) ((hy.drop _).take _)];simp only[Result.andThen_ok]
  have ih:=AJ hx hy IH w fs (off+P.cellsOf f.type) hr
  have hlen:(xs.toList.drop off).length=(ys.toList.drop off).length:=by
   simp only[cC];rw[<-hx.length,<-hy.length]
  rw[uC (P.cellsOf f.type) hlen];simp only[dU]
  cases gw ((xs.toList.drop off).take (P.cellsOf f.type)) ((ys.toList.drop off).take (P.cellsOf f.type))with
  |false=>simp
  |true=>simpa using ih
theorem Xm(k:Nat):∀(d:Nat) (t:TypeId) (z:List Value),oz P d t z=true->EqG P (k+d) t z
 |0,_,_,h=>by simp[oz]at h
 |d+1,t,z,h=>by
  intro w a b xs ys hxa hyb hx hy;have IH:=λt z=>Xm k d t z;unfold oz at h
  cases hu:P.underlying t with
  |none=>simp[hu]at h
  |some kd=>
   rw[hu]at h
   have cell:∀v,z=[v]->∃u u',xs=[u]/\ys=[u']/\xU v u=true/\xU v u'=true:=by
    intro v hz;subst hz
    match xs,hx with
    |[u],hx=>match ys,hy with
     |[u'],hy=>exact⟨u,u',rfl,rfl,hx.1,hy.1⟩
     |[],hy=>exact hy.elim
     |_::_::_,hy=>exact hy.2.elim
    |[],hx=>exact hx.elim
    |_::_::_,hx=>exact hx.2.elim
   cases kd with
   |bool=>
    simp only at h
    split at h
    ·rename_i v
     obtain⟨u,u',rfl,rfl,g1,g2⟩:=cell _ rfl;simp only[Vl,hu,rU,and_true]at hxa hyb;subst hxa;subst hyb
     cases u<;>simp[xU]at g1
     cases u'<;>simp[xU]at g2
     rw[show k+(d+1)=(k+d)+1 from rfl,run_equalIn_bool w (k+d) t _ _ hu];simp[gw,ceq]
    ·cases h
   |int q=>
    simp only at h
    split at h
    ·rename_i k' v
     obtain⟨u,u',rfl,rfl,g1,g2⟩:=cell _ rfl;simp only[Vl,hu,rU,and_true]at hxa hyb;subst hxa;subst hyb
     cases u<;>simp[xU]at g1
     cases u'<;>simp[xU]at g2
     have e1:=pA g1;have e2:=pA g2
     subst e1;subst e2
     rw[show k+(d+1)=(k+d)+1 from rfl,run_equalIn_int w (k+d) t _ _ _ _ hu];simp[gw,ceq]
    ·cases h
   |string=>
    simp only at h
    split at h
    ·rename_i v
     obtain⟨u,u',rfl,rfl,g1,g2⟩:=cell _ rfl;simp only[Vl,hu,rU,and_true]at hxa hyb;subst hxa;subst hyb
     cases u<;>simp[xU]at g1
     cases u'<;>simp[xU]at g2
     rw[show k+(d+1)=(k+d)+1 from rfl,run_equalIn_string w (k+d) t _ _ hu];simp[gw,ceq]
    ·cases h
   |array n e=>
    simp only[aB,gU,bL,dS]at h;obtain⟨⟨hi,hlen⟩,cM⟩:=h;obtain⟨i,hi⟩:=mh.1 hi;simp only[Vl,hu]at hxa hyb;subst hxa;subst hyb
    rw[show k+(d+1)=(k+d)+1 from rfl,run_equalIn_array w (k+d) _ _ hu hi,List.range_eq_range'];have:=Cm (P:=P) (d:=k+d) (e:=e) (D:=d) (z:=z) (xs:=xs.toArray) (ys:=ys.toArray) (by simpa using hx) (by simpa using hy) w n 0 (by simp[hlen]) (λi hi=>⟨cM i (by omega),IH _ _ (cM i (by omega))⟩);simpa using this
   |struct fs=>
    simp only[aB,dH]at h;obtain⟨hs,hf⟩:=h;simp only[Vl,hu]at hxa hyb;subst hxa;subst hyb
    have hfs:P.fieldsOf t=fs:=by simp[Program.fieldsOf,hu]
    rw[show k+(d+1)=(k+d)+1 from rfl,run_equalIn_struct w (k+d) t _ _ (by rw[hfs];exact hu) hs,hfs];have:=AJ (P:=P) (d:=k+d) (D:=d) (z:=z) (xs:=xs.toArray) (ys:=ys.toArray) (by simpa using hx) (by simpa using hy) IH w fs.toList 0 hf;simpa using this
   |_=>simp at h
end
def fz:LB->LB->Bool
 |[],[]=>true
 | .one z::zs,.one x::xs=>xU z x&&fz zs xs
 | .bG k n _::zs,.bG k' n' _::xs=>wY k k'&&Nat.beq n n'&&fz zs xs
 |_,_=>false
def rD:LB->LB->Bool
 |[],[]=>true
 | .one x::c,.one y::d=>ceq x y&&rD c d
 | .bG _ _ l::c,.bG _ _ l'::d=>(l==l')&&rD c d
 |_,_=>false
theorem QI(k:IntKind):wY k k=true:=by cases k<;>rfl
theorem HF{k:IntKind}:∀{l l':List Int},l.length=l'.length->jM (l.map (Value.int k)) (l'.map (Value.int k))
 |[],[],_=>trivial
 |_::_,_::_,h=>⟨by simp[xU,QI],HF (by simpa using h)⟩
 |[],_::_,h=>by simp at h
 |_::_,[],h=>by simp at h
theorem CB{k k':IntKind}:∀{l l':List Int},l.length=l'.length->gw (l.map (Value.int k)) (l'.map (Value.int k'))=(l==l')
 |[],[],_=>rfl
 |a::l,b::l',h=>by
  simp only[aZ,gw,ceq,List.cons_beq_cons];rw[CB (by simpa using h)]
 |[],_::_,h=>by simp at h
 |_::_,[],h=>by simp at h
theorem tT:∀{z c:LB},LB.ok z->LB.ok c->fz z c=true->jM (LB.cz z) (LB.cz c)
 |[],[],_,_,_=>trivial
 | .one z::zs,.one x::xs,h1,h2,h=>by
  simp only[fz,aB]at h;exact⟨h.1,tT h1.2 h2.2 h.2⟩
 | .bG k n l::zs,.bG k' n' l'::xs,h1,h2,h=>by
  simp only[fz,aB]at h;obtain⟨⟨g1,g2⟩,g3⟩:=h;have e1:=pA g1;have e2:=bu g2
  subst e1;subst e2
  have l1:l.length=n:=h1.1;have l2:l'.length=n:=h2.1;exact jM.append (HF (by omega)) (tT h1.2 h2.2 g3)
 |[],_::_,_,_,h=>by simp[fz]at h
 | .one _::_,[],_,_,h=>by simp[fz]at h
 | .one _::_,.bG _ _ _::_,_,_,h=>by simp[fz]at h
 | .one _::_,.fq _ _::_,_,_,h=>by simp[fz]at h
 | .bG _ _ _::_,[],_,_,h=>by simp[fz]at h
 | .bG _ _ _::_,.one _::_,_,_,h=>by simp[fz]at h
 | .bG _ _ _::_,.fq _ _::_,_,_,h=>by simp[fz]at h
 | .fq _ _::_,_,_,_,h=>by simp[fz]at h
theorem D5:∀{z c d:LB},LB.ok c->LB.ok d->fz z c=true->fz z d=true->gw (LB.cz c) (LB.cz d)=rD c d
 |[],[],[],_,_,_,_=>rfl
 | .one z::zs,.one x::xs,.one y::ys,h1,h2,h3,h4=>by
  simp only[fz,aB]at h3 h4;simp only[LB.cz,eB.cells,db,bV,gw,rD,D5 h1.2 h2.2 h3.2 h4.2]
 | .bG k n l::zs,.bG k' n' l'::xs,.bG k2 n2 l2::ys,h1,h2,h3,h4=>by
  simp only[fz,aB]at h3 h4;have e2:=bu h3.1.2;have e3:=bu h4.1.2;have l1:l'.length=n':=h1.1;have l3:l2.length=n2:=h2.1;simp only[LB.cz,eB.cells,rD];rw[yU (by simp;omega),CB (by omega),D5 h1.2 h2.2 h3.2 h4.2]
 |[],_::_,_,_,_,h,_=>by simp[fz]at h
 |[],[],_::_,_,_,_,h=>by simp[fz]at h
 | .one _::_,[],_,_,_,h,_=>by simp[fz]at h
 | .one _::_,.bG _ _ _::_,_,_,_,h,_=>by simp[fz]at h
 | .one _::_,.fq _ _::_,_,_,_,h,_=>by simp[fz]at h
 | .one _::_,.one _::_,[],_,_,_,h=>by simp[fz]at h
 | .one _::_,.one _::_,.bG _ _ _::_,_,_,_,h=>by simp[fz]at h
 | .one _::_,.one _::_,.fq _ _::_,_,_,_,h=>by simp[fz]at h
 | .bG _ _ _::_,[],_,_,_,h,_=>by simp[fz]at h
 | .bG _ _ _::_,.one _::_,_,_,_,h,_=>by simp[fz]at h
 | .bG _ _ _::_,.fq _ _::_,_,_,_,h,_=>by simp[fz]at h
 | .bG _ _ _::_,.bG _ _ _::_,[],_,_,_,h=>by simp[fz]at h
 | .bG _ _ _::_,.bG _ _ _::_,.one _::_,_,_,_,h=>by simp[fz]at h
 | .bG _ _ _::_,.bG _ _ _::_,.fq _ _::_,_,_,_,h=>by simp[fz]at h
 | .fq _ _::_,_,_,_,_,h,_=>by simp[fz]at h
inductive TK where
 |int (k:IntKind)
 |bool
 |AS
 |ptr (e:TypeId)
 |slice (e:TypeId)
 |map (k e:TypeId)
 |struct (fs:List (Nat×TypeId))
 |array (n:Nat) (e:TypeId)
 |func
 |iface
 |qV
def TK.of:TypeDesc->TK
 | .int k=>.int k
 | .bool=>.bool
 | .string=>.AS
 | .pointer e=>.ptr e
 | .slice e=>.slice e
 | .map k e=>.map k e
 | .struct fs=>.struct (fs.toList.map λf=>(f.offset,f.type))
 | .array n e=>.array n e
 | .func _ _ _=>.func
 | .interface _=>.iface
 |_=>.qV
def TK.agg:TK->Bool
 | .struct _=>true
 | .array _ _=>true
 |_=>false
structure TI where
 k:TK
 size:Nat
 bytes:Nat
 zero:LB
 eq:Bool
structure F1(P:Program)(t:TypeId)(i:TI):Prop where
 und:(P.underlying t).map TK.of=some i.k
 atq:(P.info? t).map (λj=>(j.size,j.bytes,j.zero.map Value.cells))=some (i.size,i.bytes,some (LB.cz i.zero).toArray)
 zok:LB.ok i.zero
 avK:i.eq=true->i.k.agg=true/\oz P 50 t (LB.cz i.zero)=true/\P.eqGuardType P.depth t=false/\(LB.cz i.zero).length=i.size
abbrev lz:=TypeId->Option TI
def fW(P:Program)(T:lz):Prop:=∀t i,T t=some i->F1 P t i
section
variable {P:Program}{t:TypeId}{i:TI}
theorem F1.desc(h:F1 P t i):∃d,P.underlying t=some d/\TK.of d=i.k:=by
 have:=h.und
 simp_all
theorem F1.oc(h:F1 P t i):∃d,TK.of d=i.k/\∀w,(underlying t).run P w= .ok d w:=by
 obtain⟨d,h1,h2⟩:=h.desc;exact⟨d,h2,λw=>run_underlying h1 w⟩
theorem F1.WX(h:F1 P t i):∃j,P.info? t=some j/\j.size=i.size/\j.bytes=i.bytes/\∃z,j.zero=some z/\z.cells=(LB.cz i.zero).toArray:=by
 have:=h.atq
 simp_all
theorem F1.run_sizeOf(h:F1 P t i)(w:World):(sizeOf t).run P w= .ok i.size w:=by
 obtain⟨j,h1,h2,_⟩:=h.WX;simp[sizeOf,typeInfo,h1,h2]
theorem F1.PJ(h:F1 P t i):∃z,z.cells=(LB.cz i.zero).toArray/\∀w,(zeroValue t).run P w= .ok z w:=by
 obtain⟨j,h1,h2,iD,z,h3,h4⟩:=h.WX;exact⟨z,h4,λw=>by simp[zeroValue,typeInfo,h1,h3]⟩
theorem F1.zh(h:F1 P t i)(w:World):(isAgg t).run P w= .ok i.k.agg w:=by
 obtain⟨d,h1,h2⟩:=h.oc;unfold isAgg;rw[Sem.run_bind,h2 w,<-h1]
 cases d<;>simp[TK.of,TK.agg]
theorem iO{W:World}{b:Nat}{arr:Array Value}{t':TypeId}{fr:Nat×Nat}(hb:W.heap[b]?=some (.cells arr t' fr)) (off:Nat):W.cell? ⟨b,off,none⟩=arr[off]?:=by
 simp[World.cell?,hb]
theorem ii(b off j:Nat):(⟨b,off,none⟩:Addr).add j=⟨b,off+j,none⟩:=by
 unfold Addr.add;split<;>simp_all
theorem MP(h:F1 P t i)(ha:i.k.agg=false){W:World}{b:Nat}{arr:Array Value}{t':TypeId}{fr:Nat×Nat}(hb:W.heap[b]?=some (.cells arr t' fr)) {off:Nat}{x:Value} (hx:arr[off]?=some x):
  (loadVar t ⟨b,off,none⟩).run P W= .ok x W:=by
 unfold loadVar;rw[Sem.run_bind,h.zh,ha];simp[load,Sem.run,iO hb,hx]
theorem Jr(h:F1 P t i)(ha:i.k.agg=true){W:World}{b:Nat}{arr:Array Value}{t':TypeId}{fr:Nat×Nat}(hb:W.heap[b]?=some (.cells arr t' fr)) {off:Nat}{l:List Value} (hl:l.length=i.size)
  (hx:∀j v,l[j]?=some v->arr[off+j]?=some v):(loadVar t ⟨b,off,none⟩).run P W= .ok (.agg l.toArray) W:=by
 have h1:=run_loadCells_list (P:=P) W ⟨b,off,none⟩ l (λj v hv=>by rw[ii,iO hb];exact hx j v hv);unfold loadVar;rw[Sem.run_bind,h.zh,ha];rw[hl]at h1;simp[Sem.run_bind,h.run_sizeOf,h1]
theorem kR(b o:Nat)(t':TypeId)(fr:Nat×Nat):∀(vs:List Value) (i:Nat) (OX:Array Value) (W:World),W.heap[b]?=some (.cells OX t' fr)->o+i+vs.length<=OX.size->(∀v∈vs,v.oneCell'=true)->
  (∀j,j<vs.length->¬(fr.1<=o+i+j/\o+i+j<fr.2))->
  (storeCells ⟨b,o,none⟩ vs i).run P W= .ok () (W.setRow b (OX.toList.take (o+i)++(vs++OX.toList.drop (o+i+vs.length))).toArray)
 |[],i,OX,W,hg,_,_,_=>by
  simp only[storeCells,bV,cW,gO,dL,iw];rw[setRow_self W b OX t' fr hg];rfl
 |v::r,i,OX,W,hg,hlen,h1,hf=>by
  have hv:=h1 v (dv ..);have bH:o+i<OX.size:=by simp at hlen;omega
  have hfz:W.frozen? ⟨b,o+i,none⟩=false:=by
   have:=hf 0 (by simp);simp only[World.frozen?,hg,gO]at this⊢
   cases hd:(decide (fr.1<=o+i)&&decide (o+i<fr.2))with
   |false=>rfl
   |true=>simp at hd;exact absurd hd this
  have jG:W.setCell ⟨b,o+i,none⟩ v=W.setRow b (OX.setIfInBounds (o+i) v):=setCell_eq_setRow W b (o+i) OX t' fr v hg
  have W7:(store (⟨b,o+i,none⟩:Addr) v).run P W= .ok () (W.setRow b (OX.setIfInBounds (o+i) v)):=by
   have hc:W.cell? ⟨b,o+i,none⟩=some OX[o+i]:=by rw[iO hg];simp[bH]
   cases v<;>first|(simp[Value.oneCell']at hv;done)|(simp[store,Sem.run,hc,hfz,jG])
  have js:(W.setRow b (OX.setIfInBounds (o+i) v)).heap[b]?=some (.cells (OX.setIfInBounds (o+i) v) t' fr):=Dc W b _ OX t' fr hg
  have ih:=kR b o t' fr r (i+1) _ _ js (by simp at hlen⊢;omega) (λx hx=>h1 x (bO _ hx))
   (λj hj=>by have:=hf (j+1) (by simp;omega);simpa [gi,Nat.add_comm 1 j]using this)
  unfold storeCells;rw[Sem.run_bind,ii,W7];simp only[Result.andThen_ok];rw[ih,setRow_setRow]
  congr 2
  apply be
  have Ae:o+i<OX.toList.length:=by simpa using bH
  have e1:(OX.setIfInBounds (o+i) v).toList=OX.toList.set (o+i) v:=by simp
  rw[e1,List.take_set,km (by omega)];have e2:o+(i+1)=o+i+1:=by omega
  have e3:o+(i+1)+r.length=o+i+(v::r).length:=by simp;omega
  rw[e3,e2,au Ae,fA _ _ (by simp;omega)];simp only[aK,gH (Nat.le_of_lt Ae),kF,s7,aX,db,bV]
theorem xV(h:F1 P t i){W:World}{b:Nat}{arr:Array Value}{t':TypeId}{fr:Nat×Nat}(hb:W.heap[b]?=some (.cells arr t' fr)) {off:Nat}{v:Value}{l:List Value} (hv:v.cells=l.toArray) (hl:l.length=i.size)
  (h1:∀x∈l,x.oneCell'=true) (hle:off+l.length<=arr.size) (hf:∀j,j<l.length->¬(fr.1<=off+j/\off+j<fr.2)):
  (storeVar t ⟨b,off,none⟩ v).run P W= .ok () (W.setRow b (arr.toList.take off++(l++arr.toList.drop (off+l.length))).toArray):=by
 have hs:=kR (P:=P) b off t' fr l 0 arr W hb (by simpa using hle) h1 (by simpa using hf);unfold storeVar;rw[Sem.run_bind,h.run_sizeOf]
 simp_all
end
abbrev iv(k:IntKind)(n:Int):SV:=.c (.v (.int k n))
abbrev bv(b:Bool):SV:=.c (.v (.bool b))
def ag(op:BinOp)(k:IntKind)(a b:Int):Int:=
 match op with
 | .and=>k.wrap ((BitVec.ofInt k.bits a&&& BitVec.ofInt k.bits b).toNat:Int)
 | .or=>k.wrap ((BitVec.ofInt k.bits a|||BitVec.ofInt k.bits b).toNat:Int)
 | .xor=>k.wrap ((BitVec.ofInt k.bits a ^^^ BitVec.ofInt k.bits b).toNat:Int)
 |_=>k.wrap ((BitVec.ofInt k.bits a&&& ~~~ (BitVec.ofInt k.bits b)).toNat:Int)
def nC(k:IntKind)(a b:Int):Int:=k.wrap (a*2^(min b.toNat k.bits))
def oV(k:IntKind)(a b:Int):Int:=a.fdiv (2^(min b.toNat k.bits))
def afx:Operand->Bool
 | .const (.int _ (.ofNat _))=>true
 |_=>false
def LJ:Operand->Bool
 | .const (.int _ (.ofNat (_+1)))=>true
 |_=>false
def Zr(op:BinOp)(y:Operand)(k k':IntKind)(a b:Int)(K:SV->Prop):Prop:=
 match op with
 | .shl=>bif afx y then K (iv k (nC k a b))else(0<=b/\K (iv k (nC k a b)))
 | .shr=>bif afx y then K (iv k (oV k a b))else(0<=b/\K (iv k (oV k a b)))
 | .add=>bif wY k k' then K (iv k (k.wrap (a+b)))else False
 | .sub=>bif wY k k' then K (iv k (k.wrap (a-b)))else False
 | .mul=>bif wY k k' then K (iv k (k.wrap (a*b)))else False
 | .quo=>bif wY k k' then(bif LJ y then K (iv k (k.wrap (a.tdiv b)))else(b≠0/\K (iv k (k.wrap (a.tdiv b)))))else False
 | .rem=>bif wY k k' then(bif LJ y then K (iv k (a.tmod b))else(b≠0/\K (iv k (a.tmod b))))else False
 | .and=>bif wY k k' then K (iv k (ag .and k a b))else False
 | .or=>bif wY k k' then K (iv k (ag .or k a b))else False
 | .xor=>bif wY k k' then K (iv k (ag .xor k a b))else False
 | .andNot=>bif wY k k' then K (iv k (ag .andNot k a b))else False
 | .eql=>bif wY k k' then K (bv (a==b))else False
 | .neq=>bif wY k k' then K (bv (a !=b))else False
 | .lss=>bif wY k k' then K (bv (decide (a<b)))else False
 | .leq=>bif wY k k' then K (bv (decide (a<=b)))else False
 | .gtr=>bif wY k k' then K (bv (decide (b<a)))else False
 | .geq=>bif wY k k' then K (bv (decide (b<=a)))else False
variable{b:Int}{y:Operand}
theorem HM{P:Program}{a:Act}(h:afx y=true)(he:a.eval y= .int k b):0<=b:=by
 unfold afx at h
 split at h
 ·simp only[Act.eval,Value.int.injEq]at he;rw[<-he.2];exact s9 _
 ·simp at h
theorem HL{P:Program}{a:Act}(h:LJ y=true)(he:a.eval y= .int k b):b≠0:=by
 unfold LJ at h
 split at h
 ·simp only[Act.eval,Value.int.injEq]at he;rw[<-he.2];exact Int.natCast_ne_zero.2 (Nat.succ_ne_zero _)
 ·simp at h
variable{P:Program}
theorem Zp{op:BinOp}{act:Act}{k':IntKind}{a:Int}{K:SV->Prop}(he:act.eval y= .int k' b)(h:Zr op y k k' a b K):
  ∃z,K (.c (.v z))/\(z.oneCell'=true)/\∀t w,(binOp op t (.int k a) (.int k' b)).run P w= .ok z w:=by
 cases op<;>simp only[Zr]at h
 case shl=>
  have h':0<=b/\K (iv k (nC k a b)):=by
   cases hn:afx y with
   |true=>simp only[hn,cond_true]at h;exact⟨HM (P:=P) hn he,h⟩
   |false=>simpa [hn]using h
  refine⟨_,h'.2,rfl,λt w=>?_⟩;simp[binOp,Op.shift,nC,Int.not_lt.2 h'.1]
 case shr=>
  have h':0<=b/\K (iv k (oV k a b)):=by
   cases hn:afx y with
   |true=>simp only[hn,cond_true]at h;exact⟨HM (P:=P) hn he,h⟩
   |false=>simpa [hn]using h
  refine⟨_,h'.2,rfl,λt w=>?_⟩;simp[binOp,Op.shift,oV,Int.not_lt.2 h'.1]
 case quo=>
  cases hk:wY k k' with
  |false=>simp[hk]at h
  |true=>
   have:=pA hk;subst this
   simp only[hk,cond_true]at h
   have h':b≠0/\K (iv k (k.wrap (a.tdiv b))):=by
    cases hn:LJ y with
    |true=>simp only[hn,cond_true]at h;exact⟨HL (P:=P) hn he,h⟩
    |false=>simpa [hn]using h
   exact⟨_,h'.2,rfl,λt w=>by simp[binOp,Op.intDiv,h'.1]⟩
 case rem=>
  cases hk:wY k k' with
  |false=>simp[hk]at h
  |true=>
   have:=pA hk;subst this
   simp only[hk,cond_true]at h
   have h':b≠0/\K (iv k (a.tmod b)):=by
    cases hn:LJ y with
    |true=>simp only[hn,cond_true]at h;exact⟨HL (P:=P) hn he,h⟩
    |false=>simpa [hn]using h
   exact⟨_,h'.2,rfl,λt w=>by simp[binOp,Op.intDiv,h'.1]⟩
 all_goals
  cases hk:wY k k' with
  |false=>simp[hk]at h
  |true=>
   have:=pA hk;subst this
   simp only[hk,cond_true]at h;exact⟨_,h,rfl,λt w=>by simp[binOp,Op.intArith,Op.intBits,ag,Op.intCmp]⟩
def SV.toV:SV->Option Value
 | .c (.v x)=>some x
 | .tt=>some (.bool true)
 | .ff=>some (.bool false)
 |_=>none
def vEq:TK->Value->Value->(Bool->Prop)->Prop
 | .bool,.bool a,.bool b,K=>K (a==b)
 | .ptr _,.pointer (some _),.pointer none,K=>K false
 | .ptr _,.pointer none,.pointer (some _),K=>K false
 | .ptr _,.pointer none,.pointer none,K=>K true
 | .slice _,.slice (some _) _ _,.slice none _ _,K=>K false
 | .slice _,.slice none _ _,.slice (some _) _ _,K=>K false
 | .slice _,.slice none _ _,.slice none _ _,K=>K true
 | .map _ _,.map (some _),.map none,K=>K false
 | .map _ _,.map none,.map none,K=>K true
 | .iface,.iface _ _,.nilIface,K=>K false
 | .iface,.nilIface,.iface _ _,K=>K false
 |_,_,_,_=>False
def TD(k:TK)(yo:Operand)(x y:Value)(K:Bool->Prop):Prop:=
 match k,x,y with
 | .iface,.nilIface,.nilIface=>(match yo with
  | .const _=>K true
  |_=>False)
 |k,x,y=>vEq k x y K
def abO(op:BinOp)(a b:ByteArray)(K:SV->Prop):Prop:=
 match op with
 | .eql=>K (bv (a.toList==b.toList))
 | .neq=>K (bv !(a.toList==b.toList))
 | .lss=>K (bv (Op.bytesLess a.toList b.toList))
 | .leq=>K (bv (Op.bytesLess a.toList b.toList||a.toList==b.toList))
 | .gtr=>K (bv !(Op.bytesLess a.toList b.toList||a.toList==b.toList))
 | .geq=>K (bv !(Op.bytesLess a.toList b.toList))
 | .add=>a.size+b.size<=9223372036854775807/\K (.c (.v (.string (a++b))))
 |_=>False
def Z1(T:lz)(op:BinOp)(t:TypeId)(yo:Operand)(x y:SV)(K:SV->Prop):Prop:=
 match x,y with
 | .c (.v (.int k a)),.c (.v (.int k' b))=>Zr op yo k k' a b K
 | .c (.v (.string a)),.c (.v (.string b))=>abO op a b K
 | .c (.a c),.c (.a d)=>match T t with
  |some i=>bif i.eq&&(fz i.zero c&&fz i.zero d)then(match op with
   | .eql=>K (bv (rD c d))
   | .neq=>K (bv !(rD c d))
   |_=>False)else False
  |none=>False
 |x,y=>match x.toV,y.toV with
  |some x,some y=>match T t with
   |some i=>match op with
    | .eql=>TD i.k yo x y λr=>K (bv r)
    | .neq=>TD i.k yo x y λr=>K (bv !r)
    |_=>False
   |none=>False
  |_,_=>False
def fUn(op:UnOp)(x:SV)(K:SV->Prop):Prop:=
 match op,x with
 | .neg,.c (.v (.int k n))=>K (iv k (k.wrap (0-n)))
 | .xor,.c (.v (.int k n))=>K (iv k (ag .xor k (if k.signed then-1 else k.max) n))
 | .not,.tt=>K .ff
 | .not,.ff=>K .tt
 | .not,.c (.v (.bool b))=>K (bv !b)
 |_,_=>False
def gR(m:aD)(b off:Nat):Option Value:=
 match m b with
 |some (.cells c _ _)=>c[off]?
 |_=>none
def dQ(m:aD)(b off:Nat)(l:List Value):Prop:=
 ∃arr t fr,m b=some (.cells arr t fr)/\∀j v,l[j]?=some v->arr[off+j]?=some v
def Ii(T:lz)(s:St)(t:TypeId)(x:SV)(K:SV->List Nat->Prop):Prop:=
 match T t with
 |none=>False
 |some i=>match x with
  | .p h off=>match zo s.L h with
   |none=>False
   |some (_,c)=>match i.k.agg with
    |true=>match LB.sub c off i.size with
     |some d=>K (.c (.a d)) []
     |none=>False
    |false=>match LB.get c off with
     |some y=>K (.c (.v y)) []
     |none=>False
  | .q h off d=>match zo s.L h with
   |none=>False
   |some (_,c)=>match i.k.agg with
    |true=>LB.Ak c off d i.size λe=>K (.c (.a e)) []
    |false=>LB.Am c off d λy=>K (.c (.v y)) []
  | .c (.v (.pointer (some ⟨b,off,none⟩)))=>match i.k.agg with
   |true=>∃c:LB,LB.ok c/\LB.size c=i.size/\dQ s.m b off (LB.cz c)/\K (.c (.a c)) [b]
   |false=>∃y,gR s.m b off=some y/\(y.oneCell'=true)/\K (.c (.v y)) [b]
  |_=>False
def ZY(x:SV)(K:SV->Prop):Prop:=
 match x with
 | .p h o=>K (.p h o)
 | .q h o d=>K (.q h o d)
 | .c (.v (.pointer (some a)))=>K (.c (.v (.pointer (some a))))
 | .c (.v (.func (.func f) u w))=>K (.c (.v (.func (.func f) u w)))
 |_=>False
def Ij(T:lz)(src dst:TypeId)(x:SV)(K:SV->Prop):Prop:=
 match T src,T dst with
 |some _,some d=>match d.k,x with
  | .int k,.c (.v (.int _ n))=>K (iv k (k.wrap n))
  | .AS,.c (.v (.string a))=>K (.c (.v (.string a)))
  |_,_=>False
 |_,_=>False
def tH(ns:List Int):ByteArray:=ns.foldl (λr n=>r.push (UInt8.ofNat n.toNat)) ByteArray.empty
def rj(T:lz)(src dst:TypeId):Bool:=
 match T src,T dst with
 |some i,some j=>match i.k,j.k with
  | .slice e,.AS=>match T e with
   |some ei=>match ei.k with
    | .int .u8=>true
    |_=>false
   |none=>false
  |_,_=>false
 |_,_=>false
def ael(L:List (TypeId×LB))(m:aD)(x:SV)(K:SV->List Nat->Prop):Prop:=
 match x with
 | .c (.v (.slice none _ _))=>K (.c (.v (.string ByteArray.empty))) []
 | .c (.v (.slice (some a) n _))=>(n=0/\K (.c (.v (.string ByteArray.empty))) [])\/∃ns:List Int,ns.length=n/\∃b o,a=⟨b,o,none⟩/\dQ m b o (ns.map (Value.int .u8))/\K (.c (.v (.string (tH ns)))) [b]
 | .sl h off d n _=>match zo L h with
  |none=>False
  |some (_,c)=>∃ns:List Int,ns.length=n/\(∀j v,(ns.map (Value.int .u8))[j]?=some v->(LB.cz c)[off+d+j]?=some v)/\K (.c (.v (.string (tH ns)))) []
 |_=>False
def D3(T:lz)(t:TypeId)(x:SV)(f:Nat)(K:SV->Prop):Prop:=
 match T t with
 |some i=>match i.k,x with
  | .struct fs,.c (.a c)=>match zo fs f with
   |some (off,ft)=>match T ft with
    |some fi=>match fi.k.agg with
     |true=>match LB.sub c off fi.size with
      |some d=>K (.c (.a d))
      |none=>False
     |false=>match LB.get c off with
      |some y=>K (.c (.v y))
      |none=>False
    |none=>False
   |none=>False
  |_,_=>False
 |none=>False
def pE(T:lz)(t:TypeId)(x:SV)(f:Nat)(K:SV->Prop):Prop:=
 match T t with
 |some i=>match i.k with
  | .struct fs=>match zo fs f with
   |some (off,ft)=>match T ft with
    |some fi=>bif Nat.blt 0 fi.size then(match x with
     | .p h o=>K (.p h (o+off))
     | .q h o d=>K (.q h o (d+off))
     | .c (.v (.pointer (some ⟨b,o,none⟩)))=>K (.c (.v (.pointer (some ⟨b,o+off,none⟩))))
     |_=>False)else False
    |none=>False
   |none=>False
  |_=>False
 |none=>False
def bK(i:Int):Nat->Nat
 |1=>i.toNat
 |n=>i.toNat*n
theorem rZ(i:Int)(n:Nat):bK i n=i.toNat*n:=by
 unfold bK;split<;>simp_all
def wH:Operand->Nat->Nat->Option Nat
 | .const (.int _ (.ofNat j)),n,z=>bif Nat.blt j n then some (j*z)else none
 |_,_,_=>none
def pD(T:lz)(t:TypeId)(io:Operand)(x i:SV)(K:SV->Prop):Prop:=
 match T t with
 |none=>False
 |some ti=>match ti.k with
  | .array n e=>match T e with
   |none=>False
   |some ei=>match x with
    | .p h o=>match wH io n ei.size with
     |some j=>K (.p h (o+j))
     |none=>match i with
      | .c (.v (.int _ j))=>(0<=j/\j<n)/\K (.q h o (bK j ei.size))
      |_=>False
    | .q h o d=>match i with
     | .c (.v (.int _ j))=>(0<=j/\j<n)/\K (.q h o (d+bK j ei.size))
     |_=>False
    | .c (.v (.pointer (some ⟨b,o,none⟩)))=>match i with
     | .c (.v (.int _ j))=>(0<=j/\j<n)/\K (.c (.v (.pointer (some ⟨b,o+bK j ei.size,none⟩))))
     |_=>False
    |_=>False
  | .slice e=>match T e with
   |none=>False
   |some ei=>match x,i with
    | .c (.v (.slice (some ⟨b,o,none⟩) len _)),.c (.v (.int _ j))=>(0<=j/\j<len)/\K (.c (.v (.pointer (some ⟨b,o+bK j ei.size,none⟩))))
    | .sl h o d len _,.c (.v (.int _ j))=>(0<=j/\j<len)/\K (.q h o (d+bK j ei.size))
    |_,_=>False
  |_=>False
def DZ(T:lz)(t:TypeId)(io:Operand)(x i:SV)(K:SV->Prop):Prop:=
 match T t with
 |none=>False
 |some ti=>match ti.k,x with
  | .array n e,.c (.a c)=>match T e with
   |none=>False
   |some ei=>match wH io n ei.size with
    |some j=>match ei.k.agg with
     |true=>match LB.sub c j ei.size with
      |some d=>K (.c (.a d))
      |none=>False
     |false=>match LB.get c j with
      |some y=>K (.c (.v y))
      |none=>False
    |none=>match i with
     | .c (.v (.int _ j))=>(0<=j/\j<n)/\(match ei.k.agg with
      |true=>LB.Ak c 0 (bK j ei.size) ei.size λd=>K (.c (.a d))
      |false=>LB.Am c 0 (bK j ei.size) λy=>K (.c (.v y)))
     |_=>False
  | .AS,.c (.v (.string a))=>match i with
   | .c (.v (.int _ j))=>(0<=j/\j<a.size)/\K (iv .u8 ((a.data.toList.getD j.toNat 0).toNat:Int))
   |_=>False
  |_,_=>False
def vp(T:lz)(b:Builtin)(xB:List TypeId)(args:List SV)(K:SV->Prop):Prop:=
 match b,args with
 | .min,[.c (.v (.int k x)),.c (.v (.int _ y))]=>K (iv k (min x y))
 | .max,[.c (.v (.int k x)),.c (.v (.int _ y))]=>K (iv k (max x y))
 | .len,[x]=>match xB with
  |[t]=>match T t with
   |some i=>match i.k,x with
    | .slice _,.c (.v (.slice _ n _))=>K (iv .i64 n)
    | .slice _,.sl _ _ _ n _=>K (iv .i64 n)
    | .AS,.c (.v (.string a))=>K (iv .i64 a.size)
    |_,_=>False
   |none=>False
  |_=>False
 |_,_=>False
def bld(s:St)(oh:Nat->Option (Nat×Nat)):LB->List (Nat×Operand)->Option LB
 |c,[]=>some c
 |c,(j,x)::r=>match oh j with
  |none=>none
  |some (off,size)=>match ev s x with
   | .c (.v y)=>bif Nat.beq size 1 then(match LB.set c off y with|some d=>bld s oh d r|none=>none)else none
   | .tt=>bif Nat.beq size 1 then(match LB.set c off (.bool true)with|some d=>bld s oh d r|none=>none)else none
   | .ff=>bif Nat.beq size 1 then(match LB.set c off (.bool false)with|some d=>bld s oh d r|none=>none)else none
   | .c (.a v)=>bif Nat.beq size (LB.size v)then(match LB.YS c off v with|some d=>bld s oh d r|none=>none)else none
   |_=>none
def vY(T:lz):TK->Nat->Option (Nat×Nat)
 | .struct fs,j=>match zo fs j with
  |some (off,ft)=>match T ft with
   |some fi=>some (off,fi.size)
   |none=>none
  |none=>none
 | .array _ e,j=>match T e with
  |some ei=>some (j*ei.size,ei.size)
  |none=>none
 |_,_=>none
def WS(T:lz):List (Nat×TypeId)->Bool
 |[]=>true
 |x::r=>match T x.2 with
  |some _=>WS T r
  |none=>false
def ND(T:lz):TK->Bool
 | .struct fs=>WS T fs
 | .array _ e=>match T e with
  |some _=>true
  |none=>false
 |_=>true
def D4(T:lz)(s:St)(t:TypeId)(parts:List (Nat×Operand))(K:SV->Prop):Prop:=
 match T t with
 |some i=>match i.k.agg with
  |true=>bif ND T i.k then(match bld s (vY T i.k) i.zero parts with
   |some c=>K (.c (.a c))
   |none=>False)else False
  |false=>False
 |none=>False
def oE(x:Option SV)(aey:Nat)(dG:Nat)(K:Nat->Prop):Prop:=
 match x with
 |none=>K aey
 |some (.c (.v (.int _ j)))=>(0<=j/\j<=dG)/\K j.toNat
 |_=>False
def ahK:Option SV->Option SV->Bool
 |none,some _=>false
 |_,_=>true
def DY(T:lz)(t:TypeId)(x:SV)(lo hi mx:Option SV)(K:SV->Prop):Prop:=
 bif ahK hi mx then(match T t with
 |none=>False
 |some ti=>match ti.k,x with
  | .slice e,.c (.v (.slice (some ⟨b,o,none⟩) len cap))=>match T e with
   |none=>False
   |some ei=>oE mx cap cap λm=>oE hi len m λh=>oE lo 0 h λl=>
    ∀o',(m≠l->o'=o+l*ei.size)->(m=l->o'=o)->K (.c (.v (.slice (some ⟨b,o',none⟩) (h-l) (m-l))))
  | .slice e,.c (.v (.slice none len cap))=>match T e with
   |none=>False
   |some _=>oE mx cap cap λm=>oE hi len m λh=>oE lo 0 h λl=>K (.c (.v (.slice none (h-l) (m-l))))
  | .array n e,.p hd o=>match T e with
   |none=>False
   |some ei=>oE mx n n λm=>oE hi n m λh=>oE lo 0 h λl=>
    ∀d,(m≠l->d=l*ei.size)->(m=l->d=0)->K (.sl hd o d (h-l) (m-l))
  | .array n e,.c (.v (.pointer (some ⟨b,o,none⟩)))=>match T e with
   |none=>False
   |some ei=>oE mx n n λm=>oE hi n m λh=>oE lo 0 h λl=>
    ∀o',(m≠l->o'=o+l*ei.size)->(m=l->o'=o)->K (.c (.v (.slice (some ⟨b,o',none⟩) (h-l) (m-l))))
  | .AS,.c (.v (.string a))=>match mx with
   |none=>oE hi a.size a.size λh=>oE lo 0 h λl=>K (.c (.v (.string (a.extract l h))))
   |some _=>False
  |_,_=>False)else False
def Rw(T:lz)(s:St)(op:Op)(K:SV->List Nat->Prop):Prop:=
 match op with
 | .move x=>K (ev s x) []
 | .pick c x y=>match ev s c with
  | .tt=>K (ev s x) []
  | .ff=>K (ev s y) []
  | .c (.v (.bool b))=>(b=true->K (ev s x) [])/\(b=false->K (ev s y) [])
  |_=>False
 | .assign x=>K (ev s x) []
 | .load t x=>Ii T s t (ev s x) K
 | .nilCheck x=>ZY (ev s x) λy=>K y []
 | .binOp op t x y _=>Z1 T op t y (ev s x) (ev s y) λz=>K z []
 | .unOp op _ x=>fUn op (ev s x) λz=>K z []
 | .convert src dst x=>match rj T src dst with
  |true=>ael s.L s.m (ev s x) K
  |false=>Ij T src dst (ev s x) λz=>K z []
 | .field t x f=>D3 T t (ev s x) f λz=>K z []
 | .fieldAddr t x f=>pE T t (ev s x) f λz=>K z []
 | .indexAddr t x i=>pD T t i (ev s x) (ev s i) λz=>K z []
 | .index t x i=>DZ T t i (ev s x) (ev s i) λz=>K z []
 | .extract x j=>match ev s x with
  | .t l=>match zo l j with
   |some y=>K (.c y) []
   |none=>False
  |_=>False
 | .build t parts=>D4 T s t parts.toList λz=>K z []
 | .slice t x lo hi mx=>DY T t (ev s x) (lo.map (ev s)) (hi.map (ev s)) (mx.map (ev s)) λz=>K z []
 | .call ⟨.builtin b,args,xB⟩=>vp T b xB.toList (args.toList.map (ev s)) λz=>K z []
 |_=>False
def Fo(P:Program)(a:Act)(op:Op)(B:List Nat)(W:World)(v:Value):Prop:=
 ∀o:Oper,o.op=op->∀W',(∀b∈B,W'.heap[b]?=W.heap[b]?)->(execOp a.eval o).run P W'= .ok (.value v) W'
def kE(ρ:List Nat)(sv:SV)(v:Value):Prop:=sv= .any\/(sv.ok/\sv.under ρ.length/\v=eY ρ sv)
section
variable {P:Program}{T:lz}{nt:Nat}{D:List Deferred}{m0:aD}{W0:World}{ρ:List Nat}{s:St}{a:Act}{W:World}
theorem iG.kK(hr:iG nt D m0 W0 ρ s a W)(x:Operand):kE ρ (ev s x) (a.eval x):=by
 by_cases h:ev s x= .any
 ·exact .inl h
 ·exact .inr ⟨(hr.Oh x h).1,(hr.Oh x h).2,hr.eval x h⟩
theorem kE.eq{sv:SV}{v:Value}(h:kE ρ sv v)(ga:sv≠.any):v=eY ρ sv:=by
 rcases h with h|h
 ·grind
 grind
theorem kE.om{sv:SV}{v:Value}(h:kE ρ sv v)(ga:sv≠.any):sv.ok/\sv.under ρ.length:=by
 rcases h with h|h
 ·grind
 grind
theorem kE.mk{sv:SV}(h:sv.ok)(hu:sv.under ρ.length):kE ρ sv (eY ρ sv):=.inr ⟨h,hu,rfl⟩
theorem kE.v{x:Value}(h:x.oneCell'=true):kE ρ (.c (.v x)) x:=.inr ⟨h,trivial,rfl⟩
theorem Pn{sv:SV}{v x:Value}(h:kE ρ sv v)(e:sv.toV=some x):v=x:=by
 cases sv with
 |c y=>
  cases y with
  |v z=>simp only[SV.toV,aM]at e;subst e;exact h.eq (by simp)
  |a c=>simp[SV.toV]at e
 |tt=>simp only[SV.toV,aM]at e;subst e;exact h.eq (by simp)
 |ff=>simp only[SV.toV,aM]at e;subst e;exact h.eq (by simp)
 |_=>simp[SV.toV]at e
theorem oe{op:BinOp}{t:TypeId}{x y:Operand}{u v:Value}(h1:∀c d,¬(u= .agg c/\v= .agg d))(h2:¬(u= .nilIface/\v= .nilIface))(w:World):
  (eqGuard op t x y u v).run P w= .ok () w:=by
 have key:∀(z:Sem Unit),(match u,v with
   | .nilIface,.nilIface=>z
   | .agg _,.agg _=>z
   |_,_=>(pure ():Sem Unit))=pure ():=by
  intro z;split
  ·exact absurd ⟨rfl,rfl⟩ h2
  ·rename_i c d;exact absurd ⟨rfl,rfl⟩ (h1 c d)
  ·rfl
 unfold eqGuard
 simp_all
theorem RV(t:TypeId)(x y:Value):Op.equal t x y=Op.equalIn (9999+1) t x y:=rfl
theorem abi{t:TypeId}{i:TI}(hi:F1 P t i){x y:Value}{K:Bool->Prop}(h:vEq i.k x y K):
  (∃r,K r/\∀w,(binOp .eql t x y).run P w= .ok (.bool r) w/\(binOp .neq t x y).run P w= .ok (.bool !r) w)/\(∀c d,¬(x= .agg c/\y= .agg d))/\¬(x= .nilIface/\y= .nilIface):=by
 obtain⟨d,hk,hd⟩:=hi.oc
 have key:(∃r,K r/\∀w,(Op.equal t x y).run P w= .ok r w):=by
  rw[RV];generalize 9999=dp;generalize i.k=kk at*;unfold vEq at h
  split at h<;>first
   |exact h.elim
   |(refine⟨_,h,λw=>?_⟩
     simp only[Op.equalIn,Sem.run_bind,hd w]
     cases d<;>simp[TK.of]at hk<;>simp)
 obtain⟨r,hr,hw⟩:=key;generalize i.k=kk at*;unfold vEq at h
 split at h<;>first
  |exact h.elim
  |(refine⟨⟨r,hr,λw=>?_⟩,?_,?_⟩
    ·simp[binOp,hw w]
    ·simp
    ·simp)
theorem Kz{t:TypeId}{i:TI}(hi:F1 P t i){x y:Value}{yo:Operand}{K:Bool->Prop}(h:TD i.k yo x y K):
  (∃r,K r/\∀w,(binOp .eql t x y).run P w= .ok (.bool r) w/\(binOp .neq t x y).run P w= .ok (.bool !r) w)/\∀op xo w,(eqGuard op t xo yo x y).run P w= .ok () w:=by
 unfold TD at h
 split at h
 ·rename_i hk
  split at h
  ·obtain⟨d,ve,hd⟩:=hi.oc
   rw[hk]at ve
   have he:∀w,(Op.equal t .nilIface .nilIface).run P w= .ok true w:=λw=>by
    rw[RV];generalize 9999=dp;simp only[Op.equalIn,Sem.run_bind,hd w]
    cases d<;>simp[TK.of]at ve<;>simp
   refine⟨⟨true,h,λw=>by simp[binOp,he w]⟩,λop xo w=>?_⟩;unfold eqGuard
   simp_all
  grind
 ·obtain⟨h1,h2,h3⟩:=abi hi h
  exact⟨h1,λop xo w=>oe h2 h3 w⟩
theorem YE{op:BinOp}{a b:ByteArray}{K:SV->Prop}(h:abO op a b K):∃z,K (.c (.v z))/\z.oneCell'=true/\∀t w,(binOp op t (.string a) (.string b)).run P w= .ok z w:=by
 cases op<;>simp only[abO]at h
 case add=>
  refine⟨_,h.2,rfl,λt w=>?_⟩
  have e:¬(((a.size+b.size:Nat):Int)>IntKind.i64.max):=by
   have:IntKind.i64.max=9223372036854775807:=by decide
   rw[this];omega
  simp only[binOp,Op.stringOp,e,gS];rfl
 all_goals first
  |exact h.elim
  |exact⟨_,h,rfl,λt w=>by simp[binOp,Op.stringOp]⟩
theorem ZZ(hT:fW P T){op:BinOp}{t ty:TypeId}{xo yo:Operand}{x y:SV}{K:SV->Prop}(hx:kE ρ x (a.eval xo))(hy:kE ρ y (a.eval yo))(h:Z1 T op t yo x y K):
  ∃sv v,K sv/\kE ρ sv v/\Fo P a (.binOp op t xo yo ty) [] W v:=by
 have qX:∀z:Value,z.oneCell'=true->(∀w,(eqGuard op t xo yo (a.eval xo) (a.eval yo)).run P w= .ok () w)->(∀w,(binOp op t (a.eval xo) (a.eval yo)).run P w= .ok z w)->Fo P a (.binOp op t xo yo ty) [] W z:=by
  intro z _ hg hb o ho W' _;simp[execOp,ho,hg,hb]
 unfold Z1 at h
 split at h
 ·rename_i k a' k' b'
  have ex:=hx.eq (by simp);have ey:=hy.eq (by simp);simp only[eY,CV.val]at ex ey;obtain⟨z,hz,h1,lm⟩:=Zp (P:=P) ey h;refine⟨_,z,hz,.v h1,qX z h1 (λw=>?_) (λw=>?_)⟩
  ·rw[ex,ey];exact oe (by simp) (by simp) w
  grind
 ·rename_i a' b'
  have ex:=hx.eq (by simp);have ey:=hy.eq (by simp);simp only[eY,CV.val]at ex ey;obtain⟨z,hz,h1,lm⟩:=YE (P:=P) h;refine⟨_,z,hz,.v h1,qX z h1 (λw=>?_) (λw=>?_)⟩
  ·rw[ex,ey];exact oe (by simp) (by simp) w
  grind
 ·rename_i c d
  have ex:=hx.eq (by simp);have ey:=hy.eq (by simp);have okx:=(hx.om (by simp)).1;have oky:=(hy.om (by simp)).1;simp only[eY,CV.val]at ex ey
  split at h
  ·rename_i i hi
   cases hb:(i.eq&&(fz i.zero c&&fz i.zero d))with
   |false=>simp[hb]at h
   |true=>
    simp only[hb,cond_true]at h;simp only[aB]at hb;obtain⟨kW,oM,Ah⟩:=hb;have ho:=hT t i hi;obtain⟨ha,hg,hq,_⟩:=ho.avK kW;obtain⟨ds,hds,hk⟩:=ho.desc
    have vl:∀cs:List Value,Vl P t (.agg cs.toArray) cs:=by
     intro cs;rw[<-hk]at ha;unfold Vl;rw[hds]
     cases ds<;>simp[TK.of,TK.agg]at ha<;>rfl
    have NV:∀w,(Op.equal t (.agg (LB.cz c).toArray) (.agg (LB.cz d).toArray)).run P w= .ok (rD c d) w:=by
     intro w;have:=Xm (P:=P) 9950 50 t _ hg w _ _ _ _ (vl (LB.cz c)) (vl (LB.cz d)) (tT ho.zok okx oM) (tT ho.zok oky Ah);rw[D5 okx oky oM Ah]at this;exact this
    split at h
    ·refine⟨_,_,h,.v rfl,qX _ rfl (λw=>?_) (λw=>?_)⟩
     ·rw[ex,ey];exact run_eqGuard_agg w _ _ _ _ _ _ hq
     ·rw[ex,ey]
      show(binOp .eql t _ _).run P w=_
      simp only[binOp,Sem.run_bind,NV w,Result.andThen_ok,Sem.run_pure]
    ·refine⟨_,_,h,.v rfl,qX _ rfl (λw=>?_) (λw=>?_)⟩
     ·rw[ex,ey];exact run_eqGuard_agg w _ _ _ _ _ _ hq
     ·rw[ex,ey]
      show(binOp .neq t _ _).run P w=_
      simp only[binOp,Sem.run_bind,NV w,Result.andThen_ok,Sem.run_pure]
    ·exact h.elim
  grind
 ·split at h
  ·rename_i x' y' e1 e2
   have ex:=Pn hx e1;have ey:=Pn hy e2
   split at h
   ·rename_i i hi
    split at h
    ·obtain⟨⟨r,hr,hw⟩,g1⟩:=Kz (hT t i hi) h
     refine⟨_,.bool r,hr,.v rfl,qX _ rfl (λw=>?_) (λw=>?_)⟩
     ·grind
     grind
    ·obtain⟨⟨r,hr,hw⟩,g1⟩:=Kz (hT t i hi) h
     refine⟨_,.bool !r,hr,.v rfl,qX _ rfl (λw=>?_) (λw=>?_)⟩
     ·grind
     grind
    grind
   grind
  grind
theorem aej{op:UnOp}{t:TypeId}{xo:Operand}{x:SV}{K:SV->Prop}(hx:kE ρ x (a.eval xo))(h:fUn op x K):∃sv v,K sv/\kE ρ sv v/\Fo P a (.unOp op t xo) [] W v:=by
 have qX:∀z:Value,(∀w,(Op.unary op (a.eval xo)).run P w= .ok z w)->Fo P a (.unOp op t xo) [] W z:=by
  intro z hb o ho W' _;simp[execOp,ho,hb]
 unfold fUn at h
 split at h
 all_goals first
  |exact h.elim
  |(have ex:=hx.eq (by simp)
    simp only[eY,CV.val]at ex
    first
     |exact⟨_,_,h,.v rfl,qX _ (λw=>by rw[ex];simp[Op.unary,Op.intArith,Op.intBits,ag])⟩
     |exact⟨_,_,h,.mk trivial trivial,qX _ (λw=>by rw[ex];simp[Op.unary,eY])⟩)
theorem ZW{xo:Operand}{x:SV}{K:SV->Prop}(hx:kE ρ x (a.eval xo))(h:ZY x K):∃sv v,K sv/\kE ρ sv v/\Fo P a (.nilCheck xo) [] W v:=by
 unfold ZY at h
 split at h
 all_goals first
  |exact h.elim
  |(have ex:=hx.eq (by simp)
    have eo:=hx.om (by simp);refine⟨_,_,h,.mk eo.1 eo.2,λo ho W' _=>?_⟩;simp only[eY,CV.val]at ex
    simp[execOp,ho,ex,eY,CV.val])
theorem Vt(hT:fW P T){src dst:TypeId}{xo:Operand}{x:SV}{K:SV->Prop}(hx:kE ρ x (a.eval xo))(h:Ij T src dst x K):∃sv v,K sv/\kE ρ sv v/\Fo P a (.convert src dst xo) [] W v:=by
 unfold Ij at h
 split at h
 ·rename_i si di hs hd
  obtain⟨sd,hsk,AF⟩:=(hT src si hs).oc;obtain⟨dd,BB,FP⟩:=(hT dst di hd).oc
  split at h
  ·rename_i k _ _ hk
   have ex:=hx.eq (by simp);simp only[eY,CV.val]at ex;refine⟨_,_,h,.v rfl,λo ho W' _=>?_⟩;rw[hk]at BB
   cases dd<;>simp[TK.of]at BB
   subst BB;simp only[execOp,ho,ex,convert,Sem.run_bind,AF,FP,Result.andThen_ok]
   cases sd<;>simp[Conv.intToInt]
  ·rename_i _ hk
   have ex:=hx.eq (by simp);simp only[eY,CV.val]at ex;refine⟨_,_,h,.v rfl,λo ho W' _=>?_⟩;rw[hk]at BB
   cases dd<;>simp[TK.of]at BB
   simp only[execOp,ho,ex,convert,Sem.run_bind,AF,FP,Result.andThen_ok]
   simp_all
  grind
 grind
end
section
variable {P:Program}{T:lz}{nt:Nat}{D:List Deferred}{m0:aD}{W0:World}{ρ:List Nat}{s:St}{a:Act}{W:World}
theorem Ht{t:TypeId}{i:TI}(hi:F1 P t i)(ha:i.k.agg=false){xo:Operand}{b off:Nat}{arr:Array Value}{t':TypeId}{fr:Nat×Nat}{B:List Nat}{y:Value}
  (hx:a.eval xo= .pointer (some ⟨b,off,none⟩)) (hb:b∈B) (hW:W.heap[b]?=some (.cells arr t' fr)) (hy:arr[off]?=some y):Fo P a (.load t xo) B W y:=by
 intro o ho W' hs;have:=MP (P:=P) hi ha ((hs b hb).trans hW) hy;simp[execOp,ho,hx,Instr.loadAt,Instr.sureAddr,this]
theorem DC{t:TypeId}{i:TI}(hi:F1 P t i)(ha:i.k.agg=true){xo:Operand}{b off:Nat}{arr:Array Value}{t':TypeId}{fr:Nat×Nat}{B:List Nat}{l:List Value}
  (hx:a.eval xo= .pointer (some ⟨b,off,none⟩)) (hb:b∈B) (hW:W.heap[b]?=some (.cells arr t' fr)) (hl:l.length=i.size) (hy:∀j v,l[j]?=some v->arr[off+j]?=some v):Fo P a (.load t xo) B W (.agg l.toArray):=by
 intro o ho W' hs;have:=Jr (P:=P) hi ha ((hs b hb).trans hW) hl hy;simp[execOp,ho,hx,Instr.loadAt,Instr.sureAddr,this]
theorem nf{ρ:List Nat}{h:Nat}(hh:h<ρ.length):ρ.getD h 0∈ρ:=by
 grind
def ug(ρ:List Nat):SV->Option Nat
 | .p h _=>some (ρ.getD h 0)
 | .q h _ _=>some (ρ.getD h 0)
 | .c (.v (.pointer (some ad)))=>some ad.block
 | .c (.v (.slice (some ad) _ _))=>some ad.block
 | .sl h _ _ _ _=>some (ρ.getD h 0)
 |_=>none
theorem MC(hT:fW P T){src dst:TypeId}(h:rj T src dst=true):∃e,P.underlying src=some (.slice e)/\P.underlying e=some (.int .u8)/\P.underlying dst=some .string:=by
 unfold rj at h
 split at h
 ·rename_i i j hi hj
  split at h
  ·rename_i e U6 Fb
   split at h
   ·rename_i ei Vb
    split at h
    ·rename_i HQ
     obtain⟨d1,q1,q2⟩:=(hT src i hi).desc;obtain⟨d2,r1,r2⟩:=(hT dst j hj).desc;obtain⟨d3,s1,s2⟩:=(hT e ei Vb).desc;rw[U6]at q2;rw[Fb]at r2;rw[HQ]at s2
     refine⟨e,?_,?_,?_⟩
     ·rw[q1];cases d1<;>simp[TK.of]at q2;rw[q2]
     ·rw[s1];cases d3<;>simp[TK.of]at s2;rw[s2]
     ·rw[r1];cases d2<;>simp[TK.of]at r2;rfl
    ·cases h
   ·cases h
  ·cases h
 ·cases h
theorem Wo{src dst e:TypeId}(hs:P.underlying src=some (.slice e))(he:P.underlying e=some (.int .u8))(hd:P.underlying dst=some .string){w:World}{b off n c:Nat}{arr:Array Value}{t':TypeId}{fr:Nat×Nat}
  (hb:w.heap[b]?=some (.cells arr t' fr)) {ns:List Int} (hn:ns.length=n) (hj:∀j v,(ns.map (Value.int .u8))[j]?=some v->arr[off+j]?=some v):
  (convert src dst (.slice (some ⟨b,off,none⟩) n c)).run P w= .ok (.string (tH ns)) w:=by
 rw[run_convert_bytes_string w src dst e _ _ _ hs he hd];have h1:=run_loadCells_list (P:=P) w ⟨b,off,none⟩ (ns.map (Value.int .u8)) (λj v hv=>by rw[ii,iO hb];exact hj j v hv);rw[aH,hn]at h1;exact run_bytesToString w _ n c ns h1
theorem ZV(hT:fW P T)(hr:iG nt D m0 W0 ρ s a W){src dst:TypeId}(hc:rj T src dst=true){xo:Operand}{x:SV}{K:SV->List Nat->Prop}(hx:kE ρ x (a.eval xo))(h:ael s.L s.m x K):
  ∃sv bs v B,K sv bs/\kE ρ sv v/\(∀b∈bs,∃o,s.m b=some o)/\(∀b∈B,(b∈ρ\/b∈bs)/\ug ρ x=some b/\∀y,x= .c y->∃o,s.m b=some o)/\Fo P a (.convert src dst xo) B W v:=by
 obtain⟨e,hs,he,hd⟩:=MC hT hc;unfold ael at h
 split at h
 ·rename_i n c
  have ex:=hx.eq (by simp);simp only[eY,CV.val]at ex;refine⟨_,[],_,[],h,.v rfl,by simp,by simp,λo ho W' _=>?_⟩;simp only[execOp,ho,ex,Sem.run_bind];rw[run_convert_bytes_string W' src dst e _ _ _ hs he hd];simp[Conv.bytesToString,Sem.run_pure]
 ·rename_i aa n c
  have ex:=hx.eq (by simp);simp only[eY,CV.val]at ex;rcases h with⟨rfl,h⟩|h
  ·refine⟨_,[],_,[],h,.v rfl,by simp,by simp,λo ho W' _=>?_⟩
   simp only[execOp,ho,ex,Sem.run_bind];rw[run_convert_bytes_string W' src dst e _ _ _ hs he hd];have h1:=run_loadCells_list (P:=P) W' aa [] (λj v hv=>by simp at hv);rw[run_bytesToString W' aa 0 c [] (by simpa using h1)]
   simp_all
  obtain⟨ns,hn,b,off,rfl,⟨arr,t',fr,hm,hj⟩,hk⟩:=h;refine⟨_,[b],_,[b],hk,.v rfl,by simp[hm],?_,λo ho W' hW'=>?_⟩
  ·intro b' qB
   have:b'=b:=by simpa using qB
   subst this;exact⟨.inr (by simp),rfl,λ_ _=>⟨_,hm⟩⟩
  ·simp only[execOp,ho,ex,Sem.run_bind]
   rw[Wo hs he hd ((hW' b (by simp)).trans (hr.after.jF _ _ hm)) hn hj]
   simp_all
 ·rename_i hh off d n c
  split at h
  ·exact h.elim
  ·rename_i t' cc hL
   have ex:=hx.eq (by simp);have hu:=(hx.om (by simp)).2;simp only[eY]at ex;simp only[SV.under]at hu;rw[pq]at hL;obtain⟨k1,k2,k3,k4⟩:=hr.rz hh t' cc hL;obtain⟨ns,hn,hj,hk⟩:=h;refine⟨_,[],_,[ρ.getD hh 0],hk,.v rfl,by simp,?_,λo ho W' hW'=>?_⟩
   ·intro b' qB
    have:b'=ρ.getD hh 0:=by simpa using qB
    subst this;exact⟨.inl (nf hu),rfl,λy hy=>by cases hy⟩
   ·simp only[execOp,ho,ex,Sem.run_bind]
    rw[Wo hs he hd ((hW' _ (by simp)).trans k1) hn (λj v hv=>by simpa using hj j v hv)]
    simp_all
 grind
theorem Ih(hT:fW P T)(hr:iG nt D m0 W0 ρ s a W){t:TypeId}{xo:Operand}{x:SV}{K:SV->List Nat->Prop}(hx:kE ρ x (a.eval xo))(h:Ii T s t x K):
  ∃sv bs v b,K sv bs/\kE ρ sv v/\(∀b∈bs,∃o,s.m b=some o)/\ug ρ x=some b/\(b∈ρ\/b∈bs)/\(∀y,x= .c y->∃o,s.m b=some o)/\Fo P a (.load t xo) [b] W v:=by
 unfold Ii at h
 split at h
 ·exact h.elim
 rename_i i hi;have DJ:=hT t i hi
 split at h
 ·rename_i hd off
  have ex:=hx.eq (by simp);have eo:=(hx.om (by simp)).2;simp only[SV.under]at eo;simp only[eY]at ex
  split at h
  ·exact h.elim
  rename_i t' c hc;rw[pq]at hc;obtain⟨hW,ez,hn,_⟩:=hr.rz hd t' c hc
  split at h
  ·rename_i qM
   split at h
   ·rename_i d uA
    obtain⟨h1,h2,h3⟩:=LB.Gm ez uA;refine⟨_,[],_,_,h,.mk h1 trivial,by simp,rfl,.inl (nf eo),by simp,?_⟩;simp only[eY,CV.val];refine DC DJ qM ex (by simp) hW h3 (λj v hv=>?_)
    grind
   grind
  ·rename_i qM
   split at h
   ·rename_i y hy
    obtain⟨h1,h2⟩:=LB.mY ez hy;refine⟨_,[],_,_,h,.v h2,by simp,rfl,.inl (nf eo),by simp,?_⟩;exact Ht DJ qM ex (by simp) hW (by simpa using h1)
   grind
 ·rename_i hd off d
  have ex:=hx.eq (by simp);have eo:=(hx.om (by simp)).2;simp only[SV.under]at eo;simp only[eY]at ex
  split at h
  ·exact h.elim
  rename_i t' c hc;rw[pq]at hc;obtain⟨hW,ez,hn,_⟩:=hr.rz hd t' c hc
  split at h
  ·rename_i qM
   obtain⟨e,hk,h1,h2,h3⟩:=LB.vq ez h;refine⟨_,[],_,_,hk,.mk h1 trivial,by simp,rfl,.inl (nf eo),by simp,?_⟩;simp only[eY,CV.val];refine DC DJ qM ex (by simp) hW h3 (λj v hv=>?_)
   grind
  ·rename_i qM
   obtain⟨y,hk,h1,h2⟩:=LB.vv ez h;refine⟨_,[],_,_,hk,.v h2,by simp,rfl,.inl (nf eo),by simp,?_⟩;exact Ht DJ qM ex (by simp) hW (by simpa using h1)
 ·rename_i b off
  have ex:=hx.eq (by simp);simp only[eY,CV.val]at ex
  split at h
  ·rename_i qM
   obtain⟨c,h1,h2,⟨arr,t',fr,hm,hj⟩,hk⟩:=h;refine⟨_,[b],_,_,hk,.mk h1 trivial,by simp[hm],rfl,.inr (by simp),λ_ _=>⟨_,hm⟩,?_⟩;simp only[eY,CV.val];exact DC DJ qM ex (by simp) (hr.after.jF _ _ hm) (by rw[LB.fJ h1,h2]) hj
  ·rename_i qM
   obtain⟨y,hm,h1,hk⟩:=h;unfold gR at hm
   split at hm
   ·rename_i arr t' fr hb
    refine⟨_,[b],_,_,hk,.v h1,by simp[hb],rfl,.inr (by simp),λ_ _=>⟨_,hb⟩,?_⟩;exact Ht DJ qM ex (by simp) (hr.after.jF _ _ hb) hm
   ·simp at hm
 grind
theorem xK{d:TypeDesc}{fs:List (Nat×TypeId)}(h:TK.of d= .struct fs):∃gs:Array Field,d= .struct gs/\fs=gs.toList.map λf=>(f.offset,f.type):=by
 cases d<;>simp[TK.of]at h
 grind
theorem sX{d:TypeDesc}{n:Nat}{e:TypeId}(h:TK.of d= .array n e):d= .array n e:=by
 cases d<;>simp[TK.of]at h
 grind
theorem ph{d:TypeDesc}{e:TypeId}(h:TK.of d= .slice e):d= .slice e:=by
 cases d<;>simp[TK.of]at h
 subst h;rfl
theorem BK{d:TypeDesc}(h:TK.of d= .AS):d= .string:=by
 cases d<;>simp[TK.of]at h
 rfl
theorem RH{gs:Array Field}{f off:Nat}{ft:TypeId}(h:zo (gs.toList.map λf=>(f.offset,f.type)) f=some (off,ft)):∃g,gs[f]?=some g/\g.offset=off/\g.type=ft:=by
 rw[pq,cj]at h
 grind
theorem BQ{t:TypeId}{i:TI}(hi:F1 P t i)(ha:i.k.agg=false){arr:Array Value}{off:Nat}{y:Value}(hy:arr[off]?=some y) (w:World):(part t arr off).run P w= .ok y w:=by
 unfold part;rw[Sem.run_bind,hi.zh,ha];simp[hy]
theorem Ax{t:TypeId}{i:TI}(hi:F1 P t i)(ha:i.k.agg=true){arr:Array Value}{off:Nat}{l:List Value}(hy:l=(arr.toList.drop off).take i.size)(w:World):(part t arr off).run P w= .ok (.agg l.toArray) w:=by
 unfold part;rw[Sem.run_bind,hi.zh,ha];simp only[Result.andThen_ok,oN,Sem.run_bind,hi.run_sizeOf]
 have e:arr.extract off (off+i.size)=l.toArray:=by
  grind
 rw[e];rfl
theorem RN(hT:fW P T){t:TypeId}{f:Nat}{xo:Operand}{x:SV}{K:SV->Prop}(hx:kE ρ x (a.eval xo))(h:D3 T t x f K):∃sv v,K sv/\kE ρ sv v/\Fo P a (.field t xo f) [] W v:=by
 unfold D3 at h
 split at h
 ·rename_i i hi
  obtain⟨d,BB,FP⟩:=(hT t i hi).oc
  split at h
  ·rename_i fs c hk
   obtain⟨gs,rfl,rfl⟩:=xK (BB.trans hk);have ex:=hx.eq (by simp);have eo:=(hx.om (by simp)).1;simp only[eY,CV.val]at ex
   split at h
   ·rename_i off ft hn
    obtain⟨g,hg,Ag,hg2⟩:=RH hn
    split at h
    ·rename_i fi HT
     have hft:=hT ft fi HT
     split at h
     ·rename_i qM
      split at h
      ·rename_i d hd
       obtain⟨h1,h2,h3⟩:=LB.Gm eo hd;refine⟨_,_,h,.mk h1 trivial,λo ho W' _=>?_⟩;have hp:=Ax (P:=P) hft qM (arr:=(LB.cz c).toArray) (off:=off) (l:=LB.cz d) (by simpa using h2) W';rw[<-Ag,<-hg2]at hp;simp[execOp,ho,ex,Instr.field,FP,hg,asAgg,hp,eY,CV.val]
      grind
     ·rename_i qM
      split at h
      ·rename_i y hy
       obtain⟨h1,h2⟩:=LB.mY eo hy;refine⟨_,_,h,.v h2,λo ho W' _=>?_⟩;have hp:=BQ (P:=P) hft qM (arr:=(LB.cz c).toArray) (off:=off) (y:=y) (by simpa using h1) W';rw[<-Ag,<-hg2]at hp;simp[execOp,ho,ex,Instr.field,FP,hg,asAgg,hp]
      grind
    grind
   grind
  grind
 grind
theorem Fg(hT:fW P T){t:TypeId}{f:Nat}{xo:Operand}{x:SV}{K:SV->Prop}(hx:kE ρ x (a.eval xo))(h:pE T t x f K):∃sv v,K sv/\kE ρ sv v/\Fo P a (.fieldAddr t xo f) [] W v:=by
 unfold pE at h
 split at h
 ·rename_i i hi
  obtain⟨d,BB,FP⟩:=(hT t i hi).oc
  split at h
  ·rename_i fs hk
   obtain⟨gs,rfl,rfl⟩:=xK (BB.trans hk)
   split at h
   ·rename_i off ft hn
    obtain⟨g,hg,Ag,hg2⟩:=RH hn
    split at h
    ·rename_i fi HT
     have hft:=hT ft fi HT
     cases hz:Nat.blt 0 fi.size with
     |false=>simp[hz]at h
     |true=>
      have hz':fi.size≠0:=by have:=pK.1 hz;omega
      simp only[hz,cond_true]at h
      have qX:∀b o',a.eval xo= .pointer (some ⟨b,o',none⟩)->Fo P a (.fieldAddr t xo f) [] W (.pointer (some ⟨b,o'+off,none⟩)):=by
       intro b o' he o ho W' _;simp[execOp,ho,he,Instr.fieldAt,FP,hg,Instr.sureAddr,fieldPlace,hg2,hft.run_sizeOf,hz',Ag,ii]
      split at h
      ·have ex:=hx.eq (by simp)
       have eo:=(hx.om (by simp)).2;exact⟨_,_,h,.mk trivial eo,qX _ _ ex⟩
      ·have ex:=hx.eq (by simp)
       have eo:=(hx.om (by simp)).2;refine⟨_,_,h,.mk trivial eo,?_⟩;have:=qX _ _ ex;simp only[eY];rwa [gi]at this
      ·have ex:=hx.eq (by simp)
       exact⟨_,_,h,.v rfl,qX _ _ ex⟩
      ·exact h.elim
    grind
   grind
  grind
 grind
theorem Cz{io:Operand}{n z j:Nat}(h:wH io n z=some j):∃k i,a.eval io= .int k (Int.ofNat i)/\i<n/\j=i*z:=by
 cases io with
 |const v=>
  cases v with
  |int k i=>
   cases i with
   |ofNat i=>
    simp only[wH]at h
    cases hb:Nat.blt i n with
    |false=>simp[hb]at h
    |true=>
     simp only[hb,cond_true,aM]at h;exact⟨k,i,rfl,pK.1 hb,h.symm⟩
   |negSucc i=>simp[wH]at h
  |_=>simp[wH]at h
 |_=>simp[wH]at h
theorem Fe(hT:fW P T){t:TypeId}{xo io:Operand}{x i:SV}{K:SV->Prop}(hx:kE ρ x (a.eval xo))(hi:kE ρ i (a.eval io))(h:pD T t io x i K):∃sv v,K sv/\kE ρ sv v/\Fo P a (.indexAddr t xo io) [] W v:=by
 unfold pD at h
 split at h
 ·exact h.elim
 rename_i ti DJ;obtain⟨d,BB,FP⟩:=(hT t ti DJ).oc
 split at h
 ·rename_i n e hk
  have hd:=sX (BB.trans hk);subst hd
  split at h
  ·exact h.elim
  rename_i ei Vb;have he:=hT e ei Vb
  have qX:∀b o' k j,a.eval xo= .pointer (some ⟨b,o',none⟩)->a.eval io= .int k j->0<=j->j<n->Fo P a (.indexAddr t xo io) [] W (.pointer (some ⟨b,o'+j.toNat*ei.size,none⟩)):=by
   intro b o' k j h1 h2 h3 h4 o ho W' _;simp[execOp,ho,h1,h2,Instr.indexAt,asIntOf,FP,Instr.sureAddr,h3,h4,he.run_sizeOf,ii]
  split at h
  ·have ex:=hx.eq (by simp)
   have eo:=(hx.om (by simp)).2;simp only[eY]at ex
   split at h
   ·rename_i j hj
    obtain⟨k,i',h1,h2,h3⟩:=Cz (a:=a) hj;refine⟨_,_,h,.mk trivial eo,?_⟩;have:=qX _ _ k (Int.ofNat i') ex h1 (s9 _) (Int.ofNat_lt.2 h2);subst h3;exact this
   ·split at h
    ·rename_i k j
     have VB:=hi.eq (by simp);refine⟨_,_,h.2,.mk trivial eo,?_⟩;have:=qX _ _ k j ex VB h.1.1 h.1.2;simpa [eY,rZ]using this
    grind
  ·have ex:=hx.eq (by simp)
   have eo:=(hx.om (by simp)).2;simp only[eY]at ex
   split at h
   ·rename_i k j
    have VB:=hi.eq (by simp);refine⟨_,_,h.2,.mk trivial eo,?_⟩;have:=qX _ _ k j ex VB h.1.1 h.1.2;simpa [eY,rZ,gi]using this
   grind
  ·have ex:=hx.eq (by simp)
   simp only[eY,CV.val]at ex
   split at h
   ·rename_i k j
    have VB:=hi.eq (by simp);refine⟨_,_,h.2,.v rfl,?_⟩;have:=qX _ _ k j ex VB h.1.1 h.1.2;simpa [rZ]using this
   grind
  grind
 ·rename_i e hk
  have hd:=ph (BB.trans hk);subst hd
  split at h
  ·exact h.elim
  rename_i ei Vb;have he:=hT e ei Vb
  have qX:∀b o' len cap k j,a.eval xo= .slice (some ⟨b,o',none⟩) len cap->a.eval io= .int k j->0<=j->j<len->Fo P a (.indexAddr t xo io) [] W (.pointer (some ⟨b,o'+j.toNat*ei.size,none⟩)):=by
   intro b o' len cap k j h1 h2 h3 h4 o ho W' _;simp[execOp,ho,h1,h2,Instr.indexAt,asIntOf,FP,h3,h4,he.run_sizeOf,ii]
  split at h
  ·rename_i k j
   have ex:=hx.eq (by simp);have VB:=hi.eq (by simp);simp only[eY,CV.val]at ex;refine⟨_,_,h.2,.v rfl,?_⟩;have:=qX _ _ _ _ k j ex VB h.1.1 h.1.2;simpa [rZ]using this
  ·rename_i k j
   have ex:=hx.eq (by simp);have eo:=(hx.om (by simp)).2;have VB:=hi.eq (by simp);simp only[eY]at ex;refine⟨_,_,h.2,.mk trivial eo,?_⟩;have:=qX _ _ _ _ k j ex VB h.1.1 h.1.2;simpa [eY,rZ,gi]using this
  grind
 grind
theorem RK(hT:fW P T){t:TypeId}{xo io:Operand}{x i:SV}{K:SV->Prop}(hx:kE ρ x (a.eval xo))(hi:kE ρ i (a.eval io))(h:DZ T t io x i K):∃sv v,K sv/\kE ρ sv v/\Fo P a (.index t xo io) [] W v:=by
 unfold DZ at h
 split at h
 ·exact h.elim
 rename_i ti DJ;obtain⟨d,BB,FP⟩:=(hT t ti DJ).oc
 split at h
 ·rename_i n e c hk
  have hd:=sX (BB.trans hk);subst hd
  have ex:=hx.eq (by simp);have eo:=(hx.om (by simp)).1;simp only[eY,CV.val]at ex
  split at h
  ·exact h.elim
  rename_i ei Vb;have he:=hT e ei Vb
  have aqY:∀k j y,a.eval io= .int k j->0<=j->j<n->ei.k.agg=false->(LB.cz c)[j.toNat*ei.size]?=some y->Fo P a (.index t xo io) [] W y:=by
   intro k j y h2 h3 h4 ha hy o ho W' _;have:=BQ (P:=P) he ha (arr:=(LB.cz c).toArray) (off:=j.toNat*ei.size) (by simpa using hy) W';simp[execOp,ho,ex,h2,Instr.index,asIntOf,FP,h3,h4,he.run_sizeOf,this]
  have aef:∀k j l,a.eval io= .int k j->0<=j->j<n->ei.k.agg=true->l=((LB.cz c).drop (j.toNat*ei.size)).take ei.size->Fo P a (.index t xo io) [] W (.agg l.toArray):=by
   intro k j y h2 h3 h4 ha hy o ho W' _;have:=Ax (P:=P) he ha (arr:=(LB.cz c).toArray) (off:=j.toNat*ei.size) (by simpa using hy) W';simp[execOp,ho,ex,h2,Instr.index,asIntOf,FP,h3,h4,he.run_sizeOf,this]
  split at h
  ·rename_i j hj
   obtain⟨k,i',h1,h2,h3⟩:=Cz (a:=a) hj
   split at h
   ·rename_i qM
    split at h
    ·rename_i d hd
     obtain⟨g1,g2,g3⟩:=LB.Gm eo hd;refine⟨_,_,h,.mk g1 trivial,?_⟩;exact aef k (Int.ofNat i') _ h1 (s9 _) (Int.ofNat_lt.2 h2) qM (by rw[g2,h3];simp)
    grind
   ·rename_i qM
    split at h
    ·rename_i y hy
     obtain⟨g1,g2⟩:=LB.mY eo hy;refine⟨_,_,h,.v g2,?_⟩
     grind
    grind
  ·split at h
   ·rename_i k j
    have VB:=hi.eq (by simp);obtain⟨hb,h⟩:=h
    split at h
    ·rename_i qM
     obtain⟨d,ve,g1,g2,g3⟩:=LB.vq eo h;refine⟨_,_,ve,.mk g1 trivial,?_⟩;exact aef k j _ VB hb.1 hb.2 qM (by rw[g2,rZ];simp)
    ·rename_i qM
     obtain⟨y,ve,g1,g2⟩:=LB.vv eo h;refine⟨_,_,ve,.v g2,?_⟩;exact aqY k j _ VB hb.1 hb.2 qM (by rw[<-g1,rZ];simp)
   grind
 ·rename_i z hk
  have hd:=BK (BB.trans hk);subst hd
  have ex:=hx.eq (by simp);simp only[eY,CV.val]at ex
  split at h
  ·rename_i k j
   have VB:=hi.eq (by simp);simp only[eY,CV.val]at VB;refine⟨_,_,h.2,.v rfl,λo ho W' _=>?_⟩;have bH:j.toNat<z.size:=by have:=h.1;omega
   have hg:z[j.toNat]?=some (z.data.toList.getD j.toNat 0):=by
    have:z[j.toNat]?=some z[j.toNat]:=getElem?_pos z j.toNat bH;rw[this];have hl:j.toNat<z.data.toList.length:=by rw[cq];exact bH
    simp only[aI,az hl,jA];rfl
   simp[execOp,ho,ex,VB,Instr.index,asIntOf,FP,h.1.1,hg]
  grind
 grind
theorem JT(hT:fW P T){b:Builtin}{args:Array Operand}{xB:Array TypeId}{K:SV->Prop}(hr:iG nt D m0 W0 ρ s a W)(h:vp T b xB.toList (args.toList.map (ev s)) K):
  ∃sv v,K sv/\kE ρ sv v/\Fo P a (.call ⟨.builtin b,args,xB⟩) [] W v:=by
 have one:∀sv,args.toList.map (ev s)=[sv]->∃x,args= #[x]/\ev s x=sv:=by
  intro sv e
  match hl:args.toList,e with
  |[x],e=>
   simp at e;exact⟨x,by rw[<-iw (xs:=args),hl],e⟩
  |[],e=>simp at e
  |_::_::_,e=>simp at e
 have Yf:∀sv sv',args.toList.map (ev s)=[sv,sv']->∃x y,args= #[x,y]/\ev s x=sv/\ev s y=sv':=by
  intro sv sv' e
  match hl:args.toList,e with
  |[x,y],e=>
   simp at e;exact⟨x,y,by rw[<-iw (xs:=args),hl],e⟩
  |[_],e=>simp at e
  |[],e=>simp at e
  |_::_::_::_,e=>simp at e
 generalize hl:args.toList.map (ev s)=l at h;unfold vp at h
 split at h
 ·obtain⟨x,y,rfl,ex,ey⟩:=Yf _ _ hl
  have hx:=(hr.kK x).eq (by rw[ex];simp);have hy:=(hr.kK y).eq (by rw[ey];simp);rw[ex]at hx;rw[ey]at hy
  simp only[eY,CV.val]at hx hy;refine⟨_,_,h,.v rfl,λo ho W' _=>?_⟩;have e:∀p q:Int,(if q<p then q else p)=min p q:=λp q=>by rw[Int.min_def];split<;>split<;>omega
  simp[execOp,ho,resolve,invoke,builtin,hx,hy,e,run_min_int2]
 ·obtain⟨x,y,rfl,ex,ey⟩:=Yf _ _ hl
  have hx:=(hr.kK x).eq (by rw[ex];simp);have hy:=(hr.kK y).eq (by rw[ey];simp);rw[ex]at hx;rw[ey]at hy
  simp only[eY,CV.val]at hx hy;refine⟨_,_,h,.v rfl,λo ho W' _=>?_⟩;have e:∀p q:Int,(if p<q then q else p)=max p q:=λp q=>by rw[Int.max_def];split<;>split<;>omega
  simp[execOp,ho,resolve,invoke,builtin,hx,hy,e,run_max_int2]
 ·obtain⟨x,rfl,ex⟩:=one _ hl
  split at h
  ·rename_i ty avd
   have aqA:xB= #[ty]:=by rw[<-iw (xs:=xB),avd]
   subst aqA
   split at h
   ·rename_i i hi
    obtain⟨d,BB,FP⟩:=(hT ty i hi).oc;have hf:=hr.kK x;rw[ex]at hf
    split at h
    ·rename_i hk
     have hd:=ph (BB.trans hk);subst hd
     have hx:=hf.eq (by simp);simp only[eY,CV.val]at hx;refine⟨_,_,h,.v rfl,λo ho W' _=>?_⟩;simp[execOp,ho,resolve,invoke,builtin,hx,Builtin.len_,FP,goInt]
    ·rename_i hk
     have hd:=ph (BB.trans hk);subst hd
     have hx:=hf.eq (by simp);simp only[eY]at hx;refine⟨_,_,h,.v rfl,λo ho W' _=>?_⟩;simp[execOp,ho,resolve,invoke,builtin,hx,Builtin.len_,FP,goInt]
    ·rename_i hk
     have hd:=BK (BB.trans hk);subst hd
     have hx:=hf.eq (by simp);simp only[eY,CV.val]at hx;refine⟨_,_,h,.v rfl,λo ho W' _=>?_⟩;simp[execOp,ho,resolve,invoke,builtin,hx,Builtin.len_,FP,goInt]
    grind
   grind
  grind
 grind
theorem L7{oh:Nat->Option (Nat×Nat)}{cells:Array Value}{j off size:Nat}{v:Value}{fb:List (Nat×Value)}(hp:oh j=some (off,size))(hs:v.cells.size=size)(hle:off+v.cells.size<=cells.size):
  Instr.fill oh cells ((j,v)::fb)=Instr.fill oh (v.cells.zipIdx.foldl (λcs (c,i)=>cs.setIfInBounds (off+i) c) cells) fb:=by
 simp only[Instr.fill,hp]
 grind
theorem LD:∀(l:List Value) (k off:Nat) (cells:Array Value),off+k+l.length<=cells.size->
  ((l.zipIdx k).foldl (λ(cs:Array Value) (c,i)=>cs.setIfInBounds (off+i) c) cells).toList=cells.toList.take (off+k)++(l++cells.toList.drop (off+k+l.length))
 |[],k,off,cells,h=>by simp
 |v::r,k,off,cells,h=>by
  simp only[List.zipIdx_cons,gd];rw[LD r (k+1) off _ (by simp at h⊢;omega)];have bH:off+k<cells.toList.length:=by simp at h⊢;omega
  have e1:(cells.setIfInBounds (off+k) v).toList=cells.toList.set (off+k) v:=by simp
  have e2:off+(k+1)=off+k+1:=by omega
  have e3:off+(k+1)+r.length=off+k+(v::r).length:=by simp;omega
  rw[e1,List.take_set,km (by omega),e3,e2,au bH,fA _ _ (by simp;omega)];simp only[aK,gH (Nat.le_of_lt bH),kF,s7,aX,db,bV]
theorem HE(v:Value)(l:List Value)(hv:v.cells=l.toArray)(off:Nat)(cells:Array Value)(h:off+l.length<=cells.size):
  v.cells.zipIdx.foldl (λ(cs:Array Value) (c,i)=>cs.setIfInBounds (off+i) c) cells=(cells.toList.take off++(l++cells.toList.drop (off+l.length))).toArray:=by
 apply nA
 have:=LD l 0 off cells (by simpa using h)
 grind
end
section
variable {P:Program}{T:lz}{nt:Nat}{D:List Deferred}{m0:aD}{W0:World}{ρ:List Nat}{s:St}{a:Act}{W:World}
theorem vO{l:List Value}{o:Nat}{x:Value}(h:o<l.length):l.set o x=l.take o++([x]++l.drop (o+1)):=by
 rw[List.set_eq_take_append_cons_drop,aC h];simp
theorem RD{oh:Nat->Option (Nat×Nat)}{c:LB}{j off size:Nat}{v:Value}{l:List Value}{fb:List (Nat×Value)}(hp:oh j=some (off,size))(hv:v.cells=l.toArray)(hs:l.length=size)(hle:off+l.length<=(LB.cz c).length):
  Instr.fill oh (LB.cz c).toArray ((j,v)::fb)=Instr.fill oh ((LB.cz c).take off++(l++(LB.cz c).drop (off+l.length))).toArray fb:=by
 rw[L7 hp (by rw[hv];simpa using hs) (by rw[hv];simpa using hle),HE v l hv off _ (by simpa using hle)]
theorem iN{x:Value}(h:x.oneCell'=true):x.cells=[x].toArray:=by
 cases x<;>first|rfl|(simp[Value.oneCell']at h)
theorem IP(hr:iG nt D m0 W0 ρ s a W){oh:Nat->Option (Nat×Nat)}:∀{parts:List (Nat×Operand)}{c c':LB},LB.ok c->bld s oh c parts=some c'->
  LB.ok c'/\Instr.fill oh (LB.cz c).toArray (parts.map λ(i,x)=>(i,a.eval x))=some (LB.cz c').toArray
 |[],c,c',hc,h=>by simp only[bld,aM]at h;subst h;exact⟨hc,rfl⟩
 |(j,x)::r,c,c',hc,h=>by
  simp only[bld]at h;have hf:=hr.kK x
  have one:∀(y:Value) (off:Nat),oh j=some (off,1)->a.eval x=y->y.oneCell'=true->(match LB.set c off y with|some d=>bld s oh d r|none=>none)=some c'->
    LB.ok c'/\Instr.fill oh (LB.cz c).toArray ((j,a.eval x)::r.map λ(i,x)=>(i,a.eval x))=some (LB.cz c').toArray:=by
   intro y off hp he h1 hh
   cases jG:LB.set c off y with
   |none=>simp[jG]at hh
   |some d=>
    simp only[jG]at hh;obtain⟨g1,g2,g3⟩:=LB.uQ hc h1 jG;obtain⟨k1,k2⟩:=IP hr g1 hh;refine⟨k1,?_⟩;rw[RD (l:=[y]) hp (by rw[he];exact iN h1) rfl (by simp;omega),<-k2,g2,vO g3];simp
  split at h
  ·simp at h
  ·rename_i off size hp
   split at h
   ·rename_i y hy
    cases hb:Nat.beq size 1 with
    |false=>simp[hb]at h
    |true=>
     have:=bu hb;subst this
     simp only[hb,cond_true]at h;have he:=hf.eq (by rw[hy];simp);have hk:=(hf.om (by rw[hy];simp)).1;rw[hy]at he hk;exact one y off hp he hk h
   ·rename_i hy
    cases hb:Nat.beq size 1 with
    |false=>simp[hb]at h
    |true=>
     have:=bu hb;subst this
     simp only[hb,cond_true]at h;have he:=hf.eq (by rw[hy];simp);rw[hy]at he;exact one _ off hp he rfl h
   ·rename_i hy
    cases hb:Nat.beq size 1 with
    |false=>simp[hb]at h
    |true=>
     have:=bu hb;subst this
     simp only[hb,cond_true]at h;have he:=hf.eq (by rw[hy];simp);rw[hy]at he;exact one _ off hp he rfl h
   ·rename_i v hy
    cases hb:Nat.beq size (LB.size v)with
    |false=>simp[hb]at h
    |true=>
     have Ad:=bu hb;simp only[hb,cond_true]at h;have he:=hf.eq (by rw[hy];simp);have hk:=(hf.om (by rw[hy];simp)).1;rw[hy]at he hk
     cases jG:LB.YS c off v with
     |none=>simp[jG]at h
     |some d=>
      simp only[jG]at h;obtain⟨g1,g2,g3⟩:=LB.KV hc hk jG;obtain⟨k1,k2⟩:=IP hr g1 h;refine⟨k1,?_⟩;have hlen:=LB.fJ hk;simp only[aZ];rw[RD (l:=LB.cz v) hp (by rw[he];rfl) (by rw[hlen,Ad]) g3,<-k2,g2]
   ·simp at h
theorem B0(hT:fW P T):∀(gs:List Field),WS T (gs.map λf=>(f.offset,f.type))=true->
  ∃Dm,gs.mapM (λf=>(P.info? f.type).map λi=>(f.offset,i.size))=some Dm/\∀j x,vY T (.struct (gs.map λf=>(f.offset,f.type))) j=some x->Dm[j]?=some x
 |[],_=>⟨[],by simp,λj x h=>by simp[vY,zo]at h⟩
 |g::gs,h=>by
  simp only[aZ,WS]at h
  split at h
  ·rename_i i hi
   obtain⟨Dm,h1,h2⟩:=B0 hT gs h;obtain⟨j0,hj,hs,_⟩:=(hT _ _ hi).WX;refine⟨(g.offset,i.size)::Dm,?_,λj x hx=>?_⟩
   ·simp[List.mapM_cons,hj,hs,h1]
   ·cases j with
    |zero=>simp only[vY,aZ,zo,hi,aM]at hx;simp[hx]
    |succ j=>simpa using h2 j x (by simpa [vY,zo]using hx)
  ·simp at h
theorem Bn{pl pl':Nat->Option (Nat×Nat)}(CU:∀j x,pl j=some x->pl' j=some x):∀(l:List (Nat×Value)) (cs cs':Array Value),Instr.fill pl cs l=some cs'->Instr.fill pl' cs l=some cs'
 |[],_,_,h=>h
 |(j,v)::r,cs,cs',h=>by
  simp only[Instr.fill]at h⊢
  cases hp:pl j with
  |none=>simp[hp]at h
  |some y=>
   rw[CU j y hp];obtain⟨off,size⟩:=y;simp only[hp]at h;simp only
   split at h
   ·simp at h
   ·rename_i hc
    rw[if_neg hc];exact Bn CU r _ _ h
theorem RQ(hT:fW P T)(hr:iG nt D m0 W0 ρ s a W){t:TypeId}{parts:Array (Nat×Operand)}{K:SV->Prop}(h:D4 T s t parts.toList K):∃sv v,K sv/\kE ρ sv v/\Fo P a (.build t parts) [] W v:=by
 unfold D4 at h
 split at h
 ·rename_i i hi
  have DJ:=hT t i hi
  split at h
  ·rename_i qM
   cases U5:ND T i.k with
   |false=>simp[U5]at h
   |true=>
    simp only[U5,cond_true]at h
    split at h
    ·rename_i c hb
     obtain⟨h1,h2⟩:=IP hr DJ.zok hb;refine⟨_,_,h,.mk h1 trivial,λo ho W' _=>?_⟩
     have alF:P.built t (parts.map λ(i,x)=>(i,a.eval x)).toList=some (LB.cz c).toArray:=by
      obtain⟨j,hj,LR,_,z,hz,hzc⟩:=DJ.WX;obtain⟨d,hd,BB⟩:=DJ.desc;unfold Program.built
      cases hk:i.k with
      |struct fs=>
       obtain⟨gs,rfl,rfl⟩:=xK (BB.trans hk);rw[hk]at U5 h2;obtain⟨Dm,xf,lE⟩:=B0 hT gs.toList U5;simp only[hj,hd,hz,xf,hzc];have:=Bn (pl':=λx=>Dm.toArray[x]?) (λj x hx=>by simpa using lE j x hx) _ _ _ h2;simpa using this
      |array n e=>
       have:=sX (BB.trans hk);subst this
       rw[hk]at h2
       cases he:T e with
       |none=>simp[hk,ND,he]at U5
       |some ei=>
        obtain⟨j',hj',JP,_⟩:=(hT e ei he).WX;simp only[hj,hd,hz,hj',hzc,JP];have:=Bn (pl':=λi=>some (i*ei.size,ei.size)) (λj x hx=>by simpa [vY,he]using hx) _ _ _ h2;simpa using this
      |_=>simp[hk,TK.agg]at qM
     simp[execOp,ho,run_build W' t _ _ alF,eY,CV.val]
    ·exact h.elim
  grind
 grind
theorem gT(hr:iG nt D m0 W0 ρ s a W){xo:Option Operand}{aey dG:Nat}{K:Nat->Prop}(h:oE (xo.map (ev s)) aey dG K):
  ∃n,K n/\(xo=none->n=aey)/\(∀y,xo.map a.eval=some y->(n<=dG/\∀code w,(Instr.sliceBound y dG code).run P w= .ok n w)):=by
 cases xo with
 |none=>exact⟨aey,h,λ_=>rfl,by simp⟩
 |some x=>
  simp only[dZ,oE]at h
  split at h
  ·rename_i NV;simp at NV
  ·rename_i k j NV
   simp only[aM]at NV;have hx:=(hr.kK x).eq (by rw[NV];simp);rw[NV]at hx;simp only[eY,CV.val]at hx;refine⟨j.toNat,h.2,by simp,λy hy=>⟨by omega,λcode w=>?_⟩⟩;simp only[dZ,aM]at hy;subst hy;simp[Instr.sliceBound,hx,asIntOf,h.1.1,h.1.2]
  ·exact h.elim
theorem sS{isSlice:Bool}{len cap:Nat}{low high mx:Option Value}{l h m:Nat}(hh:¬(high=none/\mx.isSome=true))
  (hm0:mx=none->m=cap) (NT:∀y,mx=some y->∀code w,(Instr.sliceBound y cap code).run P w= .ok m w)
  (hh0:high=none->h=len) (eK:∀y,high=some y->∀code w,(Instr.sliceBound y m code).run P w= .ok h w)
  (hl0:low=none->l=0) (wz:∀y,low=some y->∀code w,(Instr.sliceBound y h code).run P w= .ok l w) (w:World):
  (Instr.sliceBounds isSlice len cap low high mx).run P w= .ok (l,h,m) w:=by
 unfold Instr.sliceBounds
 cases mx with
 |none=>
  have:=hm0 rfl;subst this
  cases high with
  |none=>
   have:=hh0 rfl;subst this
   cases low with
   |none=>have:=hl0 rfl;subst this;simp
   |some y=>simp[wz y rfl]
  |some z=>
   cases low with
   |none=>have:=hl0 rfl;subst this;simp[eK z rfl]
   |some y=>simp[eK z rfl,wz y rfl]
 |some u=>
  cases high with
  |none=>simp at hh
  |some z=>
   cases low with
   |none=>have:=hl0 rfl;subst this;simp[NT u rfl,eK z rfl]
   |some y=>simp[NT u rfl,eK z rfl,wz y rfl]
theorem RI(hT:fW P T)(hr:iG nt D m0 W0 ρ s a W){t:TypeId}{xo:Operand}{lo hi mx:Option Operand}{K:SV->Prop}(h:DY T t (ev s xo) (lo.map (ev s)) (hi.map (ev s)) (mx.map (ev s)) K):
  ∃sv v,K sv/\kE ρ sv v/\Fo P a (.slice t xo lo hi mx) [] W v:=by
 have hx:=hr.kK xo;generalize ev s xo=x at*;unfold DY at h
 cases hho:ahK (hi.map (ev s)) (mx.map (ev s))with
 |false=>simp[hho]at h
 |true=>
  simp only[hho,cond_true]at h
  have hh:¬(hi.map a.eval=none/\(mx.map a.eval).isSome=true):=by
   cases hi<;>cases mx<;>simp[ahK]at hho⊢
  split at h
  ·exact h.elim
  rename_i ti DJ;obtain⟨d,BB,FP⟩:=(hT t ti DJ).oc
  split at h
  ·rename_i e b o len cap hk
   have hd:=ph (BB.trans hk);subst hd
   have ex:=hx.eq (by simp);simp only[eY,CV.val]at ex
   split at h
   ·exact h.elim
   rename_i ei Vb;obtain⟨m,h,m0',m1⟩:=gT (P:=P) hr h;obtain⟨hh',h,ZO,h1⟩:=gT (P:=P) hr h;obtain⟨l,h,l0',l1⟩:=gT (P:=P) hr h
   have hb:=λw=>sS (P:=P) (isSlice:=true) (len:=len) (cap:=cap) (low:=lo.map a.eval) (high:=hi.map a.eval) (mx:=mx.map a.eval) (l:=l) (h:=hh') (m:=m) hh
    (λe=>m0' (by simpa using e)) (λy e=>(m1 y e).2) (λe=>ZO (by simpa using e)) (λy e=>(h1 y e).2) (λe=>l0' (by simpa using e)) (λy e=>(l1 y e).2) w
   refine⟨_,_,h (if m=l then o else o+l*ei.size) (λe=>by rw[if_neg e]) (λe=>by rw[aC e]),.v rfl,λop ho W' _=>?_⟩;simp only[execOp,ho,ex,Instr.sliceAt,Instr.slice,Sem.run_bind,FP,Result.andThen_ok,hb,(hT e ei Vb).run_sizeOf];by_cases Zz:m=l
   ·simp[Zz]
   ·simp[Zz,ii]
  ·rename_i e len cap hk
   have hd:=ph (BB.trans hk);subst hd
   have ex:=hx.eq (by simp);simp only[eY,CV.val]at ex
   split at h
   ·exact h.elim
   rename_i ei Vb;obtain⟨m,h,m0',m1⟩:=gT (P:=P) hr h;obtain⟨hh',h,ZO,h1⟩:=gT (P:=P) hr h;obtain⟨l,h,l0',l1⟩:=gT (P:=P) hr h
   have hb:=λw=>sS (P:=P) (isSlice:=true) (len:=len) (cap:=cap) (low:=lo.map a.eval) (high:=hi.map a.eval) (mx:=mx.map a.eval) (l:=l) (h:=hh') (m:=m) hh
    (λe=>m0' (by simpa using e)) (λy e=>(m1 y e).2) (λe=>ZO (by simpa using e)) (λy e=>(h1 y e).2) (λe=>l0' (by simpa using e)) (λy e=>(l1 y e).2) w
   refine⟨_,_,h,.v rfl,λop ho W' _=>?_⟩;simp only[execOp,ho,ex,Instr.sliceAt,Instr.slice,Sem.run_bind,FP,Result.andThen_ok,hb,(hT e ei Vb).run_sizeOf];simp
  ·rename_i n e uA o hk
   have hd:=sX (BB.trans hk);subst hd
   have ex:=hx.eq (by simp);have eo:=(hx.om (by simp)).2;simp only[eY]at ex
   split at h
   ·exact h.elim
   rename_i ei Vb;obtain⟨m,h,m0',m1⟩:=gT (P:=P) hr h;obtain⟨hh',h,ZO,h1⟩:=gT (P:=P) hr h;obtain⟨l,h,l0',l1⟩:=gT (P:=P) hr h
   have hb:=λw=>sS (P:=P) (isSlice:=false) (len:=n) (cap:=n) (low:=lo.map a.eval) (high:=hi.map a.eval) (mx:=mx.map a.eval) (l:=l) (h:=hh') (m:=m) hh
    (λe=>m0' (by simpa using e)) (λy e=>(m1 y e).2) (λe=>ZO (by simpa using e)) (λy e=>(h1 y e).2) (λe=>l0' (by simpa using e)) (λy e=>(l1 y e).2) w
   refine⟨_,_,h (if m=l then 0 else l*ei.size) (λe=>by rw[if_neg e]) (λe=>by rw[aC e]),.mk trivial eo,λop ho W' _=>?_⟩;simp only[execOp,ho,ex,Instr.sliceAt,Instr.sureAddr,Sem.run_bind,FP,Result.andThen_ok,hb,(hT e ei Vb).run_sizeOf,eY];by_cases Zz:m=l
   ·simp[Zz]
   ·simp[Zz,ii]
  ·rename_i n e b o hk
   have hd:=sX (BB.trans hk);subst hd
   have ex:=hx.eq (by simp);simp only[eY,CV.val]at ex
   split at h
   ·exact h.elim
   rename_i ei Vb;obtain⟨m,h,m0',m1⟩:=gT (P:=P) hr h;obtain⟨hh',h,ZO,h1⟩:=gT (P:=P) hr h;obtain⟨l,h,l0',l1⟩:=gT (P:=P) hr h
   have hb:=λw=>sS (P:=P) (isSlice:=false) (len:=n) (cap:=n) (low:=lo.map a.eval) (high:=hi.map a.eval) (mx:=mx.map a.eval) (l:=l) (h:=hh') (m:=m) hh
    (λe=>m0' (by simpa using e)) (λy e=>(m1 y e).2) (λe=>ZO (by simpa using e)) (λy e=>(h1 y e).2) (λe=>l0' (by simpa using e)) (λy e=>(l1 y e).2) w
   refine⟨_,_,h (if m=l then o else o+l*ei.size) (λe=>by rw[if_neg e]) (λe=>by rw[aC e]),.v rfl,λop ho W' _=>?_⟩;simp only[execOp,ho,ex,Instr.sliceAt,Instr.sureAddr,Sem.run_bind,FP,Result.andThen_ok,hb,(hT e ei Vb).run_sizeOf];by_cases Zz:m=l
   ·simp[Zz]
   ·simp[Zz,ii]
  ·rename_i z hk
   have hd:=BK (BB.trans hk);subst hd
   have ex:=hx.eq (by simp);simp only[eY,CV.val]at ex
   cases mx with
   |some _=>exact h.elim
   |none=>
    obtain⟨hh',h,ZO,h1⟩:=gT (P:=P) hr h;obtain⟨l,h,l0',l1⟩:=gT (P:=P) hr h
    have hb:=λw=>sS (P:=P) (isSlice:=false) (len:=z.size) (cap:=z.size) (low:=lo.map a.eval) (high:=hi.map a.eval) (mx:=none) (l:=l) (h:=hh') (m:=z.size) (by simp)
     (λe=>rfl) (λy e=>by simp at e) (λe=>ZO (by simpa using e)) (λy e=>(h1 y e).2) (λe=>l0' (by simpa using e)) (λy e=>(l1 y e).2) w
    refine⟨_,_,h,.v rfl,λop ho W' _=>?_⟩;simp[execOp,ho,ex,Instr.sliceAt,Instr.slice,Sem.run_bind,FP,hb]
  ·exact h.elim
def EB(T:lz):Op->Option Operand
 | .load _ x=>some x
 | .convert a b x=>bif rj T a b then some x else none
 |_=>none
def Bd(T:lz)(op:Op):Bool:=(EB T op).isSome
theorem L2(hT:fW P T)(hr:iG nt D m0 W0 ρ s a W){op:Op}{K:SV->List Nat->Prop}(h:Rw T s op K):
  ∃sv bs v B,K sv bs/\kE ρ sv v/\(∀b∈bs,∃o,s.m b=some o)/\(Bd T op=false->B=[])/\(∀b∈B,(b∈ρ\/b∈bs)/\∃x,EB T op=some x/\ug ρ (ev s x)=some b/\∀y,ev s x= .c y->∃o,s.m b=some o)/\Fo P a op B W v:=by
 have up:∀{op:Op}{K:SV->List Nat->Prop},(∃sv v,K sv []/\kE ρ sv v/\Fo P a op [] W v)->∃sv bs v B,K sv bs/\kE ρ sv v/\(∀b∈bs,∃o,s.m b=some o)/\(Bd T op=false->B=[])/\(∀b∈B,(b∈ρ\/b∈bs)/\∃x,EB T op=some x/\ug ρ (ev s x)=some b/\∀y,ev s x= .c y->∃o,s.m b=some o)/\Fo P a op B W v:=by
  rintro op K⟨sv,v,h1,h2,h3⟩;exact⟨sv,[],v,[],h1,h2,by simp,by simp,by simp,h3⟩
 unfold Rw at h
 split at h
 ·rename_i x;exact up ⟨_,_,h,hr.kK x,λo ho W' _=>by simp[execOp,ho]⟩
 ·rename_i c x y
  have hc:=hr.kK c
  split at h
  ·rename_i e
   rw[e]at hc;have hc:=hc.eq (by simp);exact up ⟨_,_,h,hr.kK x,λo ho W' _=>by simp[execOp,ho,hc,eY,asBool]⟩
  ·rename_i e
   rw[e]at hc;have hc:=hc.eq (by simp);exact up ⟨_,_,h,hr.kK y,λo ho W' _=>by simp[execOp,ho,hc,eY,asBool]⟩
  ·rename_i b e
   rw[e]at hc;have hc:=hc.eq (by simp)
   cases b with
   |true=>exact up ⟨_,_,h.1 rfl,hr.kK x,λo ho W' _=>by simp[execOp,ho,hc,eY,CV.val,asBool]⟩
   |false=>exact up ⟨_,_,h.2 rfl,hr.kK y,λo ho W' _=>by simp[execOp,ho,hc,eY,CV.val,asBool]⟩
  ·exact h.elim
 ·rename_i x;exact up ⟨_,_,h,hr.kK x,λo ho W' _=>by simp[execOp,ho]⟩
 ·obtain⟨sv,bs,v,b,h1,h2,h3,h4,h5,h5',h6⟩:=Ih hT hr (hr.kK _) h
  refine⟨sv,bs,v,[b],h1,h2,h3,by simp[Bd,EB],λb' hb=>?_,h6⟩;have:b'=b:=by simpa using hb
  subst this;exact⟨h5,_,rfl,h4,h5'⟩
 ·exact up (ZW (hr.kK _) h)
 ·exact up (ZZ hT (hr.kK _) (hr.kK _) h)
 ·exact up (aej (hr.kK _) h)
 ·rename_i src dst x
  cases hc:rj T src dst with
  |true=>
   simp only[hc]at h;obtain⟨sv,bs,v,B,h1,h2,h3,h4,h5⟩:=ZV hT hr hc (hr.kK x) h;exact⟨sv,bs,v,B,h1,h2,h3,by simp[Bd,EB,hc],λb hb=>⟨(h4 b hb).1,x,by simp[EB,hc],(h4 b hb).2⟩,h5⟩
  |false=>
   simp only[hc]at h;exact up (Vt hT (hr.kK _) h)
 ·exact up (RN hT (hr.kK _) h)
 ·exact up (Fg hT (hr.kK _) h)
 ·exact up (Fe hT (hr.kK _) (hr.kK _) h)
 ·exact up (RK hT (hr.kK _) (hr.kK _) h)
 ·rename_i x j
  split at h
  ·rename_i l hl
   split at h
   ·rename_i y hy
    have hx:=(hr.kK x).eq (by rw[hl];simp);have ho:=((hr.kK x).om (by rw[hl];simp)).1;rw[hl]at hx ho;rw[pq]at hy;refine up ⟨_,_,h,.mk (ho y (dJ hy)) trivial,λo OR W' _=>?_⟩;simp only[eY]at hx;simp[execOp,OR,hx,Instr.extract,hy,eY]
   ·exact h.elim
  ·exact h.elim
 ·exact up (RQ hT hr h)
 ·exact up (RI hT hr h)
 ·exact up (JT hT hr h)
 ·exact h.elim
end
def wP(P:Program)(f:FuncId):Prop:=∀(args:Array Value) (w:World),(callFunc f args).run P w= .ok (.enter f args) w
def bi(P:Program)(f:FuncId)(args:List CV)(m:aD)(R:List CV->aD->Prop):Prop:=
 wP P f/\((∀x∈args,x.ok)->∀W,mg m W->Calls P f (args.map CV.val).toArray W λe W'=>∃r m',e= .returned (gm r)/\(∀x∈r,x.ok)/\R r m'/\cr m W m' W')
variable{f:FuncId}{args:List CV}
theorem bi.mono{R R':List CV->aD->Prop}(h:bi P f args m R)(hr:∀r m',R r m'->R' r m'):bi P f args m R':=
 ⟨h.1,λha W hW=>(h.2 ha W hW).mono λ_ _ ⟨r,m',h1,h2,h3,h4⟩=>⟨r,m',h1,h2,hr _ _ h3,h4⟩⟩
abbrev eN(P:Program)(f:FuncId)(args:List CV)(m:aD)(r:List CV):Prop:=bi P f args m λr' m'=>r'=r/\m'=m
def lS:List CV->SV
 |[x]=>.c x
 |l=>.t l
theorem wI(ρ:List Nat)(r:List CV):eY ρ (lS r)=gm r:=by
 match r with
 |[x]=>rfl
 |[]=>rfl
 |_::_::_=>rfl
theorem BR{r:List CV}(h:∀x∈r,x.ok):(lS r).ok:=by
 unfold lS;split
 ·rename_i x;exact h x (by simp)
 ·exact h
theorem tO(r:List CV)(n:Nat):(lS r).under n:=by
 unfold lS;split<;>trivial
def jQ:List SV->Option (List CV)
 |[]=>some []
 | .c x::r=>match jQ r with
  |some l=>some (x::l)
  |none=>none
 | .tt::r=>match jQ r with
  |some l=>some (.v (.bool true)::l)
  |none=>none
 | .ff::r=>match jQ r with
  |some l=>some (.v (.bool false)::l)
  |none=>none
 |_=>none
def zV(P:Program)(f:FuncId)(args:List CV)(m:aD)(R:List CV->aD->Prop):Prop:=
 (∀x∈args,x.ok)->∀W,mg m W->∃r m' W',(callFunc f (args.map CV.val).toArray).run P W= .ok (.value (gm r)) W'/\(∀x∈r,x.ok)/\R r m'/\cr m W m' W'
inductive nR (P:Program) (f:FuncId) (args:List CV) (m:aD) (K:List CV->aD->Prop):Prop
 |mk (R:List CV->aD->Prop) (h:bi P f args m R) (k:∀r m',R r m'->K r m')
 |ext (R:List CV->aD->Prop) (h:zV P f args m R) (k:∀r m',R r m'->K r m')
theorem aP{R K:List CV->aD->Prop}(h:bi P f args m R)(k:∀r m',R r m'->K r m'):nR P f args m K:=.mk R h k
theorem bt{r:List CV}{K:List CV->aD->Prop}(h:eN P f args m r)(k:K r m):nR P f args m K:=.mk _ h (by rintro _ _⟨rfl,rfl⟩;exact k)
abbrev mM:=List (TypeId×LB)
inductive Kp where
 |all
 |none
 |xa (h:Nat)
 |new (n:Nat)
def N8(x:List Nat)(m m':aD):Prop:=∀b∈x,m' b=m b
def ym(T:lz)(s:St)(t:TypeId)(x y:SV)(K:mM->aD->Prop):Prop:=
 match T t with
 |none=>False
 |some i=>match x with
  | .p h off=>match zo s.L h with
   |none=>False
   |some (t',c)=>match y with
    | .c (.v z)=>bif Nat.beq i.size 1 then(match LB.set c off z with|some d=>K (s.L.set h (t',d)) s.m|none=>False)else False
    | .tt=>bif Nat.beq i.size 1 then(match LB.set c off (.bool true)with|some d=>K (s.L.set h (t',d)) s.m|none=>False)else False
    | .ff=>bif Nat.beq i.size 1 then(match LB.set c off (.bool false)with|some d=>K (s.L.set h (t',d)) s.m|none=>False)else False
    | .c (.a v)=>bif Nat.beq i.size (LB.size v)then(match LB.YS c off v with|some d=>K (s.L.set h (t',d)) s.m|none=>False)else False
    |_=>False
  | .q h off e=>match zo s.L h with
   |none=>False
   |some (t',c)=>match y with
    | .c (.v z)=>bif Nat.beq i.size 1 then LB.vu c off e z (λd=>K (s.L.set h (t',d)) s.m)else False
    | .tt=>bif Nat.beq i.size 1 then LB.vu c off e (.bool true) (λd=>K (s.L.set h (t',d)) s.m)else False
    | .ff=>bif Nat.beq i.size 1 then LB.vu c off e (.bool false) (λd=>K (s.L.set h (t',d)) s.m)else False
    | .c (.a v)=>bif Nat.beq i.size (LB.size v)then LB.Bq c off e v (λd=>K (s.L.set h (t',d)) s.m)else False
    |_=>False
  | .c (.v (.pointer (some ⟨b,off,none⟩)))=>match y with
   | .c (.v z)=>bif Nat.beq i.size 1 then(∃arr t' fr,s.m b=some (.cells arr t' fr)/\(off<arr.size/\¬(fr.1<=off/\off<fr.2))/\K s.L (s.m.set b (.cells (arr.setIfInBounds off z) t' fr)))else False
   | .tt=>bif Nat.beq i.size 1 then(∃arr t' fr,s.m b=some (.cells arr t' fr)/\(off<arr.size/\¬(fr.1<=off/\off<fr.2))/\K s.L (s.m.set b (.cells (arr.setIfInBounds off (.bool true)) t' fr)))else False
   | .ff=>bif Nat.beq i.size 1 then(∃arr t' fr,s.m b=some (.cells arr t' fr)/\(off<arr.size/\¬(fr.1<=off/\off<fr.2))/\K s.L (s.m.set b (.cells (arr.setIfInBounds off (.bool false)) t' fr)))else False
   | .c (.a v)=>bif Nat.beq i.size (LB.size v)then(∃arr t' fr,s.m b=some (.cells arr t' fr)/\(off+LB.size v<=arr.size/\∀j,j<LB.size v->¬(fr.1<=off+j/\off+j<fr.2))/\K s.L (s.m.set b (.cells (arr.toList.take off++(LB.cz v++arr.toList.drop (off+LB.size v))).toArray t' fr)))else False
   |_=>False
  |_=>False
def sV(h:Nat):SV->Bool
 | .p h' _=>Nat.beq h' h
 | .q h' _ _=>Nat.beq h' h
 |_=>false
def pu(n:Nat):SV->Bool
 | .p h' _=>Nat.ble n h'
 | .q h' _ _=>Nat.ble n h'
 |_=>false
def JA(s:St)(t:TypeId)(c:LB)(ext:Bool)(K:SV->mM->aD->List Nat->Prop):Prop:=
 match ext with
 |false=>K (.p s.L.length 0) (s.L++[(t,c)]) s.m s.x
 |true=>∀b,s.m b=none->K (.c (.v (.pointer (some ⟨b,0,none⟩)))) s.L (s.m.set b (.cells (LB.cz c).toArray t)) s.x
inductive dF where
 |buildSlice (t:TypeId) (len:Nat) (ix:List Nat)
 |makeSlice (t:TypeId)
 |builtin (b:Builtin) (xB:List TypeId)
 |conv (src dst:TypeId)
 |makeMap (t:TypeId)
 |lookup (t:TypeId) (ok:Bool)
 |makeInterface (t:TypeId)
 |makeFunc (fn:Fn) (n:Nat)
 |mapUpdate (t:TypeId)
 |range (t:TypeId)
 |next (AS:Bool)
 |entry
 |mapEntry (t:TypeId)
 |entryStore (t:TypeId)
def dF.unit:dF->Bool
 | .mapUpdate _=>true
 | .entryStore _=>true
 |_=>false
def dF.run:dF->TypeId->List Value->Sem Value
 | .buildSlice t len ix,_,vs=>Instr.buildSlice t len (ix.zip vs).toArray
 | .makeSlice t,_,[l,c]=>Instr.makeSlice t l c
 | .builtin b xB,ty,vs=>match b with
  | .append=>Builtin.append_ xB.toArray ty vs.toArray
  | .copy=>Builtin.copy_ xB.toArray ty vs.toArray
  | .cap=>Builtin.cap_ xB.toArray ty vs.toArray
  | .clear=>Builtin.clear_ xB.toArray ty vs.toArray
  | .delete=>Builtin.delete_ xB.toArray ty vs.toArray
  |_=>stuck ""
 | .conv s d,_,[x]=>convert s d x
 | .makeMap t,_,[]=>Instr.makeMap t none
 | .makeMap t,_,[x]=>Instr.makeMap t (some x)
 | .lookup t ok,_,[m,k]=>Instr.lookup t m k ok
 | .makeInterface t,_,[x]=>Instr.makeInterface t x
 | .makeFunc fn n,_,vs=>Instr.makeFunc fn (vs.take n).toArray (vs.drop n).toArray
 | .mapUpdate t,_,[m,k,x]=>do Instr.mapUpdate t m k x;pure undef
 | .range t,_,[x]=>Instr.range t x
 | .next b,ty,[x]=>Instr.next x b ty
 | .entry,_,[x]=>Instr.entry x
 | .mapEntry t,_,[m,k]=>Instr.mapEntry t m k
 | .entryStore t,_,[m,k,x]=>do Instr.entryStore t m k x;pure undef
 |_,_,_=>stuck ""
def Dk:Op->Option (dF×List Operand)
 | .buildSlice t len parts=>some (.buildSlice t len (parts.toList.map (·.1)),parts.toList.map (·.2))
 | .makeSlice t l c=>some (.makeSlice t,[l,c])
 | .call ⟨.builtin b,args,xB⟩=>match b with
  | .append=>some (.builtin .append xB.toList,args.toList)
  | .copy=>some (.builtin .copy xB.toList,args.toList)
  | .cap=>some (.builtin .cap xB.toList,args.toList)
  | .clear=>some (.builtin .clear xB.toList,args.toList)
  | .delete=>some (.builtin .delete xB.toList,args.toList)
  |_=>none
 | .convert s d x=>some (.conv s d,[x])
 | .makeMap t r=>some (.makeMap t,r.toList)
 | .lookup t x k ok=>some (.lookup t ok,[x,k])
 | .makeInterface t x=>some (.makeInterface t,[x])
 | .makeFunc fn first captured=>some (.makeFunc fn first.size,first.toList++captured.toList)
 | .mapUpdate t m k x=>some (.mapUpdate t,[m,k,x])
 | .insert t m k x=>some (.mapUpdate t,[m,k,x])
 | .range t x=>some (.range t,[x])
 | .next x b=>some (.next b,[x])
 | .entry x=>some (.entry,[x])
 | .mapEntry t m k=>some (.mapEntry t,[m,k])
 | .entryStore t m k x=>some (.entryStore t,[m,k,x])
 |_=>none
def dF.Fz:dF->Bool
 | .next _=>true
 |_=>false
def dF.dE(p:dF)(r:List CV):Value:=bif p.Fz then .tuple (r.map CV.val).toArray else gm r
def bF(P:Program)(p:dF)(args:List CV)(m:aD)(R:List CV->aD->Prop):Prop:=
 (∀x∈args,x.ok)->∀ty W,mg m W->∃r m' W',(p.run ty (args.map CV.val)).run P W= .ok (p.dE r) W'/\(∀x∈r,x.ok)/\R r m'/\cr m W m' W'
inductive CM (P:Program) (p:dF) (args:List CV) (m:aD) (K:List CV->aD->Prop):Prop
 |mk (R:List CV->aD->Prop) (h:bF P p args m R) (k:∀r m',R r m'->K r m')
def Di(p:dF)(r:List CV):SV:=bif p.unit then .un else bif p.Fz then .t r else lS r
def sY:List Value->Bool
 |[]=>true
 |x::r=>x.oneCell'&&sY r
theorem uh:∀{l:List Value},sY l=true->∀x∈l,x.oneCell'=true
 |[],_,x,hx=>by cases hx
 |y::l,h,x,hx=>by
  simp only[sY,aB]at h;rcases aU.1 hx with rfl|hx
  ·exact h.1
  ·exact uh h.2 x hx
def Qe(P:Program)(T:lz)(s:St)(op:Op)(ext:Bool)(cR:Kp)(K:SV->mM->aD->List Nat->Prop):Prop:=
 match op with
 | .alloc t=>match T t with
  |some i=>JA s t i.zero ext K
  |none=>False
 | .box t y=>match ev s y with
  | .c (.a c)=>JA s t c ext K
  | .c (.v z)=>JA s t [.one z] ext K
  | .tt=>JA s t [.one (.bool true)] ext K
  | .ff=>JA s t [.one (.bool false)] ext K
  |_=>False
 | .store t x y=>match cR with
  | .all=>False
  | .none=>ym T s t (ev s x) (ev s y) λL m=>K .un L m []
  | .xa h=>bif sV h (ev s x)then ym T s t (ev s x) (ev s y) (λL m=>K .un L m s.x)else False
  | .new n=>bif pu n (ev s x)then ym T s t (ev s x) (ev s y) (λL m=>K .un L m s.x)else False
 | .call ⟨.value (.func f),args,_⟩=>match jQ (args.toList.map (ev s))with
  |Option.none=>False
  |some cs=>match cR with
   | .all=>nR P f cs s.m λr m'=>N8 s.x s.m m'/\K (lS r) s.L m' s.x
   | .none=>nR P f cs s.m λr m'=>K (lS r) s.L m' []
   | .xa _=>False
   | .new _=>False
 | .call ⟨.value (.tmp t),args,_⟩=>match s.fr t with
  | .c (.v (.func (.func f) first captured))=>bif sY first.toList&&sY captured.toList then(match jQ (args.toList.map (ev s))with
   |Option.none=>False
   |some cs=>match cR with
    | .all=>nR P f (first.toList.map CV.v++cs++captured.toList.map CV.v) s.m λr m'=>N8 s.x s.m m'/\K (lS r) s.L m' s.x
    | .none=>nR P f (first.toList.map CV.v++cs++captured.toList.map CV.v) s.m λr m'=>K (lS r) s.L m' []
    | .xa _=>False
    | .new _=>False)else False
  |_=>False
 |op=>match Dk op with
  |Option.none=>False
  |some (p,xs)=>match jQ (xs.map (ev s))with
   |Option.none=>False
   |some cs=>match cR with
    | .all=>CM P p cs s.m λr m'=>N8 s.x s.m m'/\K (Di p r) s.L m' s.x
    | .none=>CM P p cs s.m λr m'=>K (Di p r) s.L m' []
    | .xa _=>False
    | .new _=>False
def V7(ρ:List Nat)(x:List Nat)(W W':World)(x':List Nat):Kp->Prop
 | .all=>(∀b,b∈ρ\/b∈x->W'.heap[b]?=W.heap[b]?)/\∀b∈x,b∈x'
 | .none=>True
 | .xa h=>(∀b,b<W.heap.size->b≠ρ.getD h 0->W'.heap[b]?=W.heap[b]?)/\∀b∈x,b∈x'
 | .new n=>(∀b,b∈ρ.take n->W'.heap[b]?=W.heap[b]?)/\∀b∈x,b∈x'
theorem V7.same{x:List Nat}(h:∀b:Nat,W'.heap[b]?=W.heap[b]?) {x':List Nat} (hx:∀b∈x,b∈x'):∀cR,V7 ρ x W W' x' cR
 | .all=>⟨λb _=>h b,hx⟩
 | .none=>trivial
 | .xa _=>⟨λb _ _=>h b,hx⟩
 | .new _=>⟨λb _=>h b,hx⟩
section
variable {P:Program}{T:lz}{nt:Nat}{D:List Deferred}{m0:aD}{W0:World}{ρ:List Nat}{s:St}{a:Act}{W:World}
def aaA(m:aD)(ρ:List Nat)(W:World)(m':aD)(e:List Nat)(W':World):Prop:=∀b:Nat,b<W.heap.size->m b=none->b∉ρ->W'.heap[b]?=W.heap[b]?/\m' b=none/\b∉e
def xg(nt:Nat)(D:List Deferred)(m0:aD)(W0:World)(ρ:List Nat)(s:St)(a:Act)(W:World)(d:Option Nat)(cR:Kp)(K:SV->mM->aD->List Nat->Prop):Act->World->Prop:=λa' W'=>
 ∃sv L' m' x' e,K sv L' m' x'/\iG nt D m0 W0 (ρ++e) ⟨fO s.fr d sv,L',m',x'⟩ a' W'/\V7 ρ s.x W W' x' cR/\aaA s.m ρ W m' e W'/\∃v,a'=a.put d v
theorem iG.dE(hr:iG nt D m0 W0 ρ s a W){h:Nat}(hh:h<ρ.length):s.m (ρ.getD h 0)=none/\W0.heap.size<=ρ.getD h 0/\ρ.getD h 0<W.heap.size:=by
 have hl:h<s.L.length:=by rw[<-hr.len];exact hh
 have:=hr.rz h s.L[h].1 s.L[h].2 (by rw[az hl])
 grind
theorem yq{b:Nat}(h:b∈ρ):∃i,i<ρ.length/\ρ.getD i 0=b:=by
 obtain⟨i,hi,he⟩:=dc h;exact⟨i,hi,by simp[az hi,he]⟩
theorem iG.FF(hr:iG nt D m0 W0 ρ s a W){b:Nat}(h:b∈ρ\/b∈s.x):b<W.heap.size:=by
 rcases h with h|h
 ·obtain⟨i,hi,rfl⟩:=yq h;exact(hr.dE hi).2.2
 ·obtain⟨o,ho⟩:=hr.z7 b h;exact hr.after.jF.lt ho
theorem iG.acF(hr:iG nt D m0 W0 ρ s a W){d:Option Nat}(hd:nN d a.tmps.size)(t:TypeId){c:LB}(hc:LB.ok c):
  iG nt D m0 W0 (ρ++[W.heap.size]) ⟨fO s.fr d (.p s.L.length 0),s.L++[(t,c)],s.m,s.x⟩ (a.put d (.pointer (some ⟨W.heap.size,0,none⟩))) (W.alloc (.cells (LB.cz c).toArray t)):=by
 have hlen:=hr.len;refine⟨by rw[Act.ji];exact hr.defers,by rw[Act.kv];exact hr.size,?_,by simp[hlen],?_,?_,hr.after.IU _,hr.z7⟩
 ·refine hr.sq hd (y:=.p s.L.length 0) (.inr ⟨trivial,by simp[SV.under,hlen]⟩) _ (.inr ?_)
  simp[eY,<-hlen]
 ·intro h t' c' hh
  by_cases bH:h<s.L.length
  ·rw[aT bH]at hh
   have hg:(ρ++[W.heap.size]).getD h 0=ρ.getD h 0:=by
    grind
   rw[hg];obtain⟨h1,h2,h3,h4⟩:=hr.rz h t' c' hh;refine⟨?_,h2,h3,h4⟩;rw[heap_alloc_old W _ (bE.1 h1).1];exact h1
  ·have he:h=s.L.length:=by
    grind
   subst he;simp at hh;obtain⟨rfl,rfl⟩:=hh;have hg:(ρ++[W.heap.size]).getD s.L.length 0=W.heap.size:=by simp[<-hlen]
   rw[hg];exact⟨heap_alloc_new W _,hc,hr.after.jF.none (aW _),hr.after.size⟩
 ·rw[List.nodup_append]
  refine⟨hr.ot,by simp,?_⟩;intro b hb b' qB;simp at qB;subst qB;obtain⟨i,hi,rfl⟩:=yq hb;have:=(hr.dE hi).2.2;omega
theorem HH(hr:iG nt D m0 W0 ρ s a W)(o:Obj):∀b,b∈ρ\/b∈s.x->(W.alloc o).heap[b]?=W.heap[b]?:=
 λ_ hb=>heap_alloc_old W o (hr.FF hb)
theorem zp:∀{l:List Nat},l.Nodup->∀{i j:Nat} (hi:i<l.length) (hj:j<l.length),l[i]=l[j]->i=j
 |[],_,_,_,hi,_,_=>by simp at hi
 |x::l,hn,0,0,_,_,_=>rfl
 |x::l,hn,0,j+1,_,hj,h=>by
  have:=(nU.1 hn).1;simp at h;exact absurd (h▸aO _) this
 |x::l,hn,i+1,0,hi,_,h=>by
  have:=(nU.1 hn).1;simp at h;exact absurd (h▸aO _) this
 |x::l,hn,i+1,j+1,hi,hj,h=>by
  simp at h;exact be (· +1) (zp (nU.1 hn).2 (by simpa using hi) (by simpa using hj) h)
theorem Uj(o:Obj)(m:aD)(e:List Nat)(he:∀b∈e,b=W.heap.size):aaA m ρ W m e (W.alloc o):=λb hb hm _=>
 ⟨heap_alloc_old W o hb,hm,λh=>by have:=he b h;omega⟩
theorem Ui(o:Obj)(m:aD):aaA m ρ W (m.set W.heap.size o) [] (W.alloc o):=λb hb hm _=>
 ⟨heap_alloc_old W o hb,by rw[aD.eH _ _ (by omega)];exact hm,by simp⟩
theorem LG(hr:iG nt D m0 W0 ρ s a W)(o:Obj):∀cR,V7 ρ s.x W (W.alloc o) s.x cR
 | .all=>⟨HH hr o,λ_ hb=>hb⟩
 | .none=>trivial
 | .xa _=>⟨λ_ hb _=>heap_alloc_old W o hb,λ_ hb=>hb⟩
 | .new _=>⟨λ_ hb=>HH hr o _ (.inl (bX hb)),λ_ hb=>hb⟩
theorem iG.abG(hr:iG nt D m0 W0 ρ s a W){d:Option Nat}(hd:nN d a.tmps.size){h:Nat}{t:TypeId}{c c':LB}(hh:s.L[h]?=some (t,c)) (Vg:LB.ok c'):
  iG nt D m0 W0 ρ ⟨fO s.fr d .un,s.L.set h (t,c'),s.m,s.x⟩ (a.put d undef) (W.setRow (ρ.getD h 0) (LB.cz c').toArray):=by
 have hlen:=hr.len;have hl:h<s.L.length:=(aQ.1 hh).1;have apR:h<ρ.length:=by omega
 obtain⟨g1,g2,g3,g4⟩:=hr.rz h t c hh;refine⟨by rw[Act.ji];exact hr.defers,by rw[Act.kv];exact hr.size,?_,by simp[hlen],?_,hr.ot,hr.after.YC g3 g4 _,hr.z7⟩
 ·have:=hr.sq hd (e:=[]) (y:=.un) (.inr ⟨trivial,trivial⟩) undef (.inr rfl)
  grind
 ·intro i t' c'' hi
  by_cases e:i=h
  ·subst e
   simp[hl]at hi;obtain⟨rfl,rfl⟩:=hi;exact⟨Dc W _ _ _ _ _ g1,Vg,g3,g4⟩
  ·simp only at hi
   rw[LK (λe'=>e e'.symm)]at hi;have HP:i<s.L.length:=(aQ.1 hi).1;obtain⟨k1,k2,k3,k4⟩:=hr.rz i t' c'' hi;refine⟨?_,k2,k3,k4⟩;rw[setRow_other W _ _ _ ?_];exact k1
   intro he
   have:ρ[i]'(by omega)=ρ[h]'apR:=by
    grind
   exact e (zp hr.ot _ _ this)
theorem iG.abH(hr:iG nt D m0 W0 ρ s a W){d:Option Nat}(hd:nN d a.tmps.size){b:Nat}{arr:Array Value}{t:TypeId}{fr:Nat×Nat}(hb:s.m b=some (.cells arr t fr))(cs:Array Value):
  iG nt D m0 W0 ρ ⟨fO s.fr d .un,s.L,s.m.set b (.cells cs t fr),[]⟩ (a.put d undef) (W.setRow b cs):=by
 refine⟨by rw[Act.ji];exact hr.defers,by rw[Act.kv];exact hr.size,?_,hr.len,?_,hr.ot,hr.after.setRow hb cs,by simp⟩
 ·have:=hr.sq hd (e:=[]) (y:=.un) (.inr ⟨trivial,trivial⟩) undef (.inr rfl)
  grind
 ·intro i t' c'' hi
  obtain⟨k1,k2,k3,k4⟩:=hr.rz i t' c'' hi;have ga:ρ.getD i 0≠b:=λe=>by rw[e,hb]at k3;cases k3
  exact⟨by rw[setRow_other W _ _ _ ga];exact k1,k2,by show aD.set _ _ _ _=_;rw[aD.eH _ _ ga];exact k3,k4⟩
theorem iG.acG(hr:iG nt D m0 W0 ρ s a W){d:Option Nat}(hd:nN d a.tmps.size)(o:Obj){v:Value}(hv:v.oneCell'=true):
  iG nt D m0 W0 ρ ⟨fO s.fr d (.c (.v v)),s.L,s.m.set W.heap.size o,s.x⟩ (a.put d v) (W.alloc o):=by
 refine⟨by rw[Act.ji];exact hr.defers,by rw[Act.kv];exact hr.size,?_,hr.len,?_,hr.ot,hr.after.alloc o,?_⟩
 ·have:=hr.sq hd (e:=[]) (y:=.c (.v v)) (.inr ⟨hv,trivial⟩) v (.inr rfl)
  grind
 ·intro i t' c'' hi
  obtain⟨k1,k2,k3,k4⟩:=hr.rz i t' c'' hi;have bH:=(bE.1 k1).1;exact⟨by rw[heap_alloc_old W _ bH];exact k1,k2,by show aD.set _ _ _ _=_;rw[aD.eH _ _ (by omega)];exact k3,k4⟩
 ·intro b hb
  obtain⟨ob,hob⟩:=hr.z7 b hb;exact⟨ob,aD.bT _ (hr.after.jF.none (aW _)) b ob hob⟩
end
section
variable {P:Program}{T:lz}{nt:Nat}{D:List Deferred}{m0:aD}{W0:World}{ρ:List Nat}{s:St}{a:Act}{W:World}{Q:Exit->Act->World->Prop}
theorem BL{o:Oper}{t:TypeId}{xo yo:Operand}(ho:o.op= .store t xo yo){ad:Addr}{v:Value}(hx:a.eval xo= .pointer (some ad))(hy:a.eval yo=v){W':World}(hs:(storeVar t ad v).run P W= .ok () W')
  {N:Act->World->Prop} (h:N (a.put o.dst undef) W'):o.wp P a W N Q:=by
 unfold Oper.wp;have:(execOp a.eval o).run P W= .ok .skip W':=by simp[execOp,ho,hx,hy,Instr.storeAt,Instr.sureAddr,hs]
 rw[this];exact h
theorem yj(hT:fW P T)(hr:iG nt D m0 W0 ρ s a W){o:Oper}(hd:nN o.dst a.tmps.size){t:TypeId}{xo yo:Operand}(ho:o.op= .store t xo yo){cR:Kp}{x':List Nat}(hkp:(cR= .none/\x'=[])\/(∃h,cR= .xa h/\x'=s.x/\sV h (ev s xo)=true)\/∃n,cR= .new n/\x'=s.x/\pu n (ev s xo)=true){K:SV->mM->aD->List Nat->Prop}
  (h:ym T s t (ev s xo) (ev s yo) λL m=>K .un L m x'):o.wp P a W (xg nt D m0 W0 ρ s a W o.dst cR K) Q:=by
 have hx:=hr.kK xo;have hy:=hr.kK yo;unfold ym at h
 split at h
 ·exact h.elim
 rename_i i hi;have DJ:=hT t i hi
 have loc:∀(uA off:Nat) (t':TypeId) (c d:LB) (l:List Value),s.L[uA]?=some (t',c)->a.eval xo= .pointer (some ⟨ρ.getD uA 0,off,none⟩)->(a.eval yo).cells=l.toArray->l.length=i.size->(∀x∈l,x.oneCell'=true)->
   LB.ok d->LB.cz d=(LB.cz c).take off++(l++(LB.cz c).drop (off+l.length))->off+l.length<=(LB.cz c).length->K .un (s.L.set uA (t',d)) s.m x'->o.wp P a W (xg nt D m0 W0 ρ s a W o.dst cR K) Q:=by
  intro uA off t' c d l hc ex HV hl h1 BB hdc hle hk;obtain⟨g1,g2,g3,g4⟩:=hr.rz uA t' c hc;have lm:=xV (P:=P) DJ (off:=off) (v:=a.eval yo) g1 HV hl h1 (by simpa using hle) (by intro j _;simp);have jG:=hr.abG hd hc BB;rw[hdc]at jG;have Ae:uA<ρ.length:=by rw[hr.len];exact(aQ.1 hc).1
  have DL:∀cs:Array Value,aaA s.m ρ W s.m [] (W.setRow (ρ.getD uA 0) cs):=λcs b _ hm hb=>
   ⟨setRow_other W _ b _ (λe=>hb (by rw[e];exact nf Ae)),hm,by simp⟩
  rcases hkp with⟨rfl,rfl⟩|⟨hh,rfl,rfl,nT⟩|⟨n,rfl,rfl,nT⟩
  ·refine BL ho ex rfl lm ⟨.un,_,_,_,[],hk,?_,trivial,DL _,undef,rfl⟩
   rw[cO];have:=jG.clear;simpa using this
  ·refine BL ho ex rfl lm ⟨.un,_,_,_,[],hk,?_,?_,DL _,undef,rfl⟩
   ·rw[cO]
    simpa using jG
   ·have e:ρ.getD hh 0=ρ.getD uA 0:=by
     have ga:ev s xo≠.any:=by intro e;rw[e]at nT;simp[sV]at nT
     have Rn:=hx.eq ga;rw[ex]at Rn
     cases hev:ev s xo<;>rw[hev]at nT Rn<;>simp only[sV]at nT
     all_goals first
      |(simp at nT;done)
      |(have:=bu nT;subst this;simp only[eY,Value.pointer.injEq,aM,Addr.mk.injEq]at Rn;exact Rn.1.symm)
    exact⟨λb _ hb=>by rw[e]at hb;exact setRow_other W _ b _ hb,λ_ hb=>hb⟩
  ·refine BL ho ex rfl lm ⟨.un,_,_,_,[],hk,?_,?_,DL _,undef,rfl⟩
   ·rw[cO]
    simpa using jG
   ·have ga:ev s xo≠.any:=by intro e;rw[e]at nT;simp[pu]at nT
    have Rn:=hx.eq ga;have S9:=(hr.Oh xo ga).2;rw[ex]at Rn
    have far:∀h',h'<ρ.length->n<=h'->ρ.getD uA 0=ρ.getD h' 0->∀b∈ρ.take n,b≠ρ.getD uA 0:=by
     intro h' hl hle he b hb e2;obtain⟨j,hj,rfl⟩:=dc hb;rw[aK]at hj;rw[List.getElem_take,he]at e2;simp only[aI,az hl,jA]at e2;have:=zp hr.ot (by omega) hl e2;omega
    have key:∀b∈ρ.take n,b≠ρ.getD uA 0:=by
     cases hev:ev s xo<;>rw[hev]at nT Rn S9<;>simp only[pu]at nT
     all_goals first
      |(simp at nT;done)
      |(simp only[eY,Value.pointer.injEq,aM,Addr.mk.injEq]at Rn;exact far _ S9 (wM.1 nT) Rn.1)
    exact⟨λb hb=>setRow_other W _ b _ (key b hb),λ_ hb=>hb⟩
 have ext:∀(b off:Nat) (arr:Array Value) (t':TypeId) (fr:Nat×Nat) (l:List Value) (cs:Array Value),s.m b=some (.cells arr t' fr)->a.eval xo= .pointer (some ⟨b,off,none⟩)->(a.eval yo).cells=l.toArray->l.length=i.size->(∀x∈l,x.oneCell'=true)->(∀h,sV h (ev s xo)=false/\pu h (ev s xo)=false)->
   off+l.length<=arr.size->(∀j,j<l.length->¬(fr.1<=off+j/\off+j<fr.2))->cs=(arr.toList.take off++(l++arr.toList.drop (off+l.length))).toArray->K .un s.L (s.m.set b (.cells cs t' fr)) x'->o.wp P a W (xg nt D m0 W0 ρ s a W o.dst cR K) Q:=by
  intro b off arr t' fr l cs hb ex HV hl h1 hnh hle hf hcs hk
  obtain⟨rfl,rfl⟩:cR= .none/\x'=[]:=by
   rcases hkp with h|⟨hh,_,_,nT⟩|⟨hh,_,_,nT⟩
   ·exact h
   ·rw[(hnh hh).1]at nT;cases nT
   ·rw[(hnh hh).2]at nT;cases nT
  have lm:=xV (P:=P) DJ (off:=off) (v:=a.eval yo) (hr.after.jF _ _ hb) HV hl h1 hle hf
  have DL:∀cs':Array Value,aaA s.m ρ W (s.m.set b (.cells cs t' fr)) [] (W.setRow b cs'):=λcs' b' _ hm _=>by
   have ga:b'≠b:=λe=>by rw[e,hb]at hm;cases hm
   exact⟨setRow_other W _ b' _ ga,by rw[aD.eH _ _ ga];exact hm,by simp⟩
  refine BL ho ex rfl lm ⟨.un,_,_,_,[],hk,?_,trivial,DL _,undef,rfl⟩;rw[cO,<-hcs];exact hr.abH hd hb cs
 have asZ:∀(arr:Array Value) (off:Nat) (z:Value),off<arr.size->arr.setIfInBounds off z=(arr.toList.take off++([z]++arr.toList.drop (off+[z].length))).toArray:=by
  intro arr off z bH
  apply nA
  rw[Array.toList_setIfInBounds,vO (by simpa using bH)];rfl
 split at h
 ·rename_i uA off he
  rw[he]at hx;have ex:=hx.eq (by simp);simp only[eY]at ex
  split at h
  ·exact h.elim
  rename_i t' c hc;rw[pq]at hc;obtain⟨_,ez,_,_⟩:=hr.rz uA t' c hc
  have one:∀z,a.eval yo=z->z.oneCell'=true->(bif Nat.beq i.size 1 then(match LB.set c off z with|some d=>K .un (s.L.set uA (t',d)) s.m x'|none=>False)else False)->o.wp P a W (xg nt D m0 W0 ρ s a W o.dst cR K) Q:=by
   intro z hz h1 hh
   cases hb:Nat.beq i.size 1 with
   |false=>simp[hb]at hh
   |true=>
    have Ad:=bu hb;simp only[hb,cond_true]at hh
    cases jG:LB.set c off z with
    |none=>simp[jG]at hh
    |some d=>
     simp only[jG]at hh;obtain⟨k1,k2,k3⟩:=LB.uQ ez h1 jG;exact loc uA off t' c d [z] hc ex (by rw[hz];exact iN h1) Ad.symm (by simpa using h1) k1 (by rw[k2,vO k3];rfl) (by simp;omega) hh
  split at h
  ·rename_i z hz
   have FN:=hy.om (by rw[hz];simp);have wn:=hy.eq (by rw[hz];simp);rw[hz]at FN wn;exact one z wn FN.1 h
  ·rename_i hz
   have wn:=hy.eq (by rw[hz];simp);rw[hz]at wn;exact one _ wn rfl h
  ·rename_i hz
   have wn:=hy.eq (by rw[hz];simp);rw[hz]at wn;exact one _ wn rfl h
  ·rename_i v hz
   have FN:=hy.om (by rw[hz];simp);have wn:=hy.eq (by rw[hz];simp);rw[hz]at FN wn
   cases hb:Nat.beq i.size (LB.size v)with
   |false=>simp[hb]at h
   |true=>
    have Ad:=bu hb;simp only[hb,cond_true]at h
    split at h
    ·rename_i d jG
     obtain⟨k1,k2,k3⟩:=LB.KV ez FN.1 jG;exact loc uA off t' c d (LB.cz v) hc ex (by rw[wn];rfl) (by rw[LB.fJ FN.1,Ad]) (LB.iN FN.1) k1 k2 k3 h
    ·exact h.elim
  ·exact h.elim
 ·rename_i uA off e he
  rw[he]at hx;have ex:=hx.eq (by simp);simp only[eY]at ex
  split at h
  ·exact h.elim
  rename_i t' c hc;rw[pq]at hc;obtain⟨_,ez,_,_⟩:=hr.rz uA t' c hc
  have one:∀z,a.eval yo=z->z.oneCell'=true->(bif Nat.beq i.size 1 then LB.vu c off e z (λd=>K .un (s.L.set uA (t',d)) s.m x')else False)->o.wp P a W (xg nt D m0 W0 ρ s a W o.dst cR K) Q:=by
   intro z hz h1 hh
   cases hb:Nat.beq i.size 1 with
   |false=>simp[hb]at hh
   |true=>
    have Ad:=bu hb;simp only[hb,cond_true]at hh;obtain⟨d,hk,k1,k2,k3⟩:=LB.zA ez h1 hh;exact loc uA (off+e) t' c d [z] hc ex (by rw[hz];exact iN h1) Ad.symm (by simpa using h1) k1 (by rw[k2,vO k3];rfl) (by simp;omega) hk
  split at h
  ·rename_i z hz
   have FN:=hy.om (by rw[hz];simp);have wn:=hy.eq (by rw[hz];simp);rw[hz]at FN wn;exact one z wn FN.1 h
  ·rename_i hz
   have wn:=hy.eq (by rw[hz];simp);rw[hz]at wn;exact one _ wn rfl h
  ·rename_i hz
   have wn:=hy.eq (by rw[hz];simp);rw[hz]at wn;exact one _ wn rfl h
  ·rename_i v hz
   have FN:=hy.om (by rw[hz];simp);have wn:=hy.eq (by rw[hz];simp);rw[hz]at FN wn
   cases hb:Nat.beq i.size (LB.size v)with
   |false=>simp[hb]at h
   |true=>
    have Ad:=bu hb;simp only[hb,cond_true]at h;obtain⟨d,hk,k1,k2,k3⟩:=LB.adD ez FN.1 h;exact loc uA (off+e) t' c d (LB.cz v) hc ex (by rw[wn];rfl) (by rw[LB.fJ FN.1,Ad]) (LB.iN FN.1) k1 k2 k3 hk
  ·exact h.elim
 ·rename_i b off he
  rw[he]at hx;have ex:=hx.eq (by simp);simp only[eY,CV.val]at ex
  have one:∀z,a.eval yo=z->z.oneCell'=true->(bif Nat.beq i.size 1 then(∃arr t' fr,s.m b=some (.cells arr t' fr)/\(off<arr.size/\¬(fr.1<=off/\off<fr.2))/\K .un s.L (s.m.set b (.cells (arr.setIfInBounds off z) t' fr)) x')else False)->o.wp P a W (xg nt D m0 W0 ρ s a W o.dst cR K) Q:=by
   intro z hz h1 hh
   cases hb:Nat.beq i.size 1 with
   |false=>simp[hb]at hh
   |true=>
    have Ad:=bu hb;simp only[hb,cond_true]at hh;obtain⟨arr,t',fr,hm,⟨k1,k2⟩,hk⟩:=hh;exact ext b off arr t' fr [z] _ hm ex (by rw[hz];exact iN h1) Ad.symm (by simpa using h1) (by intro h;rw[he];exact⟨rfl,rfl⟩) (by simp;omega) (by intro j hj;simp at hj;subst hj;simpa using k2) (asZ arr off z k1) hk
  split at h
  ·rename_i z hz
   have FN:=hy.om (by rw[hz];simp);have wn:=hy.eq (by rw[hz];simp);rw[hz]at FN wn;exact one z wn FN.1 h
  ·rename_i hz
   have wn:=hy.eq (by rw[hz];simp);rw[hz]at wn;exact one _ wn rfl h
  ·rename_i hz
   have wn:=hy.eq (by rw[hz];simp);rw[hz]at wn;exact one _ wn rfl h
  ·rename_i v hz
   have FN:=hy.om (by rw[hz];simp);have wn:=hy.eq (by rw[hz];simp);rw[hz]at FN wn;have U2:=LB.fJ FN.1
   cases hb:Nat.beq i.size (LB.size v)with
   |false=>simp[hb]at h
   |true=>
    have Ad:=bu hb;simp only[hb,cond_true]at h;obtain⟨arr,t',fr,hm,⟨k1,k2⟩,hk⟩:=h;exact ext b off arr t' fr (LB.cz v) _ hm ex (by rw[wn];rfl) (by rw[U2,Ad]) (LB.iN FN.1) (by intro h;rw[he];exact⟨rfl,rfl⟩) (by rw[U2];exact k1) (by rw[U2];exact k2) (by rw[U2]) hk
  ·exact h.elim
 ·exact h.elim
theorem qv(hr:iG nt D m0 W0 ρ s a W):∀{l:List Operand}{cs:List CV},jQ (l.map (ev s))=some cs->l.map a.eval=cs.map CV.val/\∀x∈cs,x.ok
 |[],cs,h=>by simp only[lK,jQ,aM]at h;subst h;simp
 |x::l,cs,h=>by
  have hf:=hr.kK x;simp only[aZ]at h;unfold jQ at h
  split at h
  ·rename_i NV;simp at NV
  all_goals first
   |(simp at h;done)
   |(rename_i NV
     simp only[rU]at NV;obtain⟨e1,e2⟩:=NV;rw[<-e2]at h
     split at h
     ·rename_i l' Xc
      simp only[aM]at h;subst h;have ih:=qv hr Xc;have hv:=hf.eq (by rw[e1];simp);have hk:=(hf.om (by rw[e1];simp)).1;rw[e1]at hv hk;refine⟨by simp only[aZ,ih.1,hv];rfl,?_⟩;intro y hy;rcases aU.1 hy with rfl|hy
      ·first|exact hk|rfl
      ·exact ih.2 y hy
     ·simp at h)
theorem Ke(f:Operand->Value):∀(l:List (Nat×Operand)),((l.map (·.1)).zip ((l.map (·.2)).map f))=l.map λ(i,x)=>(i,f x)
 |[]=>rfl
 |(i,x)::l=>by simp only[aZ,List.zip_cons_cons,Ke f l]
theorem YV{o:Oper}{p:dF}{xs:List Operand}(h:Dk o.op=some (p,xs)):execOp a.eval o=(do let v<-p.run o.type (xs.map a.eval);if p.unit then pure .skip else pure (.value v)):=by
 unfold Dk at h
 split at h
 all_goals first
  |(simp at h;done)
  |skip
 ·rename_i t len parts oL
  simp only[aM,cV]at h;obtain⟨rfl,rfl⟩:=h;simp only[execOp,oL,dF.run,dF.unit,cU,gS]
  have:((parts.toList.map (·.1)).zip ((parts.toList.map (·.2)).map a.eval)).toArray=parts.map λ(i,x)=>(i,a.eval x):=by
   apply nA
   rw[Ke];simp
  rw[this]
 ·rename_i t l c oL
  simp only[aM,cV]at h;obtain⟨rfl,rfl⟩:=h;simp[execOp,oL,dF.run,dF.unit]
 ·rename_i b args xB oL
  split at h
  all_goals first
   |(simp at h;done)
   |(simp only[aM,cV]at h
     obtain⟨rfl,rfl⟩:=h;simp only[execOp,oL,resolve,pure_bind,invoke,builtin,dF.run,dF.unit,cU,gS];have e1:((args.toList.map a.eval)).toArray=args.map a.eval:=by apply nA;simp
     have e2:xB.toList.toArray=xB:=by simp
     rw[e1,e2])
 ·rename_i s' d x oL
  simp only[aM,cV]at h;obtain⟨rfl,rfl⟩:=h;simp[execOp,oL,dF.run,dF.unit]
 ·rename_i t r oL
  simp only[aM,cV]at h;obtain⟨rfl,rfl⟩:=h
  cases r<;>simp[execOp,oL,dF.run,dF.unit]
 ·rename_i t x k ok oL
  simp only[aM,cV]at h;obtain⟨rfl,rfl⟩:=h;simp[execOp,oL,dF.run,dF.unit]
 ·rename_i t x oL
  simp only[aM,cV]at h;obtain⟨rfl,rfl⟩:=h;simp[execOp,oL,dF.run,dF.unit]
 ·rename_i fn first captured oL
  simp only[aM,cV]at h;obtain⟨rfl,rfl⟩:=h;have e1:((first.toList++captured.toList).map a.eval).take first.size=(first.map a.eval).toList:=by simp
  have e2:((first.toList++captured.toList).map a.eval).drop first.size=(captured.map a.eval).toList:=by simp
  simp only[execOp,oL,dF.run,dF.unit,cU,gS,e1,e2]
 ·rename_i t m' k x oL
  simp only[aM,cV]at h;obtain⟨rfl,rfl⟩:=h;simp[execOp,oL,dF.run,dF.unit]
 ·rename_i t m' k x oL
  simp only[aM,cV]at h;obtain⟨rfl,rfl⟩:=h;simp[execOp,oL,dF.run,dF.unit]
 ·rename_i t x oL
  simp only[aM,cV]at h;obtain⟨rfl,rfl⟩:=h;simp[execOp,oL,dF.run,dF.unit]
 ·rename_i x b oL
  simp only[aM,cV]at h;obtain⟨rfl,rfl⟩:=h;simp[execOp,oL,dF.run,dF.unit]
 ·rename_i x oL
  simp only[aM,cV]at h;obtain⟨rfl,rfl⟩:=h;simp[execOp,oL,dF.run,dF.unit]
 ·rename_i t m' k oL
  simp only[aM,cV]at h;obtain⟨rfl,rfl⟩:=h;simp[execOp,oL,dF.run,dF.unit]
 ·rename_i t m' k x oL
  simp only[aM,cV]at h;obtain⟨rfl,rfl⟩:=h;simp[execOp,oL,dF.run,dF.unit]
theorem Y6(hT:fW P T)(hr:iG nt D m0 W0 ρ s a W){o:Oper}(hd:nN o.dst a.tmps.size){ext:Bool}{cR:Kp}{K:SV->mM->aD->List Nat->Prop}
  (h:Qe P T s o.op ext cR K):o.wp P a W (xg nt D m0 W0 ρ s a W o.dst cR K) Q:=by
 have box:∀(t:TypeId) (v:Value) (c:LB),v.cells=(LB.cz c).toArray->LB.ok c->(∀w,(execOp a.eval o).run P w=((newVar t v).run P w).andThen λad w'=>.ok (.value (.pointer (some ad))) w')->
   JA s t c ext K->o.wp P a W (xg nt D m0 W0 ρ s a W o.dst cR K) Q:=by
  intro t v c hv hc lm hk;unfold Oper.wp
  have:(execOp a.eval o).run P W= .ok (.value (.pointer (some ⟨W.heap.size,0,none⟩))) (W.alloc (.cells (LB.cz c).toArray t)):=by
   rw[lm];simp[newVar,newRow,newObj,hv,Sem.run]
  rw[this]
  cases ext with
  |false=>exact⟨_,_,_,_,[W.heap.size],hk,hr.acF hd t hc,LG hr _ cR,Uj _ _ _ (by simp),_,rfl⟩
  |true=>
   have:=hk W.heap.size (hr.after.jF.none (aW _));refine⟨_,_,_,_,[],this,?_,LG hr _ cR,Ui _ _,_,rfl⟩;rw[cO];exact hr.acG hd _ rfl
 have aft:∀(sv:SV) (v:Value) (m':aD) (W':World) (x':List Nat),cr s.m W m' W'->sv.ok->sv.under ρ.length->v=eY ρ sv->N8 x' s.m m'->(∀b∈x',b∈s.x)->(cR= .none\/(cR= .all/\x'=s.x))->K sv s.L m' x'->xg nt D m0 W0 ρ s a W o.dst cR K (a.put o.dst v) W':=by
  intro sv v m' W' x' qN ez hu hv Fb xq B9 HQ
  have Xb:∀b,b∈ρ->m' b=none/\W'.heap[b]?=W.heap[b]?:=by
   intro b hb;obtain⟨i,hi,rfl⟩:=yq hb;obtain⟨g1,g2,g3⟩:=hr.dE hi;exact qN.frame _ g3 g1
  refine⟨_,_,_,_,[],HQ,⟨?_,?_,?_,?_,?_,?_,?_,?_⟩,?_,λb hb hm _=>⟨(qN.frame b hb hm).2,(qN.frame b hb hm).1,by simp⟩,_,rfl⟩
  ·rw[Act.ji];exact hr.defers
  ·rw[Act.kv];exact hr.size
  ·exact hr.sq hd (.inr ⟨ez,by simpa using hu⟩) _ (.inr (by rw[hv,cO]))
  ·simpa using hr.len
  ·intro h' t c hh
   have bH:h'<ρ.length:=by rw[hr.len];exact(aQ.1 hh).1
   obtain⟨k1,k2,k3,k4⟩:=hr.rz h' t c hh;obtain⟨g1,g2⟩:=Xb _ (nf bH);rw[cO];exact⟨g2.trans k1,k2,g1,k4⟩
  ·simpa using hr.ot
  ·exact hr.after.trans qN
  ·intro b hb
   show ∃ob,m' b=some ob
   rw[Fb b hb];exact hr.z7 b (xq b hb)
  ·rcases B9 with rfl|⟨rfl,rfl⟩
   ·trivial
   ·refine⟨λb hb=>?_,λ_ hb=>hb⟩
    rcases hb with hb|hb
    ·exact(Xb b hb).2
    ·have:=Fb b hb
     obtain⟨ob,hob⟩:=hr.z7 b hb;rw[hr.after.jF b ob hob];exact qN.jF b ob (this.trans hob)
 have call:∀(f:FuncId) (cs:List CV) (R:List CV->aD->Prop),bi P f cs s.m R->(∀x∈cs,x.ok)->(execOp a.eval o).run P W= .ok (.enter f (cs.map CV.val).toArray) W->∀(x':List Nat),(∀b∈x',b∈s.x)->(∀r m',R r m'->N8 x' s.m m'/\K (lS r) s.L m' x')->(cR= .none\/(cR= .all/\x'=s.x))->o.wp P a W (xg nt D m0 W0 ρ s a W o.dst cR K) Q:=by
  intro f cs R ⟨_,adt⟩ c2 lm x' xq hR B9;unfold Oper.wp;rw[lm];refine(adt c2 W hr.after.jF).mono λe W' he=>?_;obtain⟨r,m',rfl,ez,Vi,qN⟩:=he;obtain⟨Fb,HQ⟩:=hR r m' Vi;exact aft (lS r) _ m' W' x' qN (BR ez) (tO _ _) (wI _ _).symm Fb xq B9 HQ
 have ah3:∀(f:FuncId) (cs:List CV) (R:List CV->aD->Prop),zV P f cs s.m R->(∀x∈cs,x.ok)->(execOp a.eval o).run P W=(callFunc f (cs.map CV.val).toArray).run P W->∀(x':List Nat),(∀b∈x',b∈s.x)->(∀r m',R r m'->N8 x' s.m m'/\K (lS r) s.L m' x')->(cR= .none\/(cR= .all/\x'=s.x))->o.wp P a W (xg nt D m0 W0 ρ s a W o.dst cR K) Q:=by
  intro f cs R hs c2 lm x' xq hR B9;obtain⟨r,m',W',qn,ez,Vi,qN⟩:=hs c2 W hr.after.jF;obtain⟨Fb,HQ⟩:=hR r m' Vi;unfold Oper.wp;rw[lm,qn];exact aft (lS r) _ m' W' x' qN (BR ez) (tO _ _) (wI _ _).symm Fb xq B9 HQ
 have aoL:∀(p:dF) (xs:List Operand),Dk o.op=some (p,xs)->∀(cs:List CV),xs.map a.eval=cs.map CV.val->∀(R:List CV->aD->Prop),bF P p cs s.m R->(∀x∈cs,x.ok)->∀(x':List Nat),(∀b∈x',b∈s.x)->(∀r m',R r m'->N8 x' s.m m'/\K (Di p r) s.L m' x')->(cR= .none\/(cR= .all/\x'=s.x))->o.wp P a W (xg nt D m0 W0 ρ s a W o.dst cR K) Q:=by
  intro p xs hp cs c1 R hs c2 x' xq hR B9;obtain⟨r,m',W',lm,ez,Vi,qN⟩:=hs c2 o.type W hr.after.jF;obtain⟨Fb,HQ⟩:=hR r m' Vi;unfold Oper.wp;have hx:=YV (a:=a) hp;rw[c1]at hx;rw[hx];unfold Di at HQ
  cases hu:p.unit with
  |true=>
   simp only[hu,cond_true]at HQ;simp only[Sem.run_bind,lm,Result.andThen_ok,oN,Sem.run_pure];exact aft .un undef m' W' x' qN trivial trivial rfl Fb xq B9 HQ
  |false=>
   simp only[hu,cond_false]at HQ;simp only[Sem.run_bind,lm,Result.andThen_ok,cU,gS,Sem.run_pure];unfold dF.dE
   cases ht:p.Fz with
   |false=>
    simp only[ht,cond_false]at HQ⊢;exact aft (lS r) _ m' W' x' qN (BR ez) (tO _ _) (wI _ _).symm Fb xq B9 HQ
   |true=>
    simp only[ht,cond_true]at HQ⊢;exact aft (.t r) _ m' W' x' qN ez trivial rfl Fb xq B9 HQ
 unfold Qe at h
 split at h
 ·rename_i t oL
  split at h
  ·rename_i i hi
   obtain⟨z,QY,hz2⟩:=(hT t i hi).PJ;refine box t z i.zero QY (hT t i hi).zok (λw=>?_) h;simp[execOp,oL,Instr.alloc,hz2]
  ·exact h.elim
 ·rename_i t y oL
  have hy:=hr.kK y
  split at h
  ·rename_i c hc
   have hv:=hy.eq (by rw[hc];simp);have hk:=(hy.om (by rw[hc];simp)).1;rw[hc]at hv hk;refine box t (a.eval y) c (by rw[hv];rfl) hk (λw=>?_) h;simp[execOp,oL,Instr.box]
  ·rename_i z hc
   have hv:=hy.eq (by rw[hc];simp);have hk:=(hy.om (by rw[hc];simp)).1;rw[hc]at hv hk;refine box t (a.eval y) [.one z] (by rw[hv];exact iN hk) ⟨hk,trivial⟩ (λw=>?_) h;simp[execOp,oL,Instr.box]
  ·rename_i hc
   have hv:=hy.eq (by rw[hc];simp);rw[hc]at hv;refine box t (a.eval y) [.one (.bool true)] (by rw[hv];rfl) ⟨rfl,trivial⟩ (λw=>?_) h;simp[execOp,oL,Instr.box]
  ·rename_i hc
   have hv:=hy.eq (by rw[hc];simp);rw[hc]at hv;refine box t (a.eval y) [.one (.bool false)] (by rw[hv];rfl) ⟨rfl,trivial⟩ (λw=>?_) h;simp[execOp,oL,Instr.box]
  ·exact h.elim
 ·rename_i t x y oL
  split at h
  ·exact h.elim
  ·exact yj hT hr hd oL (.inl ⟨rfl,rfl⟩) h
  ·rename_i hh
   cases nT:sV hh (ev s x)with
   |false=>simp[nT]at h
   |true=>
    simp only[nT,cond_true]at h;exact yj hT hr hd oL (.inr (.inl ⟨hh,rfl,rfl,nT⟩)) h
  ·rename_i hh
   cases nT:pu hh (ev s x)with
   |false=>simp[nT]at h
   |true=>
    simp only[nT,cond_true]at h;exact yj hT hr hd oL (.inr (.inr ⟨hh,rfl,rfl,nT⟩)) h
 ·rename_i f args xB oL
  split at h
  ·exact h.elim
  rename_i cs hcs;obtain⟨c1,c2⟩:=qv hr hcs
  have EP:args.map a.eval=(cs.map CV.val).toArray:=by
   apply nA;simp[c1]
  have HO:(execOp a.eval o).run P W=(callFunc f (cs.map CV.val).toArray).run P W:=by
   simp[execOp,oL,resolve,Act.eval,Deferred.ofValue,invoke,EP]
  have lm:∀R,bi P f cs s.m R->(execOp a.eval o).run P W= .ok (.enter f (cs.map CV.val).toArray) W:=by
   intro R hs;rw[HO];exact hs.1 _ W
  split at h
  ·rcases h with⟨R,hs,hR⟩|⟨R,hs,hR⟩
   ·exact call f cs R hs c2 (lm R hs) s.x (λ_ hb=>hb) hR (.inr ⟨rfl,rfl⟩)
   ·exact ah3 f cs R hs c2 HO s.x (λ_ hb=>hb) hR (.inr ⟨rfl,rfl⟩)
  ·rcases h with⟨R,hs,hR⟩|⟨R,hs,hR⟩
   ·exact call f cs R hs c2 (lm R hs) [] (by simp) (λr m' Vi=>⟨(by intro b hb;cases hb),hR r m' Vi⟩) (.inl rfl)
   ·exact ah3 f cs R hs c2 HO [] (by simp) (λr m' Vi=>⟨(by intro b hb;cases hb),hR r m' Vi⟩) (.inl rfl)
  ·exact h.elim
  ·exact h.elim
 ·rename_i t args xB oL
  split at h
  ·rename_i f first captured DQ
   cases ox:(sY first.toList&&sY captured.toList)with
   |false=>simp[ox]at h
   |true=>
   simp only[ox,cond_true]at h;simp only[aB]at ox
   split at h
   ·exact h.elim
   rename_i cs hcs;obtain⟨c1,c2⟩:=qv hr hcs;have hf:=hr.kK (.tmp t);simp only[ev,DQ]at hf;have Jb:=hf.eq (by simp);have hfk:=(hf.om (by simp)).1;simp only[eY,CV.val]at Jb
   have cM:∀x∈first.toList.map CV.v++cs++captured.toList.map CV.v,x.ok:=by
    intro x hx;rcases aR.1 hx with hx|hx
    ·rcases aR.1 hx with hx|hx
     ·obtain⟨y,hy,rfl⟩:=aV.1 hx
      exact uh ox.1 y hy
     ·exact c2 x hx
    ·obtain⟨y,hy,rfl⟩:=aV.1 hx
     exact uh ox.2 y hy
   have EP:(args.map a.eval).toList=cs.map CV.val:=by simp[c1]
   have UX:(first.toList.map CV.v++cs++captured.toList.map CV.v).map CV.val=first.toList++(args.map a.eval).toList++captured.toList:=by
    simp[CV.val,Function.comp_def];exact c1.symm
   have HO:(execOp a.eval o).run P W=(callFunc f ((first.toList.map CV.v++cs++captured.toList.map CV.v).map CV.val).toArray).run P W:=by
    rw[UX]
    have:(first.toList++(args.map a.eval).toList++captured.toList).toArray=first++args.map a.eval++captured:=by
     apply nA;simp
    rw[this];simp only[execOp,oL,resolve,Jb,Deferred.ofValue,invoke,Sem.run_bind,Sem.run_pure,Result.andThen_ok]
   have lm:∀R,bi P f (first.toList.map CV.v++cs++captured.toList.map CV.v) s.m R->(execOp a.eval o).run P W= .ok (.enter f ((first.toList.map CV.v++cs++captured.toList.map CV.v).map CV.val).toArray) W:=by
    intro R hs;rw[HO];exact hs.1 _ W
   split at h
   ·rcases h with⟨R,hs,hR⟩|⟨R,hs,hR⟩
    ·exact call f _ R hs cM (lm R hs) s.x (λ_ hb=>hb) hR (.inr ⟨rfl,rfl⟩)
    ·exact ah3 f _ R hs cM HO s.x (λ_ hb=>hb) hR (.inr ⟨rfl,rfl⟩)
   ·rcases h with⟨R,hs,hR⟩|⟨R,hs,hR⟩
    ·exact call f _ R hs cM (lm R hs) [] (by simp) (λr m' Vi=>⟨(by intro b hb;cases hb),hR r m' Vi⟩) (.inl rfl)
    ·exact ah3 f _ R hs cM HO [] (by simp) (λr m' Vi=>⟨(by intro b hb;cases hb),hR r m' Vi⟩) (.inl rfl)
   ·exact h.elim
   ·exact h.elim
  ·exact h.elim
 ·split at h
  ·exact h.elim
  rename_i p xs hp
  split at h
  ·exact h.elim
  rename_i cs hcs;obtain⟨c1,c2⟩:=qv hr hcs
  split at h
  ·obtain⟨R,hs,hR⟩:=h
   exact aoL p xs hp cs c1 R hs c2 s.x (λ_ hb=>hb) hR (.inr ⟨rfl,rfl⟩)
  ·obtain⟨R,hs,hR⟩:=h
   exact aoL p xs hp cs c1 R hs c2 [] (by simp) (λr m' Vi=>⟨(by intro b hb;cases hb),hR r m' Vi⟩) (.inl rfl)
  ·exact h.elim
  ·exact h.elim
end
def sM(T:lz):Op->Bool
 | .move _=>true
 | .pick _ _ _=>true
 | .assign _=>true
 | .load _ _=>true
 | .nilCheck _=>true
 | .binOp _ _ _ _ _=>true
 | .unOp _ _ _=>true
 | .convert a b _=>match T a,T b with
  |some i,some j=>match i.k,j.k with
   | .int _,.int _=>true
   | .AS,.AS=>true
   | .slice _,.AS=>rj T a b
   |_,_=>false
  |_,_=>false
 | .field _ _ _=>true
 | .fieldAddr _ _ _=>true
 | .indexAddr _ _ _=>true
 | .index _ _ _=>true
 | .extract _ _=>true
 | .build _ _=>true
 | .slice _ _ _ _ _=>true
 | .call ⟨.builtin b,_,_⟩=>match b with
  | .min=>true
  | .max=>true
  | .len=>true
  |_=>false
 |_=>false
inductive Ks where
 |all
 |none
 |xa (r:Nat)
 |new
inductive OT where
 |nil
 |op (i:Nat) (k:Ks) (r:OT)
 |or (a b:OT)
structure Ord where
 od:OT
 ms:List Nat
structure fD where
 P:Program
 T:lz
 esc:Nat->Bool
 ord:Nat->Ord
 cut:Nat->Bool
def aen(c:fD):Option Nat->Bool
 |some d=>c.esc d
 |none=>false
def C2(c:fD)(o:Oper)(cR:Kp)(s:St)(K:St->Prop):Prop:=
 match sM c.T o.op with
 |true=>Rw c.T s o.op λsv bs=>K ⟨fO s.fr o.dst sv,s.L,s.m,bs++s.x⟩
 |false=>Qe c.P c.T s o.op (aen c o.dst) cR λsv L m x=>K ⟨fO s.fr o.dst sv,L,m,x⟩
def LY(am:List Oper)(j:Nat):Option Nat:=
 match zo am j with
 |some oj=>oj.dst
 |none=>none
def xop(c:fD)(am:List Oper)(o:Oper)(cR:Kp)(s:St)(K:St->Prop):Prop:=
 match o.guard with
 |none=>C2 c o cR s K
 |some (j,w)=>match LY am j with
  |none=>False
  |some d=>match s.fr d with
   | .tt=>bif w then C2 c o cR s K else K ⟨fO s.fr o.dst .un,s.L,s.m,s.x⟩
   | .ff=>bif w then K ⟨fO s.fr o.dst .un,s.L,s.m,s.x⟩else C2 c o cR s K
   | .un=>K ⟨fO s.fr o.dst .un,s.L,s.m,s.x⟩
   | .c (.v (.bool b))=>
    (b=true->bif w then C2 c o cR ⟨fO s.fr (some d) .tt,s.L,s.m,s.x⟩ K else K ⟨fO (fO s.fr (some d) .tt) o.dst .un,s.L,s.m,s.x⟩)/\
    (b=false->bif w then K ⟨fO (fO s.fr (some d) .ff) o.dst .un,s.L,s.m,s.x⟩else C2 c o cR ⟨fO s.fr (some d) .ff,s.L,s.m,s.x⟩ K)
   |_=>False
section
variable {c:fD}{nt:Nat}{D:List Deferred}{m0:aD}{W0:World}{ρ:List Nat}{s:St}{a:Act}{W:World}{Q:Exit->Act->World->Prop}
theorem iG.decide(hr:iG nt D m0 W0 ρ s a W){d:Nat}{b:Bool}(h:s.fr d= .c (.v (.bool b))):iG nt D m0 W0 ρ ⟨fO s.fr (some d) (if b then .tt else .ff),s.L,s.m,s.x⟩ a W:=by
 refine⟨hr.defers,hr.size,λi=>?_,hr.len,hr.rz,hr.ot,hr.after,hr.z7⟩
 show fO s.fr (some d) _ i= .any\/_
 simp only[mn,aM];by_cases e:d=i
 ·subst e
  rcases hr.nB d with h1|⟨h1,h2,h3⟩
  ·grind
  ·refine .inr ?_
   rw[aC rfl,h1,h]
   cases b<;>exact⟨rfl,trivial,trivial⟩
 ·rw[if_neg e];exact hr.nB i
theorem iG.skip(hr:iG nt D m0 W0 ρ s a W){d:Option Nat}(hd:nN d nt):iG nt D m0 W0 ρ ⟨fO s.fr d .un,s.L,s.m,s.x⟩ (a.put d undef) W:=
 hr.put (y:=.un) (by rw[hr.size];exact hd) (.inr ⟨trivial,trivial⟩) _ (.inr rfl) _ hr.z7
theorem rW{am:Array Oper}{tmps:Array Value}{j d:Nat}(hg:LY am.toList j=some d){v:Value}(hv:tmps[d]?=some v):yielded am tmps j=(match v with| .bool b=>some b|_=>none):=by
 unfold LY at hg;rw[pq]at hg;unfold yielded
 cases ho:am[j]? with
 |none=>simp[ho]at hg
 |some oj=>
  simp only[bU,ho]at hg;simp only[Option.bind_some,hg,hv]
  cases v<;>rfl
def Mn(nt:Nat)(D:List Deferred)(m0:aD)(W0:World)(ρ:List Nat)(s:St)(a:Act)(W:World)(d:Option Nat)(cR:Kp)(K:St->Prop):Act->World->Prop:=λa' W'=>
 ∃s' e,K s'/\iG nt D m0 W0 (ρ++e) s' a' W'/\V7 ρ s.x W W' s'.x cR/\aaA s.m ρ W s'.m e W'/\(∃v,a'=a.put d v)/\∀y,d≠some y->s'.fr y=s.fr y\/s.fr y≠.any
theorem Dh{fr:Nat->SV}{d:Option Nat}{z:SV}{y:Nat}(h:d≠some y):fO fr d z y=fr y:=by rw[mn,if_neg h]
theorem XW(hT:fW c.P c.T)(hr:iG nt D m0 W0 ρ s a W){o:Oper}(hd:nN o.dst nt){cR:Kp}{K:St->Prop}(h:C2 c o cR s K):o.wp c.P a W (Mn nt D m0 W0 ρ s a W o.dst cR K) Q:=by
 unfold C2 at h
 split at h
 ·obtain⟨sv,bs,v,B,h1,h2,h3,_,_,h5⟩:=L2 hT hr h
  unfold Oper.wp;rw[h5 o rfl W (λ_ _=>rfl)];refine⟨_,[],h1,?_,V7.same (λ_=>rfl) (λb hb=>jp _ hb) cR,λb _ hb _=>⟨rfl,hb,by simp⟩,⟨v,rfl⟩,λy hy=>.inl (Dh hy)⟩;rw[cO];refine hr.put (by rw[hr.size];exact hd) ?_ v ?_ _ ?_
  ·rcases h2 with h2|h2
   ·grind
   grind
  ·rcases h2 with h2|h2
   ·grind
   grind
  ·intro b hb
   rcases aR.1 hb with hb|hb
   ·grind
   ·exact hr.z7 b hb
 ·exact Oper.wp_mono (λa' W' ⟨sv,L',m',x',e,h1,h2,h3,h4,h5⟩=>⟨_,e,h1,h2,h3,h4,h5,λy hy=>.inl (Dh hy)⟩) (Y6 hT hr (by rw[hr.size];exact hd) h)
theorem O6(hT:fW c.P c.T)(hr:iG nt D m0 W0 ρ s a W){am:Array Oper}{i:Nat}{o:Oper}(ho:am[i]?=some o) (hd:nN o.dst nt) {cR:Kp}{K:St->Prop} (h:xop c am.toList o cR s K):
  wpOp c.P am Q i (Mn nt D m0 W0 ρ s a W o.dst cR K) a W:=by
 unfold wpOp;simp only[ho]
 have yes:∀s',iG nt D m0 W0 ρ s' a W->s'.x=s.x->s'.m=s.m->(∀y,s'.fr y=s.fr y\/s.fr y≠.any)->Region.wanted o (yielded am a.tmps)=true->C2 c o cR s' K->(if Region.wanted o (yielded am a.tmps)=true then o.wp c.P a W (Mn nt D m0 W0 ρ s a W o.dst cR K) Q\/(o.asks c.P a W/\LetsOut Q)else Mn nt D m0 W0 ρ s a W o.dst cR K (a.put o.dst undef) W):=by
  intro s' tY hx wq DQ hw hh;rw[aC hw];refine .inl ?_;have:=XW (Q:=Q) hT tY hd hh;refine Oper.wp_mono (λa' W' hp=>?_) this;obtain⟨s2,e,g1,g2,g3,g4,g5,g6⟩:=hp;rw[hx]at g3;rw[wq]at g4;refine⟨s2,e,g1,g2,g3,g4,g5,λy hy=>?_⟩
  grind
 have no:∀s',iG nt D m0 W0 ρ s' a W->s'.x=s.x->s'.m=s.m->(∀y,s'.fr y=s.fr y\/s.fr y≠.any)->Region.wanted o (yielded am a.tmps)=false->K ⟨fO s'.fr o.dst .un,s'.L,s'.m,s'.x⟩->(if Region.wanted o (yielded am a.tmps)=true then o.wp c.P a W (Mn nt D m0 W0 ρ s a W o.dst cR K) Q\/(o.asks c.P a W/\LetsOut Q)else Mn nt D m0 W0 ρ s a W o.dst cR K (a.put o.dst undef) W):=by
  intro s' tY hx wq DQ hw hh;rw[if_neg (by rw[hw];exact Bool.false_ne_true)];refine⟨_,[],hh,?_,V7.same (λ_=>rfl) (λb hb=>by rw[<-hx]at hb;exact hb) cR,λb _ hb _=>⟨rfl,by rw[wq];exact hb,by simp⟩,⟨undef,rfl⟩,λy hy=>by show fO _ _ _ y=_\/_;rw[Dh hy];exact DQ y⟩;rw[cO];exact tY.skip hd
 have dec:∀(d:Nat) (b:Bool),s.fr d= .c (.v (.bool b))->∀z:SV,(∀y,fO s.fr (some d) z y=s.fr y\/s.fr y≠.any):=by
  intro d b e z y;rw[mn]
  grind
 unfold xop at h
 split at h
 ·rename_i hg
  exact yes s hr rfl rfl (λ_=>.inl rfl) (by simp[Region.wanted,hg]) h
 ·rename_i j w hg
  split at h
  ·exact h.elim
  rename_i d NU
  have Jl:∀b,a.tmps[d]?=some (.bool b)->Region.wanted o (yielded am a.tmps)=(b==w):=by
   intro b hb;simp only[Region.wanted,hg,rW NU hb]
   grind
  have hs:=hr.nB d
  split at h
  ·rename_i e
   rw[e]at hs;rcases hs with hs|⟨hs,_⟩
   ·simp at hs
   have:=Jl true hs
   grind
  ·rename_i e
   rw[e]at hs;rcases hs with hs|⟨hs,_⟩
   ·simp at hs
   have:=Jl false hs
   grind
  ·rename_i e
   rw[e]at hs;rcases hs with hs|⟨hs,_⟩
   ·simp at hs
   refine no s hr rfl rfl (λ_=>.inl rfl) ?_ h;simp only[Region.wanted,hg,rW NU hs];rfl
  ·rename_i b e
   rw[e]at hs;rcases hs with hs|⟨hs,_⟩
   ·simp at hs
   have hw:=Jl b hs;have HU:=hr.decide e
   grind
  grind
def OZ(F:Fence):Prop:=F=Fence.wide\/∃l,F=Fence.wide.inRound l
theorem OZ.fn{F:Fence}(h:OZ F)(f:FuncId):F.fn f:=by
 rcases h with rfl|⟨l,rfl⟩<;>trivial
theorem OZ.depth{F:Fence}(h:OZ F):F.depth=none:=by
 rcases h with rfl|⟨l,rfl⟩<;>rfl
theorem OZ.ard{F:Fence}(h:OZ F){n:Nat}{P:Program}{f:FuncId}{args:Array Value}{w:World}{R:Ending->World->Prop}(k:Calls P f args w R):CallsIn F n P f args w R:=by
 rcases h with rfl|⟨l,rfl⟩
 ·exact callsIn_wide.2 k
 ·exact(callsIn_wide (n:=n)).2 k
theorem OZ.as2{F:Fence}(h:OZ F){n:Nat}{P:Program}{row:String}{args:Array Value}{w:World}{R:Value->World->Prop}(k:Rows P row args w R):RowsIn F n P row args w R:=by
 have key:RowsIn Fence.wide n P row args w R:=λc cs _=>let ⟨v,w',r,s⟩:=k c cs;⟨v,w',r,stepsIn_wide.2 s⟩
 rcases h with rfl|⟨l,rfl⟩
 ·exact key
 ·exact key
theorem OZ.round{F:Fence}(h:OZ F){n l:Nat}{P:Program}{f:FuncId}{tmps:Array Value}{Ti body:Code}{w:World}{R:Ending->World->Prop}(k:RoundIn Fence.wide n P l f tmps Ti body w R):RoundIn F n P l f tmps Ti body w R:=by
 rcases h with rfl|⟨l,rfl⟩
 ·exact k
 ·exact k
def oq:Op->Bool
 | .defer _=>false
 |_=>true
theorem PG{F:Fence}{o:Oper}(hd:oq o.op=true)(ρ:Operand->Value):o.semAt F.round ρ=execOp ρ o:=by
 cases hr:F.round with
 |none=>rfl
 |some l=>
  refine Oper.semAt_some l ρ o λc e=>?_;rw[e]at hd;cases hd
theorem aok{F:Fence}(hF:OZ F){P:Program}{o:Oper}{a:Act}{w:World}{K:Act->World->Prop}{Q:Exit->Act->World->Prop}(hd:oq o.op=true)(h:o.wp P a w K Q):o.wpIn F 0 P a w K Q:=by
 refine⟨λ_ _=>hF.fn _,?_⟩;rw[PG hd];unfold Oper.wp at h;have aqj:∀{p:Prop},p->(F.depth.isSome=true->1<=0)/\p:=λk=>⟨λe=>(by rw[hF.depth]at e;cases e),k⟩;generalize (execOp a.eval o).run P w=r at*
 cases r with
 |ok x w'=>cases x<;>simp only[Oper.upon,Oper.uponIn]at h⊢ <;>first|exact h|exact aqj (hF.ard h)|exact aqj (hF.as2 h)|exact h.elim
 |halt x w'=>cases x<;>simp only[Oper.upon,Oper.uponIn]at h⊢ <;>exact h
theorem We{F:Fence}(hF:OZ F){P:Program}{am:Array Oper}{i:Nat}{a:Act}{w:World}{K:Act->World->Prop}{Q:Exit->Act->World->Prop}(hd:∀o,am[i]?=some o->oq o.op=true) (hQ:¬LetsOut Q) (h:wpOp P am Q i K a w):wpOpIn F 0 P am Q i K a w:=by
 unfold wpOp at h;unfold wpOpIn
 cases ho:am[i]? with
 |none=>simp only[ho]at h⊢;exact h
 |some o=>
  simp only[ho]at h⊢;split
  ·rename_i hw
   rw[aC hw]at h;rcases h with h|h
   ·exact aok hF (hd o ho) h
   ·exact absurd h.2 hQ
  ·rename_i hw
   rw[if_neg hw]at h;exact⟨λ_ _=>hF.fn _,h⟩
theorem iG.akx{nt:Nat}{D:List Deferred}{m0:aD}{W0:World}{ρ:List Nat}{s:St}{a:Act}{W:World}(hr:iG nt D m0 W0 ρ s a W){d:Option Nat}(hd:nN d a.tmps.size){m':aD}{W':World}(qN:cr s.m W m' W'){sv:SV}(ez:sv.ok)(hu:sv.under ρ.length):
  iG nt D m0 W0 ρ ⟨fO s.fr d sv,s.L,m',[]⟩ (a.put d (eY ρ sv)) W':=by
 have Xb:∀b,b∈ρ->m' b=none/\W'.heap[b]?=W.heap[b]?:=by
  intro b hb;obtain⟨i,hi,rfl⟩:=yq hb;obtain⟨g1,g2,g3⟩:=hr.dE hi;exact qN.frame _ g3 g1
 refine⟨?_,?_,?_,?_,?_,?_,?_,?_⟩
 ·rw[Act.ji];exact hr.defers
 ·rw[Act.kv];exact hr.size
 ·have:=hr.sq hd (e:=[]) (.inr ⟨ez,by simpa using hu⟩) _ (.inr (by rw[cO]))
  grind
 ·exact hr.len
 ·intro h' t c hh
  have bH:h'<ρ.length:=by rw[hr.len];exact(aQ.1 hh).1
  obtain⟨k1,k2,k3,k4⟩:=hr.rz h' t c hh
  grind
 ·exact hr.ot
 ·exact hr.after.trans qN
 grind
theorem Sr(r:List CV)(ρ:List Nat):gm r=eY ρ (lS r):=(wI ρ r).symm
def QN(nt:Nat)(D:List Deferred)(m0:aD)(W0:World)(K:St->Prop):Exit->Act->World->Prop
 | .normal,a,W=>∃s ρ,K s/\iG nt D m0 W0 ρ s a W
 |_,_,_=>False
theorem QN.dE{nt:Nat}{D:List Deferred}{m0:aD}{W0:World}{K:St->Prop}:¬LetsOut (QN nt D m0 W0 K):=λ⟨_,_,h⟩=>h
def CL(P:Program)(l:Nat)(args:List CV)(m:aD)(R:List CV->aD->Prop):Prop:=
 (∀x∈args,x.ok)->∀W,mg m W->∃fn tmps Ti body,(Instr.yield l (args.map CV.val).toArray).run P W= .ok (.round l fn tmps Ti body) W/\
  RoundIn Fence.wide 0 P l fn tmps Ti body W λe W'=>∃r m',e= .returned (gm r)/\(∀x∈r,x.ok)/\R r m'/\cr m W m' W'
inductive V0 (P:Program) (l:Nat) (args:List CV) (m:aD) (K:List CV->aD->Prop):Prop
 |mk (R:List CV->aD->Prop) (h:CL P l args m R) (k:∀r m',R r m'->K r m')
def FR(am:List Oper)(fr:Nat->SV)(o:Oper):Bool:=
 match o.guard with
 |none=>true
 |some (j,w)=>match LY am j with
  |none=>false
  |some d=>match fr d with
   | .tt=>w
   | .ff=>!w
   |_=>false
def vI(am:List Oper)(fr:Nat->SV)(o:Oper):Option (Nat×List Operand):=
 match o.op with
 | .call ⟨.value (.tmp t),args,_⟩=>match FR am fr o with
  |true=>match fr t with
   | .c (.v (.func (.yield l) ⟨[]⟩ ⟨[]⟩))=>some (l,args.toList)
   |_=>none
  |false=>none
 |_=>none
theorem Mr{am:List Oper}{fr:Nat->SV}{o:Oper}{l:Nat}{args:List Operand}(h:vI am fr o=some (l,args)):∃t ar xB,o.op= .call ⟨.value (.tmp t),ar,xB⟩/\ar.toList=args/\FR am fr o=true/\fr t= .c (.v (.func (.yield l) #[] #[])):=by
 unfold vI at h
 grind
theorem H5(hr:iG nt D m0 W0 ρ s a W){am:Array Oper}{o:Oper}(h:FR am.toList s.fr o=true):Region.wanted o (yielded am a.tmps)=true:=by
 unfold FR at h
 split at h
 ·rename_i hg
  simp[Region.wanted,hg]
 ·rename_i j w hg
  split at h
  ·cases h
  rename_i d NU
  have Jl:∀b,a.tmps[d]?=some (.bool b)->Region.wanted o (yielded am a.tmps)=(b==w):=by
   intro b hb;simp only[Region.wanted,hg,rW NU hb]
   grind
  have hs:=hr.nB d
  split at h
  ·rename_i e
   rw[e]at hs;rcases hs with hs|⟨hs,_⟩
   ·simp at hs
   rw[Jl true hs,h];rfl
  ·rename_i e
   rw[e]at hs;rcases hs with hs|⟨hs,_⟩
   ·simp at hs
   rw[Jl false hs]
   grind
  ·cases h
def O5(c:fD)(am:List Oper):List Oper->(St->Prop)->St->Prop
 |[],K,s=>K s
 |o::r,K,s=>match vI am s.fr o with
  |some (l,args)=>match jQ (args.map (ev s))with
   |none=>False
   |some cs=>V0 c.P l cs s.m λr' m'=>O5 c am r K ⟨fO s.fr o.dst (lS r'),s.L,m',[]⟩
  |none=>xop c am o .none s (O5 c am r K)
theorem C1(hT:fW c.P c.T){F:Fence}(hF:OZ F){am:Array Oper}(hd:∀o∈am.toList,nN o.dst nt)(NR:∀o∈am.toList,oq o.op=true){K:St->Prop}:
  ∀(r:List Oper) (k:Nat) (s:St) (ρ:List Nat) (a:Act) (W:World),(∀j,r[j]?=am[k+j]?)->O5 c am.toList r K s->iG nt D m0 W0 ρ s a W->wpOpsIn F 0 c.P am (QN nt D m0 W0 K) (List.range' k r.length) a W
 |[],k,s,ρ,a,W,_,h,hr=>⟨s,ρ,h,hr⟩
 |o::r,k,s,ρ,a,W,hl,h,hr=>by
  have h0:am[k]?=some o:=by simpa using(hl 0).symm
  simp only[ae,Ft];rw[wpOpsIn_cons]
  have hm:o∈am.toList:=by
   rw[<-bU]at h0;exact dJ h0
  have Xc:∀j,r[j]?=am[k+1+j]?:=λj=>by have:=hl (j+1);simpa [gi,Nat.add_comm 1 j]using this
  simp only[O5]at h
  cases hy:vI am.toList s.fr o with
  |none=>
   simp only[hy]at h;refine We hF (λo' OR=>by rw[h0]at OR;cases OR;exact NR o hm) QN.dE ?_;refine wpOp_mono (λa' W' ⟨s',e,h1,h2,_,_⟩=>?_) (O6 hT hr h0 (hd o hm) h);exact C1 hT hF hd NR r (k+1) s' _ a' W' Xc h1 h2
  |some q=>
   obtain⟨l,args⟩:=q;simp only[hy]at h;obtain⟨t,ar,xB,oL,rfl,hg,DQ⟩:=Mr hy
   cases hcs:jQ (ar.toList.map (ev s))with
   |none=>simp[hcs]at h
   |some cs=>
    simp only[hcs]at h;obtain⟨R,adt,hk⟩:=h;obtain⟨c1,c2⟩:=qv hr hcs;obtain⟨fn,tmps,Ti,body,hyl,sI⟩:=adt c2 W hr.after.jF
    have EP:ar.map a.eval=(cs.map CV.val).toArray:=by
     apply nA;simp[c1]
    have hf:=hr.kK (.tmp t);simp only[ev,DQ]at hf;have Jb:=hf.eq (by simp);simp only[eY,CV.val]at Jb
    have lm:(execOp a.eval o).run c.P W= .ok (.round l fn tmps Ti body) W:=by
     simp only[execOp,oL,resolve,Jb,Deferred.ofValue,invoke,Sem.run_bind,Sem.run_pure,Result.andThen_ok];simp[EP,hyl]
    unfold wpOpIn;simp only[h0];rw[aC (H5 hr hg)];refine⟨λ_ _=>hF.fn _,?_⟩;rw[PG (NR o hm),lm];refine⟨λe=>(by rw[hF.depth]at e;cases e),hF.round (sI.mono ?_)⟩;rintro e W'⟨r',m',rfl,apy,hR,qN⟩;rw[Sr r' ρ];exact C1 hT hF hd NR r (k+1) _ ρ _ W' Xc (hk r' m' hR) (hr.akx (by rw[hr.size];exact hd o hm) qN (BR apy) (tO _ _))
theorem MU(hT:fW c.P c.T){F:Fence}(hF:OZ F){id:Nat}{am:Array Oper}(hd:∀o∈am.toList,nN o.dst nt)(NR:∀o∈am.toList,oq o.op=true){K:St->Prop}
  (hr:iG nt D m0 W0 ρ s a W) (h:O5 c am.toList am.toList K s):(Code.region id am false).wpIn F 0 c.P (QN nt D m0 W0 K) a W:=by
 refine wpIn_region ?_;have:=C1 hT hF hd NR am.toList 0 s ρ a W (by simp) h hr;rwa [cq,<-List.range_eq_range']at this
end
abbrev Kb:=Nat×Option Obj
def Holds(Φ:List Kb)(w:World):Prop:=∀f∈Φ,w.heap[f.1]?=f.2
def Ns(am:Array Oper)(ms:List Nat)(j:Nat):Nat:=
 match am[j]? with
 |some o=>o.after.toList.foldl (λs e=>if Region.binds .any e then(s|||2^e.on)|||(if e.on<j then ms.getD e.on 0 else 0)else s) 0
 |none=>0
def FJ(am:Array Oper)(ms:List Nat):Bool:=(List.range am.size).all λj=>(ms.getD j 0|||Ns am ms j)==Ns am ms j
def tw(ms:List Nat)(j i:Nat):Bool:=(ms.getD j 0).testBit i
def Cl(am:Array Oper)(eh:Array Bool):Prop:=∀k o,am[k]?=some o->eh.getD k false=true->∀e∈o.after,Region.binds .any e=true->eh.getD e.on false=true
theorem L5(ms:List Nat)(j i:Nat):∀(l:List Edge) (s:Nat),(l.foldl (λs e=>if Region.binds .any e then(s|||2^e.on)|||(if e.on<j then ms.getD e.on 0 else 0)else s) s).testBit i=true->
  s.testBit i=true\/∃e∈l,Region.binds .any e=true/\(e.on=i\/(e.on<j/\tw ms e.on i=true))
 |[],s,h=>.inl h
 |e::l,s,h=>by
  simp only[gd]at h;rcases L5 ms j i l _ h with h1|⟨e',he',h1⟩
  ·by_cases hb:Region.binds .any e=true
   ·rw[aC hb]at h1
    simp only[Nat.testBit_or,eM,Nat.testBit_two_pow,bA]at h1;rcases h1 with(h1|h1)|h1
    ·exact .inl h1
    ·exact .inr ⟨e,dv ..,hb,.inl h1⟩
    ·by_cases bH:e.on<j
     ·rw[aC bH]at h1
      exact .inr ⟨e,dv ..,hb,.inr ⟨bH,h1⟩⟩
     ·rw[if_neg bH]at h1;simp at h1
   ·rw[if_neg hb]at h1;exact .inl h1
  ·exact .inr ⟨e',bO _ he',h1⟩
variable{eh:Array Bool}
theorem ajn{am:Array Oper}{ms:List Nat}(hm:FJ am ms=true)(hc:Cl am eh)(i:Nat):∀(j:Nat) (o:Oper),am[j]?=some o->(∀e∈o.after,Region.binds .any e=true->eh.getD e.on false=true)->tw ms j i=true->eh.getD i false=true:=by
 intro j
 induction j using Nat.strongRecOn with
 |_ j ih=>
  intro o ho aqi ht;have hj:j<am.size:=(bE.1 ho).1;have hmj:=bL.1 hm j (dS.2 hj);simp only[gU]at hmj
  have hb:(Ns am ms j).testBit i=true:=by
   rw[<-hmj,Nat.testBit_or];have:(ms.getD j 0).testBit i=true:=ht;rw[this];rfl
  simp only[Ns,ho]at hb;rcases L5 ms j i _ _ hb with h1|⟨e,he,hbe,h1⟩
  ·simp at h1
  ·have hl:=aqi e (by simpa using he) hbe
   rcases h1 with h1|⟨bH,h1⟩
   ·rw[<-h1];exact hl
   ·have Ae:e.on<am.size:=by omega
    exact ih e.on bH am[e.on] (by simp[Ae]) (hc e.on _ (by simp[Ae]) hl) h1
variable{i:Nat}
theorem DD(h:eh.getD i true=false):¬eh.getD i false=true:=by
 grind
theorem xG(h:eh.getD i true=false):i<eh.size:=by
 grind
theorem mZ(h:i<eh.size)(d:Bool):(eh.setIfInBounds i true).getD i d=true:=by simp[h]
theorem Cl.set{am:Array Oper}(hc:Cl am eh)(hi:i∈Region.ready .any am eh):Cl am (eh.setIfInBounds i true):=by
 obtain⟨S9,oi,hoi,cM⟩:=mem_ready.1 hi;have bH:=xG S9;intro k o ho hk e he hb
 have old:eh.getD e.on false=true->(eh.setIfInBounds i true).getD e.on false=true:=by
  intro h;by_cases hie:i=e.on
  ·grind
  simp_all
 by_cases hik:i=k
 ·grind
 ·rw[getD_set_ne false hik]at hk
  exact old (hc k o ho hk e he hb)
section
variable {P:Program}{am:Array Oper}{Q:Exit->Act->World->Prop}{F:Nat->Kb->Prop}
def uk(P:Program)(am:Array Oper)(Q:Exit->Act->World->Prop)(F:Nat->Kb->Prop):Nat->List Kb->Array Bool->Act->World->Prop
 |0,_,eh,a,w=>Region.ready .any am eh=[]/\Q .normal a w
 |kJ+1,Φ,eh,a,w=>
  (Region.ready .any am eh=[]->Q .normal a w)/\
  ∀i∈Region.ready .any am eh,wpOp P am Q i (λa' w'=>∃Φ',Holds Φ' w'/\(∀f∈Φ,F i f->f∈Φ')/\uk P am Q F kJ Φ' (eh.setIfInBounds i true) a' w') a w
theorem F6:∀(kJ:Nat) (Φ:List Kb) (eh:Array Bool) (a:Act) (w:World),uk P am Q F kJ Φ eh a w->wpAny P .any am Q kJ eh a w
 |0,_,_,_,_,h=>h
 |kJ+1,_,_,_,_,h=>⟨h.1,λi hi=>wpOp_mono (λa' w' ⟨Φ',_,_,h'⟩=>F6 kJ Φ' _ a' w' h') (h.2 i hi)⟩
theorem Ms{i:Nat}{oi:Oper}{v:Value}{Ψ:List Kb}{ms:List Nat}(hm:FJ am ms=true)(hi:am[i]?=some oi) (ahp:∀(j:Nat) (o:Oper) cs b,am[j]?=some o->o.op≠.select cs b)
  (hQ:∀c a w,Q (.panic c) (a.put oi.dst v) w->Q (.panic c) a w):
  ∀(kJ:Nat) (Φ:List Kb) (eh:Array Bool) (a:Act) (w:World),Cl am eh->
   (∀j oj,am[j]?=some oj->j≠i->eh.getD j true=false->tw ms j i=false->oi.apart am oj=true/\∀f∈Ψ,F j f)->
   i∈Region.ready .any am eh->YieldsIf P am (Holds Ψ) oi v a->Holds Φ w->(∀f∈Ψ,f∈Φ)->
   uk P am Q F kJ Φ (eh.setIfInBounds i true) (a.put oi.dst v) w->uk P am Q F (kJ+1) Φ eh a w:=by
 intro kJ
 induction kJ with
 |zero=>
  intro Φ eh a w _ _ hr hy hS iH H;refine⟨λh=>(by rw[h]at hr;cases hr),λj hj=>?_⟩;by_cases JQ:j=i
  ·subst JQ;exact hy.wpOp hi (λf hf=>hS f (iH f hf)) ⟨Φ,hS,λf hf _=>hf,H⟩
  ·have:=ready_mono hj JQ
   rw[H.1]at this;cases this
 |succ kJ ih=>
  intro Φ eh a w ZH ajC hr hy hS iH H;refine⟨λh=>(by rw[h]at hr;cases hr),λj hj=>?_⟩;by_cases JQ:j=i
  ·subst JQ;exact hy.wpOp hi (λf hf=>hS f (iH f hf)) ⟨Φ,hS,λf hf _=>hf,H⟩
  ·have h1:=H.2 j (ready_mono hj JQ)
   obtain⟨Rb,oj,JM,cM⟩:=mem_ready.1 hj
   have apL:tw ms j i=false:=by
    cases ht:tw ms j i with
    |false=>rfl
    |true=>exact absurd (ajn hm ZH i j oj JM cM ht) (DD (mem_ready.1 hr).1)
   obtain⟨HZ,hF⟩:=ajC j oj JM JQ Rb apL;have h2:=wpOp_putIf JM HZ (λcs b=>ahp i oi cs b hi) (λcs b=>ahp j oj cs b JM) hQ hy h1
   have alx:∀k ok,am[k]?=some ok->k≠i->(eh.setIfInBounds j true).getD k true=false->tw ms k i=false->oi.apart am ok=true/\∀f∈Ψ,F k f:=λk ok hk hki S9 xr=>by
    refine ajC k ok hk hki ?_ xr;by_cases hjk:j=k
    ·subst hjk;exact Rb
    ·rw[getD_set_ne true hjk]at S9;exact S9
   refine wpOp_mono (λa' w' h3=>?_) h2;obtain⟨I7,Φ',hH',hF',H'⟩:=h3;refine⟨Φ',hH',hF',ih Φ' (eh.setIfInBounds j true) a' w' (ZH.set hj) alx (ready_mono hr (Ne.symm JQ)) I7 hH' (λf hf=>hF' f (iH f hf) (hF f hf)) ?_⟩;rw[Array.setIfInBounds_comm _ _ JQ];exact H'
end
def gA(T:lz)(am:Array Oper)(j:Nat):Bool:=
 match am[j]? with
 |some o=>match o.op with
  | .alloc t=>o.guard.isNone&&o.dst.isSome&&(T t).isSome
  |_=>false
 |none=>false
def mw(am:Array Oper)(i j:Nat):Bool:=
 match am[i]?,am[j]? with
 |some oi,some oj=>oi.apart am oj
 |_,_=>true
def ade:Ks->Bool
 | .all=>true
 |_=>false
def isNone:Ks->Bool
 | .none=>true
 |_=>false
def OT.co:OT->List (Nat×Ks)
 | .nil=>[]
 | .op i k r=>(i,k)::r.co
 | .or a _=>a.co
def OT.oy:OT->List Nat
 | .nil=>[]
 | .op i _ _=>[i]
 | .or a b=>a.oy++b.oy
def ksB:Ks->Ks->Bool
 | .all,.all=>true
 | .none,.none=>true
 | .xa r,.xa r'=>Nat.beq r r'
 | .new,.new=>true
 |_,_=>false
def rmB(x:Nat×Ks):List (Nat×Ks)->Option (List (Nat×Ks))
 |[]=>none
 |y::l=>bif Nat.beq x.1 y.1&&ksB x.2 y.2 then some l else(match rmB x l with|some l'=>some (y::l')|none=>none)
def P2:List (Nat×Ks)->List (Nat×Ks)->Bool
 |[],[]=>true
 |x::a,b=>match rmB x b with
  |some b'=>P2 a b'
  |none=>false
 |_,_=>false
def wT(T:lz)(am:Array Oper)(ms:List Nat)(H:List Nat)(i:Nat)(k:Ks)(r:List (Nat×Ks)):Bool:=
 match am[i]? with
 |none=>false
 |some o=>
  o.after.all (λe=>!Region.binds .any e||(Nat.blt e.on am.size&& !(((i,k)::r).any λx=>x.1==e.on)))&&
  !(r.any λx=>x.1==i)&&
  (if sM T o.op then ade k&&H==[i]&&r.all (λx=>(tw ms x.1 i&& !gA T am x.1)||(mw am i x.1&&(!Bd T o.op|| !isNone x.2)))
   else(!gA T am i||(ade k&&H==[i]))&&r.all (λx=>(H.any (λh=>tw ms x.1 h)&& !gA T am x.1)||(mw am i x.1&&gA T am x.1)||(H.contains x.1&& !gA T am x.1)))
def kY(T:lz)(am:Array Oper)(ms:List Nat):List Nat->OT->Bool
 |_,.nil=>true
 |H,.op i k r=>wT T am ms H i k r.co&&kY T am ms r.oy r
 |H,.or a b=>P2 a.co b.co&&kY T am ms H a&&kY T am ms H b
def acq(T:lz)(am:Array Oper)(od:Ord):Bool:=
 Region.noSelect am&&FJ am od.ms&&(List.range am.size).all (λj=>od.od.co.any λx=>x.1==j)&&od.od.co.length==am.size&&kY T am od.ms od.od.oy od.od
def Iw(x r:SV):Bool:=
 match r with
 | .p h _=>match x with
  | .p h' _=>!Nat.beq h' h
  | .q h' _ _=>!Nat.beq h' h
  | .sl h' _ _ _ _=>!Nat.beq h' h
  | .c _=>true
  |_=>false
 |_=>false
def agB(n:Nat):SV->Bool
 | .p h _=>Nat.blt h n
 | .q h _ _=>Nat.blt h n
 | .sl h _ _ _ _=>Nat.blt h n
 |_=>false
def xp(s0:St)(ms:List Nat)(i:Nat)(x:SV):List (Nat×Ks)->Bool
 |[]=>true
 |(j,.xa r)::l=>(bif tw ms j i then true else Iw x (s0.fr r))&&xp s0 ms i x l
 |(j,.new)::l=>(bif tw ms j i then true else agB s0.L.length x)&&xp s0 ms i x l
 |_::l=>xp s0 ms i x l
def ov(T:lz)(s0:St)(ms:List Nat)(i:Nat)(o:Oper)(s:St)(r:List (Nat×Ks)):Bool:=
 match EB T o.op with
 |some x=>xp s0 ms i (ev s x) r
 |none=>true
def JB(s0:St):Ks->Kp
 | .all=>.all
 | .none=>.none
 | .xa r=>match s0.fr r with
  | .p h _=>.xa h
  |_=>.all
 | .new=>.new s0.L.length
def rh(c:fD)(am:List Oper)(ms:List Nat)(s0:St):OT->(St->Prop)->St->Prop
 | .nil,K,s=>K s
 | .op i k r,K,s=>match zo am i with
  |some o=>bif ov c.T s0 ms i o s r.co then xop c am o (JB s0 k) s (rh c am ms s0 r K)else False
  |none=>False
 | .or a b,K,s=>rh c am ms s0 a K s/\rh c am ms s0 b K s
def sL(s:St):List Oper->Bool
 |[]=>true
 |o::r=>match o.op with
  | .alloc _=>match o.dst with
   |some d=>match s.fr d with
    | .any=>sL s r
    |_=>false
   |none=>sL s r
  |_=>sL s r
abbrev RE:=List (Nat×Ks×Option Nat)
def vz:RE->Nat
 |[]=>0
 |(_,_,none)::r=>vz r+1
 |(_,_,some _)::r=>vz r
def kp(ρ:List Nat)(x:List Nat)(W:World):List Kb:=(ρ++x).map λb=>(b,W.heap[b]?)
theorem AI(ρ x:List Nat)(W:World):Holds (kp ρ x W) W:=by
 intro f hf;simp only[kp,aV]at hf
 grind
theorem wG{x:List Nat}{ρ' x':List Nat}(h1:∀b∈ρ,b∈ρ')(h2:∀b∈x,b∈x')(h3:∀b,b∈ρ\/b∈x->W'.heap[b]?=W.heap[b]?):∀f∈kp ρ x W,f∈kp ρ' x' W':=by
 intro f hf;simp only[kp,aV,aR]at hf⊢
 grind
def E4(s0:St)(ρ0:List Nat)(f:Kb):Ks->Prop
 | .all=>True
 | .none=>False
 | .xa r=>∀h off,s0.fr r= .p h off->f.1≠ρ0.getD h 0
 | .new=>f.1∈ρ0
section
variable {c:fD}{nt:Nat}{D:List Deferred}{m0:aD}{W0:World}
structure arE(c:fD)(W0:World)(am:Array Oper)(s:St)(ρ:List Nat)(a:Act)(W:World)(j b:Nat):Prop where
 eF:∃o t ti d,am[j]?=some o/\o.op= .alloc t/\o.guard=none/\o.dst=some d/\c.T t=some ti/\W.heap[b]?=some (.cells (LB.cz ti.zero).toArray t (0,0))/\a.tmps[d]?=some (.pointer (some ⟨b,0,none⟩))
 dE:s.m b=none
 new:W0.heap.size<=b
 ux:b∉ρ
structure J9(c:fD)(nt:Nat)(D:List Deferred)(m0:aD)(W0:World)(am:Array Oper)(od:List (Nat×Ks))(ρ0:List Nat)(r:RE)(La:Array Bool)(s:St)(ρ:List Nat)(a:Act)(W:World):Prop where
 rel:iG nt D m0 W0 ρ s a W
 cl:Cl am La
 lsz:La.size=am.size
 S9:∀j,j<am.size->La.getD j true=false->∃k,(j,k,none)∈r
 HP:∀j k,(j,k,none)∈r->La.getD j true=false
 odr:∀x∈od,(∃b,(x.1,x.2,b)∈r)\/La.getD x.1 false=true
 rod:∀j k b,(j,k,b)∈r->(j,k)∈od
 EV:∀j k b,(j,k,some b)∈r->La.getD j false=true/\arE c W0 am s ρ a W j b
 aev:∀j k j' k' b,(j,k,some b)∈r->(j',k',some b)∈r->j=j'
 aaw:∀j k b o d,(j,k,b)∈r->gA c.T am j=true->am[j]?=some o->o.dst=some d->s.fr d= .any
 ext:∃e,ρ=ρ0++e
theorem iG.arq{ρ:List Nat}{s:St}{a:Act}{W:World}(hr:iG nt D m0 W0 ρ s a W){d b:Nat}(hs:a.tmps[d]?=some (.pointer (some ⟨b,0,none⟩))) {t:TypeId}{cc:LB} (hc:LB.ok cc)
  (hW:W.heap[b]?=some (.cells (LB.cz cc).toArray t (0,0))) (hm:s.m b=none) (hn:W0.heap.size<=b) (ho:b∉ρ):
  iG nt D m0 W0 (ρ++[b]) ⟨fO s.fr (some d) (.p s.L.length 0),s.L++[(t,cc)],s.m,s.x⟩ a W:=by
 have hlen:=hr.len;refine⟨hr.defers,hr.size,λi=>?_,by simp[hlen],?_,?_,hr.after,hr.z7⟩
 ·show fO s.fr (some d) _ i= .any\/_
  simp only[mn,aM];by_cases e:d=i
  ·subst e
   rw[aC rfl];refine .inr ⟨?_,trivial,by simp[SV.under,hlen]⟩;rw[hs];simp[eY,<-hlen]
  ·rw[if_neg e]
   rcases hr.nB i with h1|⟨h1,h2,h3⟩
   ·grind
   ·exact .inr ⟨by rw[EY h3];exact h1,h2,SV.Gc h3 (by simp)⟩
 ·intro h t' c' hh
  by_cases bH:h<s.L.length
  ·rw[aT bH]at hh
   have hg:(ρ++[b]).getD h 0=ρ.getD h 0:=by
    grind
   rw[hg];exact hr.rz h t' c' hh
  grind
 ·rw[List.nodup_append]
  refine⟨hr.ot,by simp,?_⟩
  grind
theorem iG.VZ{ρ:List Nat}{s:St}{a:Act}{W:World}(hr:iG nt D m0 W0 ρ s a W){d b:Nat}(hs:a.tmps[d]?=some (.pointer (some ⟨b,0,none⟩))) {o:Obj}
  (hW:W.heap[b]?=some o) (hm:s.m b=none) (hn:W0.heap.size<=b) (ho:b∉ρ):
  iG nt D m0 W0 ρ ⟨fO s.fr (some d) (.c (.v (.pointer (some ⟨b,0,none⟩)))),s.L,s.m.set b o,s.x⟩ a W:=by
 refine⟨hr.defers,hr.size,λi=>?_,hr.len,?_,hr.ot,?_,?_⟩
 ·show fO s.fr (some d) _ i= .any\/_
  simp only[mn,aM];by_cases e:d=i
  ·subst e
   rw[aC rfl];exact .inr ⟨hs,rfl,trivial⟩
  ·rw[if_neg e];exact hr.nB i
 ·intro i t' c'' hi
  obtain⟨k1,k2,k3,k4⟩:=hr.rz i t' c'' hi;have bH:i<ρ.length:=by rw[hr.len];exact(aQ.1 hi).1
  have ga:ρ.getD i 0≠b:=λe=>ho (e▸nf bH);exact⟨k1,k2,by show aD.set _ _ _ _=_;rw[aD.eH _ _ ga];exact k3,k4⟩
 ·have ha:=hr.after
  show cr m0 W0 (s.m.set b o) W
  refine⟨λx u hx=>?_,ha.size,ha.tape,ha.os,ha.output,λx hx OS=>?_,ha.drawn⟩
  ·by_cases e:x=b
   ·subst e;rw[aD.bg]at hx;cases hx;exact hW
   ·rw[aD.eH _ _ e]at hx;exact ha.jF x u hx
  ·obtain⟨q1,q2⟩:=ha.frame x hx OS
   exact⟨by rw[aD.eH _ _ (by omega)];exact q1,q2⟩
 ·intro x hx
  obtain⟨u,hu⟩:=hr.z7 x hx;exact⟨u,aD.bT _ hm x u hu⟩
theorem iG.ahead{ρ:List Nat}{s:St}{a:Act}{W:World}(hr:iG nt D m0 W0 ρ s a W){d:Nat}(hs:s.fr d= .any)(v:Value)(o:Obj):iG nt D m0 W0 ρ s (a.put (some d) v) (W.alloc o):=by
 refine⟨by rw[Act.ji];exact hr.defers,by rw[Act.kv];exact hr.size,λi=>?_,hr.len,?_,hr.ot,hr.after.IU o,hr.z7⟩
 ·by_cases e:d=i
  ·grind
  ·rcases hr.nB i with h1|⟨h1,h2⟩
   ·grind
   ·refine .inr ⟨?_,h2⟩
    simp only[Act.put]
    grind
 ·intro i t' c'' hi
  obtain⟨k1,k2⟩:=hr.rz i t' c'' hi;exact⟨by rw[heap_alloc_old W _ (bE.1 k1).1];exact k1,k2⟩
end
section
variable {c:fD}{nt:Nat}{D:List Deferred}{m0:aD}{W0:World}{Q:Exit->Act->World->Prop}{am:Array Oper}
theorem wO{T:lz}{j:Nat}(h:gA T am j=true):∃o t ti d,am[j]?=some o/\o.op= .alloc t/\o.guard=none/\o.dst=some d/\T t=some ti:=by
 unfold gA at h
 split at h
 ·rename_i o ho
  split at h
  ·rename_i t ht
   simp only[aB]at h;obtain⟨⟨h1,h2⟩,h3⟩:=h;obtain⟨d,hd⟩:=mh.1 h2;obtain⟨ti,DJ⟩:=mh.1 h3
   simp_all
  ·simp at h
 ·simp at h
theorem He{r:List (Nat×Ks)}{i:Nat}(h:(!(r.any λx=>x.1==i))=true)(k:Ks):(i,k)∉r:=by
 grind
def sx(M:Nat->Option Nat)(l:List (Nat×Ks)):RE:=l.map λx=>(x.1,x.2,M x.1)
theorem jb{M:Nat->Option Nat}{l:List (Nat×Ks)}{j:Nat}{k:Ks}{b:Option Nat}:(j,k,b)∈sx M l↔(j,k)∈l/\M j=b:=by
 simp only[sx,aV,cV]
 grind
theorem aeI{r r':RE}(h:r.Perm r'):vz r=vz r':=by
 induction h with
 |nil=>rfl
 |cons x _ ih=>obtain⟨j,k,b⟩:=x;cases b<;>simp only[vz,ih]
 |swap x y l=>obtain⟨j,k,b⟩:=x;obtain⟨j',k',b'⟩:=y;cases b<;>cases b'<;>simp only[vz]
 |trans _ _ ih1 ih2=>exact ih1.trans ih2
theorem Ss{M:Nat->Option Nat}{j b:Nat}(hM:M j=none):∀{l:List (Nat×Ks)}{k:Ks},(l.map Prod.fst).Nodup->(j,k)∈l->vz (sx (λx=>if x=j then some b else M x) l)+1=vz (sx M l)
 |[],_,_,h=>by cases h
 |(i,k')::l,k,hn,h=>by
  rw[aZ,nU]at hn;by_cases e:i=j
  ·subst e
   have same:sx (λx=>if x=i then some b else M x) l=sx M l:=by
    unfold sx;refine eu λx hx=>?_;have ga:x.1≠i:=λe=>hn.1 (aV.2 ⟨x,hx,e⟩);simp[ga]
   show vz ((i,k',(if i=i then some b else M i))::sx (λx=>if x=i then some b else M x) l)+1=vz ((i,k',M i)::sx M l)
   rw[aC rfl,hM,same];rfl
  ·rcases aU.1 h with e'|h
   ·simp only[cV]at e';exact absurd e'.1.symm e
   ·have ih:=Ss (b:=b) hM hn.2 h
    show vz ((i,k',(if i=j then some b else M i))::sx (λx=>if x=j then some b else M x) l)+1=vz ((i,k',M i)::sx M l)
    rw[if_neg e]
    cases M i<;>simp only[vz]<;>omega
theorem akT{a b:Ks}(h:ksB a b=true):a=b:=by
 cases a<;>cases b<;>simp[ksB]at h<;>first|rfl|(subst h;rfl)
theorem PK{x:Nat×Ks}:∀{l l':List (Nat×Ks)},rmB x l=some l'->l.Perm (x::l')
 |[],_,h=>by simp[rmB]at h
 |y::l,l',h=>by
  simp only[rmB]at h
  cases hb:(Nat.beq x.1 y.1&&ksB x.2 y.2)with
  |true=>
   simp only[hb,cond_true,aM]at h;subst h;simp only[aB]at hb;have e1:=bu hb.1;have e2:=akT hb.2;obtain⟨a,b⟩:=x;obtain⟨a',b'⟩:=y
   simp only at e1 e2;subst e1;subst e2;exact .refl _
  |false=>
   simp only[hb,cond_false]at h
   cases hr:rmB x l with
   |none=>simp[hr]at h
   |some l2=>
    simp only[hr,aM]at h;subst h;exact((PK hr).cons y).trans (List.Perm.swap x y l2)
theorem A3:∀{a b:List (Nat×Ks)},P2 a b=true->a.Perm b
 |[],[],_=>.refl _
 |[],_::_,h=>by simp[P2]at h
 |x::a,b,h=>by
  simp only[P2]at h
  cases hr:rmB x b with
  |none=>simp[hr]at h
  |some b'=>
   simp only[hr]at h;exact((A3 h).cons x).trans (PK hr).symm
theorem acM{M:Nat->Option Nat}{a b:List (Nat×Ks)}(h:a.Perm b):(sx M a).Perm (sx M b):=h.map _
inductive XP:OT->Nat->Ks->OT->Prop
 |op {i:Nat}{k:Ks}{r:OT}:XP (.op i k r) i k r
 |left {a b:OT}{i:Nat}{k:Ks}{r:OT} (h:XP a i k r):XP (.or a b) i k r
 |right {a b:OT}{i:Nat}{k:Ks}{r:OT} (h:XP b i k r):XP (.or a b) i k r
theorem vg:∀{t:OT}{i:Nat},i∈t.oy->∃k r,XP t i k r
 | .nil,_,h=>by simp[OT.oy]at h
 | .op i k r,j,h=>by simp[OT.oy]at h;subst h;exact⟨k,r,.op⟩
 | .or a b,j,h=>by
  simp only[OT.oy,aR]at h;rcases h with h|h
  ·obtain⟨k,r,h⟩:=vg h;exact⟨k,r,.left h⟩
  ·obtain⟨k,r,h⟩:=vg h;exact⟨k,r,.right h⟩
theorem XP.ok{T:lz}{ms:List Nat}{H:List Nat}{t:OT}{i:Nat}{k:Ks}{r:OT}(h:XP t i k r):kY T am ms H t=true->t.co.Perm ((i,k)::r.co)/\wT T am ms H i k r.co=true/\kY T am ms r.oy r=true:=by
 induction h with
 |op=>intro hs;simp only[kY,aB]at hs;exact⟨.refl _,hs.1,hs.2⟩
 |left _ ih=>intro hs;simp only[kY,aB]at hs;exact ih hs.1.2
 |right _ ih=>
  intro hs;simp only[kY,aB]at hs
  obtain⟨h1,h2⟩:=ih hs.2;exact⟨(A3 hs.1.1).trans h1,h2⟩
theorem XP.run{ms:List Nat}{s0:St}{K:St->Prop}{s:St}{t:OT}{i:Nat}{k:Ks}{r:OT}(h:XP t i k r):rh c am.toList ms s0 t K s->∃o,am[i]?=some o/\ov c.T s0 ms i o s r.co=true/\xop c am.toList o (JB s0 k) s (rh c am.toList ms s0 r K):=by
 induction h with
 | @op i k r=>
  intro h;simp only[rh,pq,bU]at h
  cases ho:am[i]? with
  |none=>simp[ho]at h
  |some o=>
   simp only[ho]at h
   cases hl:ov c.T s0 ms i o s r.co with
   |false=>simp[hl]at h
   |true=>simp only[hl,cond_true]at h;exact⟨o,rfl,hl,h⟩
 |left _ ih=>intro h;exact ih h.1
 |right _ ih=>intro h;exact ih h.2
theorem yd{T:lz}{ms:List Nat}:∀{t:OT}{H:List Nat},kY T am ms H t=true->(t.co.map Prod.fst).Nodup
 | .nil,_,_=>List.nodup_nil
 | .or a b,H,h=>by simp only[kY,aB]at h;exact yd (t:=a) h.1.2
 | .op i k r,H,h=>by
  simp only[kY,aB]at h;obtain⟨h0,h1⟩:=h
  show((i,k)::r.co).map Prod.fst |>.Nodup
  rw[aZ,nU];refine⟨?_,yd h1⟩
  cases ho:am[i]? with
  |none=>simp[wT,ho]at h0
  |some o=>
   simp only[wT,ho,aB]at h0;intro hm;obtain⟨⟨i',k'⟩,rC,e⟩:=aV.1 hm;simp only at e;subst e;exact He h0.1.2 k' rC
theorem ye{T:lz}{ms:List Nat}:∀{t:OT}{H:List Nat},kY T am ms H t=true->∀x∈t.co,∀y∈t.co,x.1≠y.1->gA T am x.1=true->gA T am y.1=true->mw am x.1 y.1=true\/mw am y.1 x.1=true
 | .nil,_,_,x,hx,_,_,_,_,_=>by cases hx
 | .or a b,H,h,x,hx,y,hy,ga,AH,hay=>by simp only[kY,aB]at h;exact ye (t:=a) h.1.2 x hx y hy ga AH hay
 | .op i k r,H,h,x,hx,y,hy,ga,AH,hay=>by
  simp only[kY,aB]at h;obtain⟨h0,h1⟩:=h
  have one:gA T am i=true->∀z∈r.co,gA T am z.1=true->mw am i z.1=true:=by
   intro hi z hz haz;obtain⟨o,t,ti,d,ho,oL,_⟩:=wO hi;simp only[wT,ho,aB]at h0;have h3:=h0.2;rw[oL,if_neg (by simp[sM])]at h3;simp only[aB]at h3;have:=bL.1 h3.2 z hz;simp only[eM,aB,haz,Bool.not_true,cU,and_false,false_or,rH]at this;exact this.1
  rcases aU.1 (show x∈(i,k)::r.co from hx)with rfl|xq<;>rcases aU.1 (show y∈(i,k)::r.co from hy)with rfl|I7
  ·exact absurd rfl ga
  ·exact .inl (one AH y I7 hay)
  ·exact .inr (one hay x xq AH)
  ·exact ye h1 x xq y I7 ga AH hay
theorem Xs{ms:List Nat}{s0:St}{K:St->Prop}{s:St}:∀{t:OT},t.co=[]->rh c am.toList ms s0 t K s->K s
 | .nil,_,h=>h
 | .op _ _ _,e,_=>by simp[OT.co]at e
 | .or a b,e,h=>Xs (t:=a) e h.1
theorem Cb{T:lz}{ms:List Nat}:∀{t:OT}{H:List Nat},kY T am ms H t=true->t.co≠[]->t.oy≠[]
 | .nil,_,_,h=>absurd rfl h
 | .op _ _ _,_,_,_=>by simp[OT.oy]
 | .or a b,H,hs,h=>by
  simp only[kY,aB]at hs;have:=Cb (t:=a) hs.1.2 h;simp only[OT.oy];intro e;exact this (List.append_eq_nil_iff.1 e).1
theorem ZG{T:lz}{ms:List Nat}{a b:OT}{H:List Nat}(hs:kY T am ms H (.or a b)=true)(h:(OT.or a b).co≠[]):2<=(OT.or a b).oy.length:=by
 simp only[kY,aB]at hs;have h1:=Cb (t:=a) hs.1.2 h;have h2:=Cb (t:=b) hs.2 (λe=>h (by have:=A3 hs.1.1;rw[e]at this;exact List.perm_nil.1 this));have p1:=qS.2 h1;have p2:=qS.2 h2;simp only[OT.oy,ax];omega
theorem J9.fm{od:List (Nat×Ks)}{ρ0:List Nat}{r r':RE}{La:Array Bool}{s:St}{ρ:List Nat}{a:Act}{W:World}(h:J9 c nt D m0 W0 am od ρ0 r La s ρ a W)(hp:r.Perm r'):J9 c nt D m0 W0 am od ρ0 r' La s ρ a W:=
 ⟨h.rel,h.cl,h.lsz,λj hj hu=>(h.S9 j hj hu).imp λk hk=>hp.mem_iff.1 hk,λj k hm=>h.HP j k (hp.mem_iff.2 hm),λx hx=>(h.odr x hx).imp (λ⟨b,hb⟩=>⟨b,hp.mem_iff.1 hb⟩) id,λj k b hm=>h.rod j k b (hp.mem_iff.2 hm),
  λj k b hm=>h.EV j k b (hp.mem_iff.2 hm),λj k j' k' b h1 h2=>h.aev j k j' k' b (hp.mem_iff.2 h1) (hp.mem_iff.2 h2),λj k b o d hm=>h.aaw j k b o d (hp.mem_iff.2 hm),h.ext⟩
theorem afw{s0:St}{ms:List Nat}{i:Nat}{x:SV}:∀{l:List (Nat×Ks)},xp s0 ms i x l=true->∀j r,(j,Ks.xa r)∈l->tw ms j i=false->Iw x (s0.fr r)=true
 |[],_,_,_,h,_=>by cases h
 |(j',k')::l,h,j,r,hm,ht=>by
  have tail:xp s0 ms i x l=true:=by
   cases k'<;>simp only[xp,aB]at h<;>first|exact h|exact h.2
  rcases aU.1 hm with e|hm
  ·simp only[cV]at e
   obtain⟨rfl,rfl⟩:=e;simp only[xp,aB,ht,cond_false]at h;exact h.1
  ·exact afw tail j r hm ht
theorem Qy{s0:St}{ms:List Nat}{i:Nat}{x:SV}:∀{l:List (Nat×Ks)},xp s0 ms i x l=true->∀j,(j,Ks.new)∈l->tw ms j i=false->agB s0.L.length x=true
 |[],_,_,h,_=>by cases h
 |(j',k')::l,h,j,hm,ht=>by
  have tail:xp s0 ms i x l=true:=by
   cases k'<;>simp only[xp,aB]at h<;>first|exact h|exact h.2
  rcases aU.1 hm with e|hm
  ·simp only[cV]at e
   obtain⟨rfl,rfl⟩:=e;simp only[xp,aB,ht,cond_false]at h;exact h.1
  ·exact Qy tail j hm ht
theorem Y3{ρ ρ0 e:List Nat}{x:SV}{b n:Nat}(he:ρ=ρ0++e)(hn:n=ρ0.length)(hb:ug ρ x=some b)(ho:agB n x=true):b∈ρ0:=by
 have key:∀h,Nat.blt h n=true->ρ.getD h 0∈ρ0:=by
  intro h hh;have:=pK.1 hh
  grind
 cases x<;>simp only[agB,ug,aM]at ho hb<;>first|(cases ho;done)|(subst hb;exact key _ ho)
theorem VH{ρ ρ0:List Nat}{s s0:St}{a:Act}{W:World}(hr:iG nt D m0 W0 ρ s a W){e:List Nat}(he:ρ=ρ0++e){xo:Operand}{b:Nat}(hb:ug ρ (ev s xo)=some b)(zw:∀y,ev s xo= .c y->∃o,s.m b=some o)
  {r h off:Nat} (hr0:s0.fr r= .p h off) (hh:h<ρ0.length) (hd:Iw (ev s xo) (s0.fr r)=true):b≠ρ0.getD h 0:=by
 have hg:ρ0.getD h 0=ρ.getD h 0:=by
  rw[he];simp only[aI];rw[aT hh]
 have alw:h<ρ.length:=by rw[he];simp;omega
 rw[hg];rw[hr0]at hd
 have loc:∀h',h'<ρ.length->h'≠h->ρ.getD h' 0≠ρ.getD h 0:=by
  intro h' hl ga e';simp only[aI,az hl,az alw,jA]at e';exact ga (zp hr.ot hl alw e')
 have ga:ev s xo≠.any:=by intro e';rw[e']at hb;simp[ug]at hb
 have hu:=(hr.Oh xo ga).2
 cases hx:ev s xo with
 |p h' o'=>
  rw[hx]at hd hb hu;simp only[Iw,dH]at hd;simp only[ug,aM]at hb;subst hb;exact loc h' hu (λe'=>by subst e';rw[Ao]at hd;cases hd)
 |q h' o' d'=>
  rw[hx]at hd hb hu;simp only[Iw,dH]at hd;simp only[ug,aM]at hb;subst hb;exact loc h' hu (λe'=>by subst e';rw[Ao]at hd;cases hd)
 |sl h' o' d' n' c'=>
  rw[hx]at hd hb hu;simp only[Iw,dH]at hd;simp only[ug,aM]at hb;subst hb;exact loc h' hu (λe'=>by subst e';rw[Ao]at hd;cases hd)
 |c x=>
  intro e';have hn:=(hr.dE alw).1;obtain⟨o,ho⟩:=zw x hx;rw[e',hn]at ho;cases ho
 |_=>rw[hx]at hd;simp[Iw]at hd
theorem XU(hT:fW c.P c.T)(hd:∀o∈am.toList,nN o.dst nt)(ahp:Region.noSelect am=true){ms:List Nat}(Q8:FJ am ms=true){K:St->Prop}(hQ:∀s ρ a W,K s->iG nt D m0 W0 ρ s a W->Q .normal a W)
  (hP:∀ch a d v w,Q (.panic ch) (a.put d v) w->Q (.panic ch) a w) (od:List (Nat×Ks)) (s0:St) (ρ0:List Nat) (MS:∀i h off,s0.fr i= .p h off->h<ρ0.length) (hL0:s0.L.length=ρ0.length):
  ∀(n:Nat) (t:OT) (M:Nat->Option Nat) (La:Array Bool) (s:St) (ρ:List Nat) (a:Act) (W:World),t.co.length+vz (sx M t.co)=n->J9 c nt D m0 W0 am od ρ0 (sx M t.co) La s ρ a W->kY c.T am ms t.oy t=true->
   rh c am.toList ms s0 t K s->∃Φ,Holds Φ W/\(∀f∈kp ρ s.x W,f∈Φ)/\uk c.P am Q (λj f=>∀k,(j,k)∈od->E4 s0 ρ0 f k) (vz (sx M t.co)) Φ La a W:=by
 intro n
 induction n using Nat.strongRecOn with
 |_ n ih=>
 intro t M La s ρ a W hn hI dI h;have hr:=hI.rel;by_cases Bh:t.co=[]
 ·
  have hk:=Xs Bh h;rw[Bh]at hI⊢;refine⟨kp ρ s.x W,AI _ _ _,λf hf=>hf,?_,hQ s ρ a W hk hr⟩;refine List.eq_nil_iff_forall_not_mem.2 λj hj=>?_;obtain⟨hju,oj,JM,_⟩:=mem_ready.1 hj;obtain⟨k,hk⟩:=hI.S9 j (bE.1 JM).1 hju;cases hk
 have Oy:∀(i:Nat) (k:Ks) (t':OT),XP t i k t'->M i=none->∃o,am[i]?=some o/\ov c.T s0 ms i o s t'.co=true/\xop c am.toList o (JB s0 k) s (rh c am.toList ms s0 t' K)/\
   J9 c nt D m0 W0 am od ρ0 ((i,k,none)::sx M t'.co) La s ρ a W/\i∈Region.ready .any am La/\(∀k',(i,k')∉t'.co)/\
   (∀j k' b',(j,k',b')∈sx M t'.co->(tw ms j i=true/\gA c.T am j=false)\/mw am i j=true\/gA c.T am j=false)/\
   t'.co.length+vz (sx M t'.co)<n/\vz (sx M t.co)=vz (sx M t'.co)+1:=by
  intro i k t' hA hMi;obtain⟨hp,W7,aAj⟩:=hA.ok dI;obtain⟨o,ho,hlo,hxo⟩:=hA.run h
  have hpr:(sx M t.co).Perm ((i,k,none)::sx M t'.co):=by
   have:=acM (M:=M) hp;rw[show sx M ((i,k)::t'.co)=(i,k,M i)::sx M t'.co from rfl,hMi]at this;exact this
  have Tf:=hI.fm hpr;have alu:=Tf.HP i k (dv ..);simp only[wT,ho,aB]at W7;obtain⟨⟨aps,ahn⟩,th⟩:=W7;have Q5:∀k',(i,k')∉t'.co:=λk'=>He ahn k';have Ro:vz (sx M t.co)=vz (sx M t'.co)+1:=by rw[aeI hpr];rfl
  have hlen:t.co.length=t'.co.length+1:=by rw[hp.length_eq];rfl
  refine⟨o,ho,hlo,hxo,Tf,mem_ready.2 ⟨alu,o,ho,λe he hb=>?_⟩,Q5,λj k' b' rC=>?_,by omega,Ro⟩
  ·have:=(Array.all_eq_true_iff_forall_mem.1 aps) e he
   simp only[eM,aB,hb,Bool.not_true,cU,false_or]at this;have bH:e.on<am.size:=pK.1 this.1;have Ae:e.on<La.size:=by rw[hI.lsz];exact bH
   cases hl:La.getD e.on true with
   |false=>
    obtain⟨k',ve⟩:=Tf.S9 e.on bH hl;refine absurd ?_ (He this.2 k');rcases aU.1 ve with e'|e'
    ·simp only[cV]at e';rw[e'.1,e'.2.1];exact dv ..
    ·exact bO _ (jb.1 e').1
   |true=>simp[Ae]at hl⊢;exact hl
  ·have zw:=(jb.1 rC).1
   by_cases hf:sM c.T o.op=true
   ·rw[aC hf]at th
    simp only[aB]at th;have:=bL.1 th.2 (j,k') zw;simp only[eM,aB]at this;rcases this with h'|h'
    ·exact .inl ⟨h'.1,by simpa using h'.2⟩
    ·exact .inr (.inl h'.1)
   ·rw[if_neg hf]at th
    simp only[aB]at th;have:=bL.1 th.2 (j,k') zw;simp only[eM,aB]at this;rcases this with(h'|h')|h'
    ·exact .inr (.inr (by simpa using h'.2))
    ·exact .inr (.inl h'.1)
    ·exact .inr (.inr (by simpa using h'.2))
 have step:∀(i:Nat) (k:Ks) (o:Oper) (r':RE),am[i]?=some o->J9 c nt D m0 W0 am od ρ0 ((i,k,none)::r') La s ρ a W->i∈Region.ready .any am La->(∀k' b',(i,k',b')∉r')->
   (∀j k' b',(j,k',b')∈r'->(tw ms j i=true/\gA c.T am j=false)\/mw am i j=true\/gA c.T am j=false)->∀(s':St) (ρ':List Nat) (v:Value) (W':World),iG nt D m0 W0 ρ' s' (a.put o.dst v) W'->(∃e,ρ'=ρ++e)->(∀y,o.dst≠some y->(s'.fr y=s.fr y\/s.fr y≠.any))->
    (∀b,b<W.heap.size->s.m b=none->b∉ρ->W'.heap[b]?=W.heap[b]?/\s'.m b=none/\b∉ρ')->
    J9 c nt D m0 W0 am od ρ0 r' (La.setIfInBounds i true) s' ρ' (a.put o.dst v) W':=by
  intro i k o r' ho hI DK Q5 later s' ρ' v W' tY ⟨e,he⟩ DQ DL;have alu:=hI.HP i k (dv ..);have auL:=xG alu;have jG:∀dd,(La.setIfInBounds i true).getD i dd=true:=mZ auL
  refine⟨tY,hI.cl.set DK,by simp[hI.lsz],λj hj hju=>?_,λj k' rC=>?_,λx xq=>?_,λj k' b' rC=>hI.rod j k' b' (bO _ rC),λj k' b' rC=>?_,
   λj k' j' k'' b' h1 h2=>hI.aev j k' j' k'' b' (bO _ h1) (bO _ h2),λj k' b' o' d' rC Bj OR uA=>?_,?_⟩
  ·have JQ:i≠j:=λe'=>by subst e';rw[jG]at hju;cases hju
   rw[getD_set_ne true JQ]at hju;obtain⟨k',ve⟩:=hI.S9 j hj hju;rcases aU.1 ve with e'|e'
   ·exact absurd (be Prod.fst e').symm JQ
   ·exact⟨k',e'⟩
  ·have JQ:i≠j:=λe'=>by subst e';exact Q5 k' _ rC
   rw[getD_set_ne true JQ];exact hI.HP j k' (bO _ rC)
  ·by_cases hxi:i=x.1
   ·rw[<-hxi];exact .inr (jG _)
   ·rcases hI.odr x xq with⟨b',qB⟩|h'
    ·rcases aU.1 qB with e'|e'
     ·exact absurd (be Prod.fst e').symm hxi
     ·exact .inl ⟨b',e'⟩
    ·rw[getD_set_ne false hxi];exact .inr h'
  ·obtain⟨g1,g2⟩:=hI.EV j k' b' (bO _ rC)
   obtain⟨o',t',ti',d',p1,p2,p3,p4,p5,p6,p7⟩:=g2.eF;have JQ:i≠j:=λe'=>by subst e';exact Q5 k' _ rC
   have alI:b'<W.heap.size:=(bE.1 p6).1;obtain⟨q1,q2,q3⟩:=DL b' alI g2.dE g2.ux
   have Rj:o.dst≠some d':=by
    have Bj:gA c.T am j=true:=by simp[gA,p1,p2,p3,p4,p5]
    rcases later j k' (some b') rC with h'|h'|h'
    ·rw[Bj]at h';cases h'.2
    rotate_left
    ·rw[Bj]at h';cases h'
    ·simp only[mw,ho,p1]at h'
     exact λe'=>(Oper.apart_spec h').2.1 d' e' p4
   refine⟨by rw[getD_set_ne false JQ];exact g1,⟨⟨o',t',ti',d',p1,p2,p3,p4,p5,by rw[q1];exact p6,?_⟩,q2,g2.new,q3⟩⟩
   cases hod:o.dst with
   |none=>exact p7
   |some y=>
    simp only[Act.put];rw[jh (λe'=>Rj (by rw[hod,e']))];exact p7
  ·have Rj:o.dst≠some d':=by
    rcases later j k' b' rC with h'|h'|h'
    ·rw[Bj]at h';cases h'.2
    rotate_left
    ·rw[Bj]at h';cases h'
    ·simp only[mw,ho,OR]at h'
     exact λe'=>(Oper.apart_spec h').2.1 d' e' uA
   have H3:=hI.aaw j k' b' o' d' (bO _ rC) Bj OR uA;rcases DQ d' Rj with h'|h'
   ·rw[h'];exact H3
   ·exact absurd H3 h'
  ·obtain⟨e0,Xi⟩:=hI.ext
   exact⟨e0++e,by rw[he,Xi,aX]⟩
 obtain⟨e0,Xi⟩:=hI.ext
 have node:(∀i k t' o,XP t i k t'->am[i]?=some o->sM c.T o.op=false)->(∀i∈t.oy,M i=none)->
   ∃Φ,Holds Φ W/\(∀f∈kp ρ s.x W,f∈Φ)/\uk c.P am Q (λj f=>∀k,(j,k)∈od->E4 s0 ρ0 f k) (vz (sx M t.co)) Φ La a W:=by
  intro hfl hMn;obtain⟨i0,Ja⟩:=List.exists_mem_of_ne_nil _ (Cb dI Bh);obtain⟨k0,t0,hA0⟩:=vg Ja;obtain⟨o0,ho0,aAQ,hx0,hI0,Xa,axH,atl,adL,aqp⟩:=Oy i0 k0 t0 hA0 (hMn i0 Ja);refine⟨kp ρ s.x W,AI _ _ _,λf hf=>hf,?_⟩;rw[aqp];refine⟨λh0=>(by rw[h0]at Xa;cases Xa),λj hj=>?_⟩;by_cases hjh:j∈t.oy
  ·obtain⟨k,t',hA⟩:=vg hjh
   obtain⟨o,ho,hlo,hx,Tf,DK,Q5,later,bH,Ro⟩:=Oy j k t' hA (hMn j hjh);have DM:(j,k)∈od:=Tf.rod j k none (dv ..);have hdi:nN o.dst nt:=hd o (by rw[<-bU]at ho;exact dJ ho);have Ta:=O6 (Q:=Q) hT hr ho hdi hx;refine wpOp_mono (λa' W' hp=>?_) Ta;obtain⟨s',e,h1,h2,h3,h4,⟨v,rfl⟩,h6⟩:=hp
   have hIn:=step j k o _ ho Tf DK (λk' b' hm=>Q5 k' (jb.1 hm).1) later s' (ρ++e) v W' h2 ⟨e,rfl⟩ h6 (λb hb hm hρ=>by
    obtain⟨q1,q2,q3⟩:=h4 b hb hm hρ
    exact⟨q1,q2,λzw=>(aR.1 zw).elim hρ q3⟩)
   obtain⟨Φ',g1,g2,g3⟩:=ih _ bH t' M (La.setIfInBounds j true) s' (ρ++e) _ W' rfl hIn (hA.ok dI).2.2 h1;have Vg:vz (sx M t'.co)=vz (sx M t0.co):=by omega
   rw[Vg]at g3;refine⟨Φ',g1,λf hf hF=>?_,g3⟩;have hk:=hF k DM
   have cR:(∀b,b∈ρ\/b∈s.x->(b,W.heap[b]?)=f->W'.heap[b]?=W.heap[b]?)->(∀b∈s.x,b∈s'.x)->f∈Φ':=by
    intro kW oM;refine g2 f ?_;simp only[kp,aV,aR]at hf⊢;obtain⟨b,hb,rfl⟩:=hf;exact⟨b,hb.imp .inl (oM b),by rw[kW b hb rfl]⟩
   cases k with
   |all=>exact cR (λb hb _=>h3.1 b hb) h3.2
   |none=>exact hk.elim
   |xa rr=>
    simp only[JB]at h3
    cases ahr:s0.fr rr with
    |p hh off=>
     rw[ahr]at h3;have hhl:=MS _ _ _ ahr;have ga:=hk hh off ahr;refine cR (λb hb e'=>?_) h3.2;subst e';refine h3.1 b (hr.FF hb) (λe'=>ga ?_)
     have hg:ρ0.getD hh 0=ρ.getD hh 0:=by
      rw[Xi];simp only[aI];rw[aT hhl]
     rw[hg];exact e'
    |_=>rw[ahr]at h3;exact cR (λb hb _=>h3.1 b hb) h3.2
   |new=>
    simp only[JB]at h3;refine cR (λb hb e'=>?_) h3.2;subst e';have zw:b∈ρ0:=hk;refine h3.1 b ?_;rw[Xi,hL0,dD (aW _),bP (aW _)];exact zw
  ·
   obtain⟨Rb,oj,JM,cM⟩:=mem_ready.1 hj;obtain⟨kj,hkj⟩:=hI.S9 j (bE.1 JM).1 Rb;have hMj:M j=none:=(jb.1 hkj).2;have alo:(j,kj)∈t.co:=(jb.1 hkj).1
   have auC:(j,kj)∈t0.co:=by
    rcases aU.1 ((hA0.ok dI).1.mem_iff.1 alo)with e'|e'
    ·simp only[cV]at e';exact absurd (e'.1▸Ja) hjh
    ·exact e'
   have apt:=(hA0.ok dI).2.1;simp only[wT,ho0,aB]at apt;have th:=apt.2;rw[hfl i0 k0 t0 o0 hA0 ho0,if_neg Bool.false_ne_true]at th;simp only[aB]at th
   have Rp:gA c.T am j=true:=by
    have:=bL.1 th.2 (j,kj) auC;simp only[eM,aB]at this;rcases this with(h'|h')|h'
    ·obtain⟨h1,h2,h3⟩:=dh.1 h'.1
     obtain⟨k1,t1,Tg⟩:=vg h2;have hI1:=(Oy h1 k1 t1 Tg (hMn h1 h2)).choose_spec.2.2.2.1;exact absurd (ajn Q8 hI.cl h1 j oj JM cM h3) (DD (hI1.HP h1 k1 (dv ..)))
    ·exact h'.2
    ·exact absurd (by simpa using h'.1) hjh
   obtain⟨o',ty,ti,d,p1,p2,p3,p4,p5⟩:=wO Rp;rw[JM]at p1;cases p1
   obtain⟨z,QY,hz2⟩:=(hT ty ti p5).PJ
   have lm:(execOp a.eval oj).run c.P W= .ok (.value (.pointer (some ⟨W.heap.size,0,none⟩))) (W.alloc (.cells (LB.cz ti.zero).toArray ty)):=by
    simp[execOp,p2,Instr.alloc,hz2,newVar,newRow,newObj,QY,Sem.run]
   unfold wpOp;simp only[JM];rw[aC (by simp[Region.wanted,p3])];refine .inl ?_;unfold Oper.wp;rw[lm];have H3:=hI.aaw j kj none oj d hkj Rp JM p4
   let M':Nat->Option Nat:=λx=>if x=j then some W.heap.size else M x
   have avr:M' j=some W.heap.size:=by simp[M']
   have aqJ:∀x,x≠j->M' x=M x:=λx hx=>by simp[M',hx]
   have NR:(t.co.map Prod.fst).Nodup:=yd dI;have ax7:vz (sx M' t.co)+1=vz (sx M t.co):=Ss hMj NR alo
   have jK:∀j' k' b',(j',k',b')∈sx M' t.co->(j'=j/\(j',k')∈t.co/\b'=some W.heap.size)\/(j'≠j/\(j',k',b')∈sx M t.co):=by
    intro j' k' b' hm;obtain⟨q1,q2⟩:=jb.1 hm;by_cases e':j'=j
    ·subst e';rw[avr]at q2;exact .inl ⟨rfl,q1,q2.symm⟩
    ·rw[aqJ _ e']at q2;exact .inr ⟨e',jb.2 ⟨q1,q2⟩⟩
   have apA:∀j' k' b',(j',k',b')∈sx M t.co->j'≠j->(j',k',b')∈sx M' t.co:=by
    intro j' k' b' hm e';obtain⟨q1,q2⟩:=jb.1 hm;exact jb.2 ⟨q1,by rw[aqJ _ e'];exact q2⟩
   have hjk:∀k',(j,k')∈t.co->(j,k',none)∈sx M t.co:=λk' ve=>jb.2 ⟨ve,hMj⟩;have adN:=xG Rb;have apk:W.heap.size∉ρ:=λzw=>Nat.lt_irrefl _ (hr.FF (.inl zw))
   have hI2:J9 c nt D m0 W0 am od ρ0 (sx M' t.co) (La.setIfInBounds j true) s ρ (a.put oj.dst (.pointer (some ⟨W.heap.size,0,none⟩))) (W.alloc (.cells (LB.cz ti.zero).toArray ty)):=by
    refine⟨by rw[p4];exact hr.ahead H3 _ _,hI.cl.set hj,by simp[hI.lsz],λj' hj' ahI=>?_,λj' k' rC=>?_,λx xq=>?_,λj' k' b' rC=>?_,λj' k' b' rC=>?_,λj1 k1 j2 k2 b' m1 m2=>?_,λj' k' b' o' d' rC Bj OR uA=>?_,hI.ext⟩
    ·have ga:j≠j':=λe'=>by subst e';rw[mZ adN]at ahI;cases ahI
     rw[getD_set_ne true ga]at ahI;obtain⟨k',ve⟩:=hI.S9 j' hj' ahI;exact⟨k',apA _ _ _ ve (Ne.symm ga)⟩
    ·rcases jK _ _ _ rC with⟨_,_,h'⟩|⟨ga,h'⟩
     ·cases h'
     ·rw[getD_set_ne true (Ne.symm ga)]
      exact hI.HP j' k' h'
    ·by_cases hxj:j=x.1
     ·rw[<-hxj];exact .inr (mZ adN _)
     ·rcases hI.odr x xq with⟨b',qB⟩|h'
      ·exact .inl ⟨b',apA _ _ _ qB (Ne.symm hxj)⟩
      ·rw[getD_set_ne false hxj];exact .inr h'
    ·rcases jK _ _ _ rC with⟨rfl,h',_⟩|⟨_,h'⟩
     ·exact hI.rod _ _ _ (hjk _ h')
     ·exact hI.rod _ _ _ h'
    ·rcases jK _ _ _ rC with⟨rfl,h',qB⟩|⟨ga,h'⟩
     ·cases qB
      refine⟨mZ adN _,⟨⟨oj,ty,ti,d,JM,p2,p3,p4,p5,heap_alloc_new W _,?_⟩,hr.after.jF.none (aW _),hr.after.size,apk⟩⟩;rw[p4];have aqh:nN oj.dst nt:=hd oj (by rw[<-bU]at JM;exact dJ JM);rw[p4]at aqh;have NW:d<a.tmps.size:=by rw[hr.size];exact aqh d rfl
      simp[Act.put,NW]
     ·obtain⟨g1,g2⟩:=hI.EV j' k' b' h'
      obtain⟨o1,t1,ti1,d1,q1,q2,q3,q4,q5,q6,q7⟩:=g2.eF;have alI:b'<W.heap.size:=(bE.1 q6).1;refine⟨by rw[getD_set_ne false (Ne.symm ga)];exact g1,⟨⟨o1,t1,ti1,d1,q1,q2,q3,q4,q5,by rw[heap_alloc_old W _ alI];exact q6,?_⟩,g2.dE,g2.new,g2.ux⟩⟩
      have Rj:d≠d1:=by
       intro e';subst e'
       have auK:(j',k')∈t.co:=(jb.1 h').1;have Bj:gA c.T am j'=true:=by simp[gA,q1,q2,q3,q4,q5]
       rcases ye dI (j,kj) alo (j',k') auK (Ne.symm ga) Rp Bj with h'|h'
       ·simp only[mw,JM,q1]at h'
        exact(Oper.apart_spec h').2.1 d p4 q4
       ·simp only[mw,JM,q1]at h'
        exact(Oper.apart_spec h').2.1 d q4 p4
      rw[p4];simp only[Act.put];rw[jh Rj];exact q7
    ·rcases jK _ _ _ m1 with⟨e1,_,b1⟩|⟨_,h1⟩<;>rcases jK _ _ _ m2 with⟨e2,_,b2⟩|⟨_,h2⟩
     ·exact e1.trans e2.symm
     ·cases b1
      obtain⟨_,_,_,_,_,_,_,_,_,q6,_⟩:=(hI.EV _ _ _ h2).2.eF;have:=(bE.1 q6).1;omega
     ·cases b2
      obtain⟨_,_,_,_,_,_,_,_,_,q6,_⟩:=(hI.EV _ _ _ h1).2.eF;have:=(bE.1 q6).1;omega
     ·exact hI.aev _ _ _ _ _ h1 h2
    ·rcases jK _ _ _ rC with⟨rfl,h',_⟩|⟨_,h'⟩
     ·exact hI.aaw _ _ _ _ _ (hjk _ h') Bj OR uA
     ·exact hI.aaw _ _ _ _ _ h' Bj OR uA
   obtain⟨Φ',g1,g2,g3⟩:=ih (t.co.length+vz (sx M' t.co)) (by omega) t M' (La.setIfInBounds j true) s ρ _ _ rfl hI2 dI h;rw[show vz (sx M' t.co)=vz (sx M t0.co) by omega]at g3;refine⟨Φ',g1,λf yz _=>g2 f (wG (λ_ h=>h) (λ_ h=>h) (λb hb=>heap_alloc_old W _ (hr.FF hb)) f yz),g3⟩
 cases t with
 |nil=>exact absurd rfl Bh
 |or x y=>
  have h2:=ZG dI Bh;refine node (λi k t' o hA ho=>?_) (λi hi=>?_)
  ·have hs:=(hA.ok dI).2.1
   cases hf:sM c.T o.op with
   |false=>rfl
   |true=>
    simp only[wT,ho,hf,oN,aB,gU]at hs;rw[hs.2.1.2]at h2;simp at h2
  ·obtain⟨k,t',hA⟩:=vg hi
   cases hM:M i with
   |none=>rfl
   |some b=>
    have zw:(i,k,some b)∈sx M (OT.or x y).co:=jb.2 ⟨(hA.ok dI).1.mem_iff.2 (dv ..),hM⟩;obtain⟨o,t,ti,d,ho,oL,NU,Rh,DJ,_⟩:=(hI.EV i k b zw).2.eF;have Rp:gA c.T am i=true:=by simp[gA,ho,oL,NU,Rh,DJ]
    have hs:=(hA.ok dI).2.1;have hnf:sM c.T o.op=false:=by rw[oL];rfl
    simp only[wT,ho,hnf,Rp,cU,gS,Bool.not_true,nW,aB,gU]at hs;rw[hs.2.1.2]at h2;simp at h2
 |op i k t'=>
 cases hM:M i with
 |some b=>
  have aqd:(OT.op i k t').co=(i,k)::t'.co:=rfl;have hmk:sx M (OT.op i k t').co=(i,k,some b)::sx M t'.co:=by rw[aqd,<-hM];rfl
  rw[hmk]at hI hn⊢;obtain⟨hiL,hE⟩:=hI.EV i k b (dv ..);obtain⟨o,ty,ti,d,ho,oL,NU,Rh,DJ,hW,ajq⟩:=hE.eF;have Rp:gA c.T am i=true:=by simp[gA,ho,oL,NU,Rh,DJ]
  simp only[kY,wT,ho,aB]at dI;obtain⟨⟨⟨aps,ahn⟩,th⟩,adr⟩:=dI;have hnf:sM c.T o.op=false:=by rw[oL];rfl
  rw[hnf,if_neg Bool.false_ne_true]at th;simp only[aB]at th
  have hka:k= .all:=by
   rw[Rp]at th
   cases k<;>first|rfl|(simp[ade]at th)
  simp only[rh,pq,bU,ho]at h;have hlo:ov c.T s0 ms i o s t'.co=true:=by simp[ov,EB,oL]
  simp only[hlo,cond_true,xop,NU,C2,hnf]at h;simp only[Qe,oL,DJ]at h
  have tail:∀(s':St) (ρ':List Nat),iG nt D m0 W0 ρ' s' a W->(∃e,ρ'=ρ++e/\∀x∈e,x=b)->s'.x=s.x->(∀x,x≠b->s'.m x=s.m x)->(∀y,y≠d->s'.fr y=s.fr y)->rh c am.toList ms s0 t' K s'->
    ∃Φ,Holds Φ W/\(∀f∈kp ρ s.x W,f∈Φ)/\uk c.P am Q (λj f=>∀k,(j,k)∈od->E4 s0 ρ0 f k) (vz (sx M t'.co)) Φ La a W:=by
   intro s' ρ' tY ⟨e,he,hee⟩ hx hm DQ hk
   have hIn:J9 c nt D m0 W0 am od ρ0 (sx M t'.co) La s' ρ' a W:=by
    refine⟨tY,hI.cl,hI.lsz,λj hj hju=>?_,λj k' rC=>hI.HP j k' (bO _ rC),λx xq=>?_,λj k' b' rC=>hI.rod j k' b' (bO _ rC),λj k' b' rC=>?_,
     λj k' j' k'' b' h1 h2=>hI.aev j k' j' k'' b' (bO _ h1) (bO _ h2),λj k' b' o' d' rC Bj OR uA=>?_,?_⟩
    ·obtain⟨k',ve⟩:=hI.S9 j hj hju
     rcases aU.1 ve with e'|e'
     ·simp at e'
     ·exact⟨k',e'⟩
    ·rcases hI.odr x xq with⟨b',qB⟩|h'
     ·rcases aU.1 qB with e'|e'
      ·have:x.1=i:=be Prod.fst e'
       rw[this];exact .inr hiL
      ·exact .inl ⟨b',e'⟩
     ·exact .inr h'
    ·obtain⟨g1,g2⟩:=hI.EV j k' b' (bO _ rC)
     have hbb:b'≠b:=by
      intro e';have:=hI.aev j k' i k b (by rw[<-e'];exact bO _ rC) (dv ..);subst this;exact He ahn k' (jb.1 rC).1
     refine⟨g1,⟨g2.eF,by rw[hm b' hbb];exact g2.dE,g2.new,λzw=>?_⟩⟩;rw[he]at zw;rcases aR.1 zw with h'|h'
     ·exact g2.ux h'
     ·exact hbb (hee b' h')
    ·have ga:d'≠d:=by
      intro e';subst e'
      have JQ:j≠i:=by
       intro e'';subst e''
       exact He ahn k' (jb.1 rC).1
      have hx3:=bL.1 th.2 (j,k') (jb.1 rC).1;simp only[eM,aB]at hx3;rcases hx3 with(h'|h')|h'
      ·rw[Bj]at h';simp at h'
      rotate_left
      ·rw[Bj]at h';simp at h'
      ·have HZ:=h'.1
       simp only[mw,ho,OR]at HZ;have:=(Oper.apart_spec HZ).2.1 d' Rh;exact this uA
     rw[DQ d' ga];exact hI.aaw j k' b' o' d' (bO _ rC) Bj OR uA
    ·obtain⟨e0,Xi⟩:=hI.ext
     exact⟨e0++e,by rw[he,Xi,aX]⟩
   obtain⟨Φ,q1,q2,q3⟩:=ih (t'.co.length+vz (sx M t'.co)) (by rw[<-hn,aqd];simp only[ae,vz];omega) t' M La s' ρ' a W rfl hIn adr hk;refine⟨Φ,q1,λf hf=>q2 f (wG (λx xq=>by rw[he];exact lJ _ xq) (λx xq=>by rw[hx];exact xq) (λ_ _=>rfl) f hf),q3⟩
  cases aqa:aen c o.dst with
  |false=>
   rw[aqa]at h;simp only[JA,Rh]at h;exact tail _ _ (hr.arq ajq (hT ty ti DJ).zok hW hE.dE hE.new hE.ux) ⟨[b],rfl,by simp⟩ rfl (λ_ _=>rfl) (λy hy=>by show fO s.fr (some d) _ y=s.fr y;rw[mn,if_neg (by simpa using λe=>hy e.symm)]) h
  |true=>
   rw[aqa]at h;simp only[JA,Rh]at h;exact tail _ _ (hr.VZ ajq hW hE.dE hE.new hE.ux) ⟨[],by simp,by simp⟩ rfl (λx hx=>aD.eH _ _ hx) (λy hy=>by show fO s.fr (some d) _ y=s.fr y;rw[mn,if_neg (by simpa using λe=>hy e.symm)]) (h b hE.dE)
 |none=>
  obtain⟨o,ho,hlo,h,Tf,DK,Q5,later,adL,Ro⟩:=Oy i k t' .op hM
  cases hf:sM c.T o.op with
  |false=>
   refine node (λi' k2 t2 o' hA OR=>?_) (λi' HR=>?_)
   ·cases hA;rw[ho]at OR;cases OR;exact hf
   ·simp only[OT.oy,aL]at HR;rw[HR];exact hM
  |true=>
   rw[Ro];have adr:kY c.T am ms t'.oy t'=true:=((XP.op (i:=i) (k:=k) (r:=t')).ok dI).2.2;have th:=((XP.op (i:=i) (k:=k) (r:=t')).ok dI).2.1;simp only[wT,ho,hf,oN,aB]at th;have th:=th.2;have hdi:nN o.dst nt:=hd o (by rw[<-bU]at ho;exact dJ ho)
   have take:∀(s':St) (v:Value) (Ψ:List Kb),YieldsIf c.P am (Holds Ψ) o v a->(Ψ≠[]->Bd c.T o.op=true)->(∀f∈Ψ,f∈kp ρ s'.x W)->(∀f∈Ψ,∀j r,(j,Ks.xa r)∈t'.co->tw ms j i=false->E4 s0 ρ0 f (.xa r))->(∀f∈Ψ,∀j,(j,Ks.new)∈t'.co->tw ms j i=false->E4 s0 ρ0 f .new)->(∀b∈s.x,b∈s'.x)->s'.m=s.m->
     (∀y,o.dst≠some y->(s'.fr y=s.fr y\/s.fr y≠.any))->rh c am.toList ms s0 t' K s'->iG nt D m0 W0 ρ s' (a.put o.dst v) W->
     ∃Φ,Holds Φ W/\(∀f∈kp ρ s.x W,f∈Φ)/\uk c.P am Q (λj f=>∀k,(j,k)∈od->E4 s0 ρ0 f k) (vz (sx M t'.co)+1) Φ La a W:=by
    intro s' v Ψ hy hΨ atv atx atw hxs Zy DQ ve tY;have hIn:=step i k o _ ho Tf DK (λk' b' hm=>Q5 k' (jb.1 hm).1) later s' ρ v W tY ⟨[],by simp⟩ DQ (λb hb hm hρ=>⟨rfl,by rw[Zy];exact hm,hρ⟩);obtain⟨Φ,h1,h2,h3⟩:=ih _ adL t' M (La.setIfInBounds i true) s' ρ _ W rfl hIn adr ve;refine⟨Φ,h1,λf yz=>h2 f (wG (λ_ hb=>hb) hxs (λ_ _=>rfl) f yz),?_⟩;refine Ms Q8 ho (Region.noSelect_spec ahp) (λch a w=>hP ch a _ _ w) (vz (sx M t'.co)) Φ La a W hI.cl ?_ DK hy h1 (λf yz=>h2 f (atv f yz)) h3;intro j oj hj JQ Rb xr;have adN:j<am.size:=(bE.1 hj).1;obtain⟨kj,hkj⟩:=Tf.S9 j adN Rb
    have auD:(j,kj,none)∈sx M t'.co:=by
     rcases aU.1 hkj with e'|e'
     ·exact absurd (be Prod.fst e') JQ
     ·exact e'
    constructor
    ·have:=bL.1 th.2 (j,kj) (jb.1 auD).1
     simp only[eM,aB,xr,cU,false_and,false_or]at this;simpa [mw,ho,hj]using this.1
    ·intro f yz k' auH
     have hl:=hΨ (by intro e';rw[e']at yz;cases yz)
     have zw:(j,k')∈t'.co:=by
      rcases Tf.odr (j,k') auH with⟨b',qB⟩|h'
      ·rcases aU.1 qB with e'|e'
       ·exact absurd (be Prod.fst e') JQ
       ·exact(jb.1 e').1
      ·exact absurd h' (DD Rb)
     have:=bL.1 th.2 (j,k') zw;simp only[eM,aB,xr,hl,Bool.not_true,cU,false_and,false_or]at this
     cases k' with
     |all=>trivial
     |none=>simp[isNone]at this
     |xa rr=>exact atx f yz j rr zw xr
     |new=>exact atw f yz j zw xr
   have yes:∀s',iG nt D m0 W0 ρ s' a W->s'.x=s.x->s'.m=s.m->(∀y,s'.fr y=s.fr y\/s.fr y≠.any)->(∀x b,ug ρ (ev s' x)=some b->ev s' x=ev s x)->Region.wanted o (yielded am a.tmps)=true->C2 c o (JB s0 k) s' (rh c am.toList ms s0 t' K)->
     ∃Φ,Holds Φ W/\(∀f∈kp ρ s.x W,f∈Φ)/\uk c.P am Q (λj f=>∀k,(j,k)∈od->E4 s0 ρ0 f k) (vz (sx M t'.co)+1) Φ La a W:=by
    intro s' tY hx wq DQ hev hw hh;unfold C2 at hh;rw[hf]at hh;obtain⟨sv,bs,v,B,h1,h2,h3,h4,Ai,h5⟩:=L2 hT tY hh;refine take ⟨fO s'.fr o.dst sv,s'.L,s'.m,bs++s'.x⟩ v (B.map λb=>(b,W.heap[b]?)) (.inl ⟨hw,λw hS=>h5 o rfl w λb hb=>hS (b,W.heap[b]?) (aV.2 ⟨b,hb,rfl⟩)⟩) ?_ ?_ ?_ ?_ ?_ wq ?_ h1 ?_
    ·intro ga
     cases hl:Bd c.T o.op with
     |true=>rfl
     |false=>rw[h4 hl]at ga;simp at ga
    ·intro f yz
     simp only[aV]at yz;obtain⟨b,hb,rfl⟩:=yz;simp only[kp,aV,aR];refine⟨b,?_,rfl⟩;rcases(Ai b hb).1 with h'|h'
     ·exact .inl h'
     ·exact .inr (.inl h')
    ·intro f yz j rr hjr xr hh' off apx
     simp only[aV]at yz;obtain⟨b,hb,rfl⟩:=yz;obtain⟨_,x',alf,hbk,Vg⟩:=Ai b hb;have U4:=hlo;simp only[ov,alf]at U4;have aly:=hev x' b hbk;exact VH tY Xi hbk Vg apx (MS _ _ _ apx) (by rw[aly];exact afw U4 j rr hjr xr)
    ·intro f yz j hjr xr
     simp only[aV]at yz;obtain⟨b,hb,rfl⟩:=yz;obtain⟨_,x',alf,hbk,Vg⟩:=Ai b hb;have U4:=hlo;simp only[ov,alf]at U4;have aly:=hev x' b hbk;exact Y3 Xi hL0 hbk (by rw[aly];exact Qy U4 j hjr xr)
    ·intro b hb
     rw[<-hx]at hb;exact jp _ hb
    ·intro y hy
     show fO s'.fr o.dst sv y=s.fr y\/_
     rw[mn,if_neg hy];exact DQ y
    ·refine tY.put (by rw[tY.size];exact hdi) ?_ v ?_ _ ?_
     ·rcases h2 with h2|h2
      ·exact .inl h2
      ·exact .inr ⟨h2.1,h2.2.1⟩
     ·rcases h2 with h2|h2
      ·exact .inl h2
      ·exact .inr h2.2.2
     ·intro b hb
      rcases aR.1 hb with hb|hb
      ·exact h3 b hb
      ·exact tY.z7 b hb
   have no:∀s',iG nt D m0 W0 ρ s' a W->s'.x=s.x->s'.m=s.m->(∀y,s'.fr y=s.fr y\/s.fr y≠.any)->Region.wanted o (yielded am a.tmps)=false->rh c am.toList ms s0 t' K ⟨fO s'.fr o.dst .un,s'.L,s'.m,s'.x⟩->
     ∃Φ,Holds Φ W/\(∀f∈kp ρ s.x W,f∈Φ)/\uk c.P am Q (λj f=>∀k,(j,k)∈od->E4 s0 ρ0 f k) (vz (sx M t'.co)+1) Φ La a W:=by
    intro s' tY hx wq DQ hw hh;refine take ⟨fO s'.fr o.dst .un,s'.L,s'.m,s'.x⟩ undef [] (.inr ⟨hw,rfl⟩) (by simp) (by simp) (by simp) (by simp) (λb hb=>by rw[<-hx]at hb;exact hb) wq ?_ hh (tY.skip hdi);intro y hy
    show fO s'.fr o.dst .un y=s.fr y\/_
    rw[mn,if_neg hy];exact DQ y
   have dec:∀(d:Nat) (b:Bool),s.fr d= .c (.v (.bool b))->∀z:SV,(∀y,fO s.fr (some d) z y=s.fr y\/s.fr y≠.any):=by
    intro d b e z y;rw[mn];by_cases e':some d=some y
    ·simp only[aM]at e';subst e';exact .inr (by rw[e];simp)
    ·rw[if_neg e'];exact .inl rfl
   have dev:∀(d:Nat) (z:SV),(z= .tt\/z= .ff)->∀x b,ug ρ (ev ⟨fO s.fr (some d) z,s.L,s.m,s.x⟩ x)=some b->ev ⟨fO s.fr (some d) z,s.L,s.m,s.x⟩ x=ev s x:=by
    intro d z hz x b hb
    cases x with
    |tmp t=>
     simp only[ev]at hb⊢;rw[mn]at hb⊢;by_cases e':some d=some t
     ·rw[aC e']at hb
      rcases hz with rfl|rfl<;>simp[ug]at hb
     ·rw[if_neg e']
    |const v=>cases v<;>first|rfl|(rename_i b';cases b'<;>rfl)
    |global g=>rfl
    |func f=>rfl
   unfold xop at h
   split at h
   ·rename_i hg
    exact yes s hr rfl rfl (λ_=>.inl rfl) (λ_ _ _=>rfl) (by simp[Region.wanted,hg]) h
   ·rename_i j w hg
    split at h
    ·exact h.elim
    rename_i d NU
    have Jl:∀b,a.tmps[d]?=some (.bool b)->Region.wanted o (yielded am a.tmps)=(b==w):=by
     intro b hb;simp only[Region.wanted,hg,rW NU hb]
     cases b<;>cases w<;>rfl
    have hs:=hr.nB d
    split at h
    ·rename_i e
     rw[e]at hs;rcases hs with hs|⟨hs,_⟩
     ·simp at hs
     have:=Jl true hs;cases w
     ·exact no s hr rfl rfl (λ_=>.inl rfl) (by rw[this];rfl) h
     ·exact yes s hr rfl rfl (λ_=>.inl rfl) (λ_ _ _=>rfl) (by rw[this];rfl) h
    ·rename_i e
     rw[e]at hs;rcases hs with hs|⟨hs,_⟩
     ·simp at hs
     have:=Jl false hs;cases w
     ·exact yes s hr rfl rfl (λ_=>.inl rfl) (λ_ _ _=>rfl) (by rw[this];rfl) h
     ·exact no s hr rfl rfl (λ_=>.inl rfl) (by rw[this];rfl) h
    ·rename_i e
     rw[e]at hs;rcases hs with hs|⟨hs,_⟩
     ·simp at hs
     refine no s hr rfl rfl (λ_=>.inl rfl) ?_ h;simp only[Region.wanted,hg,rW NU hs];rfl
    ·rename_i b e
     rw[e]at hs;rcases hs with hs|⟨hs,_⟩
     ·simp at hs
     have hw:=Jl b hs;have HU:=hr.decide e;cases b
     ·have h':=h.2 rfl
      cases w
      ·exact yes _ HU rfl rfl (dec d _ e _) (dev d _ (.inr rfl)) (by rw[hw];rfl) h'
      ·exact no _ HU rfl rfl (dec d _ e _) (by rw[hw];rfl) h'
     ·have h':=h.1 rfl
      cases w
      ·exact no _ HU rfl rfl (dec d _ e _) (by rw[hw];rfl) h'
      ·exact yes _ HU rfl rfl (dec d _ e _) (dev d _ (.inl rfl)) (by rw[hw];rfl) h'
    ·exact h.elim
theorem H8{s:St}:∀{l:List Oper},sL s l=true->∀o∈l,∀t d,o.op= .alloc t->o.dst=some d->s.fr d= .any
 |[],_,o,ho,_,_,_,_=>by cases ho
 |o'::l,h,o,ho,t,d,oL,hd=>by
  have tail:sL s l=true/\(o=o'->s.fr d= .any):=by
   simp only[sL]at h
   split at h
   ·rename_i t' ht'
    split at h
    ·rename_i d' uA
     split at h
     ·rename_i e
      refine⟨h,λe'=>?_⟩;subst e';rw[hd]at uA;cases uA
      exact e
     ·cases h
    ·rename_i uA
     exact⟨h,λe'=>by subst e';rw[hd]at uA;cases uA⟩
   ·rename_i hn
    exact⟨h,λe'=>by subst e';exact absurd oL (hn t)⟩
  rcases aU.1 ho with e|OR
  ·exact tail.2 e
  ·exact H8 tail.1 o OR t d oL hd
theorem O9{F:Fence}(hF:OZ F){P:Program}{am:Array Oper}{Q:Exit->Act->World->Prop}(NR:∀o∈am.toList,oq o.op=true)(hQ:¬LetsOut Q):∀(kJ:Nat) (eh:Array Bool) (a:Act) (w:World),wpAny P .any am Q kJ eh a w->wpAnyIn F 0 P .any am Q kJ eh a w
 |0,_,_,_,h=>h
 |kJ+1,eh,a,w,h=>⟨h.1,λi hi=>wpOpIn_mono (λa' w' h'=>O9 hF NR hQ kJ _ a' w' h') (We hF (λo ho=>NR o (by rw[<-bU]at ho;exact dJ ho)) hQ (h.2 i hi))⟩
theorem MV{F:Fence}(hF:OZ F){ρ:List Nat}{s:St}{a:Act}{W:World}(hT:fW c.P c.T)(hm:c.P.follows .mixedOrders=true){id:Nat}(hd:∀o∈am.toList,nN o.dst nt)(NR:∀o∈am.toList,oq o.op=true){K:St->Prop}
  (od:Ord) (hod:acq c.T am od=true) (DQ:sL s am.toList=true)
  (hr:iG nt D m0 W0 ρ s a W) (h:rh c am.toList od.ms s od.od K s):(Code.region id am true).wpIn F 0 c.P (QN nt D m0 W0 K) a W:=by
 simp only[acq,aB,gU]at hod;obtain⟨⟨⟨⟨h1,h2⟩,h3⟩,h4⟩,h5⟩:=hod;have tY:iG nt D m0 W0 ρ s a {W with drawn:=W.drawn+1}:=⟨hr.defers,hr.size,hr.nB,hr.len,hr.rz,hr.ot,hr.after.drew,hr.z7⟩
 let M:Nat->Option Nat:=λ_=>none
 have Ro:vz (sx M od.od.co)=od.od.co.length:=by
  have:∀l:List (Nat×Ks),vz (sx M l)=l.length:=by
   intro l
   induction l with
   |nil=>rfl
   |cons x l ih=>show vz (sx M l)+1=l.length+1;rw[ih]
  exact this od.od.co
 have hmr:∀j k b,(j,k,b)∈sx M od.od.co↔(j,k)∈od.od.co/\b=none:=by
  intro j k b;rw[jb];exact⟨λh=>⟨h.1,h.2.symm⟩,λh=>⟨h.1,h.2.symm⟩⟩
 have bH:∀j k,(j,k)∈od.od.co->j<am.size:=by
  intro j k hjk
  have:∀(t:OT) (H:List Nat),kY c.T am od.ms H t=true->(j,k)∈t.co->j<am.size:=by
   intro t
   induction t with
   |nil=>intro _ _ hx;cases hx
   |or x y ihx _=>
    intro H hs hx;simp only[kY,aB]at hs;exact ihx H hs.1.2 hx
   |op i k' r ih=>
    intro H hs hx;simp only[kY,aB]at hs;rcases aU.1 (show(j,k)∈(i,k')::r.co from hx)with e|hx
    ·simp only[cV]at e
     obtain⟨rfl,rfl⟩:=e
     cases ho:am[j]? with
     |none=>simp[wT,ho]at hs
     |some o=>exact(bE.1 ho).1
    ·exact ih _ hs.2 hx
  exact this _ _ h5 hjk
 have hI:J9 c nt D m0 W0 am od.od.co ρ (sx M od.od.co) (Array.replicate am.size false) s ρ a {W with drawn:=W.drawn+1}:=by
  refine⟨tY,?_,by simp,λj hj _=>?_,λj k hx=>?_,λx hx=>.inl ⟨none,(hmr _ _ _).2 ⟨hx,rfl⟩⟩,λj k b hx=>((hmr _ _ _).1 hx).1,λj k b hx=>(by have:=((hmr _ _ _).1 hx).2;cases this),λj k j' k' b hx=>(by have:=((hmr _ _ _).1 hx).2;cases this),λj k b o d hx Rp ho Rh=>?_,⟨[],by simp⟩⟩
  ·intro k o ho hk
   have DN:k<am.size:=(bE.1 ho).1;simp[DN]at hk
  ·simp only[bL,dS]at h3
   obtain⟨x,hx,hxj⟩:=dh.1 (h3 j hj);have:x.1=j:=by simpa using hxj
   subst this;exact⟨x.2,(hmr _ _ _).2 ⟨hx,rfl⟩⟩
  ·have:=bH j k ((hmr _ _ _).1 hx).1
   simp[this]
  ·obtain⟨o',t,ti,d',p1,p2,p3,p4,p5⟩:=wO Rp
   rw[ho]at p1;cases p1
   exact H8 DQ o (by rw[<-bU]at ho;exact dJ ho) t d p2 Rh
 have MS:∀i h off,s.fr i= .p h off->h<ρ.length:=by
  intro i h off e;rcases hr.nB i with g|⟨_,_,g⟩
  ·rw[e]at g;cases g
  ·rw[e]at g;exact g
 obtain⟨Φ,_,_,hw⟩:=XU (D:=D) (m0:=m0) (W0:=W0) (Q:=QN nt D m0 W0 K) hT hd h1 h2 (λs ρ a W hk hr=>⟨s,ρ,hk,hr⟩) (λ_ _ _ _ _ h=>h) od.od.co s ρ MS hr.len.symm _ od.od M _ s ρ a _ rfl hI h5 h;rw[Ro,h4]at hw;exact wpIn_region_any hm (O9 hF NR QN.dE _ _ _ _ (F6 _ _ _ _ _ hw))
end
def S3(x y:SV):Prop:=x=y\/(x= .c (.v (.bool true))/\y= .tt)\/(x= .c (.v (.bool false))/\y= .ff)
def Le(s s1:St):Prop:=(∀i,s1.fr i= .any\/(S3 (s1.fr i) (s.fr i)/\(s.fr i).under s1.L.length))/\(∃fb,s.L=s1.L++fb)/\cL s1.m s.m/\s1.x=[]
def rm:List (Nat×SV)->Nat->SV
 |[],_=>.any
 |(j,x)::r,i=>bif Nat.beq i j then x else rm r i
def TF(n:Nat):SV->Bool
 | .p h _=>Nat.blt h n
 | .q h _ _=>Nat.blt h n
 | .sl h _ _ _ _=>Nat.blt h n
 |_=>true
theorem Pj(h:TF n x=true):x.under n:=by
 cases x<;>simp only[TF]at h<;>simp only[SV.under]<;>exact pK.1 h
def vB(n:Nat):List (Nat×SV)->Bool
 |[]=>true
 |x::r=>TF n x.2&&vB n r
def SU:Option Addr->Option Addr->Prop->Prop
 |some ⟨b,o,none⟩,some ⟨b',o',none⟩,K=>b=b'/\o=o'/\K
 |none,none,K=>K
 |x,y,K=>x=y/\K
def X7(y x:Value)(K:Prop):Prop:=
 match y with
 | .int k a=>match x with
  | .int k' b=>bif wY k k' then a=b/\K else False
  |_=>False
 | .bool a=>match x with
  | .bool b=>a=b/\K
  |_=>False
 | .string a=>match x with
  | .string b=>a=b/\K
  |_=>False
 | .pointer a=>match x with
  | .pointer b=>SU a b K
  |_=>False
 | .slice a n c=>match x with
  | .slice a' n' c'=>SU a a' (n=n'/\c=c'/\K)
  |_=>False
 | .map a=>match x with
  | .map b=>a=b/\K
  |_=>False
 |y=>y=x/\K
def abK(y x:eB)(K:Prop):Prop:=
 match y with
 | .one y=>match x with
  | .one x=>X7 y x K
  |_=>False
 | .bG k n l=>match x with
  | .bG k' n' l'=>bif wY k k'&&Nat.beq n n' then l=l'/\K else False
  |_=>False
 | .fq n l=>match x with
  | .fq n' l'=>bif Nat.beq n n' then l=l'/\K else False
  |_=>False
def lbK:LB->LB->Prop->Prop
 |[],[],K=>K
 |y::r,x::r',K=>abK y x (lbK r r' K)
 |_,_,_=>False
def Gv(y x:SV)(K:Prop):Prop:=
 match x with
 | .p h o=>match y with
  | .p h' o'=>bif Nat.beq h' h&&Nat.beq o' o then K else False
  |_=>False
 | .q h o d=>match y with
  | .q h' o' d'=>bif Nat.beq h' h&&Nat.beq o' o then d'=d/\K else False
  |_=>False
 | .sl h o d n c=>match y with
  | .sl h' o' d' n' c'=>bif Nat.beq h' h&&Nat.beq o' o then d'=d/\n'=n/\c'=c/\K else False
  |_=>False
 | .c (.a c)=>match y with
  | .c (.a d)=>lbK d c K
  |_=>False
 | .c (.v v)=>match y with
  | .c (.v z)=>X7 z v K
  | .tt=>match v with
   | .bool b=>true=b/\K
   |_=>False
  | .ff=>match v with
   | .bool b=>false=b/\K
   |_=>False
  |_=>False
 | .tt=>match y with
  | .tt=>K
  |_=>False
 | .ff=>match y with
  | .ff=>K
  |_=>False
 | .un=>match y with
  | .un=>K
  |_=>False
 | .t l=>match y with
  | .t l'=>l'=l/\K
  |_=>False
 | .any=>K
def MJ:List (Nat×SV)->(Nat->SV)->Prop->Prop
 |[],_,K=>K
 |(j,x)::r,fr,K=>Gv (fr j) x (MJ r fr K)
def Lu:mM->mM->Prop->Prop
 |_,[],K=>K
 |(t,c)::r,(t',c')::r',K=>bif Nat.beq t t' then lbK c c' (Lu r r' K)else False
 |[],_::_,_=>False
def LeK(s:St)(fr:List (Nat×SV))(L:mM)(m:aD):Prop:=bif vB L.length fr then MJ fr s.fr (Lu s.L L (cL m s.m))else False
variable{K:Prop}
theorem IW{y x:Option Addr}(h:SU y x K):y=x/\K:=by
 unfold SU at h
 grind
theorem Kx{y x:Value}(h:X7 y x K):y=x/\K:=by
 unfold X7 at h
 split at h
 ·rename_i k a
  split at h
  ·rename_i k' b
   cases hk:wY k k' with
   |false=>simp[hk]at h
   |true=>have:=pA hk;subst this;simp only[hk,cond_true]at h;exact⟨by rw[h.1],h.2⟩
  grind
 ·grind
 ·grind
 ·split at h
  ·have:=IW h;exact⟨by rw[this.1],this.2⟩
  grind
 ·split at h
  ·obtain⟨h1,h2,h3,h4⟩:=IW h;exact⟨by rw[h1,h2,h3],h4⟩
  grind
 ·grind
 ·exact h
theorem YD{y x:eB}(h:abK y x K):y=x/\K:=by
 unfold abK at h
 split at h
 ·split at h
  ·have:=Kx h;exact⟨by rw[this.1],this.2⟩
  grind
 ·rename_i k n l
  split at h
  ·rename_i k' n' l'
   cases hk:(wY k k'&&Nat.beq n n')with
   |false=>simp[hk]at h
   |true=>
    simp only[hk,cond_true]at h;simp only[aB]at hk;have e1:=pA hk.1;have e2:=bu hk.2
    subst e1;subst e2
    exact⟨by rw[h.1],h.2⟩
  grind
 ·rename_i n l
  split at h
  ·simp_all
  grind
theorem HC:∀{y x:LB}{K:Prop},lbK y x K->y=x/\K
 |[],[],_,h=>⟨rfl,h⟩
 |y::r,x::r',K,h=>by
  obtain⟨h1,h2⟩:=YD h;obtain⟨h3,h4⟩:=HC h2;exact⟨by rw[h1,h3],h4⟩
 |[],_::_,_,h=>h.elim
 |_::_,[],_,h=>h.elim
theorem TR{y:SV}(h:Gv y x K):(x= .any\/S3 x y)/\K:=by
 unfold Gv at h
 split at h
 ·rename_i hh o
  split at h
  ·rename_i h' o'
   cases hk:(Nat.beq h' hh&&Nat.beq o' o)with
   |false=>simp[hk]at h
   |true=>
    simp only[hk,cond_true]at h;simp only[aB]at hk;have e1:=bu hk.1;have e2:=bu hk.2
    subst e1;subst e2
    exact⟨.inr (.inl rfl),h⟩
  grind
 ·rename_i hh o d
  split at h
  ·rename_i h' o' d'
   cases hk:(Nat.beq h' hh&&Nat.beq o' o)with
   |false=>simp[hk]at h
   |true=>
    simp only[hk,cond_true]at h;simp only[aB]at hk;have e1:=bu hk.1;have e2:=bu hk.2
    subst e1;subst e2
    exact⟨.inr (.inl (by rw[h.1])),h.2⟩
  grind
 ·rename_i hh o d n c
  split at h
  ·rename_i h' o' d' n' c'
   cases hk:(Nat.beq h' hh&&Nat.beq o' o)with
   |false=>simp[hk]at h
   |true=>
    simp only[hk,cond_true]at h;simp only[aB]at hk;have e1:=bu hk.1;have e2:=bu hk.2
    subst e1;subst e2
    obtain⟨rfl,rfl,rfl,h⟩:=h;exact⟨.inr (.inl rfl),h⟩
  grind
 ·split at h
  ·have:=HC h;exact⟨.inr (.inl (by rw[this.1])),this.2⟩
  grind
 ·split at h
  ·have:=Kx h;exact⟨.inr (.inl (by rw[this.1])),this.2⟩
  ·split at h
   ·exact⟨.inr (.inr (.inl ⟨by rw[<-h.1],rfl⟩)),h.2⟩
   grind
  ·split at h
   ·exact⟨.inr (.inr (.inr ⟨by rw[<-h.1],rfl⟩)),h.2⟩
   grind
  grind
 ·split at h
  ·exact⟨.inr (.inl rfl),h⟩
  grind
 ·split at h
  ·exact⟨.inr (.inl rfl),h⟩
  grind
 ·split at h
  ·exact⟨.inr (.inl rfl),h⟩
  grind
 ·split at h
  ·exact⟨.inr (.inl (by rw[h.1])),h.2⟩
  grind
 grind
theorem S3.under{y:SV}(h:S3 x y)(hu:x.under n):y.under n:=by
 rcases h with rfl|⟨rfl,rfl⟩|⟨rfl,rfl⟩
 ·exact hu
 ·trivial
 ·trivial
theorem Ei:∀{l:List (Nat×SV)}{fr:Nat->SV}{K:Prop}{n:Nat},MJ l fr K->vB n l=true->(∀i,rm l i= .any\/(S3 (rm l i) (fr i)/\(fr i).under n))/\K
 |[],_,_,_,h,_=>⟨λ_=>.inl rfl,h⟩
 |(j,x)::r,fr,K,n,h,hu=>by
  simp only[vB,aB]at hu;obtain⟨h1,h2⟩:=TR h;obtain⟨h3,h4⟩:=Ei h2 hu.2;refine⟨λi=>?_,h4⟩;simp only[rm]
  cases hb:Nat.beq i j with
  |true=>
   have:=bu hb;subst this
   rcases h1 with h1|h1
   ·exact .inl h1
   ·exact .inr ⟨h1,h1.under (Pj hu.1)⟩
  |false=>exact h3 i
theorem Hs:∀{y x:mM}{K:Prop},Lu y x K->(∃fb,y=x++fb)/\K
 |y,[],_,h=>⟨⟨y,rfl⟩,by simpa [Lu]using h⟩
 |(t,c)::r,(t',c')::r',K,h=>by
  simp only[Lu]at h
  cases hb:Nat.beq t t' with
  |false=>simp[hb]at h
  |true=>
   simp only[hb,cond_true]at h;have:=bu hb;subst this
   obtain⟨rfl,h2⟩:=HC h;obtain⟨⟨fb,h3⟩,h4⟩:=Hs h2;exact⟨⟨fb,by rw[h3];rfl⟩,h4⟩
 |[],_::_,_,h=>h.elim
theorem LeK.le{s:St}{fr:List (Nat×SV)}{L:mM}(h:LeK s fr L m):Le s ⟨rm fr,L,m,[]⟩:=by
 unfold LeK at h
 cases hb:vB L.length fr with
 |false=>simp[hb]at h
 |true=>
  simp only[hb,cond_true]at h;obtain⟨h1,h2⟩:=Ei h hb;obtain⟨h3,h4⟩:=Hs h2;exact⟨h1,h3,h4,rfl⟩
inductive ajU (X:(Exit->St->Prop)->St->Prop) (Q:Exit->St->Prop) (s:St):Prop
 |mk {ι:Type} (μ:ι->Nat) (Inv:ι->Prop) (fr:ι->List (Nat×SV)) (L:ι->mM) (m:ι->aD) (i0:ι) (h0:Inv i0) (hk:LeK s (fr i0) (L i0) (m i0))
  (step:∀i,Inv i->X (λe s'=>match e with
   | .normal=>∃j,Inv j/\μ j<μ i/\LeK s' (fr j) (L j) (m j)
   |e=>Q e s') ⟨rm (fr i),L i,m i,[]⟩)
def TV(s:St)(c:Operand)(x:SV):St:=
 match c with
 | .tmp t=>⟨fO s.fr (some t) x,s.L,s.m,s.x⟩
 |_=>s
inductive XAt (X:St->Prop):St->Prop
 |at {s:St} (h:X s):XAt X s
 |via {s:St} (fr:List (Nat×SV)) (L:mM) (m:aD) (hk:LeK s fr L m) (h:XAt X ⟨rm fr,L,m,[]⟩):XAt X s
def T2(c:fD)(id:Nat)(am:Array Oper)(pG:Bool)(K:St->Prop)(s:St):Prop:=
 match pG with
 |false=>O5 c am.toList am.toList K ⟨s.fr,s.L,s.m,[]⟩
 |true=>bif sL s am.toList then rh c am.toList (c.ord id).ms s (c.ord id).od K ⟨s.fr,s.L,s.m,[]⟩else False
abbrev RF:=Operand->Array Tmp->Code->Code->(Exit->St->Prop)->St->Prop
def zZ(c:fD)(sc:Code->(Exit->St->Prop)->St->Prop)(rf:RF):Code->(Exit->St->Prop)->St->Prop
 | .skip,Q,s=>Q .normal s
 | .seq x y,Q,s=>zZ c sc rf x (λe s'=>match e with
  | .normal=>zZ c sc rf y Q s'
  |e=>Q e s') s
 | .region id am pG,Q,s=>match c.cut id with
  |false=>T2 c id am pG (Q .normal) s
  |true=>XAt (T2 c id am pG (Q .normal)) s
 | .cond o x y,Q,s=>match ev s o with
  | .tt=>zZ c sc rf x Q s
  | .ff=>zZ c sc rf y Q s
  | .c (.v (.bool b))=>(b=true->zZ c sc rf x Q (TV s o .tt))/\(b=false->zZ c sc rf y Q (TV s o .ff))
  |_=>False
 | .block id body,Q,s=>zZ c sc rf body (λe s'=>match e with
  | .exit j=>bif Nat.beq j id then Q .normal s' else Q (.exit j) s'
  |e=>Q e s') s
 | .exit id,Q,s=>Q (.exit id) s
 | .ret,Q,s=>Q .ret s
 | .label _,Q,s=>Q .normal s
 | .goto l,Q,s=>Q (.goto l) s
 | .loop body,Q,s=>ajU (zZ c sc rf body) Q s
 | .scope body,Q,s=>sc body Q s
 | .rangeFunc g ps x y,Q,s=>rf g ps x y Q s
 |_,_,_=>False
def QJ(l:Nat)(J:St->Prop)(Q:Exit->St->Prop):Exit->St->Prop
 | .goto l',s=>bif Nat.beq l' l then J s else False
 |e,s=>Q e s
inductive V1 (X:Code->(Exit->St->Prop)->St->Prop) (b:Code) (Q:Exit->St->Prop) (s:St):Prop
 |mk (l:Nat) (fb:Code) (hf:findLabel b l=some fb) {ι:Type} (μ:ι->Nat) (Inv:ι->Prop) (fr:ι->List (Nat×SV)) (L:ι->mM) (m:ι->aD)
  (first:X b (QJ l (λs'=>∃j,Inv j/\LeK s' (fr j) (L j) (m j)) Q) s)
  (pass:∀i,Inv i->X fb (QJ l (λs'=>∃j,Inv j/\μ j<μ i/\LeK s' (fr j) (L j) (m j)) Q) ⟨rm (fr i),L i,m i,[]⟩)
def XT(c:fD):Code->(Exit->St->Prop)->St->Prop:=zZ c (λ_ _ _=>False) (λ_ _ _ _ _ _=>False)
def sw:(Nat->SV)->List Tmp->List CV->(Nat->SV)
 |fr,p::ps,x::xs=>sw (fO fr (some p) (.c x)) ps xs
 |fr,_,_=>fr
def arn(X:Code->(Exit->St->Prop)->St->Prop)(body:Code)(J:aD->Prop):Exit->St->Prop
 | .normal,s=>match s.L with
  |[]=>X body (λe s=>match e with
   | .normal=>J s.m
   |_=>False) ⟨s.fr,[],s.m,[]⟩
  |_::_=>False
 |_,_=>False
inductive V2 (P:Program) (X:Code->(Exit->St->Prop)->St->Prop) (g:Operand) (ps:Array Tmp) (Ti body:Code) (Q:Exit->St->Prop) (s:St):Prop
 |mk (gf:FuncId) (captured:Array Value) (hg:ev s g= .c (.v (.func (.func gf) #[] captured))) (yA:sY captured.toList=true) (hL:s.L=[])
  {ι:Type} (Inv:ι->aD->Prop) (i0:ι) (h0:Inv i0 s.m) (El:ι->List CV->ι->Prop) (hEl:∀i x j,El i x j->x.length=ps.size)
  (round:∀i x j m,Inv i m->El i x j->X Ti (arn X body (Inv j)) ⟨sw s.fr ps.toList x,[],m,[]⟩)
  (Fin:aD->Prop)
  (UP:∀(l:Nat) (o:Obj),s.m l=none->(∀i x j m,Inv i m->El i x j->m l=none->CL P l x (m.set l o) λr m'=>r=[.v (.bool true)]/\∃m1,Inv j m1/\m1 l=none/\m'=m1.set l o)->
   bi P gf (.v (.func (.yield l) #[] #[])::captured.toList.map CV.v) (s.m.set l o) λr m'=>∃m1,Fin m1/\m1 l=none/\m'=m1.set l o)
  (fb:∀m1,Fin m1->Q .normal ⟨s.fr,[],m1,[]⟩)
def xwp(c:fD):Code->(Exit->St->Prop)->St->Prop:=zZ c (V1 (XT c)) (V2 c.P (XT c))
theorem Og{s:St}{x:List Nat}:∀{l:List Oper},sL ⟨s.fr,s.L,s.m,x⟩ l=sL s l
 |[]=>rfl
 |o::l=>by simp only[sL,Og (l:=l)]
theorem HB{s:St}{x:List Nat}{ms:List Nat}{i:Nat}{y:SV}:∀{l:List (Nat×Ks)},xp ⟨s.fr,s.L,s.m,x⟩ ms i y l=xp s ms i y l
 |[]=>rfl
 |(_,.xa _)::l=>by simp only[xp,HB (l:=l)]
 |(_,.all)::l=>by simp only[xp,HB (l:=l)]
 |(_,.none)::l=>by simp only[xp,HB (l:=l)]
 |(_,.new)::l=>by simp only[xp,HB (l:=l)]
theorem F3{c:fD}{am:List Oper}{ms:List Nat}{s0:St}{x:List Nat}:∀{t:OT}{K:St->Prop}{s:St},rh c am ms ⟨s0.fr,s0.L,s0.m,x⟩ t K s=rh c am ms s0 t K s
 | .nil,_,_=>rfl
 | .or a b,K,s=>by simp only[rh,F3 (t:=a),F3 (t:=b)]
 | .op i k r,K,s=>by
  have e1:JB ⟨s0.fr,s0.L,s0.m,x⟩ k=JB s0 k:=by cases k<;>rfl
  have e2:∀o,ov c.T ⟨s0.fr,s0.L,s0.m,x⟩ ms i o s r.co=ov c.T s0 ms i o s r.co:=by intro o;simp only[ov,HB]
  have e3:rh c am ms ⟨s0.fr,s0.L,s0.m,x⟩ r K=rh c am ms s0 r K:=funext λs=>F3 (t:=r);simp only[rh,e1,e2,e3]
def aq5(n:Nat):Option Nat->Bool
 |some d=>Nat.blt d n
 |none=>true
def iE(c:fD)(n:Nat):Code->Bool
 | .seq x y=>iE c n x&&iE c n y
 | .region id am pG=>(am.toList.all (λo=>aq5 n o.dst)&&am.toList.all (λo=>oq o.op))&&(!pG||acq c.T am (c.ord id))
 | .cond _ x y=>iE c n x&&iE c n y
 | .block _ b=>iE c n b
 | .loop b=>iE c n b
 | .scope b=>iE c n b
 | .rangeFunc _ ps x y=>iE c n x&&iE c n y&&ps.toList.all (λp=>Nat.blt p n)
 |_=>true
section
variable {c:fD}{nt:Nat}{D:List Deferred}{m0:aD}{W0:World}{ρ:List Nat}{s:St}{a:Act}{W:World}
theorem aag{x:SV}{k:Nat}(h:x.under k):eY (ρ.take k) x=eY ρ x:=by
 have hg:∀i,i<k->(ρ.take k).getD i 0=ρ.getD i 0:=λi hi=>by
  grind
 cases x<;>simp only[SV.under]at h<;>simp only[eY]<;>try rw[hg _ h]
theorem iG.le(hr:iG nt D m0 W0 ρ s a W){s1:St}(h:Le s s1):iG nt D m0 W0 (ρ.take s1.L.length) s1 a W:=by
 obtain⟨h1,⟨fb,h2⟩,h3,h4⟩:=h;have hlen:s1.L.length<=ρ.length:=by rw[hr.len,h2];simp
 have htl:(ρ.take s1.L.length).length=s1.L.length:=by rw[aK];omega
 refine⟨hr.defers,hr.size,λi=>?_,htl,?_,?_,hr.after.H9 h3,by rw[h4];simp⟩
 ·rcases h1 i with h|⟨h,hu⟩
  ·exact .inl h
  ·rcases hr.nB i with g|⟨g1,g2,g3⟩
   ·rcases h with h|⟨_,h⟩|⟨_,h⟩
    ·grind
    ·grind
    grind
   ·refine .inr ?_
    rcases h with h|⟨h,h'⟩|⟨h,h'⟩
    ·rw[h,aag hu,htl]
     grind
    ·rw[h,g1,h'];exact⟨rfl,rfl,trivial⟩
    ·rw[h,g1,h'];exact⟨rfl,rfl,trivial⟩
 ·intro i t cc hi
  have bH:i<s1.L.length:=(aQ.1 hi).1;have hg:(ρ.take s1.L.length).getD i 0=ρ.getD i 0:=by simp only[aI,bN,bH,oN]
  rw[hg];obtain⟨k1,k2,k3,k4⟩:=hr.rz i t cc (by rw[h2,aT bH];exact hi);refine⟨k1,k2,?_,k4⟩
  cases hx:s1.m (ρ.getD i 0)with
  |none=>rfl
  |some o=>have:=h3 _ _ hx;rw[k3]at this;cases this
 ·exact hr.ot.sublist (List.take_sublist _ _)
theorem XAt.use{X:St->Prop}{s:St}(h:XAt X s):∀{ρ:List Nat},iG nt D m0 W0 ρ s a W->∃s' ρ',X s'/\iG nt D m0 W0 ρ' s' a W:=by
 induction h with
 | «at» h=>exact λhr=>⟨_,_,h,hr⟩
 |via fr L m hk _ ih=>exact λhr=>ih (hr.le hk.le)
theorem cr.M0{m:aD}(h:cr m0 W0 m W){b:Nat}(hm:m b=none)(hb:W0.heap.size<=b)(o:Obj):cr m0 W0 m (W.putObj b o):=by
 refine⟨λx u hx=>?_,by simp;exact h.size,h.tape,h.os,h.output,λx hx hn=>?_,h.drawn⟩
 ·have e:x≠b:=λe=>by subst e;rw[hm]at hx;cases hx
  rw[World.putObj_heap_other e];exact h.jF x u hx
 ·have e:x≠b:=by omega
  rw[World.putObj_heap_other e];exact h.frame x hx hn
theorem iG.M0(hr:iG nt D m0 W0 ρ s a W){b:Nat}(hm:s.m b=none)(hb:W0.heap.size<=b)(hρ:b∉ρ)(o:Obj):iG nt D m0 W0 ρ s a (W.putObj b o):=by
 refine⟨hr.defers,hr.size,hr.nB,hr.len,λh t cc hh=>?_,hr.ot,hr.after.M0 hm hb o,hr.z7⟩;obtain⟨k1,k2,k3,k4⟩:=hr.rz h t cc hh;have bH:h<ρ.length:=by rw[hr.len];exact(aQ.1 hh).1
 have ga:ρ.getD h 0≠b:=λe=>hρ (e▸nf bH);exact⟨by rw[World.putObj_heap_other ga];exact k1,k2,k3,k4⟩
theorem iG.gM{m1:aD}{W1:World}(hA:cr m0 W0 m1 W1)(hr:iG nt D m1 W1 ρ s a W):iG nt D m0 W0 ρ s a W:=
 ⟨hr.defers,hr.size,hr.nB,hr.len,λh t cc hh=>by
  obtain⟨k1,k2,k3,k4⟩:=hr.rz h t cc hh
  exact⟨k1,k2,k3,bq hA.size k4⟩,hr.ot,hA.trans hr.after,hr.z7⟩
theorem Lz{P:Program}{fn:Func}{tmps:Array Value}{R:Ending->World->Prop}{Good:World->Prop}{Ok:Nat->Prop}(ahu:∀w r,Ok r->Good w->Good (w.putObj r (.deferred none)))(aqb:∀w,Good w->∃v,(results fn tmps).run P w= .ok v w/\R (.returned v) w):
  ∀(D:List Deferred) (w:World),(∀d∈D,∃r,d={target:=.collected r,args:=#[]}/\w.heap[r]?=some (.deferred (some []))/\Ok r)->D.Pairwise (· ≠·)->Good w->LeavesInM Fence.wide 0 P fn tmps R D .returning w
 |[],w,_,_,hg=>aqb w hg
 |d::D,w,h,hp,hg=>by
  obtain⟨r,rfl,hr,ez⟩:=h d (by simp);rw[bh]at hp;refine⟨by simp,.inl ⟨r,_,rfl,run_takeDeferred hr,Lz ahu aqb D _ (λd' uA=>?_) hp.2 (ahu w r ez hg)⟩⟩;obtain⟨r',rfl,tY,adE⟩:=h d' (by simp[uA]);have ga:r'≠r:=λe=>hp.1 _ uA (by rw[e]);exact⟨r',rfl,by rw[World.putObj_heap_other ga];exact tY,adE⟩
structure XN(m1:aD)(W0 W1:World)(D:List Deferred):Prop where
 Z6:∀d∈D,∃r,d={target:=.collected r,args:=#[]}/\W1.heap[r]?=some (.deferred (some []))/\m1 r=none/\W0.heap.size<=r
 apart:D.Pairwise (· ≠·)
theorem XN.nil(m1:aD)(W0 W1:World):XN m1 W0 W1 []:=⟨by simp,List.Pairwise.nil⟩
abbrev afe:=List Deferred->aD->World->Prop
def Bx(nt:Nat)(Wr:afe)(ρ:List Nat)(s:St)(a:Act)(W:World):Prop:=
 ∃D m1 W1,Wr D m1 W1/\iG nt D m1 W1 ρ s a W
def afj(m0:aD)(W0:World):afe:=λD m1 W1=>cr m0 W0 m1 W1/\XN m1 W0 W1 D
def arD(D:List Deferred)(m0:aD)(W0:World):afe:=λD' m1 W1=>D'=D/\m1=m0/\W1=W0
section
variable {Wr:afe}
theorem Bx.le(h:Bx nt Wr ρ s a W){s1:St}(k:Le s s1):Bx nt Wr (ρ.take s1.L.length) s1 a W:=by
 obtain⟨D,m1,W1,hA,hr⟩:=h;exact⟨D,m1,W1,hA,hr.le k⟩
def uj(nt:Nat)(Wr:afe)(Q:Exit->St->Prop):Exit->Act->World->Prop:=λe a W=>(∀ch,e≠.panic ch)/\∃s ρ,Q e s/\Bx nt Wr ρ s a W
theorem iG.TV(hr:iG nt D m0 W0 ρ s a W){o:Operand}{b:Bool}(h:ev s o= .c (.v (.bool b))):iG nt D m0 W0 ρ (TV s o (if b then .tt else .ff)) a W:=by
 cases o with
 |tmp t=>exact hr.decide h
 |_=>exact hr
theorem O8{F:Fence}{n0:Nat}{P:Program}{Q:Exit->Act->World->Prop}{c:Code}(I:Nat->Act->World->Prop){n:Nat}(h0:I n a W)
  (round:∀n a W,I n a W->c.wpIn F n0 P (Exit.then (λa' W'=>∃k,k<n/\I k a' W') Q) a W):(Code.loop c).wpIn F n0 P Q a W:=by
 intro b k cs hro hb hr
 have key:∀n a w,I n a w->∃e a' w',Q e a' w'/\ArrivesIn (Machine.fenced P F) P (lone (b.atR a (.code c:: .inLoop c::k)) cs w) b k cs e a' w':=by
  intro n
  induction n using Nat.strongRecOn with
  |_ n ih=>
   intro a w hI;obtain⟨e,a₁,w₁,hq,qL⟩:=round n a w hI b (.inLoop c::k) cs hro hb hr
   cases e with
   |normal=>
    obtain⟨n',bH,aqL⟩:=hq;obtain⟨e₂,a₂,w₂,Q2,Cc⟩:=ih n' bH a₁ w₁ aqL;exact⟨e₂,a₂,w₂,Q2,.of_steps (StepsIn.trans qL (.one (fenced_calm hb hr rfl) stepR_inLoop)) Cc⟩
   |exit id=>exact⟨_,a₁,w₁,hq,.pass (x:=.inLoop c) rfl (λ_ _=>.inl (by simp)) qL⟩
   |goto l=>exact⟨_,a₁,w₁,hq,.pass (x:=.inLoop c) rfl (λ_ _=>.inl (by simp)) qL⟩
   |ret=>exact⟨_,a₁,w₁,hq,.pass (x:=.inLoop c) rfl (λ_ _=>.inl (by simp)) qL⟩
   |panic ch=>exact⟨_,a₁,w₁,hq,.pass (x:=.inLoop c) rfl (λ_ _=>.inl (by simp)) qL⟩
   |outgrown=>exact⟨_,a₁,w₁,hq,.pass (x:=.inLoop c) rfl (λ_ _=>.inl (by simp)) qL⟩
 obtain⟨e,a',w',hq,qL⟩:=key n a W h0;exact⟨e,a',w',hq,.of_steps (.one (fenced_calm hb hr rfl) stepR_loop) qL⟩
theorem aeu{n:Nat}{am:Array Oper}(h:am.toList.all (λo=>aq5 n o.dst)=true):∀o∈am.toList,nN o.dst n:=by
 intro o ho i hi;have:=bL.1 h o ho;rw[hi]at this;exact pK.1 this
theorem Kh{F:Fence}(hF:OZ F)(hT:fW c.P c.T)(hm:c.P.follows .mixedOrders=true){sc:Code->(Exit->St->Prop)->St->Prop}{rf:RF}
  (hsc:∀b,iE c nt b=true->∀(Q:Exit->St->Prop) (s:St) (ρ:List Nat) (a:Act) (W:World),sc b Q s->Bx nt Wr ρ s a W->(Code.scope b).wpIn F 0 c.P (uj nt Wr Q) a W)
  (hrf:∀g ps x y,iE c nt (.rangeFunc g ps x y)=true->∀(Q:Exit->St->Prop) (s:St) (ρ:List Nat) (a:Act) (W:World),rf g ps x y Q s->Bx nt Wr ρ s a W->(Code.rangeFunc g ps x y).wpIn F 0 c.P (uj nt Wr Q) a W):
  ∀(code:Code),iE c nt code=true->∀(Q:Exit->St->Prop) (s:St) (ρ:List Nat) (a:Act) (W:World),zZ c sc rf code Q s->Bx nt Wr ρ s a W->code.wpIn F 0 c.P (uj nt Wr Q) a W:=by
 intro code
 induction code with
 |skip=>intro _ Q s ρ a W h hr;exact wpIn_skip ⟨by simp,s,ρ,h,hr⟩
 |label l=>intro _ Q s ρ a W h hr;exact wpIn_label ⟨by simp,s,ρ,h,hr⟩
 |exit id=>intro _ Q s ρ a W h hr;exact wpIn_exit ⟨by simp,s,ρ,h,hr⟩
 |goto l=>intro _ Q s ρ a W h hr;exact wpIn_goto ⟨by simp,s,ρ,h,hr⟩
 |ret=>intro _ Q s ρ a W h hr;exact wpIn_ret ⟨by simp,s,ρ,h,hr⟩
 |refuse why=>intro _ Q s ρ a W h hr;exact h.elim
 |rangeFunc f ps x y _ _=>intro ez Q s ρ a W h hr;exact hrf f ps x y ez Q s ρ a W h hr
 |scope b _=>intro ez Q s ρ a W h hr;exact hsc b ez Q s ρ a W h hr
 |seq x y ihx ihy=>
  intro ez Q s ρ a W h hr;simp only[iE,aB]at ez;refine wpIn_seq (wpIn_mono (ihx ez.1 _ s ρ a W h hr) λe a' W' hq=>?_);obtain⟨hnp,s',ρ',hk,tY⟩:=hq
  cases e with
  |normal=>exact ihy ez.2 Q s' ρ' a' W' hk tY
  |_=>exact⟨hnp,s',ρ',hk,tY⟩
 |block id b ih=>
  intro ez Q s ρ a W h hr;refine wpIn_block (wpIn_mono (ih ez _ s ρ a W h hr) λe a' W' hq=>?_);obtain⟨hnp,s',ρ',hk,tY⟩:=hq
  cases e with
  |exit j=>
   simp only[Exit.inBlock]
   cases hb:Nat.beq j id with
   |true=>
    rw[aC (bu hb)];simp only[hb,cond_true]at hk;exact⟨by simp,s',ρ',hk,tY⟩
   |false=>
    have ga:j≠id:=λe=>by subst e;rw[Ao]at hb;cases hb
    rw[if_neg ga];simp only[hb,cond_false]at hk;exact⟨by simp,s',ρ',hk,tY⟩
  |_=>exact⟨hnp,s',ρ',hk,tY⟩
 |cond o x y ihx ihy=>
  intro ez Q s ρ a W h hM;simp only[iE,aB]at ez;simp only[zZ]at h;obtain⟨D,m1,W1,hA,hr⟩:=hM;have hf:=hr.kK o
  split at h
  ·rename_i e
   rw[e]at hf;exact wpIn_cond_true (hf.eq (by simp)) (ihx ez.1 Q s ρ a W h ⟨D,m1,W1,hA,hr⟩)
  ·rename_i e
   rw[e]at hf;exact wpIn_cond_false (hf.eq (by simp)) (ihy ez.2 Q s ρ a W h ⟨D,m1,W1,hA,hr⟩)
  ·rename_i b e
   rw[e]at hf;have hs:=hr.TV e
   cases b with
   |true=>exact wpIn_cond_true (hf.eq (by simp)) (ihx ez.1 Q _ ρ a W (h.1 rfl) ⟨D,m1,W1,hA,hs⟩)
   |false=>exact wpIn_cond_false (hf.eq (by simp)) (ihy ez.2 Q _ ρ a W (h.2 rfl) ⟨D,m1,W1,hA,hs⟩)
  ·exact h.elim
 |region id am pG=>
  intro ez Q s ρ a W h hM;simp only[iE,aB]at ez;obtain⟨D,m1,W1,hA,hr⟩:=hM;have NR:∀o∈am.toList,oq o.op=true:=λo ho=>bL.1 ez.1.2 o ho
  have post:∀e a' W',QN nt D m1 W1 (Q .normal) e a' W'->uj nt Wr Q e a' W':=by
   intro e a' W' hq
   cases e with
   |normal=>
    obtain⟨s',ρ',hk,tY⟩:=hq;exact⟨by simp,s',ρ',hk,D,m1,W1,hA,tY⟩
   |_=>exact hq.elim
  have key:∀(s:St) (ρ:List Nat),T2 c id am pG (Q .normal) s->iG nt D m1 W1 ρ s a W->(Code.region id am pG).wpIn F 0 c.P (uj nt Wr Q) a W:=by
   intro s ρ h hr;unfold T2 at h
   cases pG with
   |false=>exact wpIn_mono (MU hT hF (aeu ez.1.1) NR hr.clear h) post
   |true=>
    simp only at h
    cases DQ:sL s am.toList with
    |false=>simp[DQ]at h
    |true=>
     simp only[DQ,cond_true]at h;exact wpIn_mono (MV hF (s:=⟨s.fr,s.L,s.m,[]⟩) hT hm (aeu ez.1.1) NR (c.ord id) (by simpa using ez.2) (Og▸DQ) hr.clear (F3▸h)) post
  simp only[zZ]at h
  cases hc:c.cut id with
  |false=>simp only[hc]at h;exact key s ρ h hr
  |true=>
   simp only[hc]at h;obtain⟨s',ρ',h',tY⟩:=h.use hr;exact key s' ρ' h' tY
 |loop b ih=>
  intro ez Q s ρ a W h hr;obtain⟨μ,Inv,fr,L,m,i0,h0,hle,sI⟩:=h;refine O8 (λn a W=>∃i ρ,Inv i/\μ i=n/\Bx nt Wr ρ ⟨rm (fr i),L i,m i,[]⟩ a W) (n:=μ i0) ⟨i0,_,h0,rfl,hr.le hle.le⟩ ?_;rintro n a W⟨i,ρ,hi,rfl,hr⟩;refine wpIn_mono (ih ez _ _ ρ a W (sI i hi) hr) λe a' W' hq=>?_;obtain⟨hnp,s',ρ',hk,tY⟩:=hq
  cases e with
  |normal=>
   obtain⟨j,hj,bH,hle⟩:=hk;exact⟨μ j,bH,j,_,hj,rfl,tY.le hle.le⟩
  |_=>exact⟨hnp,s',ρ',hk,tY⟩
theorem Oz{l:Nat}:∀{b fb:Code},iE c nt b=true->findLabel b l=some fb->iE c nt fb=true:=by
 intro b
 induction b with
 |seq x y ihx ihy=>
  intro fb h hf;simp only[iE,aB]at h;simp only[findLabel]at hf
  cases hx:findLabel x l with
  |some r=>rw[hx]at hf;cases hf;simp only[iE,aB];exact⟨ihx h.1 hx,h.2⟩
  |none=>rw[hx]at hf;exact ihy h.2 hf
 |label l'=>intro fb h hf;simp only[findLabel]at hf;split at hf<;>cases hf;rfl
 |_=>intro fb h hf;simp[findLabel]at hf
theorem Tp{P:Program}{Q:Exit->Act->World->Prop}{b fb:Code}(l:Nat)(J:Nat->Act->World->Prop)(hf:findLabel b l=some fb)
  (first:b.wp P (Exit.jump l (λa' W'=>∃k,J k a' W') Q) a W)
  (pass:∀n a W,J n a W->fb.wp P (Exit.jump l (λa' W'=>∃k,k<n/\J k a' W') Q) a W):(Code.scope b).wp P Q a W:=by
 intro f k cs;have hg:gotoIn l (.inScope b::k)=some (.code fb:: .inScope b::k):=by simp[gotoIn,hf]
 have key:∀n a W,J n a W->∃e a' W',Q e a' W'/\Arrives P (lone (f.at a (.code fb:: .inScope b::k)) cs W) f k cs e a' W':=by
  intro n
  induction n using Nat.strongRecOn with
  |_ n ih=>
   intro a W hJ;obtain⟨e,a₁,w₁,hq,qL⟩:=pass n a W hJ f (.inScope b::k) cs
   cases e with
   |normal=>exact⟨.normal,a₁,w₁,hq,Steps.trans qL (.one step_inScope)⟩
   |exit id=>exact⟨.exit id,a₁,w₁,hq,λk' hk=>qL k' (by simp[exitTo,hk])⟩
   |goto l'=>
    obtain⟨rfl,n',bH,hJ'⟩:=hq;obtain⟨e₂,a₂,w₂,Q2,Cc⟩:=ih n' bH a₁ w₁ hJ';exact⟨e₂,a₂,w₂,Q2,.of_steps (qL _ hg) Cc⟩
   |ret=>exact⟨_,a₁,w₁,hq,qL⟩
   |panic ch=>exact⟨_,a₁,w₁,hq,qL⟩
   |outgrown=>exact⟨_,a₁,w₁,hq,qL⟩
 obtain⟨e,a₁,w₁,hq,qL⟩:=first f (.inScope b::k) cs
 cases e with
 |normal=>exact⟨.normal,a₁,w₁,hq,.head step_scope (Steps.trans qL (.one step_inScope))⟩
 |exit id=>exact⟨.exit id,a₁,w₁,hq,λk' hk=>.head step_scope (qL k' (by simp[exitTo,hk]))⟩
 |goto l'=>
  obtain⟨rfl,n',hJ'⟩:=hq;obtain⟨e₂,a₂,w₂,Q2,Cc⟩:=key n' a₁ w₁ hJ';exact⟨e₂,a₂,w₂,Q2,.of_steps (.head step_scope (qL _ hg)) Cc⟩
 |ret=>exact⟨_,a₁,w₁,hq,.of_steps (.one step_scope) qL⟩
 |panic ch=>exact⟨_,a₁,w₁,hq,.of_steps (.one step_scope) qL⟩
 |outgrown=>exact⟨_,a₁,w₁,hq,.of_steps (.one step_scope) qL⟩
theorem zb{F:Fence}(hF:OZ F)(hT:fW c.P c.T)(hm:c.P.follows .mixedOrders=true):∀(code:Code),iE c nt code=true->∀(Q:Exit->St->Prop) (s:St) (ρ:List Nat) (a:Act) (W:World),XT c code Q s->Bx nt Wr ρ s a W->code.wpIn F 0 c.P (uj nt Wr Q) a W:=
 Kh hF hT hm (λ_ _ _ _ _ _ _ h _=>h.elim) (λ_ _ _ _ _ _ _ _ _ _ h _=>h.elim)
theorem uj.jump{l:Nat}{J:St->Prop}{Q:Exit->St->Prop}{J':Act->World->Prop}(hJ:∀s ρ a W,J s->Bx nt Wr ρ s a W->J' a W):∀e a W,uj nt Wr (QJ l J Q) e a W->Exit.jump l J' (uj nt Wr Q) e a W:=by
 rintro e a W⟨hnp,s,ρ,hk,hr⟩
 cases e with
 |goto l'=>
  simp only[QJ]at hk
  cases hb:Nat.beq l' l with
  |true=>simp only[hb,cond_true]at hk;exact⟨bu hb,hJ s ρ a W hk hr⟩
  |false=>simp[hb]at hk
 |_=>exact⟨hnp,s,ρ,hk,hr⟩
theorem TX(hT:fW c.P c.T)(hm:c.P.follows .mixedOrders=true):∀b,iE c nt b=true->∀(Q:Exit->St->Prop) (s:St) (ρ:List Nat) (a:Act) (W:World),V1 (XT c) b Q s->Bx nt Wr ρ s a W->(Code.scope b).wpIn Fence.wide 0 c.P (uj nt Wr Q) a W:=by
 intro b ez Q s ρ a W h hr;obtain⟨l,fb,hf,μ,Inv,fr,L,m,first,pass⟩:=h;refine wpIn_wide.2 (Tp l (λn a W=>∃i ρ,Inv i/\μ i=n/\Bx nt Wr ρ ⟨rm (fr i),L i,m i,[]⟩ a W) hf ?_ ?_)
 ·refine wp_mono (wpIn_wide.1 (zb (.inl rfl) hT hm b ez _ s ρ a W first hr)) (uj.jump ?_)
  rintro s ρ a W⟨j,hj,hk⟩ hr;exact⟨μ j,j,_,hj,rfl,hr.le hk.le⟩
 ·rintro n a W⟨i,ρ,hi,rfl,hr⟩
  refine wp_mono (wpIn_wide.1 (zb (.inl rfl) hT hm fb (Oz ez hf) _ _ ρ a W (pass i hi) hr)) (uj.jump ?_);rintro s ρ a W⟨j,hj,bH,hk⟩ hr;exact⟨μ j,bH,j,_,hj,rfl,hr.le hk.le⟩
end
theorem iG.round{ps:Array Tmp}{x:List CV}(hr:iG nt D m0 W0 [] s a W)(hps:∀p∈ps.toList,p<nt)(hx:∀v∈x,v.ok){m:aD}{w:World}(hw:mg m w):
  iG nt [] m w [] ⟨sw s.fr ps.toList x,[],m,[]⟩ {tmps:=(ps.zip (x.map CV.val).toArray).foldl (λt (p,v)=>t.setIfInBounds p v) a.tmps,defers:=[]} w:=by
 have key:∀(l:List Tmp) (x:List CV) (fr:Nat->SV) (t:Array Value),(∀p∈l,p<nt)->(∀v∈x,v.ok)->t.size=nt->(∀i,fr i= .any\/(t[i]?=some (eY [] (fr i))/\(fr i).ok/\(fr i).under 0))->
   ((l.zip (x.map CV.val)).foldl (λt (q:Tmp×Value)=>t.setIfInBounds q.1 q.2) t).size=nt/\∀i,sw fr l x i= .any\/(((l.zip (x.map CV.val)).foldl (λt (q:Tmp×Value)=>t.setIfInBounds q.1 q.2) t)[i]?=some (eY [] (sw fr l x i))/\(sw fr l x i).ok/\(sw fr l x i).under 0):=by
  intro l
  induction l with
  |nil=>intro x fr t _ _ ht h;cases x<;>exact⟨ht,h⟩
  |cons p l ih=>
   intro x fr t hp hx ht h
   cases x with
   |nil=>exact⟨ht,h⟩
   |cons v x=>
    refine ih x (fO fr (some p) (.c v)) (t.setIfInBounds p v.val) (λq hq=>hp q (by simp[hq])) (λq hq=>hx q (by simp[hq])) (by simpa using ht) λi=>?_;rw[mn];by_cases e:some p=some i
    ·simp only[aM]at e
     subst e;rw[aC rfl];have hpn:p<t.size:=ht▸hp p (by simp);exact .inr ⟨by rw[Mq hpn];rfl,hx v (by simp),trivial⟩
    ·rw[if_neg e]
     simp only[aM]at e;rcases h i with h'|⟨h1,h2⟩
     ·exact .inl h'
     ·exact .inr ⟨by rw[jh e];exact h1,h2⟩
 have hz:(ps.zip (x.map CV.val).toArray).foldl (λt (p,v)=>t.setIfInBounds p v) a.tmps=(ps.toList.zip (x.map CV.val)).foldl (λt (q:Tmp×Value)=>t.setIfInBounds q.1 q.2) a.tmps:=by
  rw[<-Array.foldl_toList];simp
 obtain⟨k1,k2⟩:=key ps.toList x s.fr a.tmps hps hx hr.size (λi=>by
  rcases hr.nB i with h|⟨h1,h2,h3⟩
  ·exact .inl h
  ·exact .inr ⟨h1,h2,h3⟩)
 rw[<-hz]at k1 k2;exact⟨rfl,k1,k2,rfl,by simp,by simp,cr.refl hw,by simp⟩
theorem Ua(hT:fW c.P c.T)(hm:c.P.follows .mixedOrders=true):∀g ps x y,iE c nt (.rangeFunc g ps x y)=true->∀(Q:Exit->St->Prop) (s:St) (ρ:List Nat) (a:Act) (W:World),V2 c.P (XT c) g ps x y Q s->Bx nt (afj m0 W0) ρ s a W->(Code.rangeFunc g ps x y).wpIn Fence.wide 0 c.P (uj nt (afj m0 W0) Q) a W:=by
 intro g ps Ti body ez Q s ρ a W h hM;obtain⟨gf,captured,hg,yA,hL,Inv,i0,h0,El,hEl,round,Fin,UP,fb⟩:=h;obtain⟨D,m1,W1,⟨hA,hMk⟩,hr⟩:=hM;simp only[iE,aB]at ez;obtain⟨⟨aum,aul⟩,auk⟩:=ez;have hps:∀p∈ps.toList,p<nt:=λp hp=>pK.1 (bL.1 auk p hp)
 have hρ:ρ=[]:=by
  have:=hr.len;rw[hL]at this;exact td.1 this
 subst hρ;have hgf:=hr.kK g;rw[hg]at hgf;have hgv:=hgf.eq (by simp);simp only[eY,CV.val]at hgv;have hT0:cr m0 W0 s.m W:=hA.trans hr.after;have ajw:=hT0.jF;refine wpIn_rangeFunc λfn _=>?_
 let rc:Loop:={state:=.ready,pending:=none,fn:=fn,tmps:=a.tmps,params:=ps,assign:=Ti,body:=body,defers:=W.heap.size}
 let Wd:=W.alloc (.deferred (some []))
 let W':=Wd.alloc (.loop rc)
 have wz:W.heap.size+1=Wd.heap.size:=by simp[Wd]
 have W9:s.m (W.heap.size+1)=none:=ajw.none (by omega);have hsd:s.m W.heap.size=none:=ajw.none (aW _)
 have hY:∀i x j m,Inv i m->El i x j->m (W.heap.size+1)=none->CL c.P (W.heap.size+1) x (m.set (W.heap.size+1) (.loop rc)) λr m'=>r=[.v (.bool true)]/\∃m1,Inv j m1/\m1 (W.heap.size+1)=none/\m'=m1.set (W.heap.size+1) (.loop rc):=by
  intro i x j m hi hx Zz atE w hw;have hwl:w.heap[W.heap.size+1]?=some (.loop rc):=hw _ _ (aD.bg ..);have hwm:mg m w:=hw.sub (aD.bT _ Zz);refine⟨_,_,_,_,run_yield hwl (by simp[rc,hEl i x j hx]),roundIn_of_wpIn trivial ?_⟩;have hrr:=hr.round (x:=x) hps atE hwm;refine wpIn_mono (zb (Wr:=arD [] m w) (.inr ⟨_,rfl⟩) hT hm Ti aum _ _ _ _ _ (round i x j m hi hx) ⟨[],m,w,⟨rfl,rfl,rfl⟩,hrr⟩) λe a1 w1 hq=>?_;obtain⟨hnp,s1,ρ1,hk,D1,mm,ww,⟨e1,e2,e3⟩,qn⟩:=hq;subst D1 mm ww
  cases e<;>first|exact hk.elim|skip
  simp only[arn]at hk
  split at hk
  rotate_left
  ·exact hk.elim
  rename_i hL1;have hAf:=qn.after;have bH:W.heap.size+1<w.heap.size:=(bE.1 hwl).1;obtain⟨f1,f2⟩:=hAf.frame _ bH Zz;have ape:=f2.trans hwl;refine⟨_,run_beginRound ape rfl,?_⟩
  have atu:ρ1=[]:=by
   have:=qn.len;rw[hL1]at this;exact td.1 this
  subst atu;have apd:W.heap.size+1<w1.heap.size:=(bE.1 ape).1
  have aui:mg s1.m (w1.putObj (W.heap.size+1) (.loop {rc with state:=.busy})):=λb o hb=>by
   have e:b≠W.heap.size+1:=λe=>by rw[e,f1]at hb;cases hb
   rw[World.putObj_heap_other e];exact hAf.jF b o hb
  have jK:iG nt [] s1.m (w1.putObj (W.heap.size+1) (.loop {rc with state:=.busy})) [] ⟨s1.fr,[],s1.m,[]⟩ a1 (w1.putObj (W.heap.size+1) (.loop {rc with state:=.busy})):=
   ⟨qn.defers,qn.size,qn.nB,rfl,by simp,by simp,cr.refl aui,by simp⟩
  refine wpIn_mono (zb (Wr:=arD [] s1.m _) (.inr ⟨_,rfl⟩) hT hm body aul _ _ _ _ _ hk ⟨[],_,_,⟨rfl,rfl,rfl⟩,jK⟩) λe a2 w2 rO=>?_;obtain⟨aAF,s2,ρ2,Fb,D2,mm2,ww2,⟨e1,e2,e3⟩,wo⟩:=rO;subst D2 mm2 ww2
  cases e<;>first|exact Fb.elim|skip
  have Rq:=wo.after;obtain⟨g1,g2⟩:=Rq.frame (W.heap.size+1) (by simp;omega) f1;have apc:w2.heap[W.heap.size+1]?=some (.loop {rc with state:=.busy}):=g2.trans (World.putObj_heap_same apd);refine⟨_,_,run_endRound none apc,[.v (.bool true)],s2.m.set (W.heap.size+1) (.loop rc),rfl,?_,⟨rfl,s2.m,Fb,g1,rfl⟩,?_⟩
  ·intro z hz;simp at hz;subst hz;rfl
  ·have e1:({{rc with state:=.busy}with state:=if (none:Option Code).isNone then .ready else .done,pending:=none}:Loop)=rc:=rfl
   have apb:W.heap.size+1<w2.heap.size:=(bE.1 apc).1;refine⟨λb o hb=>?_,?_,?_,?_,?_,λb hb hn=>?_,λs=>?_⟩;rotate_left 6
   ·have s0:=s.lB (m':=m) (aW _) λb hb=>by
     by_cases e:b=W.heap.size+1
     ·subst e;rw[aD.bg]at hb;cases hb
     ·rw[aD.eH _ _ e]at hb;exact hb
    exact bq (hAf.drawn s0) (Rq.drawn ((s0.next hAf.size λb hb hm=>(hAf.frame b hb hm).1).lB (Nat.le_of_eq (by simp)) λ_ h=>h))
   ·by_cases e:b=W.heap.size+1
    ·subst e;rw[aD.bg]at hb;cases hb
     exact World.putObj_heap_same apb
    ·rw[aD.eH _ _ e]at hb
     rw[World.putObj_heap_other e];exact Rq.jF b o hb
   ·have:=hAf.size;have:=Rq.size;simp at*;omega
   ·exact Rq.tape.trans hAf.tape
   ·exact Rq.os.trans hAf.os
   ·exact Rq.output.trans hAf.output
   ·have e:b≠W.heap.size+1:=λe=>by rw[e,aD.bg]at hn;cases hn
    rw[aD.eH _ _ e]at hn;obtain⟨p1,p2⟩:=hAf.frame b hb hn;have kW:b<w1.heap.size:=fR hb hAf.size;obtain⟨q1,q2⟩:=Rq.frame b (by simpa using kW) p1;exact⟨by rw[aD.eH _ _ e];exact q1,by rw[World.putObj_heap_other e,q2,World.putObj_heap_other e];exact p2⟩
 obtain⟨alz,alB⟩:=UP (W.heap.size+1) (.loop rc) W9 hY
 have hT1:cr m0 W0 (s.m.set (W.heap.size+1) (.loop rc)) W':=by
  have:=(hT0.IU (.deferred (some []))).alloc (.loop rc);rw[<-wz]at this;exact this
 have au1:∀v∈(CV.v (.func (.yield (W.heap.size+1)) #[] #[])::captured.toList.map CV.v),v.ok:=by
  intro v hv;rcases aU.1 hv with rfl|hv
  ·rfl
  ·obtain⟨y,hy,rfl⟩:=aV.1 hv
   exact uh yA y hy
 have apg:((CV.v (.func (.yield (W.heap.size+1)) #[] #[])::captured.toList.map CV.v).map CV.val).toArray= #[]++ #[.func (.yield (W.heap.size+1)) #[] #[]]++captured:=by
  apply nA
  simp[CV.val,Function.comp_def]
 refine⟨W.heap.size+1,[{target:=.collected W.heap.size,args:=#[]}],W',{target:=.fn (.func gf) captured,args:=#[]++ #[.func (.yield (W.heap.size+1)) #[] #[]]},W',gf,#[]++ #[.func (.yield (W.heap.size+1)) #[] #[]]++captured,W',run_enterLoop_outer ..,?_,λ_ _=>trivial,?_,λe=>(by cases e),?_⟩
 ·simp only[resolve,Array.map,hgv,Deferred.ofValue,Sem.run_pure]
  simp[Act.eval]
 ·exact alz _ _
 ·rw[<-apg]
  refine(callsIn_wide (n:=0-1)).2 ((alB au1 W' hT1.jF).mono ?_);rintro e W2⟨r,m',rfl,apy,⟨mF,hF,hFl,rfl⟩,qN⟩;have avh:W2.heap[W.heap.size+1]?=some (.loop rc):=qN.jF _ _ (aD.bg ..);refine⟨none,_,run_endLoop avh (by simp[rc]),?_⟩;have hT2:cr m0 W0 mF W2:=(hT1.trans qN).H9 (aD.bT _ hFl);have Ad:W0.heap.size<=W.heap.size:=hT0.size;have hT3:=hT2.M0 hFl (by omega) (.loop {rc with state:=.exhausted});refine⟨by simp,_,[],fb mF hF,{target:=.collected W.heap.size,args:=#[]}::D,mF,_,⟨hT3,⟨λd hd=>?_,?_⟩⟩,⟨?_,hr.size,hr.nB,rfl,by simp,by simp,cr.refl hT3.jF,by simp⟩⟩
  ·have ao5:∀r,r≠W.heap.size+1->r<W'.heap.size->s.m r=none->W'.heap[r]?=some (.deferred (some []))->mF r=none/\(W2.putObj (W.heap.size+1) (.loop {rc with state:=.exhausted})).heap[r]?=some (.deferred (some [])):=by
    intro r ga bH hn hh;obtain⟨p1,p2⟩:=qN.frame r bH (by rw[aD.eH _ _ ga];exact hn);rw[aD.eH _ _ ga]at p1;exact⟨p1,by rw[World.putObj_heap_other ga,p2];exact hh⟩
   rcases aU.1 hd with rfl|hd
   ·obtain⟨p1,p2⟩:=ao5 W.heap.size (by omega) (by simp[W',Wd];omega) hsd (by
     show(Wd.alloc _).heap[W.heap.size]?=_
     rw[heap_alloc_old Wd _ (by omega)];exact heap_alloc_new W _)
    exact⟨_,rfl,p2,p1,Ad⟩
   ·obtain⟨r,rfl,g1,g2,g3⟩:=hMk.Z6 d hd
    have bH:=(bE.1 g1).1;obtain⟨k1,k2⟩:=hr.after.frame r bH g2;have apS:r<W.heap.size:=fR bH hr.after.size
    obtain⟨p1,p2⟩:=ao5 r (by omega) (by simp[W',Wd];omega) k1 (by
     show(Wd.alloc _).heap[r]?=_
     rw[heap_alloc_old Wd _ (by omega),heap_alloc_old W _ apS];exact k2.trans g1)
    exact⟨r,rfl,p2,p1,g3⟩
  ·rw[bh]
   refine⟨λd hd e=>?_,hMk.apart⟩;obtain⟨r,rfl,g1,g2,g3⟩:=hMk.Z6 d hd;have bH:=(bE.1 g1).1;have apS:r<W.heap.size:=fR bH hr.after.size;simp at e;omega
  ·show[_]++a.defers=_
   rw[hr.defers];rfl
theorem aaZ(hT:fW c.P c.T)(hm:c.P.follows .mixedOrders=true):∀(code:Code),iE c nt code=true->∀(Q:Exit->St->Prop) (s:St) (ρ:List Nat) (a:Act) (W:World),xwp c code Q s->Bx nt (afj m0 W0) ρ s a W->code.wpIn Fence.wide 0 c.P (uj nt (afj m0 W0) Q) a W:=
 Kh (.inl rfl) hT hm (TX hT hm) (Ua hT hm)
end
def LM(args:List CV):Nat->SV:=λi=>match zo args i with
 |some x=>.c x
 |none=>.any
def Wc(T:lz)(s:St)(r:ResultVar)(K:CV->Prop):Prop:=
 match r with
 | .tmp t=>match s.fr t with
  | .c x=>K x
  | .tt=>K (.v (.bool true))
  | .ff=>K (.v (.bool false))
  |_=>False
 | .cell t ty=>Ii T s ty (s.fr t) λsv _=>match sv with
  | .c x=>K x
  |_=>False
def O3(T:lz)(s:St):List ResultVar->(List CV->Prop)->Prop
 |[],K=>K []
 |r::rs,K=>Wc T s r λx=>O3 T s rs λl=>K (x::l)
def amr(T:lz)(rs:List ResultVar)(R:List CV->aD->Prop):Exit->St->Prop
 | .ret,s=>O3 T s rs λr=>R r s.m
 | .normal,s=>O3 T s rs λr=>R r s.m
 |_,_=>False
section
variable {c:fD}{nt:Nat}{D:List Deferred}{m0:aD}{W0:World}{ρ:List Nat}{s:St}{a:Act}{W:World}{P:Program}{T:lz}
def AV(tmps:Array Value):ResultVar->Sem Value
 | .tmp t=>pure (tmps.getD t undef)
 | .cell p t=>do loadVar t (<-asAddr (tmps.getD p undef))
theorem Tm(hT:fW P T)(hr:iG nt D m0 W0 ρ s a W){r:ResultVar}{K:CV->Prop}(h:Wc T s r K):
  ∃x,K x/\x.ok/\(AV a.tmps r).run P W= .ok x.val W:=by
 cases r with
 |tmp t=>
  simp only[Wc]at h;have hf:=hr.kK (.tmp t);simp only[ev,Act.eval]at hf
  split at h
  ·rename_i x e
   rw[e]at hf;exact⟨x,h,(hf.om (by simp)).1,by simp only[AV,Sem.run_pure];rw[hf.eq (by simp)];rfl⟩
  ·rename_i e
   rw[e]at hf;exact⟨_,h,rfl,by simp only[AV,Sem.run_pure];rw[hf.eq (by simp)];rfl⟩
  ·rename_i e
   rw[e]at hf;exact⟨_,h,rfl,by simp only[AV,Sem.run_pure];rw[hf.eq (by simp)];rfl⟩
  ·exact h.elim
 |cell t ty=>
  simp only[Wc]at h;obtain⟨sv,bs,v,_,h1,h2,h3,_,_,_,h4⟩:=Ih (xo:=.tmp t) hT hr (hr.kK (.tmp t)) h
  split at h1
  ·rename_i x
   refine⟨x,h1,(h2.om (by simp)).1,?_⟩
   have:=h4 {dst:=none,op:=.load ty (.tmp t),type:=0,pos:= "",after:=#[],guard:=none} rfl W (λ_ _=>rfl)
   rw[h2.eq (by simp)]at this;simp only[execOp,Act.eval,Instr.loadAt,Sem.run_bind]at this;simp only[AV,Sem.run_bind]
   cases hv:a.tmps.getD t undef with
   |pointer p=>
    cases p with
    |some ad=>
     simp only[hv,Instr.sureAddr,Sem.run_pure,Result.andThen_ok]at this;simp only[asAddr,Sem.run_pure,Result.andThen_ok]
     cases hl:(loadVar ty ad).run P W with
     |ok z w=>rw[hl]at this;simp at this;rw[this.1,this.2];rfl
     |halt z w=>rw[hl]at this;simp at this
    |none=>simp[hv,Instr.sureAddr,stuck]at this
   |_=>simp[hv,Instr.sureAddr,stuck]at this
  ·exact h1.elim
theorem Ki(hT:fW P T)(hr:iG nt D m0 W0 ρ s a W):∀{rs:List ResultVar}{K:List CV->Prop},O3 T s rs K->
  ∃l,K l/\(∀x∈l,x.ok)/\(rs.mapM (AV a.tmps)).run P W= .ok (l.map CV.val) W
 |[],K,h=>⟨[],h,by simp,by simp⟩
 |r::rs,K,h=>by
  obtain⟨x,h1,h2,h3⟩:=Tm hT hr h;obtain⟨l,g1,g2,g3⟩:=Ki hT hr h1;refine⟨x::l,g1,by simpa using⟨h2,g2⟩,?_⟩;rw[List.mapM_cons,Sem.run_bind,h3];simp only[Result.andThen_ok,Sem.run_bind,g3,Sem.run_pure,aZ]
theorem MR(hT:fW P T)(hr:iG nt D m0 W0 ρ s a W){fn:Func}{K:List CV->Prop}(h:O3 T s fn.results.toList K):
  ∃l,K l/\(∀x∈l,x.ok)/\(results fn a.tmps).run P W= .ok (gm l) W:=by
 obtain⟨l,h1,h2,h3⟩:=Ki hT hr h;refine⟨l,h1,h2,?_⟩
 have e:results fn a.tmps=(do
   let vs<-fn.results.mapM (AV a.tmps)
   pure (if h:vs.size=1 then vs[0]else .tuple vs)):=by
  unfold results
  congr 1
 rw[e,Sem.run_bind,Array.mapM_eq_mapM_toList];simp only[map_eq_pure_bind,Sem.run_bind,h3,Result.andThen_ok,Sem.run_pure]
 match l with
 |[x]=>simp[gm]
 |[]=>simp[gm]
 |x::y::r=>simp[gm]
theorem bi.agD{f:FuncId}{fn:Func}{code:Code}{args:List CV}{m:aD}{R:List CV->aD->Prop}(hf:c.P.funcs[f]?=some fn) (hb:fn.body=some code) (hn:(fn.name== "runtime.NumGoroutine")=false)
  (hT:fW c.P c.T) (hm:c.P.follows .mixedOrders=true) (ez:iE c fn.ntmps code=true) (hlen:Nat.ble args.length fn.ntmps=true)
  (h:xwp c code (amr c.T fn.results.toList R) ⟨LM args,[],m,[]⟩):bi c.P f args m R:=by
 refine⟨λargs w=>?_,λEP W hW=>?_⟩
 ·have OS:¬fn.name= "runtime.NumGoroutine" :=by simpa using hn
  simp[callFunc,hf,hb,OS]
 ·have hle:=wM.1 hlen
  refine(callsIn_wide (n:=0)).1 (callsIn_of_wp_marks hf hb trivial ?_)
  have hr:iG fn.ntmps [] m W [] ⟨LM args,[],m,[]⟩ {tmps:=(args.map CV.val).toArray++Array.replicate (fn.ntmps-(args.map CV.val).toArray.size) undef,defers:=[]} W:=by
   refine⟨rfl,by simp;omega,λi=>?_,rfl,by simp,by simp,cr.refl hW,by simp⟩;simp only[LM]
   cases hx:zo args i with
   |none=>exact .inl rfl
   |some x=>
    refine .inr ⟨?_,EP x (by rw[pq]at hx;exact dJ hx),trivial⟩;rw[pq]at hx;have bH:=(aQ.1 hx).1;rw[fI (by simpa using bH)];simp[hx,eY]
  have ajh:∀s' ρ' a' W',O3 c.T s' fn.results.toList (λr=>R r s'.m)->Bx fn.ntmps (afj m W) ρ' s' a' W'->LeavesInM Fence.wide 0 c.P fn a'.tmps (λe W'=>∃r m',e= .returned (gm r)/\(∀x∈r,x.ok)/\R r m'/\cr m W m' W') a'.defers .returning W':=by
   intro s' ρ' a' W' hk ⟨D,m1,W1,⟨hA,hM⟩,tY⟩;have hb:=tY.gM hA;rw[tY.defers];refine Lz (Good:=λw=>iG fn.ntmps D m W ρ' s' a' w) (Ok:=λr=>s'.m r=none/\W.heap.size<=r/\r∉ρ') (λw r h g=>g.M0 h.1 h.2.1 h.2.2 _) (λw hw=>?_) D W' (λd hd=>?_) hM.apart hb
   ·obtain⟨l,h1,h2,h3⟩:=MR hT hw hk
    exact⟨_,h3,l,_,rfl,h2,h1,hw.after⟩
   ·obtain⟨r,rfl,g1,g2,g3⟩:=hM.Z6 d hd
    have bH:=(bE.1 g1).1;obtain⟨k1,k2⟩:=tY.after.frame r bH g2;refine⟨r,rfl,k2.trans g1,k1,g3,λzw=>?_⟩;obtain⟨i,hi,rfl⟩:=yq zw;have:=(tY.dE hi).2.1;omega
  refine wpIn_mono (aaZ hT hm code ez _ _ _ _ _ h ⟨[],m,W,⟨cr.refl hW,XN.nil _ _ _⟩,hr⟩) λe a' W' hq=>?_;obtain⟨hnp,s',ρ',hk,tY⟩:=hq
  cases e with
  |ret=>exact ajh s' ρ' a' W' hk tY
  |normal=>exact ajh s' ρ' a' W' hk tY
  |panic ch=>exact absurd rfl (hnp ch)
  |_=>exact hk.elim
end
inductive oI where
 |leaf (t:TypeId) (i:TI)
 |node (k:Nat) (l r:oI)
def oI.get:oI->TypeId->Option TI
 | .leaf t i,q=>bif Nat.beq q t then some i else none
 | .node k l r,q=>bif Nat.blt q k then l.get q else r.get q
def oI.jP:oI->List (TypeId×TI)
 | .leaf t i=>[(t,i)]
 | .node _ l r=>l.jP++r.jP
def eB.okB:eB->Bool
 | .one x=>x.oneCell'
 | .bG _ n l=>l.length==n
 | .fq n l=>l.length==n&&l.all (·.oneCell')
def LB.okB:LB->Bool
 |[]=>true
 |s::r=>s.okB&&LB.okB r
theorem LB.Qd:∀{c:LB},LB.okB c=true->LB.ok c
 |[],_=>trivial
 |s::r,h=>by
  simp only[LB.okB,aB]at h;refine⟨?_,LB.Qd h.2⟩
  cases s with
  |one x=>exact h.1
  |bG k n l=>simpa [eB.okB,eB.ok]using h.1
  |fq n l=>
   have:=h.1;simp only[eB.okB,aB,gU,bL]at this;exact this
def adn(P:Program)(t:TypeId):Option TK×Option (Nat×Nat×Option (Array Value)):=
 ((P.underlying t).map TK.of,(P.info? t).map λj=>(j.size,j.bytes,j.zero.map Value.cells))
def QV(i:TI):Option TK×Option (Nat×Nat×Option (Array Value)):=(some i.k,some (i.size,i.bytes,some (LB.cz i.zero).toArray))
theorem Of:∀{T:oI}{t:TypeId}{i:TI},T.get t=some i->(t,i)∈T.jP
 | .leaf t' i',t,i,h=>by
  simp only[oI.get]at h
  cases hb:Nat.beq t t' with
  |true=>
   have:=bu hb;subst this
   simp only[hb,cond_true,aM]at h;subst h
   simp[oI.jP]
  |false=>simp[hb]at h
 | .node k l r,t,i,h=>by
  simp only[oI.get]at h;simp only[oI.jP,aR]
  cases hb:Nat.blt t k with
  |true=>simp only[hb,cond_true]at h;exact .inl (Of h)
  |false=>simp only[hb,cond_false]at h;exact .inr (Of h)
theorem Lr{α β:Type}{f g:α->β}:∀{l:List α},l.map f=l.map g->∀x∈l,f x=g x
 |[],_,x,hx=>by cases hx
 |y::l,h,x,hx=>by
  simp only[aZ,rU]at h;rcases aU.1 hx with rfl|hx
  ·exact h.1
  ·exact Lr h.2 x hx
theorem aot{P:Program}{T:oI}(h1:T.jP.map (λx=>adn P x.1)=T.jP.map (λx=>QV x.2))(h2:T.jP.all (λx=>LB.okB x.2.zero)=true)
  (h3:T.jP.all (λx=>!x.2.eq||(x.2.k.agg&&oz P 50 x.1 (LB.cz x.2.zero)&& !P.eqGuardType P.depth x.1&&(LB.cz x.2.zero).length==x.2.size))=true):fW P T.get:=by
 intro t i h;have hm:=Of h;have e:=Lr h1 _ hm;simp only[adn,QV,cV]at e;refine⟨e.1,e.2,LB.Qd (bL.1 h2 _ hm),λhe=>?_⟩
 grind
def dK:List Nat->Nat->Bool
 |[],_=>false
 |x::r,d=>bif Nat.beq d x then true else dK r d
def iF:List (Nat×Ord)->Nat->Ord
 |[],_=>⟨.nil,[]⟩
 |(j,x)::r,i=>bif Nat.beq i j then x else iF r i
def yX(fn:Func):Code:=fn.body.getD .skip
theorem bi.law(W:World)(ez:∀x∈args,x.ok)(h:bi P f args (λb=>W.heap[b]?) λr m'=>r=[.v (.bool true)]/\cL (λb=>W.heap[b]?) m'):
  Calls P f (args.map CV.val).toArray W λe W'=>e= .returned (.bool true)/\RowKit.Below W.heap.size W W':=by
 refine(h.2 ez W (λb o hb=>hb)).mono λe W' he=>?_;obtain⟨r,m',rfl,_,⟨rfl,hs⟩,ha⟩:=he;refine⟨rfl,ha.os,ha.tape,ha.output,ha.size,λk hk=>?_⟩;have:W.heap[k]?=some W.heap[k]:=by simp[hk]
 rw[this];exact ha.jF k _ (hs k _ this)
section
variable {P:Program}{T:lz}
def CV.cs:CV->List Value
 | .v x=>[x]
 | .a c=>LB.cz c
theorem CV.al9{x:CV}(h:x.ok):x.val.cells=x.cs.toArray:=by
 cases x with
 |v z=>exact iN h
 |a c=>rfl
theorem F1.slice{t e:TypeId}{i:TI}(h:F1 P t i)(hk:i.k= .slice e):P.underlying t=some (.slice e):=by
 obtain⟨d,h1,h2⟩:=h.desc;rw[hk]at h2
 cases d<;>simp[TK.of]at h2
 rw[h1,h2]
def fl(args:List CV):List Value:=(args.map CV.cs).flatten
theorem Ie{size:Nat}:∀(args:List CV) (k:Nat) (cells:Array Value),(∀x∈args,x.ok)->(∀x∈args,x.cs.length=size)->(k+args.length)*size<=cells.size->
  Instr.fill (λi=>some (i*size,size)) cells ((List.range' k args.length).zip (args.map CV.val))=some (cells.toList.take (k*size)++(fl args++cells.toList.drop ((k+args.length)*size))).toArray
 |[],k,cells,_,_,_=>by simp[Instr.fill,fl]
 |x::r,k,cells,h1,h2,h3=>by
  have hx:=h1 x (by simp);have hl:=h2 x (by simp);have Rn:=CV.al9 hx;simp only[ae]at h3
  have yF:k*size+size<=cells.size:=by
   have:(k+(r.length+1))*size=k*size+size+r.length*size:=by simp[fM];omega
   omega
  simp only[ae,Ft,aZ,List.zip_cons_cons];rw[L7 (off:=k*size) (size:=size) rfl (by rw[Rn];simpa using hl) (by rw[Rn];simp[hl];exact yF)];rw[HE _ _ Rn _ _ (by rw[hl];exact yF)];rw[Ie r (k+1) _ (λy hy=>h1 y (by simp[hy])) (λy hy=>h2 y (by simp[hy])) (by simp[hl];simp[fM]at h3⊢;omega)]
  congr 2
  have e1:(k+1)*size=k*size+size:=by rw[fM,CX]
  have e2:k+1+r.length=k+(r.length+1):=by omega
  have ht:(List.take (k*size) cells.toList).length=k*size:=by simp;omega
  simp only[fl,aZ,dX,e1,e2];rw[gj,ht,gj,hl];rw[gQ,ht,gQ,hl];have d1:List.take (k*size+size) (List.take (k*size) cells.toList)=List.take (k*size) cells.toList:=by rw[List.take_take];congr 1;omega
  have d2:List.drop ((k+(r.length+1))*size) (List.take (k*size) cells.toList)=[]:=by
   apply cF;rw[ht];simp[fM]
  have d3:k*size+size-k*size=size:=by omega
  have d4:List.take size x.cs=x.cs:=by rw[<-hl];exact aJ
  have HS:k*size+size<=(k+(r.length+1))*size:=by simp[fM]
  have d5:List.drop ((k+(r.length+1))*size-k*size) x.cs=[]:=by apply cF;rw[hl];omega
  rw[d1,d2,d3,d4,d5,kF,adQ,cO,bV,bV,dU];have d6:k*size+size+((k+(r.length+1))*size-k*size-size)=(k+(r.length+1))*size:=by omega
  rw[d6];simp
theorem dm(hT:fW P T){t e:TypeId}{ti ei:TI}(ht:T t=some ti)(hk:ti.k= .slice e)(he:T e=some ei){n:Nat}{ix:List Nat}(hix:ix=List.range' 0 n){args:List CV}(hn:args.length=n)
  (Ad:∀x∈args,x.cs.length=ei.size) (hb:n*ei.size<=16777216) (hp:0<n*ei.size) {m:aD}:
  bF P (.buildSlice t n ix) args m λr m'=>∃b,m b=none/\r=[.v (.slice (some ⟨b,0,none⟩) n n)]/\m'=m.set b (.cells (fl args).toArray e):=by
 intro ez ty W hW;obtain⟨j,hj,JP,_,z,hz,hzc⟩:=(hT e ei he).WX;refine⟨[.v (.slice (some ⟨W.heap.size,0,none⟩) n n)],m.set W.heap.size (.cells (fl args).toArray e),W.alloc (.cells (fl args).toArray e),?_,?_,⟨W.heap.size,hW.none (aW _),rfl,rfl⟩,(cr.refl hW).alloc _⟩
 ·subst hix
  simp only[dF.run,dF.dE,dF.Fz,cond_false,gm];subst hn;refine run_buildSlice W t e _ _ _ j z ((hT t ti ht).slice hk) hj hz (by rw[JP];omega) (by rw[JP];omega) ?_;rw[JP];have:=Ie args 0 ((Array.range (args.length*ei.size)).map (z.cells[· %z.cells.size]!)) ez Ad (by simp)
  simp_all
 ·intro x hx
  simp at hx;subst hx;rfl
end
section
variable {P:Program}{T:lz}
def gq(m:aD)(size:Nat)(v:Value)(l:List Value):Prop:=
 (∃c,v= .slice none 0 c/\l=[])\/∃b o c n arr t fr,v= .slice (some ⟨b,o,none⟩) n c/\m b=some (.cells arr t fr)/\l.length=n*size/\n<=c/\(∀j u,l[j]?=some u->arr[o+j]?=some u)/\(∀u∈l,u.oneCell'=true)
def mf(m:aD)(e:TypeId)(size:Nat)(v:Value)(l:List Value):Prop:=
 (v= .slice none 0 0/\l=[])\/∃b o c n arr,v= .slice (some ⟨b,o,none⟩) n c/\m b=some (.cells arr e (0,0))/\l.length=n*size/\n<=c/\o+c*size<=arr.size/\(∀j u,l[j]?=some u->arr[o+j]?=some u)/\(∀u∈l,u.oneCell'=true)
theorem mf.eF{m:aD}{e:TypeId}{size:Nat}{v:Value}{l:List Value}(h:mf m e size v l):gq m size v l:=by
 rcases h with⟨rfl,rfl⟩|⟨b,o,c,n,arr,rfl,h1,h2,h5,_,h3,h4⟩
 ·exact .inl ⟨0,rfl,rfl⟩
 ·exact .inr ⟨b,o,c,n,arr,e,(0,0),rfl,h1,h2,h5,h3,h4⟩
theorem gq.sub{m m':aD}{size:Nat}{v:Value}{l:List Value}(h:gq m size v l)(hs:cL m m'):gq m' size v l:=by
 rcases h with h|⟨b,o,c,n,arr,t,fr,rfl,h1,h2⟩
 ·exact .inl h
 ·exact .inr ⟨b,o,c,n,arr,t,fr,rfl,hs _ _ h1,h2⟩
theorem mf.sub{m m':aD}{e:TypeId}{size:Nat}{v:Value}{l:List Value}(h:mf m e size v l)(hs:cL m m'):mf m' e size v l:=by
 rcases h with h|⟨b,o,c,n,arr,rfl,h1,h2⟩
 ·exact .inl h
 ·exact .inr ⟨b,o,c,n,arr,rfl,hs _ _ h1,h2⟩
def lp:Value->Option Nat
 | .slice (some a) _ _=>some a.block
 |_=>none
theorem gq.cR{m m':aD}{size:Nat}{v:Value}{l:List Value}(h:gq m size v l)(hs:∀b,lp v=some b->m' b=m b):gq m' size v l:=by
 rcases h with h|⟨b,o,c,n,arr,t,fr,rfl,h1,h2⟩
 ·exact .inl h
 ·exact .inr ⟨b,o,c,n,arr,t,fr,rfl,by rw[hs b rfl];exact h1,h2⟩
theorem mf.cR{m m':aD}{e:TypeId}{size:Nat}{v:Value}{l:List Value}(h:mf m e size v l)(hs:∀b,lp v=some b->m' b=m b):mf m' e size v l:=by
 rcases h with h|⟨b,o,c,n,arr,rfl,h1,h2⟩
 ·exact .inl h
 ·exact .inr ⟨b,o,c,n,arr,rfl,by rw[hs b rfl];exact h1,h2⟩
def fg:Value->Nat
 | .slice _ n _=>n
 | .string s=>s.size
 |_=>0
theorem gq.one{m:aD}{size:Nat}{v:Value}{l:List Value}(h:gq m size v l):v.oneCell'=true:=by
 rcases h with⟨c,rfl,_⟩|⟨b,o,c,n,arr,t,fr,rfl,_⟩<;>rfl
theorem gq.arU{m:aD}{size:Nat}{v:Value}{l:List Value}(h:gq m size v l):∀u∈l,u.oneCell'=true:=by
 rcases h with⟨c,rfl,rfl⟩|⟨b,o,c,n,arr,t,fr,rfl,_,_,_,_,h1⟩
 ·simp
 ·exact h1
theorem gq.len{m:aD}{size:Nat}{v:Value}{l:List Value}(h:gq m size v l):l.length=fg v*size:=by
 rcases h with⟨c,rfl,rfl⟩|⟨b,o,c,n,arr,t,fr,rfl,_,h1,_⟩
 ·simp[fg]
 ·exact h1
def s5(m:aD)(size:Nat)(k:TK)(x:Value)(news:List Value):Prop:=
 (∃e,k= .slice e/\(gq m size x news\/(news=[]/\∃a,x= .slice (some a) 0 0)))\/(k= .AS/\size=1/\∃s,x= .string s/\news=byteCells s)
theorem s5.src(hT:fW P T){tx:TypeId}{xi:TI}(hx:T tx=some xi){m:aD}{size:Nat}{x:Value}{news:List Value}(h:s5 m size xi.k x news){W:World}(hW:mg m W):Src P size tx x (fg x) news W:=by
 obtain⟨d,h1,h2⟩:=(hT tx xi hx).desc;rcases h with⟨e,hk,hl⟩|⟨hk,rfl,s,rfl,rfl⟩
 ·rw[hk]at h2
  have hd:=ph h2;subst hd;rcases hl with(⟨c,rfl,rfl⟩|⟨b,o,c,n,arr,t,fr,rfl,g1,g2,_,g3,g4⟩)|⟨rfl,a,rfl⟩
  rotate_left 2
  ·exact Src.ofSlice W h1 a 0 0 [] (by simp) (by simp) (by simp)
  ·exact Src.ofNil W h1 c
  ·refine Src.ofSlice W h1 _ n c news g2 (λj u hu=>?_) g4
   rw[ii,iO (hW _ _ g1)]
   grind
 ·rw[hk]at h2
  have hd:=BK h2;subst hd;exact Src.ofString W h1 s
theorem LZ(k:Nat):∀(r c:Nat),c<=k->Builtin.growBy k r c<=2*k+768
 |0,c,h=>by simp only[Builtin.growBy];omega
 |r+1,c,h=>by
  simp only[Builtin.growBy];split
  ·omega
  ·by_cases h2:c+(c+768)/4<=k
   ·exact LZ k r _ h2
   ·cases r with
    |zero=>simp only[Builtin.growBy];omega
    |succ r=>simp only[Builtin.growBy];rw[aC (by omega)];omega
theorem Hh{agS cap:Nat}(h:cap<agS):Builtin.nextslicecap agS cap<=2*agS+768:=by
 unfold Builtin.nextslicecap;split
 ·omega
 ·split
  ·omega
  ·exact LZ agS 4 cap (by omega)
theorem kr(z:Array Value)(n:Nat):(Builtin.zeroCells z n).size=n*z.size:=by simp[Builtin.zeroCells]
structure Apd(m:aD)(e:TypeId)(size:Nat)(v:Value)(l:List Value)(k:Nat)(v':Value)(m':aD):Prop where
 ux:mf m' e size v' l
 cR:∀b o,m b=some o->lp v≠some b->m' b=some o
 new:∀b,lp v'=some b->lp v=some b\/m b=none
 len:fg v'=fg v+k
theorem E2(hT:fW P T){t e tx:TypeId}{ti ei xi:TI}(ht:T t=some ti)(hk:ti.k= .slice e)(he:T e=some ei)(hx:T tx=some xi)(hz:(LB.cz ei.zero).length=ei.size){v x:Value}{l news:List Value}{m:aD}
  (hv:mf m e ei.size v l) (hg:s5 m ei.size xi.k x news) (alK:(2*(fg v+fg x)+768)*ei.bytes<=281474976710656) (kW:fg v+fg x<=9223372036854775807):
  bF P (.builtin .append [t,tx]) [.v v,.v x] m λr m'=>∃v',r=[.v v']/\Apd m e ei.size v (l++news) (fg x) v' m':=by
 intro _ ty W hW;obtain⟨j,hj,JP,hjb,z,hjz,hzc⟩:=(hT e ei he).WX;have W9:=(hT t ti ht).slice hk;have src:=hg.src hT hx hW;have akX:z.cells.size=ei.size:=by rw[hzc];simpa using hz
 have axL:=hv.eF
 have grow:∀(gM:Option Addr) (n c:Nat),v= .slice gM n c->c<n+fg x->(Builtin.firstCells ei.size n (.slice gM n c)).run P W.drew= .ok l.toArray W.drew->l.length=n*ei.size->(∀u∈l,u.oneCell'=true)->
   ∃r m' W',(dF.run (.builtin .append [t,tx]) ty ([CV.v v,CV.v x].map CV.val)).run P W= .ok (gm r) W'/\(∀x∈r,x.ok)/\
    (∃v',r=[.v v']/\Apd m e ei.size v (l++news) (fg x) v' m')/\cr m W m' W':=by
  rintro gM n c rfl bH Bg ZA ox;have aqu:(2*(n+fg x)+768)*ei.bytes<=281474976710656:=alK;have ahX:n+fg x<=9223372036854775807:=kW
  have lm:=run_append_grow_src W t tx ty e j z W9 hj hjz gM n c l (by rw[JP];exact Bg) x (fg x) news (by rw[JP];exact src) bH (by omega)
   (by rw[hjb];exact bq (cS _ (Hh bH)) aqu)
  have yA:=grownCap_ge W (n+fg x) c e;generalize hC:grownCap W (n+fg x) c e=C at lm yA;refine⟨[.v (.slice (some ⟨W.heap.size,0,none⟩) (n+fg x) C)],m.set W.heap.size (.cells ((l++news).toArray++Builtin.zeroCells z.cells (C-(n+fg x))) e),_,?_,?_,⟨_,rfl,?_,?_,?_,rfl⟩,(cr.refl hW).drew.alloc _⟩
  ·exact lm
  ·intro y hy;simp at hy;subst hy;rfl
  ·refine .inr ⟨W.heap.size,0,C,n+fg x,_,rfl,aD.bg ..,?_,yA,?_,?_,?_⟩
   ·rw[ax,ZA,src.newsLen,fM]
   ·have e1:(C-(n+fg x))*ei.size+(n+fg x)*ei.size=C*ei.size:=by rw[<-fM];congr 1;omega
    have e2:(l++news).length=(n+fg x)*ei.size:=by rw[ax,ZA,src.newsLen,fM]
    simp only[oQ,dM,kr,akX,e2];omega
   ·intro i u hu
    rw[cD];rw[fI (by simpa using(aQ.1 hu).1)];simpa using hu
   ·intro u hu
    rcases aR.1 hu with h|h
    ·exact ox u h
    ·exact src.one u h
  ·intro b o hb _
   exact aD.bT _ (hW.none (aW _)) b o hb
  ·intro b hb
   simp only[lp,aM]at hb;subst hb;exact .inr (hW.none (aW _))
 have len:∀w',(Builtin.lenOf x).run P w'= .ok (fg x) w':=src.len;rcases hv with⟨rfl,rfl⟩|⟨b,o,c,n,arr,rfl,g1,g2,g3,g4,g5,g6⟩
 ·by_cases h0:fg x=0
  ·
   have hn0:news=[]:=by
    have:=src.newsLen;rw[h0,nw]at this;exact td.1 this
   subst hn0;refine⟨[.v (.slice none 0 0)],m,W,?_,?_,⟨_,rfl,.inl ⟨rfl,rfl⟩,λb o h _=>h,λb hb=>by simp[lp]at hb,by rw[h0];rfl⟩,cr.refl hW⟩
   ·have hc:(Builtin.firstCells ei.size 0 x).run P W= .ok #[] W:=by have:=src.cells;rw[h0]at this;exact this
    have atk:∀w',(Builtin.lenOf x).run P w'= .ok 0 w':=by rw[<-h0];exact len
    rcases src.kind with⟨e',ve⟩|ve<;>
     simp[dF.run,dF.dE,dF.Fz,cond_false,CV.val,gm,Builtin.append_,run_underlying W9,run_underlying ve,sizeOf,typeInfo,hj,atk,JP,hc]
   ·intro y hy;simp at hy;subst hy;rfl
  ·exact grow none 0 0 rfl (by omega) (by simp[Builtin.firstCells]) (by simp) (by simp)
 ·by_cases EJ:n+fg x<=c
  ·have hW1:=hW _ _ g1
   have Tc:=src.newsLen
   have hle:o+n*ei.size+news.length<=arr.size:=by
    have:n*ei.size+fg x*ei.size<=c*ei.size:=by rw[<-fM];exact cS _ EJ
    omega
   have dI:=kR (P:=P) b (o+n*ei.size) e (0,0) news 0 arr W hW1 (by simpa using hle) src.one (by intro j _ h;omega);simp only[gO]at dI;generalize hA:(arr.toList.take (o+n*ei.size)++(news++arr.toList.drop (o+n*ei.size+news.length))).toArray=A at dI;have hAs:A.size=arr.size:=by rw[<-hA];simp;omega
   have alY:∀i,i<o+n*ei.size->A[i]?=arr[i]?:=by
    intro i hi;rw[<-hA];simp only[bz];rw[aT (by simp;omega),bN,aC hi];simp
   have adZ:∀i u,news[i]?=some u->A[o+n*ei.size+i]?=some u:=by
    intro i u hu;have hi:=(aQ.1 hu).1;rw[<-hA];simp only[bz];have wz:(arr.toList.take (o+n*ei.size)).length=o+n*ei.size:=by simp;omega
    rw[bJ (by omega),wz,Nat.add_sub_cancel_left,aT hi];exact hu
   refine⟨[.v (.slice (some ⟨b,o,none⟩) (n+fg x) c)],m.set b (.cells A e (0,0)),W.setRow b A,?_,?_,⟨_,rfl,.inr ⟨b,o,c,n+fg x,A,rfl,aD.bg ..,?_,EJ,by rw[hAs];exact g4,?_,?_⟩,?_,λb' qB=>.inl qB,rfl⟩,(cr.refl hW).setRow g1 A⟩
   ·have hc:=src.cells
    rcases src.kind with⟨e',ve⟩|ve<;>
     simp[dF.run,dF.dE,dF.Fz,cond_false,CV.val,gm,Builtin.append_,run_underlying W9,run_underlying ve,sizeOf,typeInfo,hj,len,JP,EJ,hc,ii,dI]
   ·intro y hy;simp at hy;subst hy;rfl
   ·rw[ax,g2,Tc,fM]
   ·intro i u hu
    by_cases hi:i<l.length
    ·rw[aT hi]at hu
     rw[alY _ (by omega)];exact g5 i u hu
    ·rw[bJ (by omega)]at hu
     have:=adZ _ _ hu;rw[show o+i=o+n*ei.size+(i-l.length) by omega];exact this
   ·intro u hu
    rcases aR.1 hu with h|h
    ·exact g6 u h
    ·exact src.one u h
   ·intro b' o' qB ga
    rw[aD.eH _ _ (λe=>ga (by rw[e];rfl))];exact qB
  ·refine grow (some ⟨b,o,none⟩) n c rfl (by omega) ?_ g2 g6
   refine run_firstCells_some W.drew ei.size n _ n c l g2 (λi u hu=>?_);rw[ii];have hW1:W.drew.heap[b]?=some (.cells arr e (0,0)):=hW _ _ g1;rw[iO hW1];exact g5 i u hu
end
end Go.E
