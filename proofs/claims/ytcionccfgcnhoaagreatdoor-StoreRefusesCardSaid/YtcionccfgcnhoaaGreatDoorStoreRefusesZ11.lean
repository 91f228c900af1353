/-
  Fi6, Fi7, Fi8, Fi9, FiA, FiQ, FiK, Fr1, Fr2, Sn2, Frame, E16, E18, E24, FrameL, ByDat, ListsDat, FrameN, Lg1
-/
import Derived.Test.YtcionccfgcnhoaaGreatDoorStoreRefusesZ10
import Derived.ProofKit
import Derived.OpenShut
import Derived.ChangeArms
namespace Go.E.YtcionccfgcnhoaaGreatDoor
open Go.Proofs
set_option maxRecDepth 100000
theorem Fl.Ok.later {f : Fl} {c c' : Nat} (h : f.Ok c) (hc : c ≤ c') : f.Ok c' := ⟨h.bs, h.byt, h.safe, Nat.lt_of_lt_of_le h.born hc⟩
theorem FS.ins {p p' : Mem} {bf bm : Nat} {q : Int} {nb ns clock : Nat} {F : List Fl} {f : Fl} {name : ByteArray} (h : FS p bf bm q nb ns clock F) (hf : f.Ok clock ∨ (Bs f.p f.v (nc f.l) ∧ (∀ x ∈ f.l, x < 256) ∧ f.safe ≤ f.l.length))
    (hs : Split p (blk1 f.bx (fileO f.v f.safe) :: f.p :: blk1 bf (filesO q bm nb ns) :: blk1 bm (mapF F clock) :: F.flatMap Fl.parts)) (hp : p' = p.set bm (mapO Value.string (setM name (.v (.pointer (some ⟨f.bx, 0, none⟩))) clock (F.map Fl.men)) (clockM name clock (F.map Fl.men)))) :
    FS p' bf bm q nb ns (clockF F name clock) (putF F f name clock) := by
  have hfok : Bs f.p f.v (nc f.l) ∧ (∀ x ∈ f.l, x < 256) ∧ f.safe ≤ f.l.length := by
    rcases hf with hf | hf
    · exact ⟨hf.bs, hf.byt, hf.safe⟩
    · exact hf
  have hck : clockM name clock (F.map Fl.men) = clockF F name clock := by
    unfold clockM clockF
    rw [findM_files, Option.isSome_map]
  have hcl : clock ≤ clockF F name clock := by unfold clockF; split <;> omega
  rw [setM_files, hck] at hp
  have hs2 := hs.setAt (i := 3) rfl (blk1_same ..) (mapF (putF F f name clock) (clockF F name clock))
  rw [blk1_set] at hs2
  have hs2 : Split p' (blk1 f.bx (fileO f.v f.safe) :: f.p :: blk1 bf (filesO q bm nb ns) :: blk1 bm (mapF (putF F f name clock) (clockF F name clock)) :: F.flatMap Fl.parts) := by rw [hp]; exact hs2
  rcases putF_split (F := F) (f := f) (name := name) (clock := clock) with ⟨h1, h2⟩ | ⟨C, g, D, h0, h1, h2, h3, h4⟩
  · have hc : clockF F name clock = clock + 1 := by unfold clockF; rw [h1]; rfl
    have hno : ∀ x ∈ F, x.name ≠ name := fun x hx e => by
      have := List.find?_eq_none.1 h1 x hx
      simp [e] at this
    rw [h2] at hs2 ⊢
    rw [hc] at hs2 ⊢
    refine ⟨?_, fun x hx => ?_, ?_, ?_⟩
    · have := partsPerm F [] { f with name := name, born := clock } (blk1 bf (filesO q bm nb ns)) (blk1 bm (mapF (F ++ [{ f with name := name, born := clock }]) (clock + 1)))
      rw [List.append_nil] at this
      exact hs2.perm this.symm
    · rcases List.mem_append.1 hx with hx | hx
      · exact (h.ok x hx).later (by omega)
      · rw [List.mem_singleton.1 hx]; exact ⟨hfok.1, hfok.2.1, hfok.2.2, Nat.lt_succ_self _⟩
    · refine List.pairwise_append.2 ⟨h.names, by simp, fun a ha b hb => ?_⟩
      rw [List.mem_singleton.1 hb]; exact hno a ha
    · refine List.pairwise_append.2 ⟨h.borns, by simp, fun a ha b hb => ?_⟩
      rw [List.mem_singleton.1 hb]
      have := (h.ok a ha).born
      simp only; omega
  · subst h0
    have hc : clockF (C ++ g :: D) name clock = clock := by unfold clockF; rw [h3]; rfl
    rw [h4] at hs2 ⊢
    rw [hc] at hs2 ⊢
    refine ⟨?_, fun x hx => ?_, ?_, ?_⟩
    · -- the old file's parts are dropped
      have h5 : Split p' (blk1 f.bx (fileO f.v f.safe) :: f.p :: blk1 bf (filesO q bm nb ns) :: blk1 bm (mapF (C ++ { f with name := name, born := g.born } :: D) clock) :: (C ++ D).flatMap Fl.parts) := by
        have h6 := hs2.perm (List.Perm.cons _ (List.Perm.cons _ (partsPerm C D g _ _)))
        exact (h6.erase 2).erase 2
      exact h5.perm (partsPerm C D { f with name := name, born := g.born } _ _).symm
    · rcases List.mem_append.1 hx with hx | hx
      · exact h.ok x (by simp [hx])
      · rcases List.mem_cons.1 hx with rfl | hx
        · exact ⟨hfok.1, hfok.2.1, hfok.2.2, (h.ok g (by simp)).born⟩
        · exact h.ok x (by simp [hx])
    · have e : (C ++ { f with name := name, born := g.born } :: D).map (·.name) = (C ++ g :: D).map (·.name) := by simp [h1]
      have h6 := List.pairwise_map.2 h.names
      rw [← e] at h6
      exact List.pairwise_map.1 h6
    · have e : (C ++ { f with name := name, born := g.born } :: D).map (·.born) = (C ++ g :: D).map (·.born) := by simp
      have h6 := List.pairwise_map.2 h.borns
      rw [← e] at h6
      exact List.pairwise_map.1 h6
def renE (F : List Fl) (a b : ByteArray) : Int := match fileOf F a with
  | none => 4
  | some _ => if nameOk (chs b) then 0 else 1
def renF (F : List Fl) (a b : ByteArray) (clock : Nat) : List Fl := match fileOf F a with
  | none => F
  | some f => if nameOk (chs b) then putF (rmF F a) f b clock else F
def renC (F : List Fl) (a b : ByteArray) (clock : Nat) : Nat := match fileOf F a with
  | none => clock
  | some _ => if nameOk (chs b) then clockF (rmF F a) b clock else clock
theorem rename_spec {m : Mem} {bf bm : Nat} {q : Int} {nb ns clock : Nat} {F : List Fl} {a b : ByteArray} (h : FS m bf bm q nb ns clock F) (hb : b.size ≤ 1000000) :
    Spec Tryz.prog 90 [ptrB bf, .v (.string a), .v (.string b)] m fun r m' => r = [i64 (renE F a b)] ∧ FS m' bf bm q nb ns (renC F a b clock) (renF F a b clock) := by
  have hf := find_spec (name := a) h
  have eE : renE F a b = match fileOf F a with
    | none => 4
    | some _ => if nameOk (chs b) then 0 else 1 := rfl
  have eF : renF F a b clock = match fileOf F a with
    | none => F
    | some f => if nameOk (chs b) then putF (rmF F a) f b clock else F := rfl
  have eC : renC F a b clock = match fileOf F a with
    | none => clock
    | some _ => if nameOk (chs b) then clockF (rmF F a) b clock else clock := rfl
  generalize renE F a b = xe at eE ⊢
  generalize renF F a b clock = xf at eF ⊢
  generalize renC F a b clock = xc at eC ⊢
  refine en90 rfl (goY ?_)
  conv => whnf
  cases e : fileOf F a with
  | none =>
    rw [e] at hf eE eF eC
    simp only at eE eF eC
    subst eE eF eC
    first | refine xretk (hf) ?_ | refine xret (hf) ?_
    conv => whnf
    refine ⟨fun _ => ?_, fun h => absurd h (by first | decide | simp)⟩
    conv => whnf
    exact ⟨rfl, h⟩
  | some f =>
    rw [e] at hf eE eF eC
    simp only at eE eF eC
    first | refine xretk (hf) ?_ | refine xret (hf) ?_
    conv => whnf
    refine ⟨fun h => absurd h (by first | decide | simp), fun _ => ?_⟩
    conv => whnf
    first | refine xretk (isName_spec hb) ?_ | refine xret (isName_spec hb) ?_
    conv => whnf
    cases hn : nameOk (chs b) with
    | false =>
      rw [hn] at eE eF eC
      simp only [Bool.false_eq_true, if_false] at eE eF eC
      subst eE eF eC
      refine ⟨fun _ => ?_, fun h => absurd h (by first | decide | simp)⟩
      conv => whnf
      exact ⟨rfl, h⟩
    | true =>
      rw [hn] at eE eF eC
      simp only [if_true] at eE eF eC
      obtain ⟨A, B, rfl, _, rfl⟩ := fileOf_split e
      obtain ⟨hA, hB⟩ := h.names_of
      have hok := h.ok f (by simp)
      rw [rmF_split hA hB] at eF eC
      refine ⟨fun h => absurd h (by first | decide | simp), fun _ => ?_⟩
      conv => whnf
      refine ⟨.map (some bm), mcell_of h.files rfl, rfl, ?_⟩
      conv => whnf
      refine .mk _ (mapDelF h.map) ?_
      rintro _ _ ⟨rfl, rfl⟩
      conv => whnf
      rw [delM_files hA]
      obtain ⟨h1, h2⟩ := h.del rfl
      refine ⟨.map (some bm), mcell_of h1.files rfl, rfl, ?_⟩
      conv => whnf
      refine .mk _ (mapSetF (v := ptrB f.bx) h1.map) ?_
      rintro _ m' rfl
      conv => whnf
      subst eE eF eC
      exact ⟨rfl, h1.ins (.inl hok) h2 rfl⟩
theorem Split.rest {m q : Mem} {l : List Mem} (h : Split m (q :: l)) : Split m [allM l, q] ∧ Split (allM l) l := by
  obtain ⟨h1, h2⟩ := h
  obtain ⟨h3, h4⟩ := List.pairwise_cons.1 h2
  refine ⟨⟨fun x o hx => ?_, ?_⟩, Sub.refl _, h4⟩
  · obtain ⟨a, ha, hx2⟩ := allM_some hx
    simp only [List.mem_cons, List.not_mem_nil, or_false] at ha
    rcases ha with rfl | rfl
    · obtain ⟨b, hb, hx3⟩ := allM_some hx2
      exact h1 _ _ (allM_of h2 (List.mem_cons_of_mem _ hb) hx3)
    · exact h1 _ _ (allM_of h2 (List.mem_cons_self ..) hx2)
  · simp only [List.pairwise_cons, List.mem_singleton, forall_eq, List.not_mem_nil, false_implies, implies_true, List.Pairwise.nil, and_true]
    intro x
    cases hq : q x with
    | none => exact .inr rfl
    | some o =>
      refine .inl (allM_none.2 fun a ha => ?_)
      rcases h3 a ha x with h' | h'
      · rw [hq] at h'; cases h'
      · exact h'
theorem Split.pick1 {mm p : Mem} {l : List Mem} (h : Split mm (p :: l)) : ∃ q, (∀ x ∈ l, Sub x q) ∧ Split mm [p, q] ∧ ∀ m' p', Split m' [p', q] → Split m' (p' :: l) := by
  obtain ⟨h2, h3⟩ := Split.rest h
  exact ⟨allM l, fun x hx => h3.sub hx, h2.perm (List.Perm.swap _ _ _), fun m' p' h4 => Split.under (a := [p']) h4 h3⟩
theorem FS.grow {p m : Mem} {bf bm : Nat} {q : Int} {nb ns clock : Nat} {F : List Fl} (h : FS p bf bm q nb ns clock F) (hs : Sub p m) : FS m bf bm q nb ns clock F := ⟨h.sp.grow hs, h.ok, h.names, h.borns⟩
structure Af where
  name : ByteArray
  l : List Nat
  safe : Nat
def Fl.af (f : Fl) : Af := ⟨f.name, f.l, f.safe⟩
abbrev absF (F : List Fl) : List Af := F.map Fl.af
def appA : List Af → ByteArray → List Nat → List Af
  | [], name, b => [⟨name, b, 0⟩]
  | x :: A, name, b => if name = x.name then { x with l := x.l ++ b } :: A else x :: appA A name b
theorem appA_split {A B : List Fl} {f g : Fl} {b : List Nat} (hA : ∀ x ∈ A, x.name ≠ f.name) (h1 : g.name = f.name) (h2 : g.l = f.l ++ b) (h3 : g.safe = f.safe) : absF (A ++ g :: B) = appA (absF (A ++ f :: B)) f.name b := by
  induction A with
  | nil => simp only [List.nil_append, List.map_cons, appA, Fl.af]; rw [if_pos trivial, h1, h2, h3]
  | cons x A ih =>
    have hx := hA x (by simp)
    have ih := ih fun y hy => hA y (by simp [hy])
    simp only [absF, List.cons_append, List.map_cons, appA] at ih ⊢
    rw [if_neg (fun e => hx (by simpa [Fl.af] using e.symm)), ih]
theorem appA_new {F : List Fl} {name : ByteArray} {b : List Nat} {f : Fl} (h : ∀ x ∈ F, x.name ≠ name) (h1 : f.name = name) (h2 : f.l = b) (h3 : f.safe = 0) : absF (F ++ [f]) = appA (absF F) name b := by
  induction F with
  | nil => simp [appA, Fl.af, h1, h2, h3]
  | cons x A ih =>
    have hx := h x (by simp)
    have ih := ih fun y hy => h y (by simp [hy])
    simp only [absF, List.cons_append, List.map_cons, appA] at ih ⊢
    rw [if_neg (fun e => hx (by simpa [Fl.af] using e.symm)), ih]
set_option maxHeartbeats 2000000 in
theorem append_tail {m mm p0 : Mem} {bf bm : Nat} {q : Int} {nb ns clock : Nat} {A B : List Fl} {f : Fl} {vb : Value} {lb : List Nat} {R : List CV → Mem → Prop} (h : FS p0 bf bm q nb ns clock (A ++ f :: B)) (hs : Split mm [p0, m]) (hb : La m vb (nc lb)) (h256 : ∀ x ∈ lb, x < 256) (hl : f.l.length + lb.length ≤ 100000000) (hnb : nb ≤ 1000000000000000000)
    (hR : ∀ p' m' g, g.name = f.name → g.l = f.l ++ lb → g.safe = f.safe → Split m' [p', m] → FS p' bf bm q (nb + lb.length) ns clock (A ++ g :: B) → R [i64 0] m') :
    xwpY c53 (restAt 11 (bodyOf Tryz.f53)) (QRetY tt.get Tryz.f53.results.toList R)
      [(0, .c (ptrB bf)), (2, .c (.v vb)), (7, .c (ptrB f.bx))] [] mm [] := by
  obtain ⟨ab, cb, rfl⟩ := hb.shape
  rw [nc_len] at hb ⊢
  have hok := h.ok f (by simp)
  have hs1 : Split mm (m :: blk1 f.bx (fileO f.v f.safe) :: f.p :: blk1 bf (filesO q bm nb ns) :: blk1 bm (mapF (A ++ f :: B) clock) :: (A ++ B).flatMap Fl.parts) := (hs.perm (List.Perm.swap _ _ _)).under (a := [m]) h.pick
  have hm : mm f.bx = some (fileO f.v f.safe) := hs1.sub (a := blk1 f.bx (fileO f.v f.safe)) (by simp) _ _ (blk1_same ..)
  have hone := hok.bs.lb.one
  conv => whnf
  refine .at ?_
  conv => whnf
  refine ⟨f.v, mcell_of hm rfl, hone, ?_⟩
  conv => whnf
  refine .mk _ (appendBat (i := 2) hs1 rfl hok.bs (hb.sub (hs1.sub (by simp))) (by simp; omega)) ?_
  rintro _ m2 ⟨v2, p2, rfl, hs2, hv2⟩
  conv => whnf
  have hs2 : Split m2 (m :: blk1 f.bx (fileO f.v f.safe) :: p2 :: blk1 bf (filesO q bm nb ns) :: blk1 bm (mapF (A ++ f :: B) clock) :: (A ++ B).flatMap Fl.parts) := hs2
  have hm2 : m2 f.bx = some (fileO f.v f.safe) := hs2.sub (a := blk1 f.bx (fileO f.v f.safe)) (by simp) _ _ (blk1_same ..)
  refine ⟨_, _, _, hm2, ⟨Nat.zero_lt_succ _, by simp⟩, ?_⟩
  have hs3 := hs2.setAt (i := 1) rfl (blk1_same ..) (fileO v2 f.safe)
  rw [blk1_set] at hs3
  have hs3 : Split (m2.set f.bx (fileO v2 f.safe)) (m :: blk1 f.bx (fileO v2 f.safe) :: p2 :: blk1 bf (filesO q bm nb ns) :: blk1 bm (mapF (A ++ f :: B) clock) :: (A ++ B).flatMap Fl.parts) := hs3
  have hb3 : (m2.set f.bx (fileO v2 f.safe)) bf = some (filesO q bm nb ns) := hs3.sub (a := blk1 bf (filesO q bm nb ns)) (by simp) _ _ (blk1_same ..)
  have ew : IntKind.u64.wrap (lb.length : Int) = (lb.length : Int) := wu (by omega) (by omega)
  conv => whnf
  rw [ew]
  refine xcall (aadd_at (x := nb) (y := lb.length) hb3 rfl (by omega)) ?_
  rintro _ m4 ⟨rfl, rfl⟩
  conv => whnf
  have hs4 := hs3.setAt (i := 3) rfl (blk1_same ..) (filesO q bm (nb + lb.length) ns)
  rw [blk1_set] at hs4
  obtain ⟨h5, h6⟩ := Split.rest hs4
  refine hR _ _ { f with v := v2, l := f.l ++ lb, p := p2 } rfl rfl rfl h5 ?_
  refine h.put (g := { f with v := v2, l := f.l ++ lb, p := p2 }) rfl rfl rfl ⟨?_, fun x hx => ?_, ?_, hok.born⟩ h6
  · have := hv2.own
    rw [show nc f.l ++ nc lb = nc (f.l ++ lb) by simp [nc]] at this
    exact this
  · rcases List.mem_append.1 hx with hx | hx
    · exact hok.byt x hx
    · exact h256 x hx
  · have := hok.safe
    simp only [List.length_append]; omega
def totA (A : List Af) : Nat := (A.map (·.l.length)).sum
theorem totA_abs (F : List Fl) : totA (absF F) = total F := by simp [totA, total, absF, Fl.af, Function.comp_def]
def AppR (A : List Af) (name : ByteArray) (lb : List Nat) (q e : Int) (A' : List Af) (nb nb' : Nat) : Prop :=
  if nameOk (chs name) = false then e = 1 ∧ A' = A ∧ nb' = nb else if 0 < q ∧ q < (totA A + lb.length : Nat) then e = 5 ∧ A' = A ∧ nb' = nb else e = 0 ∧ A' = appA A name lb ∧ nb' = nb + lb.length
theorem append_nil {m : Mem} {name : ByteArray} {v : Value} : Ret Tryz.prog 53 [.v (.pointer none), .v (.string name), .v v] m [i64 6] := by
  refine en53 rfl (goY ?_)
  conv => whnf
  first | refine xretk (find_nil) ?_ | refine xret (find_nil) ?_
  conv => whnf
  refine ⟨fun _ => ?_, fun h => absurd h (by first | decide | simp)⟩
  conv => whnf
  exact ⟨rfl, rfl⟩
theorem keptF {m mx my : Mem} {b : Nat} {ob : Obj} {l : List Nat} (h : m b = some ob) (hx : Sub m mx) (hy : Sub m my) (hl : ∀ x ∈ l, x = b) : Kept l mx my := fun x hx' => by
  rw [hl x hx', hx _ _ h, hy _ _ h]
set_option maxHeartbeats 4000000 in
theorem append_spec' {m mm p : Mem} {bf bm : Nat} {q : Int} {nb ns clock : Nat} {F : List Fl} {name : ByteArray} {vb : Value} {lb : List Nat} (h : FS p bf bm q nb ns clock F) (hs : Split mm [p, m]) (hv : La m vb (nc lb)) (h256 : ∀ x ∈ lb, x < 256) (hn : name.size ≤ 1000000) (hq : 0 ≤ q ∧ q ≤ 9223372036854775807)
    (hl : ∀ f ∈ F, f.l.length ≤ 90000000) (hlb : lb.length ≤ 1000000) (htot : total F ≤ 1000000000000) (hnb : nb ≤ 1000000000000000000) :
    Spec Tryz.prog 53 [ptrB bf, .v (.string name), .v vb] mm fun r m' => ∃ e p' F' clock' nb', r = [i64 e] ∧ Split m' [p', m] ∧ FS p' bf bm q nb' ns clock' F' ∧ AppR (absF F) name lb q e (absF F') nb nb' := by
  have hM := h.grow (hs.sub (by simp))
  have hf := find_spec (name := name) hM
  obtain ⟨ab, cb, rfl⟩ := hv.shape
  rw [nc_len] at hv ⊢
  have there : ∀ mm p clock A f B, FS p bf bm q nb ns clock (A ++ f :: B) → Split mm [p, m] → (∀ x ∈ A, x.name ≠ f.name) → f.l.length ≤ 90000000 → nameOk (chs name) = true → ¬ (0 < q ∧ q < (totA (absF F) + lb.length : Nat)) → (∀ g : Fl, g.name = f.name → g.l = f.l ++ lb → g.safe = f.safe → absF (A ++ g :: B) = appA (absF F) name lb) →
      xwpY c53 (restAt 11 (bodyOf Tryz.f53)) (QRetY tt.get Tryz.f53.results.toList fun r m' => ∃ e p' F' clock' nb', r = [i64 e] ∧ Split m' [p', m] ∧ FS p' bf bm q nb' ns clock' F' ∧ AppR (absF F) name lb q e (absF F') nb nb')
      [(0, .c (ptrB bf)), (2, .c (.v (.slice ab lb.length cb))), (7, .c (ptrB f.bx))] [] mm [] := by
    intro mm p clock A f B h1 h2 hA h3 h4 h5 h6
    refine append_tail h1 h2 hv h256 (by omega) hnb fun p' m' g e1 e2 e3 h7 h8 => ⟨0, p', A ++ g :: B, clock, nb + lb.length, rfl, h7, h8, ?_⟩
    rw [AppR, if_neg (by rw [h4]; decide), if_neg h5]
    exact ⟨rfl, h6 g e1 e2 e3, rfl⟩
  refine en53 rfl (goY ?_)
  conv => whnf
  cases e : fileOf F name with
  | none =>
    rw [e] at hf
    have hno : ∀ x ∈ F, x.name ≠ name := fun x hx e' => by
      have := List.find?_eq_none.1 e x hx
      simp [e'] at this
    first | refine xretk (hf) ?_ | refine xret (hf) ?_
    conv => whnf
    refine ⟨fun h => absurd h (by first | decide | simp), fun _ => ?_⟩
    conv => whnf
    first | refine xretk (isName_spec hn) ?_ | refine xret (isName_spec hn) ?_
    conv => whnf
    cases hnm : nameOk (chs name) with
    | false =>
      refine ⟨fun _ => ?_, fun h => absurd h (by first | decide | simp)⟩
      conv => whnf
      exact ⟨1, p, F, clock, nb, rfl, hs, h, by rw [AppR, if_pos hnm]; exact ⟨rfl, rfl, rfl⟩⟩
    | true =>
      refine ⟨fun h => absurd h (by first | decide | simp), fun _ => ?_⟩
      conv => whnf
      refine ⟨.int .i64 q, mcell_of hM.files rfl, rfl, ?_⟩
      conv => whnf
      refine ⟨fun h1 => ?_, fun h1 => ?_⟩
      · have hq1 := of_decide_eq_true h1
        clear h1
        have ew : IntKind.i64.wrap (q - (lb.length : Int)) = q - (lb.length : Int) := wi (by omega) (by omega)
        conv => whnf
        refine ⟨.int .i64 q, mcell_of hM.files rfl, rfl, ?_⟩
        conv => whnf
        rw [ew]
        refine xcall (used_spec hM htot) ?_
        rintro _ m1 ⟨rfl, hsu⟩
        conv => whnf
        first | (refine ⟨keptF hM.files (Sub.refl _) hsu (by simp), ?_⟩; conv => whnf) | skip
        have hs1 := hs.grow hsu
        refine ⟨fun h2 => ?_, fun h2 => ?_⟩
        · have h2' := of_decide_eq_true h2
          conv => whnf
          exact ⟨5, p, _, clock, nb, rfl, hs1, h, by rw [AppR, if_neg (by rw [hnm]; decide), if_pos ⟨hq1, by rw [totA_abs]; omega⟩]; exact ⟨rfl, rfl, rfl⟩⟩
        · have h2' := of_decide_eq_false h2
          have hfit : ¬ (0 < q ∧ q < (totA (absF F) + lb.length : Nat)) := fun hx => by have := hx.2; rw [totA_abs] at this; omega
          clear h2
          conv => whnf
          refine ⟨fun _ => ?_, fun h => absurd h (by first | decide | simp)⟩
          conv => whnf
          intro b hb
          have hpb : p b = none := hs1.none hb p (by simp)
          have hs2 := (hs1.new hb (fileO (.slice none 0 0) 0)).pair
          conv => whnf
          have hP := ((((Split.one p).new hpb (fileO (.slice none 0 0) 0)).under (a := [blk1 b (fileO (.slice none 0 0) 0)]) h.sp).addEmp).perm (List.Perm.swap _ _ _)
          rw [← joinM_blk1] at hP
          have hp1 : FS (joinM (blk1 b (fileO (.slice none 0 0) 0)) p) bf bm q nb ns clock F := h.grow (by rw [joinM_blk1]; exact Mem.sub_set _ hpb)
          have hM2 := hp1.grow (hs2.sub (by simp))
          refine ⟨.map (some bm), mcell_of hM2.files rfl, rfl, ?_⟩
          conv => whnf
          refine .mk _ (mapSetF (v := ptrB b) hM2.map) ?_
          rintro _ m' rfl
          conv => whnf
          have hs3 := hs2.set hp1.map (mapO Value.string (setM name (ptrB b) clock (F.map Fl.men)) (clockM name clock (F.map Fl.men)))
          have hp2 := hp1.ins (f := ⟨name, b, .slice none 0 0, [], 0, clock, emp⟩) (name := name) (.inr ⟨Bs.nil _, by simp, Nat.le_refl _⟩) hP rfl
          have hpf : putF F ⟨name, b, .slice none 0 0, [], 0, clock, emp⟩ name clock = F ++ [⟨name, b, .slice none 0 0, [], 0, clock, emp⟩] := by
            rcases putF_split (F := F) (f := ⟨name, b, .slice none 0 0, [], 0, clock, emp⟩) (name := name) (clock := clock) with ⟨_, h2⟩ | ⟨C, g, D, h0, _, _, h3, _⟩
            · exact h2
            · rw [e] at h3; cases h3
          rw [hpf] at hp2
          have tl := there _ _ _ _ _ [] hp2 hs3 hno (by simp) hnm hfit (fun g e1 e2 e3 => appA_new hno e1 (by rw [e2]; rfl) e3)
          conv at tl => whnf
          refine .via _ _ ?_ tl
          conv => whnf
          repeat (refine And.intro (by first | with_reducible rfl | exact congrArg (Value.int _) (wi (by omega) (by omega)) | exact wi (by omega) (by omega) | rfl) ?_; conv => whnf)
          first | exact trivial | exact fun _ _ h => h
      · have hq1 := of_decide_eq_false h1
        have hfit : ¬ (0 < q ∧ q < (totA (absF F) + lb.length : Nat)) := fun hx => hq1 hx.1
        have hs1 := hs
        clear h1
        conv => whnf
        refine ⟨fun _ => ?_, fun h => absurd h (by first | decide | simp)⟩
        conv => whnf
        intro b hb
        have hpb : p b = none := hs1.none hb p (by simp)
        have hs2 := (hs1.new hb (fileO (.slice none 0 0) 0)).pair
        conv => whnf
        have hP := ((((Split.one p).new hpb (fileO (.slice none 0 0) 0)).under (a := [blk1 b (fileO (.slice none 0 0) 0)]) h.sp).addEmp).perm (List.Perm.swap _ _ _)
        rw [← joinM_blk1] at hP
        have hp1 : FS (joinM (blk1 b (fileO (.slice none 0 0) 0)) p) bf bm q nb ns clock F := h.grow (by rw [joinM_blk1]; exact Mem.sub_set _ hpb)
        have hM2 := hp1.grow (hs2.sub (by simp))
        refine ⟨.map (some bm), mcell_of hM2.files rfl, rfl, ?_⟩
        conv => whnf
        refine .mk _ (mapSetF (v := ptrB b) hM2.map) ?_
        rintro _ m' rfl
        conv => whnf
        have hs3 := hs2.set hp1.map (mapO Value.string (setM name (ptrB b) clock (F.map Fl.men)) (clockM name clock (F.map Fl.men)))
        have hp2 := hp1.ins (f := ⟨name, b, .slice none 0 0, [], 0, clock, emp⟩) (name := name) (.inr ⟨Bs.nil _, by simp, Nat.le_refl _⟩) hP rfl
        have hpf : putF F ⟨name, b, .slice none 0 0, [], 0, clock, emp⟩ name clock = F ++ [⟨name, b, .slice none 0 0, [], 0, clock, emp⟩] := by
          rcases putF_split (F := F) (f := ⟨name, b, .slice none 0 0, [], 0, clock, emp⟩) (name := name) (clock := clock) with ⟨_, h2⟩ | ⟨C, g, D, h0, _, _, h3, _⟩
          · exact h2
          · rw [e] at h3; cases h3
        rw [hpf] at hp2
        have tl := there _ _ _ _ _ [] hp2 hs3 hno (by simp) hnm hfit (fun g e1 e2 e3 => appA_new hno e1 (by rw [e2]; rfl) e3)
        conv at tl => whnf
        refine .via _ _ ?_ tl
        conv => whnf
        repeat (refine And.intro (by first | with_reducible rfl | exact congrArg (Value.int _) (wi (by omega) (by omega)) | exact wi (by omega) (by omega) | rfl) ?_; conv => whnf)
        first | exact trivial | exact fun _ _ h => h
  | some f =>
    rw [e] at hf
    obtain ⟨A, B, rfl, hA, rfl⟩ := fileOf_split e
    have hlf := hl f (by simp)
    first | refine xretk (hf) ?_ | refine xret (hf) ?_
    conv => whnf
    refine ⟨fun h => absurd h (by first | decide | simp), fun _ => ?_⟩
    conv => whnf
    first | refine xretk (isName_spec hn) ?_ | refine xret (isName_spec hn) ?_
    conv => whnf
    cases hnm : nameOk (chs f.name) with
    | false =>
      refine ⟨fun _ => ?_, fun h => absurd h (by first | decide | simp)⟩
      conv => whnf
      exact ⟨1, p, _, clock, nb, rfl, hs, h, by rw [AppR, if_pos hnm]; exact ⟨rfl, rfl, rfl⟩⟩
    | true =>
      refine ⟨fun h => absurd h (by first | decide | simp), fun _ => ?_⟩
      conv => whnf
      refine ⟨.int .i64 q, mcell_of hM.files rfl, rfl, ?_⟩
      conv => whnf
      refine ⟨fun h1 => ?_, fun h1 => ?_⟩
      · have hq1 := of_decide_eq_true h1
        clear h1
        have ew : IntKind.i64.wrap (q - (lb.length : Int)) = q - (lb.length : Int) := wi (by omega) (by omega)
        conv => whnf
        refine ⟨.int .i64 q, mcell_of hM.files rfl, rfl, ?_⟩
        conv => whnf
        rw [ew]
        refine xcall (used_spec hM htot) ?_
        rintro _ m1 ⟨rfl, hsu⟩
        conv => whnf
        first | (refine ⟨keptF hM.files (Sub.refl _) hsu (by simp), ?_⟩; conv => whnf) | skip
        have hs1 := hs.grow hsu
        refine ⟨fun h2 => ?_, fun h2 => ?_⟩
        · have h2' := of_decide_eq_true h2
          conv => whnf
          exact ⟨5, p, _, clock, nb, rfl, hs1, h, by rw [AppR, if_neg (by rw [hnm]; decide), if_pos ⟨hq1, by rw [totA_abs]; omega⟩]; exact ⟨rfl, rfl, rfl⟩⟩
        · have h2' := of_decide_eq_false h2
          have hfit : ¬ (0 < q ∧ q < (totA (absF (A ++ f :: B)) + lb.length : Nat)) := fun hx => by have := hx.2; rw [totA_abs] at this; omega
          clear h2
          conv => whnf
          refine ⟨fun h => absurd h (by first | decide | simp), fun _ => ?_⟩
          conv => whnf
          have tl := there _ _ _ _ _ _ h hs1 hA hlf hnm hfit (fun g e1 e2 e3 => appA_split hA e1 e2 e3)
          conv at tl => whnf
          refine .via _ _ ?_ tl
          conv => whnf
          repeat (refine And.intro (by first | with_reducible rfl | exact congrArg (Value.int _) (wi (by omega) (by omega)) | exact wi (by omega) (by omega) | rfl) ?_; conv => whnf)
          first | exact trivial | exact fun _ _ h => h
      · have hq1 := of_decide_eq_false h1
        have hfit : ¬ (0 < q ∧ q < (totA (absF (A ++ f :: B)) + lb.length : Nat)) := fun hx => hq1 hx.1
        have hs1 := hs
        clear h1
        conv => whnf
        refine ⟨fun h => absurd h (by first | decide | simp), fun _ => ?_⟩
        conv => whnf
        have tl := there _ _ _ _ _ _ h hs1 hA hlf hnm hfit (fun g e1 e2 e3 => appA_split hA e1 e2 e3)
        conv at tl => whnf
        refine .via _ _ ?_ tl
        conv => whnf
        repeat (refine And.intro (by first | with_reducible rfl | exact congrArg (Value.int _) (wi (by omega) (by omega)) | exact wi (by omega) (by omega) | rfl) ?_; conv => whnf)
        first | exact trivial | exact fun _ _ h => h
def lastN (a : Af) (x : Int) : Nat := (min (max x 0) ((a.l.length : Int) - a.safe)).toNat
def crash1 (A : List Af) (name : ByteArray) (x : Int) : List Af := A.map fun a => if a.name = name then ⟨a.name, a.l.take (a.safe + lastN a x), a.safe + lastN a x⟩ else a
def crashTo (N : List ByteArray) (last : List Int) (A : List Af) : Nat → List Af
  | 0 => A
  | i + 1 => crash1 (crashTo N last A i) (N.getD i ByteArray.empty) (last.getD i 0)
def crashA (A : List Af) (last : List Int) : List Af := crashTo (srtB (A.map (·.name))) last A A.length
theorem crash1_names (A : List Af) (name : ByteArray) (x : Int) : (crash1 A name x).map (·.name) = A.map (·.name) := by
  simp only [crash1, List.map_map]
  refine List.map_congr_left fun a _ => ?_
  simp only [Function.comp]
  split <;> rfl
theorem crashTo_names (N : List ByteArray) (last : List Int) (A : List Af) : ∀ i, (crashTo N last A i).map (·.name) = A.map (·.name)
  | 0 => rfl
  | i + 1 => by rw [crashTo, crash1_names, crashTo_names N last A i]
theorem abs_names (F : List Fl) : (absF F).map (·.name) = F.map (·.name) := by simp [absF, Fl.af]
theorem srtB_same (ss : List ByteArray) : (srtB ss).Perm ss := by
  have h1 : ((ss.map encB).mergeSort fun x y => decide (x ≤ y)).Perm (ss.map encB) := List.mergeSort_perm _ _
  have h2 := h1.map fun l : List UInt8 => (⟨l.toArray⟩ : ByteArray)
  rw [List.map_map] at h2
  have e : ss.map ((fun l : List UInt8 => (⟨l.toArray⟩ : ByteArray)) ∘ encB) = ss := by
    refine (List.map_congr_left fun s _ => ?_).trans (List.map_id ss)
    cases s; simp [encB]
  rw [e] at h2
  exact h2
theorem crash1_split {A B : List Fl} {f g : Fl} {x : Int} (hA : ∀ y ∈ A, y.name ≠ f.name) (hB : ∀ y ∈ B, y.name ≠ f.name) (hg : g.af = ⟨f.name, f.l.take (f.safe + lastN f.af x), f.safe + lastN f.af x⟩) : absF (A ++ g :: B) = crash1 (absF (A ++ f :: B)) f.name x := by
  have h1 : ∀ L : List Fl, (∀ y ∈ L, y.name ≠ f.name) → (L.map Fl.af).map (fun a => if a.name = f.name then (⟨a.name, a.l.take (a.safe + lastN a x), a.safe + lastN a x⟩ : Af) else a) = L.map Fl.af := fun L hL => by
    refine (List.map_congr_left fun a ha => ?_).trans (List.map_id _)
    obtain ⟨y, hy, rfl⟩ := List.mem_map.1 ha
    rw [if_neg (show ¬ y.af.name = f.name from fun e => hL y hy e)]; rfl
  simp only [absF, crash1, List.map_append, List.map_cons]
  rw [h1 A hA, h1 B hB, hg, if_pos (show f.af.name = f.name from rfl)]
  rfl
set_option maxHeartbeats 4000000 in
theorem crash_spec {m mm p : Mem} {bf bm : Nat} {q : Int} {nb ns clock : Nat} {F : List Fl} {vl : Value} {last : List Int} (h : FS p bf bm q nb ns clock F) (hs : Split mm [p, m]) (hv : Ia m vl last) (hlast : last.length ≤ 9223372036854775807) (hl : ∀ f ∈ F, f.l.length ≤ 90000000) (hF : F.length ≤ 1000000) (hI : ∀ x ∈ last, -9223372036854775808 ≤ x ∧ x ≤ 9223372036854775807) :
    Spec Tryz.prog 12 [ptrB bf, .v vl] mm fun r m' => ∃ p' F', r = [] ∧ Split m' [p', m] ∧ FS p' bf bm q nb ns clock F' ∧ absF F' = crashA (absF F) last ∧ ∀ f ∈ F', f.l.length ≤ 90000000 := by
  obtain ⟨a, c, rfl⟩ := hv.shape
  have hN : (namesF F).length = F.length := by rw [namesF, srtB_len, List.length_map]
  have hNs : srtB ((absF F).map (·.name)) = namesF F := by rw [abs_names]; rfl
  refine en12 rfl (goY ?_)
  conv => whnf
  refine xcall (names_spec (h.grow (hs.sub (by simp))) hF) ?_
  rintro _ m1 ⟨vn, pn, rfl, hsn, hvn⟩
  conv => whnf
  have hsn : Split m1 [pn, p, m] := hsn.under (a := [pn]) hs
  have hsn : Split m1 [p, pn, m] := hsn.perm (List.Perm.swap _ _ _)
  obtain ⟨an, cn, rfl⟩ := hvn.sl.shape
  rw [hN] at hvn ⊢
  conv => whnf
  refine .mk (ι := Nat) (fun i => F.length - i) (fun i mm => i ≤ F.length ∧ ∃ p' F', Split mm [p', pn, m] ∧ FS p' bf bm q nb ns clock F' ∧ absF F' = crashTo (namesF F) last (absF F) i ∧ ∀ f ∈ F', f.l.length ≤ 90000000)
    (fun i => [(0, .c (ptrB bf)), (1, .c (.v (.slice a last.length c))), (9, .c (.v (.slice an F.length cn))), (10, .c (i64 F.length)), (11, .c (i64 i))]) (fun _ => []) 0 ⟨by omega, p, F, hsn, h, rfl, hl⟩ ?_ ?_
  · conv => whnf
    repeat (refine And.intro (by first | with_reducible rfl | exact congrArg (Value.int _) (wi (by omega) (by omega)) | exact wi (by omega) (by omega) | rfl) ?_; conv => whnf)
    first | exact trivial | exact fun _ _ h => h
  rintro i mm ⟨hi, p, F2, hs, h, hab, hl⟩
  conv => whnf
  refine ⟨fun h1 => ?_, fun h1 => ?_⟩
  rotate_left
  · have h1' := of_decide_eq_false h1
    obtain rfl : i = F.length := by omega
    conv => whnf
    exact ⟨p, F2, rfl, hs.erase 1, h, by rw [hab, crashA, hNs, List.length_map], hl⟩
  have h1' := of_decide_eq_true h1
  have hlt : i < F.length := by omega
  clear h1
  obtain ⟨bn, on, c', hh, hg⟩ := (hvn.sl.sub (hs.sub (a := pn) (by simp))).real (i := i) (by omega)
  rw [hN] at hh
  injection hh with hh1 _ hh3
  subst hh1
  clear hh3 c'
  have hg := hg i (by omega)
  have hmem : (namesF F)[i]'(by omega) ∈ F2.map (·.name) := by
    have h2 : (namesF F)[i]'(by omega) ∈ F.map (·.name) := (srtB_same _).subset (List.getElem_mem _)
    have h3 := congrArg (List.map (·.name)) hab
    rw [abs_names, crashTo_names, abs_names] at h3
    rw [h3]; exact h2
  have hgd : (namesF F).getD i ByteArray.empty = (namesF F)[i]'(by omega) := by rw [List.getD_eq_getElem?_getD, List.getElem?_eq_getElem (by omega)]; rfl
  have hst : crashTo (namesF F) last (absF F) (i + 1) = crash1 (absF F2) ((namesF F)[i]'(by omega)) (last.getD i 0) := by rw [crashTo, hgd, ← hab]
  generalize (namesF F)[i]'(by omega) = name at hg hmem hst
  obtain ⟨f, hfn, hfe⟩ : ∃ f, fileOf F2 name = some f ∧ True := by
    cases e : fileOf F2 name with
    | some f => exact ⟨f, rfl, trivial⟩
    | none =>
      obtain ⟨g, hg1, hg2⟩ := List.mem_map.1 hmem
      have := List.find?_eq_none.1 e g hg1
      simp [hg2] at this
  have hfm := (fileOf_mem hfn).1
  have hok := h.ok f hfm
  have hlf := hl f hfm
  have hM := h.grow (hs.sub (a := p) (by simp))
  have hmf := hM.mem hfm
  have fin : ∀ v n s, f.safe + n = s → Bs f.p v (nc (f.l.take s)) → n = lastN f.af (last.getD i 0) → ∃ p' F', Split (mm.set f.bx (fileO v s)) [p', pn, m] ∧ FS p' bf bm q nb ns clock F' ∧ absF F' = crashTo (namesF F) last (absF F) (i + 1) ∧ ∀ f ∈ F', f.l.length ≤ 90000000 := by
    intro v n s hsx hvb hn
    obtain ⟨A, B, rfl, hA, hfname⟩ := fileOf_split hfn
    subst hfname
    obtain ⟨hA, hB⟩ := h.names_of
    have hs2 := hs.set (h.mem hfm) (fileO v s)
    have hp := h.pick.setAt (i := 0) rfl (blk1_same ..) (fileO v s)
    rw [blk1_set] at hp
    have hle : s ≤ f.l.length := by
      have := hok.safe
      subst hn
      unfold lastN at hsx
      simp only [Fl.af] at hsx
      omega
    refine ⟨_, _, hs2, h.put (g := { f with l := f.l.take s, v := v, safe := s }) rfl rfl rfl ⟨hvb, fun x hx => hok.byt x (List.mem_of_mem_take hx), by simp only [List.length_take]; omega, hok.born⟩ hp, ?_, ?_⟩
    · rw [hst]
      refine crash1_split hA hB ?_
      subst hsx
      subst hn
      rfl
    · intro x hx
      rcases List.mem_append.1 hx with hx | hx
      · exact hl x (by simp [hx])
      · rcases List.mem_cons.1 hx with rfl | hx
        · simp only [List.length_take]; omega
        · exact hl x (by simp [hx])
  have hsafe := hok.safe
  conv => whnf
  repeat (refine And.intro (by first | omega | (simp only [times]; omega)) ?_; conv => whnf)
  refine ⟨.string name, by simp only [times, Int.toNat_natCast, Nat.mul_one]; exact hg, rfl, ?_⟩
  conv => whnf
  refine ⟨.map (some bm), mcell_of hM.files rfl, rfl, ?_⟩
  conv => whnf
  refine .mk _ (lookupF hM.map false) ?_
  rintro _ _ ⟨rfl, rfl⟩
  conv => whnf
  rw [hfn]
  conv => whnf
  refine ⟨fun h2 => ?_, fun h2 => ?_⟩
  · have h2' := of_decide_eq_true h2
    have hil : i < last.length := by omega
    clear h2
    obtain ⟨bl, ol, c', hh, hgl⟩ := (hv.sub (hs.sub (a := m) (by simp))).real hil
    injection hh with hh1 _ hh3
    subst hh1
    clear hh3 c'
    have hgl := hgl i hil
    have hx := hI _ (List.getElem_mem hil)
    have hxd : last.getD i 0 = last[i] := by rw [List.getD_eq_getElem?_getD, List.getElem?_eq_getElem hil]; rfl
    rw [hxd] at fin
    generalize last[i] = x at hgl hx fin
    obtain ⟨av, cv, hfv0⟩ := hok.bs.lb.shape
    rw [nc_len] at hfv0
    have ewl : IntKind.i64.wrap ((f.l.length : Int) - (f.safe : Int)) = (f.l.length : Int) - (f.safe : Int) := wi (by omega) (by omega)
    have hnn : min (max x 0) ((f.l.length : Int) - (f.safe : Int)) = ((lastN f.af x : Nat) : Int) := by unfold lastN; simp only [Fl.af]; omega
    have hnl : lastN f.af x ≤ f.l.length - f.safe := by unfold lastN; simp only [Fl.af]; omega
    have hmf0 := hmf
    rw [hfv0] at hmf0
    conv => whnf
    repeat (refine And.intro (by first | omega | (simp only [times]; omega)) ?_; conv => whnf)
    refine ⟨.int .i64 x, by simp only [times, Int.toNat_natCast, Nat.mul_one]; exact hgl, rfl, ?_⟩
    conv => whnf
    refine ⟨.slice av f.l.length cv, mcell_of hmf0 rfl, rfl, ?_⟩
    conv => whnf
    refine ⟨.int .i64 f.safe, mcell_of hmf rfl, rfl, ?_⟩
    conv => whnf
    rw [ewl, hnn]
    generalize hnx : lastN f.af x = n at hnl fin
    conv => whnf
    have hs7 : f.safe + n ≤ f.l.length := by omega
    refine ⟨.int .i64 f.safe, mcell_of hmf rfl, rfl, ?_⟩
    have ew7 : IntKind.i64.wrap ((f.safe : Int) + ((n : Nat) : Int)) = ((f.safe + n : Nat) : Int) := by rw [wi (by omega) (by omega)]; omega
    conv => whnf
    refine ⟨_, _, _, hmf, ⟨Nat.le_refl 2, by simp⟩, ?_⟩
    rw [ew7]
    generalize hsx : f.safe + n = s at hs7 ⊢
    have hmf2 : (mm.set f.bx (fileO f.v s)) f.bx = some (fileO f.v s) := Mem.set_same ..
    rcases hok.bs.lb.cases with ⟨c, hfv, hnil⟩ | ⟨b, o, c, arr, t, fr, hfv, h5⟩
    · have hz : f.l.length = 0 := by simpa using congrArg List.length hnil
      obtain rfl : s = 0 := by omega
      have hc0 : c = 0 := by
        rcases hok.bs with ⟨e1, e2⟩ | ⟨b, o, c', n, arr, e1, _⟩
        · rw [hfv] at e1; injection e1
        · rw [hfv] at e1; cases e1
      subst hc0
      rw [hfv] at hmf2 ⊢
      conv => whnf
      refine ⟨.slice none 0 0, mcell_of hmf2 rfl, rfl, ?_⟩
      conv => whnf
      refine ⟨.int .i64 ((0 : Nat) : Int), mcell_of hmf2 rfl, rfl, ?_⟩
      conv => whnf
      refine ⟨.int .i64 ((0 : Nat) : Int), mcell_of hmf2 rfl, rfl, ?_⟩
      conv => whnf
      repeat (refine And.intro (by first | omega | (simp only [times]; omega)) ?_; conv => whnf)
      refine ⟨_, _, _, hmf2, ⟨Nat.zero_lt_succ _, by simp⟩, ?_⟩
      rw [Mem.set_set]
      conv => whnf
      obtain ⟨p', F', k1, k2, k3⟩ := fin (.slice none 0 0) n 0 hsx (by rw [List.take_zero]; exact Bs.nil _) rfl
      refine ⟨i + 1, ⟨by omega, p', F', k1, k2, k3⟩, by omega, ?_⟩
      conv => whnf
      repeat (refine And.intro (by first | with_reducible rfl | (first | exact congrArg (Value.int _) (iadd (by omega))) | exact congrArg (Value.int _) (wi (by omega) (by omega)) | exact wi (by omega) (by omega) | rfl) ?_; conv => whnf)
      first | exact trivial | exact fun _ _ h => h
    · have hcc : f.l.length ≤ c := by
        rcases hok.bs with ⟨e1, _⟩ | ⟨b, o, c', n, arr, e1, _, _, h6, _⟩
        · rw [hfv] at e1; cases e1
        · rw [hfv, nc_len] at e1; cases e1; exact h6
      rw [nc_len] at hfv
      have hbs : Bs f.p (.slice (some ⟨b, o, none⟩) f.l.length c) (nc f.l) := by rw [← hfv]; exact hok.bs
      rw [hfv] at hmf2 ⊢
      conv => whnf
      refine ⟨.slice (some ⟨b, o, none⟩) f.l.length c, mcell_of hmf2 rfl, rfl, ?_⟩
      conv => whnf
      refine ⟨.int .i64 (s : Int), mcell_of hmf2 rfl, rfl, ?_⟩
      conv => whnf
      refine ⟨.int .i64 (s : Int), mcell_of hmf2 rfl, rfl, ?_⟩
      conv => whnf
      repeat (refine And.intro (by first | omega | (simp only [times]; omega)) ?_; conv => whnf)
      intro o' q1 q2
      obtain rfl : o' = o := by
        by_cases h0 : s = 0
        · have := q2 (by omega); simpa using this
        · have := q1 (by omega); simpa [times] using this
      conv => whnf
      refine ⟨_, _, _, hmf2, ⟨Nat.zero_lt_succ _, by simp⟩, ?_⟩
      rw [Mem.set_set]
      conv => whnf
      have hct := hbs.cutCap' (n := s) (by rw [nc_len]) (by rw [nc_len]; exact hs7)
      rw [show (nc f.l).take s = nc (f.l.take s) by simp [nc, List.map_take]] at hct
      obtain ⟨p', F', k1, k2, k3⟩ := fin (.slice (some ⟨b, o', none⟩) s s) n s hsx hct rfl
      refine ⟨i + 1, ⟨by omega, p', F', k1, k2, k3⟩, by omega, ?_⟩
      conv => whnf
      repeat (refine And.intro (by first | with_reducible rfl | (first | exact congrArg (Value.int _) (iadd (by omega))) | exact congrArg (Value.int _) (wi (by omega) (by omega)) | exact wi (by omega) (by omega) | rfl) ?_; conv => whnf)
      first | exact trivial | exact fun _ _ h => h
  · have h2' := of_decide_eq_false h2
    have hxd : last.getD i 0 = 0 := by rw [List.getD_eq_getElem?_getD, List.getElem?_eq_none (by omega)]; rfl
    rw [hxd] at fin
    have hn0 : 0 = lastN f.af 0 := by unfold lastN; simp only [Fl.af]; omega
    clear h2
    conv => whnf
    have hs7 : f.safe + 0 ≤ f.l.length := by omega
    refine ⟨.int .i64 f.safe, mcell_of hmf rfl, rfl, ?_⟩
    have ew7 : IntKind.i64.wrap ((f.safe : Int) + 0) = ((f.safe + 0 : Nat) : Int) := by rw [wi (by omega) (by omega)]; omega
    conv => whnf
    refine ⟨_, _, _, hmf, ⟨Nat.le_refl 2, by simp⟩, ?_⟩
    rw [ew7]
    generalize hsx : f.safe + 0 = s at hs7 ⊢
    have hmf2 : (mm.set f.bx (fileO f.v s)) f.bx = some (fileO f.v s) := Mem.set_same ..
    rcases hok.bs.lb.cases with ⟨c, hfv, hnil⟩ | ⟨b, o, c, arr, t, fr, hfv, h5⟩
    · have hz : f.l.length = 0 := by simpa using congrArg List.length hnil
      obtain rfl : s = 0 := by omega
      have hc0 : c = 0 := by
        rcases hok.bs with ⟨e1, e2⟩ | ⟨b, o, c', n, arr, e1, _⟩
        · rw [hfv] at e1; injection e1
        · rw [hfv] at e1; cases e1
      subst hc0
      rw [hfv] at hmf2 ⊢
      conv => whnf
      refine ⟨.slice none 0 0, mcell_of hmf2 rfl, rfl, ?_⟩
      conv => whnf
      refine ⟨.int .i64 ((0 : Nat) : Int), mcell_of hmf2 rfl, rfl, ?_⟩
      conv => whnf
      refine ⟨.int .i64 ((0 : Nat) : Int), mcell_of hmf2 rfl, rfl, ?_⟩
      conv => whnf
      repeat (refine And.intro (by first | omega | (simp only [times]; omega)) ?_; conv => whnf)
      refine ⟨_, _, _, hmf2, ⟨Nat.zero_lt_succ _, by simp⟩, ?_⟩
      rw [Mem.set_set]
      conv => whnf
      obtain ⟨p', F', k1, k2, k3⟩ := fin (.slice none 0 0) 0 0 hsx (by rw [List.take_zero]; exact Bs.nil _) hn0
      refine ⟨i + 1, ⟨by omega, p', F', k1, k2, k3⟩, by omega, ?_⟩
      conv => whnf
      repeat (refine And.intro (by first | with_reducible rfl | (first | exact congrArg (Value.int _) (iadd (by omega))) | exact congrArg (Value.int _) (wi (by omega) (by omega)) | exact wi (by omega) (by omega) | rfl) ?_; conv => whnf)
      first | exact trivial | exact fun _ _ h => h
    · have hcc : f.l.length ≤ c := by
        rcases hok.bs with ⟨e1, _⟩ | ⟨b, o, c', n, arr, e1, _, _, h6, _⟩
        · rw [hfv] at e1; cases e1
        · rw [hfv, nc_len] at e1; cases e1; exact h6
      rw [nc_len] at hfv
      have hbs : Bs f.p (.slice (some ⟨b, o, none⟩) f.l.length c) (nc f.l) := by rw [← hfv]; exact hok.bs
      rw [hfv] at hmf2 ⊢
      conv => whnf
      refine ⟨.slice (some ⟨b, o, none⟩) f.l.length c, mcell_of hmf2 rfl, rfl, ?_⟩
      conv => whnf
      refine ⟨.int .i64 (s : Int), mcell_of hmf2 rfl, rfl, ?_⟩
      conv => whnf
      refine ⟨.int .i64 (s : Int), mcell_of hmf2 rfl, rfl, ?_⟩
      conv => whnf
      repeat (refine And.intro (by first | omega | (simp only [times]; omega)) ?_; conv => whnf)
      intro o' q1 q2
      obtain rfl : o' = o := by
        by_cases h0 : s = 0
        · have := q2 (by omega); simpa using this
        · have := q1 (by omega); simpa [times] using this
      conv => whnf
      refine ⟨_, _, _, hmf2, ⟨Nat.zero_lt_succ _, by simp⟩, ?_⟩
      rw [Mem.set_set]
      conv => whnf
      have hct := hbs.cutCap' (n := s) (by rw [nc_len]) (by rw [nc_len]; exact hs7)
      rw [show (nc f.l).take s = nc (f.l.take s) by simp [nc, List.map_take]] at hct
      obtain ⟨p', F', k1, k2, k3⟩ := fin (.slice (some ⟨b, o', none⟩) s s) 0 s hsx hct hn0
      refine ⟨i + 1, ⟨by omega, p', F', k1, k2, k3⟩, by omega, ?_⟩
      conv => whnf
      repeat (refine And.intro (by first | with_reducible rfl | (first | exact congrArg (Value.int _) (iadd (by omega))) | exact congrArg (Value.int _) (wi (by omega) (by omega)) | exact wi (by omega) (by omega) | rfl) ?_; conv => whnf)
      first | exact trivial | exact fun _ _ h => h
def fileA (A : List Af) (name : ByteArray) : Option Af := A.find? fun a => decide (name = a.name)
theorem fileA_abs (F : List Fl) (name : ByteArray) : fileA (absF F) name = (fileOf F name).map Fl.af := by
  unfold fileA fileOf absF
  rw [List.find?_map]
  rfl
def syncA (A : List Af) (name : ByteArray) : List Af := A.map fun a => if a.name = name then { a with safe := a.l.length } else a
def cutA (A : List Af) (name : ByteArray) (n : Nat) : List Af := A.map fun a => if a.name = name then ⟨a.name, a.l.take n, min a.safe n⟩ else a
def rmA (A : List Af) (name : ByteArray) : List Af := A.filter fun a => !decide (a.name = name)
def putA (x : Af) (name : ByteArray) : List Af → List Af
  | [] => [{ x with name := name }]
  | a :: A => if name = a.name then { x with name := name } :: A else a :: putA x name A
def renA (A : List Af) (a b : ByteArray) : List Af := match fileA A a with
  | none => A
  | some x => if nameOk (chs b) then putA x b (rmA A a) else A
def renEA (A : List Af) (a b : ByteArray) : Int := match fileA A a with
  | none => 4
  | some _ => if nameOk (chs b) then 0 else 1
def cutEA (A : List Af) (name : ByteArray) (n : Int) : Int := match fileA A name with
  | none => 4
  | some a => if 0 ≤ n ∧ n ≤ a.l.length then 0 else 1
def cutRA (A : List Af) (name : ByteArray) (n : Int) : List Af := match fileA A name with
  | none => A
  | some a => if 0 ≤ n ∧ n ≤ a.l.length then cutA A name n.toNat else A
def errA (A : List Af) (name : ByteArray) : Int := if (fileA A name).isSome then 0 else 4
theorem isSome_abs (F : List Fl) (name : ByteArray) : (fileOf F name).isSome = (fileA (absF F) name).isSome := by rw [fileA_abs, Option.isSome_map]
theorem sync_abs (F : List Fl) (name : ByteArray) : absF (syncF F name) = syncA (absF F) name := by
  simp only [absF, syncF, mapAt, syncA, List.map_map]
  refine List.map_congr_left fun f _ => ?_
  simp only [Function.comp, Fl.af]
  by_cases h : f.name = name <;> simp [h]
theorem cut_abs (F : List Fl) (name : ByteArray) (n : Nat) (v : Value) : absF (cutF F name n v) = cutA (absF F) name n := by
  simp only [absF, cutF, mapAt, cutA, List.map_map]
  refine List.map_congr_left fun f _ => ?_
  simp only [Function.comp, Fl.af]
  by_cases h : f.name = name <;> simp [h]
theorem rm_abs (F : List Fl) (name : ByteArray) : absF (rmF F name) = rmA (absF F) name := by
  unfold absF rmF rmA
  rw [List.filter_map]; rfl
theorem put_abs (f : Fl) (name : ByteArray) (clock : Nat) : ∀ F : List Fl, absF (putF F f name clock) = putA f.af name (absF F)
  | [] => rfl
  | g :: F => by
    have ih := put_abs f name clock F
    simp only [absF, putF, List.map_cons, putA] at ih ⊢
    by_cases h : name = g.name
    · rw [if_pos h, if_pos (show name = g.af.name from h)]; rfl
    · rw [if_neg h, if_neg (show ¬ name = g.af.name from h), List.map_cons, ih]
theorem ren_abs (F : List Fl) (a b : ByteArray) (clock : Nat) : absF (renF F a b clock) = renA (absF F) a b ∧ renE F a b = renEA (absF F) a b := by
  unfold renF renA renE renEA
  rw [fileA_abs]
  cases fileOf F a with
  | none => exact ⟨rfl, rfl⟩
  | some f =>
    simp only [Option.map_some]
    split
    · exact ⟨by rw [put_abs, rm_abs], by trivial⟩
    · exact ⟨rfl, by trivial⟩
def FA (p : Mem) (bf : Nat) (q : Int) (nb ns : Nat) (A : List Af) : Prop := ∃ bm clock F, FS p bf bm q nb ns clock F ∧ absF F = A
structure Sm (k : Nat) (A : List Af) (nb ns : Nat) : Prop where
  l : ∀ a ∈ A, a.l.length ≤ 500 * k
  n : A.length ≤ k
  nb : nb ≤ 1000000 * k
  ns : ns ≤ k
  k : k ≤ 1000
theorem totA_le {A : List Af} {b : Nat} (h : ∀ a ∈ A, a.l.length ≤ b) : totA A ≤ b * A.length := by
  induction A with
  | nil => simp [totA]
  | cons a A ih =>
    have h1 := h a (by simp)
    have ih := ih fun x hx => h x (by simp [hx])
    simp only [totA, List.map_cons, List.sum_cons, List.length_cons, Nat.mul_succ] at ih ⊢
    omega
theorem Sm.tot {k : Nat} {A : List Af} {nb ns : Nat} (h : Sm k A nb ns) : totA A ≤ 500000000 := by
  have h1 := totA_le h.l
  have h2 : 500 * k * A.length ≤ 500 * 1000 * 1000 := Nat.mul_le_mul (Nat.mul_le_mul_left _ h.k) (Nat.le_trans h.n h.k)
  omega
section
variable {m mm p : Mem} {bf : Nat} {q : Int} {nb ns k : Nat} {A : List Af} {name : ByteArray}
theorem FA.grow {m : Mem} (h : FA p bf q nb ns A) (hs : Sub p m) : FA m bf q nb ns A := by
  obtain ⟨bm, clock, F, h1, h2⟩ := h
  exact ⟨bm, clock, F, h1.grow hs, h2⟩
theorem abs_mem {F : List Fl} {P : Af → Prop} (h : ∀ a ∈ absF F, P a) : ∀ f ∈ F, P f.af := fun f hf => h f.af (List.mem_map.2 ⟨f, hf, rfl⟩)
theorem names_A (h : FA m bf q nb ns A) (hk : Sm k A nb ns) : Spec Tryz.prog 34 [ptrB bf] m fun r m' => ∃ v p, r = [.v v] ∧ Split m' [p, m] ∧ So p v (srtB (A.map (·.name))) := by
  obtain ⟨bm, clock, F, h1, rfl⟩ := h
  have := hk.n
  have := hk.k
  rw [abs_names]
  exact names_spec h1 (by rw [List.length_map] at *; omega)
theorem read_A (h : FA m bf q nb ns A) (hk : Sm k A nb ns) : Spec Tryz.prog 51 [ptrB bf, .v (.string name)] m fun r m' => ∃ v p, r = [.v v, i64 (errA A name)] ∧ Split m' [p, m] ∧ Bs p v (nc (((fileA A name).map (·.l)).getD [])) := by
  obtain ⟨bm, clock, F, h1, rfl⟩ := h
  have h2 := abs_mem hk.l
  have := hk.k
  refine (readF_spec (name := name) h1 fun f hf => by have := h2 f hf; simp only [Fl.af] at this; omega).mono fun r m' ⟨v, p, e1, e2, e3⟩ => ⟨v, p, by rw [e1, errA, isSome_abs], e2, ?_⟩
  rw [fileA_abs, Option.map_map]; exact e3
theorem sync_A (h : FA p bf q nb ns A) (hk : Sm k A nb ns) : Spec Tryz.prog 89 [ptrB bf, .v (.string name)] p fun r m' => r = [i64 (errA A name)] ∧ FA m' bf q nb (if (fileA A name).isSome then ns + 1 else ns) (syncA A name) := by
  obtain ⟨bm, clock, F, h1, rfl⟩ := h
  have h3 := hk.ns
  have h4 := hk.k
  refine (sync_spec (name := name) h1 (by omega)).mono fun r m' ⟨e1, e2⟩ => ⟨by rw [e1, errA, isSome_abs], ?_⟩
  rw [isSome_abs] at e2
  exact ⟨bm, clock, _, e2, sync_abs _ _⟩
theorem remove_A (h : FA p bf q nb ns A) : Spec Tryz.prog 54 [ptrB bf, .v (.string name)] p fun r m' => r = [i64 (errA A name)] ∧ FA m' bf q nb ns (rmA A name) := by
  obtain ⟨bm, clock, F, h1, rfl⟩ := h
  exact (remove_spec (name := name) h1).mono fun r m' ⟨e1, e2⟩ => ⟨by rw [e1, errA, isSome_abs], bm, clock, _, e2, rm_abs _ _⟩
theorem rename_A {b : ByteArray} (h : FA p bf q nb ns A) (hb : b.size ≤ 1000000) : Spec Tryz.prog 90 [ptrB bf, .v (.string name), .v (.string b)] p fun r m' => r = [i64 (renEA A name b)] ∧ FA m' bf q nb ns (renA A name b) := by
  obtain ⟨bm, clock, F, h1, rfl⟩ := h
  obtain ⟨r1, r2⟩ := ren_abs F name b clock
  exact (rename_spec (a := name) h1 hb).mono fun r m' ⟨e1, e2⟩ => ⟨by rw [e1, r2], bm, _, _, e2, r1⟩
theorem cut_A {n : Int} (h : FA p bf q nb ns A) (hk : Sm k A nb ns) : Spec Tryz.prog 55 [ptrB bf, .v (.string name), i64 n] p fun r m' => r = [i64 (cutEA A name n)] ∧ FA m' bf q nb ns (cutRA A name n) := by
  obtain ⟨bm, clock, F, h1, rfl⟩ := h
  have h2 := abs_mem hk.l
  have := hk.k
  refine (cut_spec (name := name) (n := n) h1 fun f hf => by have := h2 f hf; simp only [Fl.af] at this; omega).mono fun r m' ⟨e, F', e1, e2, e3⟩ => ?_
  unfold CutR at e3
  unfold cutEA cutRA
  rw [fileA_abs]
  cases hf : fileOf F name with
  | none =>
    rw [hf] at e3
    obtain ⟨rfl, rfl⟩ := e3
    exact ⟨e1, bm, clock, _, e2, rfl⟩
  | some f =>
    rw [hf] at e3
    simp only [Option.map_some, Fl.af] at e3 ⊢
    by_cases hc : 0 ≤ n ∧ n ≤ f.l.length
    · rw [if_pos hc] at e3
      rw [if_pos hc, if_pos hc]
      obtain ⟨rfl, v, rfl⟩ := e3
      exact ⟨e1, bm, clock, _, e2, cut_abs _ _ _ _⟩
    · rw [if_neg hc] at e3
      rw [if_neg hc, if_neg hc]
      obtain ⟨rfl, rfl⟩ := e3
      exact ⟨e1, bm, clock, _, e2, rfl⟩
theorem append_A {vb : Value} {lb : List Nat} (h : FA p bf q nb ns A) (hs : Split mm [p, m]) (hk : Sm k A nb ns) (hv : La m vb (nc lb)) (h256 : ∀ x ∈ lb, x < 256) (hn : name.size ≤ 1000000) (hq : 0 ≤ q ∧ q ≤ 9223372036854775807) (hlb : lb.length ≤ 1000000) :
    Spec Tryz.prog 53 [ptrB bf, .v (.string name), .v vb] mm fun r m' => ∃ e p' A' nb', r = [i64 e] ∧ Split m' [p', m] ∧ FA p' bf q nb' ns A' ∧ AppR A name lb q e A' nb nb' := by
  obtain ⟨bm, clock, F, h1, rfl⟩ := h
  have h2 := abs_mem hk.l
  have h3 := hk.k
  have h4 := hk.nb
  have ht := hk.tot
  rw [totA_abs] at ht
  exact (append_spec' (name := name) h1 hs hv h256 hn hq (fun f hf => by have := h2 f hf; simp only [Fl.af] at this; omega) (by omega) (by omega) (by omega)).mono fun r m' ⟨e, p', F', clock', nb', e1, e2, e3, e4⟩ => ⟨e, p', _, nb', e1, e2, ⟨bm, clock', F', e3, rfl⟩, e4⟩
theorem crash_A {vl : Value} {last : List Int} (h : FA p bf q nb ns A) (hs : Split mm [p, m]) (hk : Sm k A nb ns) (hv : Ia m vl last) (hlast : last.length ≤ 9223372036854775807) (hI : ∀ x ∈ last, -9223372036854775808 ≤ x ∧ x ≤ 9223372036854775807) :
    Spec Tryz.prog 12 [ptrB bf, .v vl] mm fun r m' => ∃ p', r = [] ∧ Split m' [p', m] ∧ FA p' bf q nb ns (crashA A last) := by
  obtain ⟨bm, clock, F, h1, rfl⟩ := h
  have h2 := abs_mem hk.l
  have h3 := hk.k
  have h4 := hk.n
  exact (crash_spec h1 hs hv hlast (fun f hf => by have := h2 f hf; simp only [Fl.af] at this; omega) (by rw [List.length_map] at h4; omega) hI).mono fun r m' ⟨p', F', e1, e2, e3, e4, _⟩ => ⟨p', e1, e2, bm, clock, F', e3, e4⟩
end
structure Les (A' A : List Af) : Prop where
  l : ∀ b : Nat, (∀ a ∈ A, a.l.length ≤ b) → ∀ a ∈ A', a.l.length ≤ b
  n : A'.length ≤ A.length + 1
  t : totA A' ≤ totA A
theorem Les.refl (A : List Af) : Les A A := ⟨fun _ h => h, by omega, Nat.le_refl _⟩
theorem map_tot {g : Af → Af} (hg : ∀ a, (g a).l.length ≤ a.l.length) : ∀ A : List Af, totA (A.map g) ≤ totA A
  | [] => Nat.le_refl _
  | a :: A => by
    have h1 := map_tot hg A
    have h2 := hg a
    simp only [totA, List.map_cons, List.sum_cons] at h1 ⊢
    omega
theorem map_les {g : Af → Af} (hg : ∀ a, (g a).l.length ≤ a.l.length) (A : List Af) : Les (A.map g) A :=
  ⟨fun b h a ha => by obtain ⟨x, hx, rfl⟩ := List.mem_map.1 ha; exact Nat.le_trans (hg x) (h x hx), by rw [List.length_map]; omega, map_tot hg A⟩
theorem sync_les (A : List Af) (name : ByteArray) : Les (syncA A name) A := map_les (fun a => by split <;> exact Nat.le_refl _) A
theorem cutA_les (A : List Af) (name : ByteArray) (n : Nat) : Les (cutA A name n) A := map_les (fun a => by split <;> first | exact Nat.le_refl _ | (simp only [List.length_take]; omega)) A
theorem rm_tot (A : List Af) (name : ByteArray) : totA (rmA A name) ≤ totA A ∧ ∀ x, fileA A name = some x → totA (rmA A name) + x.l.length ≤ totA A := by
  induction A with
  | nil => exact ⟨Nat.le_refl _, fun x h => by cases h⟩
  | cons a A ih =>
    obtain ⟨h1, h2⟩ := ih
    simp only [rmA, fileA, totA] at h1 h2 ⊢
    rw [List.filter_cons, List.find?_cons]
    by_cases h : a.name = name
    · rw [if_neg (by simp [h])]
      simp only [List.map_cons, List.sum_cons]
      refine ⟨by omega, fun x hx => ?_⟩
      rw [decide_eq_true h.symm] at hx
      cases hx
      omega
    · rw [if_pos (by simp [h])]
      simp only [List.map_cons, List.sum_cons]
      refine ⟨by omega, fun x hx => ?_⟩
      rw [decide_eq_false (fun e => h e.symm)] at hx
      have := h2 x hx
      omega
theorem rm_les (A : List Af) (name : ByteArray) : Les (rmA A name) A := ⟨fun b h a ha => h a (List.mem_filter.1 ha).1, Nat.le_trans (List.length_filter_le _ _) (by omega), (rm_tot A name).1⟩
theorem put_les (x : Af) (name : ByteArray) (A : List Af) : (∀ b : Nat, x.l.length ≤ b → (∀ a ∈ A, a.l.length ≤ b) → ∀ a ∈ putA x name A, a.l.length ≤ b) ∧ (putA x name A).length ≤ A.length + 1 ∧ totA (putA x name A) ≤ totA A + x.l.length := by
  induction A with
  | nil => exact ⟨fun b h _ a ha => by rw [List.mem_singleton.1 ha]; exact h, by simp [putA], by simp [putA, totA]⟩
  | cons y A ih =>
    obtain ⟨h1, h2, h3⟩ := ih
    rw [putA]
    split
    · refine ⟨fun b h hA a ha => ?_, by simp, by simp only [totA, List.map_cons, List.sum_cons]; omega⟩
      rcases List.mem_cons.1 ha with rfl | ha
      · exact h
      · exact hA a (List.mem_cons_of_mem _ ha)
    · refine ⟨fun b h hA a ha => ?_, by simp only [List.length_cons]; omega, by simp only [totA, List.map_cons, List.sum_cons] at h3 ⊢; omega⟩
      rcases List.mem_cons.1 ha with rfl | ha
      · exact hA a (List.mem_cons_self ..)
      · exact h1 b h (fun a ha => hA a (List.mem_cons_of_mem _ ha)) a ha
theorem ren_les (A : List Af) (a b : ByteArray) : Les (renA A a b) A := by
  unfold renA
  cases h : fileA A a with
  | none => exact .refl A
  | some x =>
    simp only
    split
    · obtain ⟨h1, h2, h3⟩ := put_les x b (rmA A a)
      have hr := rm_les A a
      have hx : x ∈ A := List.mem_of_find?_eq_some h
      have ht := (rm_tot A a).2 x h
      have hn : (rmA A a).length ≤ A.length := List.length_filter_le _ _
      exact ⟨fun c hc => h1 c (hc x hx) (hr.l c hc), by omega, by omega⟩
    · exact .refl A
theorem app_tot (name : ByteArray) (lb : List Nat) : ∀ A : List Af, totA (appA A name lb) = totA A + lb.length ∧ (appA A name lb).length ≤ A.length + 1 ∧ ∀ b : Nat, (∀ a ∈ A, a.l.length ≤ b) → ∀ a ∈ appA A name lb, a.l.length ≤ b + lb.length
  | [] => ⟨by simp [appA, totA], by simp [appA], fun b h a ha => by rw [List.mem_singleton.1 ha]; simp⟩
  | x :: A => by
    obtain ⟨h1, h2, h3⟩ := app_tot name lb A
    rw [appA]
    split
    · refine ⟨by simp only [totA, List.map_cons, List.sum_cons, List.length_append]; omega, by simp, fun b h a ha => ?_⟩
      rcases List.mem_cons.1 ha with rfl | ha
      · have := h x (List.mem_cons_self ..)
        simp only [List.length_append]; omega
      · have := h a (List.mem_cons_of_mem _ ha); omega
    · refine ⟨by simp only [totA, List.map_cons, List.sum_cons] at h1 ⊢; omega, by simp only [List.length_cons]; omega, fun b h a ha => ?_⟩
      rcases List.mem_cons.1 ha with rfl | ha
      · have := h a (List.mem_cons_self ..); omega
      · exact h3 b (fun a ha => h a (List.mem_cons_of_mem _ ha)) a ha
theorem Sm.none : Sm 0 [] 0 0 := ⟨by simp, by simp, by omega, by omega, by omega⟩
theorem FA.safe {p : Mem} {bf : Nat} {q : Int} {nb ns : Nat} {A : List Af} (h : FA p bf q nb ns A) : ∀ a ∈ A, a.safe ≤ a.l.length := by
  obtain ⟨bm, clock, F, h1, rfl⟩ := h
  intro a ha
  obtain ⟨f, hf, rfl⟩ := List.mem_map.1 ha
  exact (h1.ok f hf).safe
structure Cr (a b : Af) : Prop where
  name : b.name = a.name
  lo : a.safe ≤ b.safe
  hi : b.safe ≤ b.l.length
  pre : b.l = a.l.take b.l.length
  all : a.safe = a.l.length → b = a
theorem Cr.refl {a : Af} (h : a.safe ≤ a.l.length) : Cr a a := ⟨rfl, Nat.le_refl _, h, by rw [List.take_length], fun _ => rfl⟩
theorem file_map {A : List Af} {g : Af → Af} (hg : ∀ a ∈ A, (g a).name = a.name) (name : ByteArray) : fileA (A.map g) name = (fileA A name).map g := by
  induction A with
  | nil => rfl
  | cons a A ih =>
    have ih := ih fun a ha => hg a (List.mem_cons_of_mem _ ha)
    simp only [fileA, List.map_cons, List.find?_cons] at ih ⊢
    rw [hg a (List.mem_cons_self ..)]
    split
    · rfl
    · exact ih
structure Rf where
  name : ByteArray
  b : ByteArray
  safe : Nat
abbrev rfC (r : Rf) : List Value := [.string r.name, .string r.b, .int .i64 (r.safe : Int)]
theorem isFB_iff (c : Nat) : isFB c = true ↔ ((97 ≤ c ∧ c ≤ 122) ∨ (48 ≤ c ∧ c ≤ 57) ∨ c = 45 ∨ c = 46) := by simp [isFB]
abbrev u32' (n : Int) : CV := .v (.int .u32 n)
theorem La.real {m : Mem} {v : Value} {l : List Int} (h : La m v l) (hl : l ≠ []) : ∃ b o c, v = .slice (some ⟨b, o, none⟩) l.length c := (h.lb hl).real hl
theorem Lb.at' {m : Mem} {b o n c j : Nat} {l : List Int} (h : Lb m (.slice (some ⟨b, o, none⟩) n c) l) {x : Int} (hj : l[j]? = some x) : mcell m b (o + j) = some (.int .u8 x) := by
  obtain ⟨arr, t, fr, h1, h2⟩ := h.range
  exact mcell_of h1 (h2 j _ (by simp [hj]))
theorem fold_take {l : List Int} {i : Nat} (h : i < l.length) : (l.take (i + 1)).foldl (fun s c => Fr.crc1 s c.toNat) 4294967295 = Fr.crc1 ((l.take i).foldl (fun s c => Fr.crc1 s c.toNat) 4294967295) (l[i]).toNat := by
  rw [List.take_succ_eq_append_getElem h, List.foldl_append]; rfl
theorem xor_byte {s : Nat} {x : Int} (hs : s < 2 ^ 32) (hx : 0 ≤ x ∧ x < 256) : bitsOf .xor .u32 (s : Int) (IntKind.u32.wrap x) = ((s ^^^ x.toNat : Nat) : Int) := by
  obtain ⟨k, rfl⟩ : ∃ k : Nat, x = k := ⟨x.toNat, by omega⟩
  rw [wu32 (by omega) (by omega), xor_u32 hs (by omega)]; rfl
theorem fsum_spec {m : Mem} {v : Value} {l : List Int} (hv : La m v l) (hb : Byt l) (hl : l.length ≤ 100000000) : Ret Tryz.prog 128 [.v v] m [u32' ((Fr.crc l : Nat) : Int)] := by
  obtain ⟨a, c, rfl⟩ := hv.shape
  refine en128 rfl (goY ?_)
  conv => whnf
  refine .mk (ι := Nat) (fun i => l.length - i) (fun i mm => i ≤ l.length ∧ mm = m) (fun i => [(3, .c (u32' (((l.take i).foldl (fun s c => Fr.crc1 s c.toNat) 4294967295 : Nat) : Int))), (7, .c (.v (.slice a l.length c))), (8, .c (i64 l.length)), (9, .c (i64 i))]) (fun _ => []) 0 ⟨by omega, rfl⟩ ?_ ?_
  · conv => whnf
    repeat (refine And.intro (by first | with_reducible rfl | exact congrArg (Value.int _) (wi (by omega) (by omega)) | exact wi (by omega) (by omega) | rfl) ?_; conv => whnf)
    first | exact trivial | exact fun _ _ h => h
  rintro i mm ⟨hi, he⟩
  subst mm
  conv => whnf
  refine ⟨fun h1 => ?_, fun h1 => ?_⟩
  · have h1' := of_decide_eq_true h1
    have hlt : i < l.length := by omega
    have hne : l ≠ [] := by intro e; subst e; simp at hlt
    obtain ⟨b, o, c', hh⟩ := La.real hv hne
    injection hh with hh1 _ hh3
    subst hh1
    clear hh3 c'
    have hx := hb l[i] (List.getElem_mem hlt)
    conv => whnf
    repeat (refine And.intro (by first | omega | (simp only [times]; omega)) ?_; conv => whnf)
    refine ⟨_, by have := Lb.at' (hv.lb hne) (List.getElem?_eq_getElem hlt); simp only [times, Int.toNat_natCast, Nat.mul_one]; exact this, rfl, ?_⟩
    have hs := Fr.fold_lt (l := l.take i) (s := 4294967295) (by decide) (hb.take i)
    have hft := fold_take hlt
    generalize (l.take i).foldl (fun s c => Fr.crc1 s c.toNat) 4294967295 = s0 at hs hft ⊢
    conv => whnf
    rw [xor_byte hs hx]
    have hs' : s0 ^^^ (l[i]).toNat < 2 ^ 32 := Nat.xor_lt_two_pow hs (by omega)
    have hc1 : Fr.crc1 s0 (l[i]).toNat = Fr.stps 8 (s0 ^^^ (l[i]).toNat) := rfl
    rw [hc1] at hft
    generalize s0 ^^^ (l[i]).toNat = s1 at hs' hft ⊢
    refine .mk (ι := Nat) (fun k => 8 - k) (fun k mm => k ≤ 8 ∧ mm = m) (fun k => [(3, .c (u32' ((Fr.stps k s1 : Nat) : Int))), (7, .c (.v (.slice (some ⟨b, o, none⟩) l.length c))), (8, .c (i64 l.length)), (9, .c (i64 i)), (17, .c (i64 k))]) (fun _ => []) 0 ⟨by omega, rfl⟩ ?_ ?_
    · conv => whnf
      repeat (refine And.intro (by first | with_reducible rfl | exact congrArg (Value.int _) (wi (by omega) (by omega)) | exact wi (by omega) (by omega) | rfl) ?_; conv => whnf)
      first | exact trivial | exact fun _ _ h => h
    rintro k mm ⟨hk, he⟩
    subst mm
    conv => whnf
    refine ⟨fun h2 => ?_, fun h2 => ?_⟩
    · have h2' := of_decide_eq_true h2
      have hlk : k < 8 := by omega
      have hsk := Fr.stps_lt (k := k) hs'
      have hsu := Fr.stps_succ k s1
      generalize Fr.stps k s1 = s2 at hsk hsu ⊢
      have ea : bitsOf .and .u32 (s2 : Int) 1 = ((s2 % 2 : Nat) : Int) := by
        have := and_u32 (a := s2) (b := 1) hsk (by decide)
        rw [show (1 : Int) = ((1 : Nat) : Int) from rfl, this, Nat.and_one_is_mod]
      have er : shrOf .u32 (s2 : Int) 1 = ((s2 / 2 : Nat) : Int) := by
        have := shr_nat (k := .u32) (x := s2) (n := 1) (by decide)
        rw [show (1 : Int) = ((1 : Nat) : Int) from rfl, this, Nat.pow_one]
      conv => whnf
      rw [ea, er]
      have hhalf : s2 / 2 < 2 ^ 32 := by omega
      refine ⟨fun h3 => ?_, fun h3 => ?_⟩
      · have h3' : s2 % 2 = 1 := by simp at h3; omega
        have est : Fr.stp s2 = (s2 / 2) ^^^ 3988292384 := by rw [Fr.stp, if_pos h3']
        have ex := xor_u32 (a := s2 / 2) (b := 3988292384) hhalf (by decide)
        conv => whnf
        refine ⟨k + 1, ⟨by omega, rfl⟩, by omega, ?_⟩
        rw [hsu, est]
        conv => whnf
        repeat (refine And.intro (by first | with_reducible rfl | (first | exact congrArg (Value.int _) (iadd (by omega)) | exact congrArg (Value.int _) ex) | exact congrArg (Value.int _) (wi (by omega) (by omega)) | exact wi (by omega) (by omega) | rfl) ?_; conv => whnf)
        first | exact trivial | exact fun _ _ h => h
      · have h3' : ¬ s2 % 2 = 1 := by simp at h3; omega
        have est : Fr.stp s2 = s2 / 2 := by rw [Fr.stp, if_neg h3']
        conv => whnf
        refine ⟨k + 1, ⟨by omega, rfl⟩, by omega, ?_⟩
        rw [hsu, est]
        conv => whnf
        repeat (refine And.intro (by first | with_reducible rfl | (first | exact congrArg (Value.int _) (iadd (by omega))) | exact congrArg (Value.int _) (wi (by omega) (by omega)) | exact wi (by omega) (by omega) | rfl) ?_; conv => whnf)
        first | exact trivial | exact fun _ _ h => h
    · have h2' := of_decide_eq_false h2
      obtain rfl : k = 8 := by omega
      conv => whnf
      refine ⟨i + 1, ⟨by omega, rfl⟩, by omega, ?_⟩
      rw [hft]
      conv => whnf
      repeat (refine And.intro (by first | with_reducible rfl | (first | exact congrArg (Value.int _) (iadd (by omega))) | exact congrArg (Value.int _) (wi (by omega) (by omega)) | exact wi (by omega) (by omega) | rfl) ?_; conv => whnf)
      first | exact trivial | exact fun _ _ h => h
  · have h1' := of_decide_eq_false h1
    obtain rfl : i = l.length := by omega
    rw [List.take_length]
    have hs := Fr.fold_lt (l := l) (s := 4294967295) (by decide) hb
    have hc : Fr.crc l = l.foldl (fun s c => Fr.crc1 s c.toNat) 4294967295 ^^^ 4294967295 := rfl
    rw [hc]
    generalize l.foldl (fun s c => Fr.crc1 s c.toNat) 4294967295 = s0 at hs ⊢
    conv => whnf
    exact ⟨by rw [show (4294967295 : Int) = ((4294967295 : Nat) : Int) from rfl, xor_u32 hs (by decide)], rfl⟩
theorem build4 {m : Mem} {x y z w : Int} : PrimSpec Tryz.prog (.buildSlice 80 4 [0, 1, 2, 3]) [.v (.int .u8 x), .v (.int .u8 y), .v (.int .u8 z), .v (.int .u8 w)] m fun r m' => ∃ b, m b = none ∧ r = [.v (.slice (some ⟨b, 0, none⟩) 4 4)] ∧ m' = m.set b (.cells (bc [x, y, z, w]).toArray 5) :=
  buildSlice_spec (n := 4) tt_ok hBs rfl hU8 rfl rfl (by simp [CV.cs]) (by simp) (by simp)
theorem four_spec {m : Mem} {s : Nat} (hs : s < 2 ^ 32) : Spec Tryz.prog 127 [u32' (s : Int)] m fun r m' => ∃ v p, r = [.v v] ∧ Split m' [p, m] ∧ Bs p v (Fr.four s) := by
  have e8 := shr_nat (k := .u32) (x := s) (n := 8) (by decide)
  have e16 := shr_nat (k := .u32) (x := s) (n := 16) (by decide)
  have e24 := shr_nat (k := .u32) (x := s) (n := 24) (by decide)
  refine en127 rfl (goY ?_)
  conv => whnf
  rw [show (8 : Int) = ((8 : Nat) : Int) from rfl, e8, show (16 : Int) = ((16 : Nat) : Int) from rfl, e16, show (24 : Int) = ((24 : Nat) : Int) from rfl, e24]
  refine .mk _ (build4) ?_
  rintro _ _ ⟨b, hb, rfl, rfl⟩
  conv => whnf
  refine ⟨_, _, rfl, (Split.one m).new hb _, ?_⟩
  refine Bs.blk (l := Fr.four s) ?_ rfl
  rw [blk1_same]
  simp only [IntKind.wrap_u8]
  have q8 : (2 : Nat) ^ 8 = 256 := rfl
  have q16 : (2 : Nat) ^ 16 = 65536 := rfl
  have q24 : (2 : Nat) ^ 24 = 16777216 := rfl
  rw [q8, q16, q24]
  rfl
theorem isRec_spec {m : Mem} {n : Nat} : Ret Tryz.prog 124 [i64 n] m [boolV (Fr.isRec n)] := by
  refine en124 rfl (goY ?_)
  conv => whnf
  repeat' (first | (refine ⟨fun h => ?_, fun h => ?_⟩ <;> conv => whnf) | fail)
  · have h' := of_decide_eq_true h
    have e1 : decide (1 ≤ n) = true := decide_eq_true (by omega)
    have e2 : decide ((n : Int) ≤ 20000) = decide (n ≤ 20000) := decide_eq_decide.2 (by omega)
    rw [Fr.isRec, e1, e2, Bool.true_and]; exact ⟨rfl, rfl⟩
  · have h' := of_decide_eq_false h
    have e1 : decide (1 ≤ n) = false := decide_eq_false (by omega)
    rw [Fr.isRec, e1, Bool.false_and]; exact ⟨rfl, rfl⟩
theorem head_spec {m : Mem} {n : Nat} (hn : n ≤ 1000000000) : Spec Tryz.prog 126 [i64 n] m fun r m' => ∃ v p, r = [.v v] ∧ Split m' [p, m] ∧ Bs p v (numB n) := by
  refine en126 rfl (goY ?_)
  conv => whnf
  intro b hb
  conv => whnf
  have hs0 := (Split.one m).new hb (.cells (LB.cells [.one (.slice none 0 0)]).toArray 132)
  have hw0 : Wr (blk1 b (.cells (LB.cells [.one (.slice none 0 0)]).toArray 132)) b [] := ⟨_, blk1_same .., Bs.nil _, by simp [blkV]⟩
  rw [wu (n := (n : Int)) (by omega) (by omega)]
  refine xcall ((wnum_spec hw0 (n := (n : Int)) ⟨by omega, by omega⟩ (by simp)).at hs0 (i := 0) rfl) ?_
  rintro _ m1 ⟨p1, ⟨rfl, hw1⟩, hs1⟩
  conv => whnf
  have h9 := numB_len (n : Int)
  refine xcall ((wbytes_spec hw1 (by simp; omega)).at hs1 (i := 0) rfl) ?_
  rintro _ m2 ⟨p2, ⟨v2, q, rfl, hs2, hv2⟩, hs3⟩
  conv => whnf
  have hs4 := (hs3.flat (i := 0) rfl hs2).erase 1
  exact ⟨v2, q, rfl, hs4, by simpa using hv2⟩
theorem write_bad {m : Mem} {v : Value} {l : List Int} (hv : La m v l) (h : Fr.isRec l.length = false) : Ret Tryz.prog 76 [.v v] m [.v (.slice none 0 0), i64 3] := by
  obtain ⟨a, c, rfl⟩ := hv.shape
  refine en76 rfl (goY ?_)
  conv => whnf
  first | refine xretk (isRec_spec) ?_ | refine xret (isRec_spec) ?_
  conv => whnf
  rw [h]
  refine ⟨fun _ => ?_, fun h => absurd h (by first | decide | simp)⟩
  conv => whnf
  exact ⟨rfl, rfl⟩
theorem write_ok {m : Mem} {v : Value} {l : List Int} (hv : La m v l) (hb : Byt l) (h : Fr.isRec l.length = true) : Spec Tryz.prog 76 [.v v] m fun r m' => ∃ v' p, r = [.v v', i64 0] ∧ Split m' [p, m] ∧ Bs p v' (Fr.wr l) := by
  have h' : 1 ≤ l.length ∧ l.length ≤ 20000 := by simpa [Fr.isRec] using h
  obtain ⟨a, c, rfl⟩ := hv.shape
  have h9 := numB_len (l.length : Int)
  refine en76 rfl (goY ?_)
  conv => whnf
  first | refine xretk (isRec_spec) ?_ | refine xret (isRec_spec) ?_
  conv => whnf
  rw [h]
  refine ⟨fun h => absurd h (by first | decide | simp), fun _ => ?_⟩
  conv => whnf
  refine xcall (head_spec (n := l.length) (by omega)) ?_
  rintro _ m1 ⟨v1, p1, rfl, hs1, hv1⟩
  conv => whnf
  first | refine xretk (fsum_spec (hv.sub (hs1.sub (by simp))) hb (by omega)) ?_ | refine xret (fsum_spec (hv.sub (hs1.sub (by simp))) hb (by omega)) ?_
  conv => whnf
  refine xcall (four_spec (Fr.crc_lt hb)) ?_
  rintro _ m2 ⟨v2, p2, rfl, hs2, hv2⟩
  conv => whnf
  have hs2 := hs2.under (a := [p2]) hs1
  refine .mk _ (buildL3) ?_
  rintro _ _ ⟨b3, hb3, rfl, rfl⟩
  conv => whnf
  have hs3 := hs2.new hb3 (.cells #[v1, .slice a l.length c, v2] 80)
  have q1 : Sub p1 m2 := hs2.sub (by simp)
  have q2 : Sub p2 m2 := hs2.sub (by simp)
  have q3 : Sub m m2 := hs2.sub (by simp)
  have q4 := Mem.sub_set (.cells #[v1, .slice a l.length c, v2] 80) hb3
  refine xcall (concat_spec (Lists.three (Mem.set_same ..) (hv1.lb.la.sub (q1.trans q4)) (hv.sub (q3.trans q4)) (hv2.lb.la.sub (q2.trans q4))) (by simp [catB, Fr.four]; omega) (by simp)) ?_
  rintro _ m4 ⟨v', p, rfl, hs4, hv'⟩
  conv => whnf
  have hs4 := hs4.under (a := [p]) hs3
  refine ⟨v', p, rfl, (((hs4.erase 1).erase 1).erase 1), ?_⟩
  simpa [catB, Fr.wr, List.append_assoc] using hv'
theorem equal_spec {m : Mem} {v w : Value} {l k : List Int} (hv : La m v l) (hw : La m w k) (hl : l.length ≤ 100000000) : Ret Tryz.prog 141 [.v v, .v w] m [boolV (decide (l = k))] := by
  obtain ⟨a, c, rfl⟩ := hv.shape
  obtain ⟨aw, cw, rfl⟩ := hw.shape
  refine en141 rfl (goY ?_)
  conv => whnf
  refine ⟨fun h => ?_, fun h => ?_⟩
  · conv => whnf
    have : l ≠ k := by rintro rfl; simp at h
    rw [decide_eq_false this]
    exact ⟨rfl, rfl⟩
  have hlk : l.length = k.length := by simp at h; omega
  clear h
  rw [← hlk] at hw ⊢
  conv => whnf
  refine .mk (ι := Nat) (fun i => l.length - i) (fun i mm => i ≤ l.length ∧ l.take i = k.take i ∧ mm = m) (fun i => [(0, .c (.v (.slice a l.length c))), (1, .c (.v (.slice aw l.length cw))), (12, .c (i64 l.length)), (13, .c (i64 i))]) (fun _ => []) 0 ⟨by omega, by simp, rfl⟩ ?_ ?_
  · conv => whnf
    repeat (refine And.intro (by first | with_reducible rfl | exact congrArg (Value.int _) (wi (by omega) (by omega)) | exact wi (by omega) (by omega) | rfl) ?_; conv => whnf)
    first | exact trivial | exact fun _ _ h => h
  rintro i mm ⟨hi, htk, he⟩
  subst mm
  conv => whnf
  refine ⟨fun h1 => ?_, fun h1 => ?_⟩
  · have h1' := of_decide_eq_true h1
    have hlt : i < l.length := by omega
    have hne : l ≠ [] := by intro e; subst e; simp at hlt
    have hne' : k ≠ [] := by intro e; rw [e] at hlk; simp only [List.length_nil] at hlk; omega
    obtain ⟨b, o, c', hh⟩ := La.real hv hne
    injection hh with hh1 _ hh3
    subst hh1
    clear hh3 c'
    have hw' : La m (.slice aw k.length cw) k := by rw [← hlk]; exact hw
    obtain ⟨bw, ow, c', hh⟩ := La.real hw' hne'
    injection hh with hh1 _ hh3
    subst hh1
    clear hh3 c'
    have hltk : i < k.length := by omega
    conv => whnf
    repeat (refine And.intro (by first | omega | (simp only [times]; omega)) ?_; conv => whnf)
    refine ⟨_, by have := Lb.at' (hv.lb hne) (List.getElem?_eq_getElem hlt); simp only [times, Int.toNat_natCast, Nat.mul_one]; exact this, rfl, ?_⟩
    conv => whnf
    repeat (refine And.intro (by first | omega | (simp only [times]; omega)) ?_; conv => whnf)
    refine ⟨_, by have := Lb.at' (hw.lb hne') (List.getElem?_eq_getElem hltk); simp only [times, Int.toNat_natCast, Nat.mul_one]; exact this, rfl, ?_⟩
    conv => whnf
    refine ⟨fun h2 => ?_, fun h2 => ?_⟩
    · conv => whnf
      have : l ≠ k := by rintro rfl; simp at h2
      rw [decide_eq_false this]
      exact ⟨rfl, rfl⟩
    · have h2' : l[i] = k[i] := by simpa using h2
      conv => whnf
      refine ⟨i + 1, ⟨by omega, by rw [List.take_succ_eq_append_getElem hlt, List.take_succ_eq_append_getElem hltk, htk, h2'], rfl⟩, by omega, ?_⟩
      conv => whnf
      repeat (refine And.intro (by first | with_reducible rfl | (first | exact congrArg (Value.int _) (iadd (by omega))) | exact congrArg (Value.int _) (wi (by omega) (by omega)) | exact wi (by omega) (by omega) | rfl) ?_; conv => whnf)
      first | exact trivial | exact fun _ _ h => h
  · have h1' := of_decide_eq_false h1
    obtain rfl : i = l.length := by omega
    rw [List.take_length, hlk, List.take_length] at htk
    conv => whnf
    rw [decide_eq_true htk]
    exact ⟨rfl, rfl⟩
theorem Lb.cap' {m : Mem} {b o n c : Nat} {l : List Int} (h : Lb m (.slice (some ⟨b, o, none⟩) n c) l) : l.length ≤ c := by
  rcases h.cases with ⟨c, h1, h2⟩ | ⟨b', o', c', arr, t, fr, h1, h2, h3, h4⟩
  · cases h1
  · cases h1; exact h3
theorem Lb.cut' {m : Mem} {b o n c c' : Nat} {l : List Int} (h : Lb m (.slice (some ⟨b, o, none⟩) n c) l) (i len : Nat) (hk : i + len ≤ l.length) (hc : len ≤ c') : Lb m (.slice (some ⟨b, o + i, none⟩) len c') ((l.drop i).take len) := by
  rcases h.cases with ⟨c, h1, h2⟩ | ⟨b', o', c', arr, t, fr, h1, h2, h3, h4⟩
  · cases h1
  · cases h1
    refine Lb.mk h2 (by simp; omega) hc (fun j x hj => ?_)
    rw [List.getElem?_take] at hj
    split at hj
    · rw [List.getElem?_drop] at hj
      rw [Nat.add_assoc]; exact h4 _ _ hj
    · cases hj
theorem next_spec {m : Mem} {v : Value} {l : List Int} (hv : La m v l) (hb : Byt l) (hl : l.length ≤ 10000000) : Spec Tryz.prog 96 [.v v] m fun r m' => ∃ v' p, r = [.v v', i64 ((Fr.next l).2.1 : Nat), i64 (Fr.next l).2.2] ∧ Split m' [p, m] ∧ Bs p v' (Fr.next l).1 := by
  obtain ⟨a, c, rfl⟩ := hv.shape
  refine en96 rfl (goY ?_)
  conv => whnf
  refine xcall (from_spec hv hb (by omega)) ?_
  rintro _ m1 ⟨bp, p1, rfl, hs1, h1⟩
  conv => whnf
  refine xcall ((small_spec h1 (most := 20000) ⟨by decide, by decide⟩).at hs1 (i := 0) rfl) ?_
  rintro _ m2 ⟨p2, ⟨rfl, h2, _⟩, hs2⟩
  conv => whnf
  have hk := rSmall_nat (most := 20000) (s := (l, 0)) hb ⟨by decide, by decide⟩
  have hsub : Sub m m2 := hs2.sub (by simp)
  rcases hr : rSmall 20000 (l, 0) with ⟨n, rest, e⟩
  rw [hr] at h2 hk
  simp only [hr]
  have hx : Fr.next l = (if e = 8 then ([], 0, 0) else if e ≠ 0 ∨ n = 0 then ([], 0, 3) else if (l.length : Int) - (numB n).length < n.toNat + 4 then ([], 0, 0) else
      if Fr.four (Fr.crc ((l.drop (numB n).length).take n.toNat)) = (l.drop ((numB n).length + n.toNat)).take 4 then ((l.drop (numB n).length).take n.toNat, (numB n).length + n.toNat + 4, 0) else ([], 0, 9)) := by
    unfold Fr.next; simp only [hr]
  simp only at hk
  obtain ⟨hk0, hk1⟩ := hk
  have hk1 : n ≤ 20000 := by omega
  have hnil : ∃ p, Split m2 [p, m] := ⟨_, hs2⟩
  have h3 := h2.mono (hs2.sub (by simp))
  clear h2 h1 hs1
  first | refine xretk (err_spec h3) ?_ | refine xret (err_spec h3) ?_
  conv => whnf
  refine ⟨fun h => ?_, fun h => ?_⟩
  · have h' : e = 8 := by simpa using h
    conv => whnf
    rw [hx, if_pos h']
    exact ⟨_, _, rfl, hs2, Bs.nil _⟩
  have h8 : ¬ e = 8 := by simpa using h
  clear h
  conv => whnf
  first | refine xretk (err_spec h3) ?_ | refine xret (err_spec h3) ?_
  conv => whnf
  refine ⟨fun h => ?_, fun h => ?_⟩
  · have h' : e ≠ 0 := by simpa using h
    conv => whnf
    rw [hx, if_neg h8, if_pos (.inl h')]
    exact ⟨_, _, rfl, hs2, Bs.nil _⟩
  have h0 : e = 0 := by simpa using h
  clear h
  conv => whnf
  refine ⟨fun h => ?_, fun h => ?_⟩
  · have h' : n = 0 := by simpa using h
    conv => whnf
    rw [hx, if_neg h8, if_pos (.inr h')]
    exact ⟨_, _, rfl, hs2, Bs.nil _⟩
  have hn0 : ¬ n = 0 := by simpa using h
  clear h
  rw [if_neg h8, if_neg (by omega)] at hx
  obtain ⟨k, rfl⟩ : ∃ k : Nat, n = k := ⟨n.toNat, by omega⟩
  rw [Int.toNat_natCast] at hx
  have h9 := numB_len (k : Int)
  conv => whnf
  refine xcall (head_spec (n := k) (by omega)) ?_
  rintro _ m3 ⟨v1, q1, rfl, hs3, hv1⟩
  conv => whnf
  obtain ⟨a1, c1, rfl⟩ := hv1.lb.shape
  have hs3 := hs3.under (a := [q1]) hs2
  have hsub3 : Sub m m3 := hs3.sub (by simp)
  clear hv1 h3
  generalize hat : (numB (k : Int)).length = at' at *
  have e1 : IntKind.i64.wrap ((l.length : Int) - (at' : Int)) = (l.length : Int) - at' := wi (by omega) (by omega)
  have e2 : IntKind.i64.wrap ((k : Int) + 4) = ((k + 4 : Nat) : Int) := by rw [wi (by omega) (by omega)]; omega
  conv => whnf
  rw [e1, e2]
  refine ⟨fun h => ?_, fun h => ?_⟩
  · have h' := of_decide_eq_true h
    conv => whnf
    rw [hx, if_pos (by omega)]
    exact ⟨_, _, rfl, hs3.erase 1, Bs.nil _⟩
  have h' := of_decide_eq_false h
  clear h
  rw [if_neg (by omega)] at hx
  have e3 : IntKind.i64.wrap ((at' : Int) + (k : Int)) = ((at' + k : Nat) : Int) := by rw [wi (by omega) (by omega)]; omega
  have hne : l ≠ [] := by rintro rfl; simp at h'; omega
  have hv0 := hv
  obtain ⟨b, o, c', hh⟩ := La.real hv hne
  injection hh with hh1 _ hh3
  subst hh1
  clear hh3 c'
  have hlb := (hv.lb hne).sub hsub3
  have hcap := Lb.cap' hlb
  conv => whnf
  rw [e3]
  repeat (refine And.intro (by first | omega | (simp only [times]; omega)) ?_; conv => whnf)
  intro o1 ho1 _
  obtain rfl : o1 = o + at' := by have := ho1 (by omega); rw [Int.toNat_natCast] at this; simpa using this
  simp only [Int.toNat_natCast]
  rw [show at' + k - at' = k by omega]
  conv => whnf
  have hd := Lb.cut' (c' := c - at') hlb at' k (by omega) (by omega)
  refine xcall (clone_spec hd.la (by simp; omega)) ?_
  rintro _ m4 ⟨v4, q4, rfl, hs4, hv4⟩
  conv => whnf
  have hs4 := hs4.under (a := [q4]) hs3
  have hsub4 : Sub m m4 := hs4.sub (by simp)
  have hbd : Byt ((l.drop at').take k) := (hb.drop _).take _
  have e4 : IntKind.i64.wrap (((at' + k : Nat) : Int) + 4) = ((at' + k + 4 : Nat) : Int) := by rw [wi (by omega) (by omega)]; omega
  rw [e3, e4]
  repeat (refine And.intro (by first | omega | (simp only [times]; omega)) ?_; conv => whnf)
  intro o2 ho2 _
  obtain rfl : o2 = o + (at' + k) := by have := ho2 (by omega); rw [Int.toNat_natCast] at this; simpa using this
  simp only [Int.toNat_natCast]
  rw [show at' + k + 4 - (at' + k) = 4 by omega]
  conv => whnf
  first | refine xretk (fsum_spec (hv4.lb.la.sub (hs4.sub (by simp))) hbd (by simp; omega)) ?_ | refine xret (fsum_spec (hv4.lb.la.sub (hs4.sub (by simp))) hbd (by simp; omega)) ?_
  conv => whnf
  refine xcall (four_spec (Fr.crc_lt hbd)) ?_
  rintro _ m5 ⟨v5, q5, rfl, hs5, hv5⟩
  conv => whnf
  have hs5 := hs5.under (a := [q5]) hs4
  have hsub5 : Sub m m5 := hs5.sub (by simp)
  have hd2 := Lb.cut' (c' := c - (at' + k)) ((hv.lb hne).sub hsub5) (at' + k) 4 (by omega) (by omega)
  first | refine xretk (equal_spec (hv5.lb.la.sub (hs5.sub (by simp))) hd2.la (by simp [Fr.four])) ?_ | refine xret (equal_spec (hv5.lb.la.sub (hs5.sub (by simp))) hd2.la (by simp [Fr.four])) ?_
  conv => whnf
  refine ⟨fun h => ?_, fun h => ?_⟩
  · have hq : ¬ Fr.four (Fr.crc ((l.drop at').take k)) = (l.drop (at' + k)).take 4 := by simpa using h
    conv => whnf
    rw [hx, if_neg hq]
    exact ⟨_, q5, rfl, ((hs5.erase 1).erase 1).erase 1, Bs.nil _⟩
  · have hq : Fr.four (Fr.crc ((l.drop at').take k)) = (l.drop (at' + k)).take 4 := by simpa using h
    conv => whnf
    rw [hx, if_pos hq]
    refine ⟨v4, q4, ?_, ((hs5.erase 2).erase 2).erase 0, hv4⟩
    rw [e3, e4]
theorem Lb.postA {m : Mem} {b o n c : Nat} {l : List Int} (hv : La m (.slice (some ⟨b, o, none⟩) n c) l) (hc : l.length ≤ c) (k : Nat) (hk : k ≤ l.length) (o' : Nat) (ho : c - k ≠ 0 → o' = o + k) : La m (.slice (some ⟨b, o', none⟩) (l.length - k) (c - k)) (l.drop k) := by
  by_cases hne : l.drop k = []
  · have h0 : l.length - k = 0 := by have := congrArg List.length hne; simpa using this
    rcases hv with h | ⟨rfl, a, h⟩
    · rcases h.cases with ⟨_, h1, _⟩ | ⟨b', o'', c', arr, t, fr, h1, h2, h3, h4⟩
      · cases h1
      · cases h1
        rw [hne, h0]
        exact (Lb.mk (l := []) (o := o') h2 rfl (Nat.zero_le _) (fun j x hj => by cases hj)).la
    · injection h with h1 h2 h3
      subst h3
      exact .inr ⟨by simp, ⟨b, o', none⟩, by simp⟩
  · have hl : l ≠ [] := by rintro rfl; simp at hne
    have hd : 0 < (l.drop k).length := List.length_pos_iff.2 hne
    rw [List.length_drop] at hd
    obtain rfl := ho (by omega)
    have := Lb.cut' (c' := c - k) (hv.lb hl) k (l.length - k) (by omega) (by omega)
    rw [List.take_of_length_le (by simp)] at this
    exact this.la
theorem Split.mid {m p a b : Mem} {l : List Mem} (h : Split m (p :: a :: b :: l)) : Split m (p :: joinM a b :: l) ∧ Sub a (joinM a b) ∧ Sub b (joinM a b) := by
  have h1 : Split m (a :: b :: p :: l) := h.perm ((List.Perm.swap a p (b :: l)).trans ((List.Perm.swap b p l).cons a))
  refine ⟨h1.pair.perm (List.Perm.swap p (joinM a b) l), fun x o hx => by simp [joinM, hx], fun x o hx => ?_⟩
  rcases h1.dj x with h' | h'
  · simp [joinM, h', hx]
  · rw [h'] at hx; cases hx
theorem read_step {f : Nat} {b : List Int} (h : 0 < (Fr.next b).2.1) : Fr.read (f + 1) b = ((Fr.next b).1 :: (Fr.read f (b.drop (Fr.next b).2.1)).1, (Fr.next b).2.1 + (Fr.read f (b.drop (Fr.next b).2.1)).2.1, (Fr.read f (b.drop (Fr.next b).2.1)).2.2) := by
  rw [Fr.read]; simp only [if_pos h]
theorem read_stop {f : Nat} {b : List Int} (h : ¬ 0 < (Fr.next b).2.1) : Fr.read (f + 1) b = ([], 0, (Fr.next b).2.2) := by
  rw [Fr.read]; simp only [if_neg h]
structure Got (l : List Int) (f : Nat) (at' : Nat) (ls : List (List Int)) : Prop where
  le : at' ≤ l.length
  fuel : l.length - at' < f
  cnt : ls.length ≤ at'
  eq : Fr.read (l.length + 1) l = (ls ++ (Fr.read f (l.drop at')).1, at' + (Fr.read f (l.drop at')).2.1, (Fr.read f (l.drop at')).2.2)
theorem Got.start (l : List Int) : Got l (l.length + 1) 0 [] := ⟨by omega, by omega, by simp, by simp⟩
theorem Got.more {l : List Int} {f at' : Nat} {ls : List (List Int)} (h : Got l f at' ls) (hp : 0 < (Fr.next (l.drop at')).2.1) : ∃ f', f = f' + 1 ∧ Got l f' (at' + (Fr.next (l.drop at')).2.1) (ls ++ [(Fr.next (l.drop at')).1]) := by
  obtain ⟨f', rfl⟩ : ∃ f', f = f' + 1 := ⟨f - 1, by have := h.fuel; omega⟩
  have hl := Fr.next_le (l.drop at')
  rw [List.length_drop] at hl
  have := h.le; have := h.fuel; have := h.cnt
  refine ⟨f', rfl, by omega, by omega, by simp; omega, ?_⟩
  rw [h.eq, read_step hp, List.drop_drop]
  simp [Nat.add_assoc]
theorem Got.stop {l : List Int} {f at' : Nat} {ls : List (List Int)} (h : Got l f at' ls) (hp : ¬ 0 < (Fr.next (l.drop at')).2.1) : Fr.read (l.length + 1) l = (ls, at', (Fr.next (l.drop at')).2.2) := by
  obtain ⟨f', rfl⟩ : ∃ f', f = f' + 1 := ⟨f - 1, by have := h.fuel; omega⟩
  rw [h.eq, read_stop hp]; simp
set_option maxHeartbeats 2000000 in
theorem read_spec {m : Mem} {b o c : Nat} {l : List Int} (hv : La m (.slice (some ⟨b, o, none⟩) l.length c) l) (hb : Byt l) (hl : l.length ≤ 1000000) (hc : l.length ≤ c) : Spec Tryz.prog 52 [.v (.slice (some ⟨b, o, none⟩) l.length c)] m fun r m' => ∃ v' ps p, r = [.v v', i64 ((Fr.read (l.length + 1) l).2.1 : Nat), i64 (Fr.read (l.length + 1) l).2.2] ∧ Split m' [p, m] ∧ Lists p v' ps ∧ ps.map (·.2) = (Fr.read (l.length + 1) l).1 := by
  refine en52 rfl (goY ?_)
  conv => whnf
  refine .mk 0 _ rfl (ι := Nat × Value × Nat) (fun i => i.1) (fun ⟨f, x, k⟩ mm => ∃ (ps : List (Value × List Int)) (p q : Mem), Got l f k (ps.map (·.2)) ∧ Split mm [p, q, m] ∧ Own p 80 1 x (ps.map (·.1)) ∧ ∀ u ∈ ps, La q u.1 u.2)
    (fun ⟨f, x, k⟩ => [(0, .c (.v (.slice (some ⟨b, o, none⟩) l.length c))), (5, .c (.v x)), (6, .c (i64 k))]) (fun _ => []) ?_ ?_
  · conv => whnf
    repeat (refine And.intro (by first | omega | (simp only [times]; omega)) ?_; conv => whnf)
    intro o1 ho1 _
    have hpost := Lb.postA hv hc 0 (by omega) o1 (fun h => by have := ho1 (by simp only [Int.toNat_zero]; omega); simpa using this)
    have e0 : c - (0 : Int).toNat = c - 0 := rfl
    rw [e0, show l.length - (0 : Int).toNat = l.length - 0 from rfl]
    have hg := Got.start l
    refine xcall (next_spec hpost (hb.drop _) (by simp; omega)) ?_
    rintro _ m1 ⟨v1, p1, rfl, hs1, hv1⟩
    conv => whnf
    refine ⟨fun h1 => ?_, fun h1 => ?_⟩
    · have h1' : 0 < (Fr.next (l.drop 0)).2.1 := by have := of_decide_eq_true h1; omega
      obtain ⟨f', hf', hg'⟩ := hg.more h1'
      have hle := hg'.le
      have hs2 : Split m1 (emp :: [p1, m]) := hs1.addEmp
      conv => whnf
      refine .mk _ (buildL1) ?_
      rintro _ _ ⟨b1, hb1, rfl, rfl⟩
      conv => whnf
      refine .mk _ (pushL (p := emp) (y := .slice none 0 0) (vs := []) hs2 hb1 hv1.lb.one (.inl ⟨rfl, rfl⟩) (by simp)) ?_
      rintro _ m2 ⟨x', p', rfl, hs3, hx'⟩
      conv => whnf
      refine ⟨(f', x', 0 + (Fr.next (l.drop 0)).2.1), ⟨[(v1, (Fr.next (l.drop 0)).1)], p', p1, hg', hs3, hx', by simpa using hv1.lb.la⟩, ?_⟩
      conv => whnf
      repeat (refine And.intro (by first | with_reducible rfl | (first | exact congrArg (Value.int _) (by rw [wi (by omega) (by omega)]; omega)) | exact congrArg (Value.int _) (wi (by omega) (by omega)) | exact wi (by omega) (by omega) | rfl) ?_; conv => whnf)
      first | exact trivial | exact fun _ _ h => h
    · have h1' : ¬ 0 < (Fr.next (l.drop 0)).2.1 := by have := of_decide_eq_false h1; omega
      have hst := hg.stop h1'
      conv => whnf
      rw [hst]
      exact ⟨_, [], emp, rfl, (hs1.erase 0).addEmp, ⟨.inl ⟨_, rfl, rfl⟩, by simp⟩, rfl⟩
  · rintro ⟨f, x, k⟩ mm ⟨ps, p, q, hg, hs, hx, hq⟩
    have hle := hg.le
    have hsub : Sub m mm := hs.sub (by simp)
    conv => whnf
    repeat (refine And.intro (by first | omega | (simp only [times]; omega)) ?_; conv => whnf)
    intro o1 ho1 _
    have hpost := Lb.postA (hv.sub hsub) hc k hg.le o1 (fun h => by have := ho1 (by rw [Int.toNat_natCast]; omega); simpa using this)
    simp only [Int.toNat_natCast]
    refine xcall (next_spec hpost (hb.drop _) (by simp; omega)) ?_
    rintro _ m1 ⟨v1, p1, rfl, hs1, hv1⟩
    conv => whnf
    have hs1 := hs1.under (a := [p1]) hs
    have hcnt := hg.cnt
    rw [List.length_map] at hcnt
    refine ⟨fun h1 => ?_, fun h1 => ?_⟩
    · have h1' : 0 < (Fr.next (l.drop k)).2.1 := by have := of_decide_eq_true h1; omega
      obtain ⟨f', rfl, hg'⟩ := hg.more h1'
      have hle' := hg'.le
      have hs2 : Split m1 (p :: [p1, q, m]) := hs1.perm (List.Perm.swap _ _ _)
      conv => whnf
      refine .mk _ (buildL1) ?_
      rintro _ _ ⟨b1, hb1, rfl, rfl⟩
      conv => whnf
      refine .mk _ (pushL hs2 hb1 hv1.lb.one hx (by simp; omega)) ?_
      rintro _ m2 ⟨x', p', rfl, hs3, hx'⟩
      conv => whnf
      obtain ⟨hs4, hsa, hsb⟩ := Split.mid hs3
      refine ⟨(f', x', k + (Fr.next (l.drop k)).2.1), ⟨ps ++ [(v1, (Fr.next (l.drop k)).1)], p', _, by simpa using hg', hs4, by simpa using hx', ?_⟩, by simp only; omega, ?_⟩
      · intro u hu
        rcases List.mem_append.1 hu with hu | hu
        · exact (hq u hu).sub hsb
        · rw [List.mem_singleton.1 hu]; exact hv1.lb.la.sub hsa
      · conv => whnf
        repeat (refine And.intro (by first | with_reducible rfl | (first | exact congrArg (Value.int _) (by rw [wi (by omega) (by omega)]; omega)) | exact congrArg (Value.int _) (wi (by omega) (by omega)) | exact wi (by omega) (by omega) | rfl) ?_; conv => whnf)
        first | exact trivial | exact fun _ _ h => h
    · have h1' : ¬ 0 < (Fr.next (l.drop k)).2.1 := by have := of_decide_eq_false h1; omega
      have hst := hg.stop h1'
      conv => whnf
      rw [hst]
      have hs2 : Split m1 (p :: [q, m]) := hs1.drop
      have hd := hs2.dj
      have hs3 := hs2.pair
      refine ⟨x, ps, joinM p q, rfl, hs3, ⟨hx.lies.sub (fun y u hu => by simp [joinM, hu]), fun u hu => (hq u hu).sub (fun y w hw => ?_)⟩, rfl⟩
      rcases hd y with h' | h'
      · simp [joinM, h', hw]
      · rw [h'] at hw; cases hw
end Go.E.YtcionccfgcnhoaaGreatDoor
namespace Go.E
open Go.ChangeShapes Go.WideShapes Go.RowKit
def KW : Value → Value → Prop
  | .int k _, .int k' n => k = k' ∧ (Lit.int k n).wf = true
  | .bool _, .bool _ => True
  | .string _, .string s => s.size ≤ maxLen
  | _, _ => False
def KWs : List Value → List Value → Prop
  | [], [] => True
  | z :: zs, x :: xs => KW z x ∧ KWs zs xs
  | _, _ => False
theorem KWs.length : ∀ {z x : List Value}, KWs z x → z.length = x.length
  | [], [], _ => rfl
  | _ :: _, _ :: _, h => by simp [KWs.length h.2]
  | [], _ :: _, h => h.elim
  | _ :: _, [], h => h.elim
section
variable {H : Type} {enc : TypeId × Value → H} {P : Program} {w : World} {base : Nat} {spare : Nat → Bool} {held : Bool}
theorem trodAll_stays (hl : laidOutB P = true) {W W' : World} (hb : Below W.heap.size W W') {sp : Nat → Bool} : ∀ {ts : List TypeId} {vs : List Value} {ds : List (DataW H)} {ps : List MemPlace}, (∀ t ∈ ts, P.readableRec t = true ∧ t < P.types.size) →
    DataW.TrodAll enc P W 0 (fun _ => true) true ts vs ds ps → (∀ p ∈ ps, p.block < W.heap.size) → (∀ p ∈ ps, sp p.block = true) → DataW.TrodAll enc P W' 0 sp true ts vs ds ps
  | [], [], [], ps, _, h, _, _ => h
  | t :: ts, v :: vs, d :: ds, ps, hr, h, hlt, hs => by
    obtain ⟨p, q, h1, h2, rfl⟩ := h
    refine ⟨p, q, WideElems.Trod_stays hl (hr t (by simp)).1 (hr t (by simp)).2 h1 (fun x hx => hb.same (hlt x (by simp [hx]))) (fun x hx => hs x (by simp [hx])),
      trodAll_stays hl hb (fun t' ht' => hr t' (by simp [ht'])) h2 (fun x hx => hlt x (by simp [hx])) (fun x hx => hs x (by simp [hx])), rfl⟩
  | [], _ :: _, _, _, _, h, _, _ => h.elim
  | [], [], _ :: _, _, _, h, _, _ => h.elim
  | _ :: _, [], _, _, _, h, _, _ => h.elim
  | _ :: _, _ :: _, [], _, _, h, _, _ => h.elim
theorem lawPost (hl : laidOutB P = true) {f : Func} {s : ChangeSpec} {W W' : World} {args : Array Value} {ds gs : List (DataW H)} {before : List MemPlace} {tb : TypeId} (hvars : s.vars = [])
    (hfn : s.fn H (ds ++ gs) = { results := [.lit (.bool true)], args := ds }) (hres : f.resultTypes = #[tb]) (hbool : P.underlying tb = some .bool) (hread : f.params.toList.all (fun t => P.readableRec t && decide (t < P.types.size)) = true)
    (hW : DataW.Whole enc P f.params.toList s.vars false W args.toList ds gs before) (hb : Below W.heap.size W W') : s.post enc P f false true false false W args (.bool true) W' := by
  have hlt := hW.lt
  have hW' := hW
  obtain ⟨p, q, hA, hV, rfl, hfz, hnd⟩ := hW
  rw [hvars] at hV
  obtain ⟨rfl, rfl⟩ := trodVars_none hV
  have hread' : ∀ t ∈ f.params.toList, P.readableRec t = true ∧ t < P.types.size := fun t ht => by
    have := List.all_eq_true.1 hread t ht
    simpa using this
  have hA' : DataW.TrodAll enc P W' 0 (fun b => decide (b < W.heap.size)) true f.params.toList args.toList ds p :=
    trodAll_stays hl hb hread' hA (fun x hx => hlt x (by simp [hx])) (fun x hx => by simpa using hlt x (by simp [hx]))
  refine ⟨ds, [], p ++ [], [], p, [], hW', ?_, ?_, ?_, World.keptBut_mono (fun x hx => ⟨hx, .inr (.inl (by simpa using hx))⟩) (hb.frame _), fun h => by cases h⟩
  · rw [hfn, hres]
    exact trodAll_cons_mk (shut_bool hbool _) trodAll_mk0
  · rw [hfn]; exact hA'
  · rw [hfn, hvars]; rfl
end
end Go.E
namespace Go.E
open Go.ChangeShapes Go.WideShapes Go.RowKit
section
variable {H : Type} {enc : TypeId × Value → H} {P : Program} {w : World} {base : Nat} {spare : Nat → Bool} {held : Bool}
theorem chunks_flat {α : Type} (l : List α) (s : Nat) : ∀ (n k : Nat), (k + n) * s ≤ l.length → ((List.range' k n).map (fun i => (l.drop (i * s)).take s)).flatten = (l.drop (k * s)).take (n * s)
  | 0, k, _ => by simp
  | n + 1, k, h => by
    have ih := chunks_flat l s n (k + 1) (by rw [show k + 1 + n = k + (n + 1) by omega]; exact h)
    simp only [List.range'_succ, List.map_cons, List.flatten_cons, ih]
    rw [show (n + 1) * s = s + n * s by rw [Nat.add_mul]; omega, show (k + 1) * s = k * s + s by rw [Nat.add_mul]; omega]
    rw [List.take_add, List.drop_drop]
theorem kws_one {k : IntKind} {c : List Value} {z : Int} (h : KWs [.int k z] c) : ∃ n, c = [.int k n] ∧ (Lit.int k n).wf = true := by
  match c, h with
  | [.int k' n], h => obtain ⟨⟨rfl, h⟩, _⟩ := h; exact ⟨n, rfl, h⟩
theorem els_ints {k : IntKind} {z : Int} : ∀ {els : List (List Value)}, (∀ c ∈ els, KWs [.int k z] c) → ∃ l : List Int, els.flatten = l.map (Value.int k) ∧ l.length = els.length ∧ ∀ n ∈ l, (Lit.int k n).wf = true
  | [], _ => ⟨[], rfl, rfl, by simp⟩
  | c :: els, h => by
    obtain ⟨n, rfl, hn⟩ := kws_one (h c (by simp))
    obtain ⟨l, h1, h2, h3⟩ := els_ints (els := els) (fun c hc => h c (by simp [hc]))
    refine ⟨n :: l, by simp [h1], by simp [h2], ?_⟩
    intro x hx
    rcases List.mem_cons.1 hx with rfl | hx
    · exact hn
    · exact h3 x hx
end
end Go.E
namespace Go.E
open Go.ChangeShapes Go.WideShapes Go.RowKit
inductive Sh where
  | int (k : IntKind)
  | bool
  | str
  | slice (e : Sh)
  | unit
  | pair (a b : Sh)
  | rep (n : Nat) (e : Sh)
def Sh.size : Sh → Nat
  | .unit => 0
  | .pair a b => a.size + b.size
  | .rep n e => n * e.size
  | _ => 1
def Dat (m : Mem) : Sh → List Value → Prop
  | .int k, cs => ∃ n, cs = [.int k n] ∧ (Lit.int k n).wf = true
  | .bool, cs => ∃ b, cs = [.bool b]
  | .str, cs => ∃ s, cs = [.string s] ∧ s.size ≤ maxLen
  | .slice e, cs => ∃ (v : Value) (els : List (List Value)), cs = [v] ∧ (Lies m e.size v els.flatten ∨ (els = [] ∧ ∃ a, v = .slice (some a) 0 0)) ∧ lenV v = els.length ∧ (∀ c ∈ els, Dat m e c) ∧ els.length ≤ maxLen
  | .unit, cs => cs = []
  | .pair a b, cs => ∃ x y, cs = x ++ y ∧ Dat m a x ∧ Dat m b y
  | .rep n e, cs => ∃ els : List (List Value), cs = els.flatten ∧ els.length = n ∧ ∀ c ∈ els, Dat m e c
def intB : Option TypeDesc → IntKind → Bool
  | some (.int k), q => kEq k q
  | _, _ => false
def chk (P : Program) : Sh → (TypeId → Bool) × (List Field → Nat → Bool)
  | .int k => (fun t => intB (P.underlying t) k, fun _ _ => false)
  | .bool => (fun t => match P.underlying t with | some .bool => true | _ => false, fun _ _ => false)
  | .str => (fun t => match P.underlying t with | some .string => true | _ => false, fun _ _ => false)
  | .slice e => (fun t => match P.underlying t with | some (.slice et) => (chk P e).1 et && (P.cellsOf et == e.size && Nat.blt 0 e.size) | _ => false, fun _ _ => false)
  | .unit => (fun _ => false, fun fs _ => fs.isEmpty)
  | .pair a b =>
    let F : List Field → Nat → Bool := fun fs off => match fs with
      | f :: fs => f.offset == off && ((chk P a).1 f.type && (P.cellsOf f.type == a.size && (chk P b).2 fs (off + a.size)))
      | [] => false
    (fun t => match P.underlying t with | some (.struct fs) => P.cellsOf t == a.size + b.size && F fs.toList 0 | _ => false, F)
  | .rep n e => (fun t => match P.underlying t with | some (.array k et) => Nat.beq k n && ((chk P e).1 et && (P.cellsOf et == e.size && P.cellsOf t == n * e.size)) | _ => false, fun _ _ => false)
section
variable {H : Type} {enc : TypeId × Value → H} {P : Program} {w : World} {base : Nat} {spare : Nat → Bool} {held : Bool}
theorem Dat.one {m : Mem} : ∀ {sh : Sh} {cs : List Value}, Dat m sh cs → ∀ u ∈ cs, u.oneCell' = true
  | .int k, cs, h, u, hu => by obtain ⟨n, rfl, _⟩ := h; simp at hu; subst hu; rfl
  | .bool, cs, h, u, hu => by obtain ⟨n, rfl⟩ := h; simp at hu; subst hu; rfl
  | .str, cs, h, u, hu => by obtain ⟨n, rfl, _⟩ := h; simp at hu; subst hu; rfl
  | .slice e, cs, h, u, hu => by
    obtain ⟨v, els, rfl, h1, _⟩ := h
    simp at hu; subst hu
    rcases h1 with h1 | ⟨_, a, rfl⟩
    · exact h1.one
    · rfl
  | .unit, cs, h, u, hu => by simp only [Dat] at h; subst h; cases hu
  | .pair a b, cs, h, u, hu => by
    obtain ⟨x, y, rfl, h1, h2⟩ := h
    rcases List.mem_append.1 hu with hu | hu
    · exact Dat.one h1 u hu
    · exact Dat.one h2 u hu
  | .rep n e, cs, h, u, hu => by
    obtain ⟨els, rfl, _, h1⟩ := h
    obtain ⟨c, hc, huc⟩ := List.mem_flatten.1 hu
    exact Dat.one (h1 c hc) u huc
theorem flat_len {els : List (List Value)} {s : Nat} (h : ∀ c ∈ els, c.length = s) : els.flatten.length = els.length * s := by
  induction els with
  | nil => simp
  | cons a els ih =>
    simp only [List.flatten_cons, List.length_append, List.length_cons]
    rw [ih (fun c hc => h c (by simp [hc])), h a (by simp), Nat.add_mul]; omega
theorem Dat.length {m : Mem} : ∀ {sh : Sh} {cs : List Value}, Dat m sh cs → cs.length = sh.size
  | .int k, cs, h => by obtain ⟨n, rfl, _⟩ := h; rfl
  | .bool, cs, h => by obtain ⟨n, rfl⟩ := h; rfl
  | .str, cs, h => by obtain ⟨n, rfl, _⟩ := h; rfl
  | .slice e, cs, h => by obtain ⟨v, els, rfl, _⟩ := h; rfl
  | .unit, cs, h => by simp only [Dat] at h; subst h; rfl
  | .pair a b, cs, h => by
    obtain ⟨x, y, rfl, h1, h2⟩ := h
    simp only [List.length_append, Sh.size, Dat.length h1, Dat.length h2]
  | .rep n e, cs, h => by
    obtain ⟨els, rfl, h2, h1⟩ := h
    rw [flat_len (fun c hc => Dat.length (h1 c hc)), h2]; rfl
theorem chunk_list {α : Type} (l : List α) (s n : Nat) (h : l.length = n * s) : ((List.range' 0 n).map (fun i => (l.drop (i * s)).take s)).flatten = l := by
  rw [chunks_flat l s n 0 (by rw [Nat.zero_add, h]; exact Nat.le_refl _)]
  simp [← h]
theorem cell_some {a : Addr} {v : Value} (h : w.cell? a = some v) : ∃ b o arr t fr, a = ⟨b, o, none⟩ ∧ w.heap[b]? = some (.cells arr t fr) ∧ arr[o]? = some v := by
  obtain ⟨b, o, sp⟩ := a
  unfold World.cell? at h
  simp only at h
  split at h
  · rename_i arr t fr hb
    cases sp with
    | some _ => simp at h
    | none => exact ⟨b, o, arr, t, fr, rfl, hb, by simpa using h⟩
  · cases h
theorem add_zero (a : Addr) : a.add 0 = a := by simp [Addr.add]
theorem trod_dat (hsp : ∀ b, spare b = true) : ∀ (sh : Sh), (∀ (t : TypeId) (cs : List Value) (fuel : Nat) (x : DataW H × List MemPlace), (chk P sh).1 t = true → DataW.trod enc P w base spare held fuel t cs = some x → Dat (fun b => w.heap[b]?) sh cs) ∧
    (∀ (fs : List Field) (off : Nat) (cs : List Value), (chk P sh).2 fs off = true → cs.length = off + sh.size → (∀ f ∈ fs, ∃ fuel x, DataW.trod enc P w base spare held fuel f.type ((cs.drop f.offset).take (P.cellsOf f.type)) = some x) → Dat (fun b => w.heap[b]?) sh (cs.drop off)) := by
  intro sh
  induction sh with
  | int k =>
    refine ⟨fun t cs fuel x h ht => ?_, fun fs off cs h => by simp [chk] at h⟩
    simp only [chk] at h
    cases hu : P.underlying t with
    | none => rw [hu] at h; cases h
    | some d =>
      rw [hu] at h
      cases d <;> simp only [intB] at h <;> try cases h
      rename_i q
      have := kEq_eq h; subst this
      obtain ⟨n, rfl, _, hw⟩ := DataW.trod_int hu ht
      exact ⟨n, rfl, hw⟩
  | bool =>
    refine ⟨fun t cs fuel x h ht => ?_, fun fs off cs h => by simp [chk] at h⟩
    simp only [chk] at h
    split at h
    · rename_i hu; obtain ⟨b, rfl, _⟩ := DataW.trod_bool hu ht; exact ⟨b, rfl⟩
    · cases h
  | str =>
    refine ⟨fun t cs fuel x h ht => ?_, fun fs off cs h => by simp [chk] at h⟩
    simp only [chk] at h
    split at h
    · rename_i hu; obtain ⟨s, rfl, _, hs⟩ := DataW.trod_string hu ht; exact ⟨s, rfl, hs⟩
    · cases h
  | unit =>
    refine ⟨fun t cs fuel x h ht => by simp [chk] at h, fun fs off cs h hl _ => ?_⟩
    simp only [Sh.size] at hl
    exact List.drop_eq_nil_of_le (by omega)
  | pair a b iha ihb =>
    have F : ∀ (fs : List Field) (off : Nat) (cs : List Value), (chk P (.pair a b)).2 fs off = true → cs.length = off + (Sh.pair a b).size → (∀ f ∈ fs, ∃ fuel x, DataW.trod enc P w base spare held fuel f.type ((cs.drop f.offset).take (P.cellsOf f.type)) = some x) → Dat (fun b => w.heap[b]?) (.pair a b) (cs.drop off) := by
      intro fs off cs h hl hf
      cases fs with
      | nil => simp [chk] at h
      | cons f fs =>
        simp only [chk, Bool.and_eq_true, beq_iff_eq] at h
        obtain ⟨ho, h1, h2, h3⟩ := h
        simp only [Sh.size] at hl
        obtain ⟨fu, x, hx⟩ := hf f (by simp)
        rw [ho, h2] at hx
        refine ⟨(cs.drop off).take a.size, cs.drop (off + a.size), ?_, iha.1 _ _ _ _ h1 hx, ihb.2 fs (off + a.size) cs h3 (by omega) (fun g hg => hf g (by simp [hg]))⟩
        rw [← List.drop_drop, List.take_append_drop]
    refine ⟨fun t cs fuel x h ht => ?_, F⟩
    have h' : (match P.underlying t with | some (.struct fs) => P.cellsOf t == a.size + b.size && (chk P (.pair a b)).2 fs.toList 0 | _ => false) = true := h
    split at h'
    · rename_i fs hu
      simp only [Bool.and_eq_true, beq_iff_eq] at h'
      obtain ⟨xs, k, hk, _, hl, hxl, hp⟩ := DataW.trod_struct hu ht
      have := F fs.toList 0 cs h'.2 (by simp only [Sh.size]; omega) (fun f hf => by
        obtain ⟨i, hi, he⟩ := List.getElem_of_mem hf
        have hy := hp i f (by rw [← Array.getElem?_toList, List.getElem?_eq_getElem hi, he])
        rw [List.getElem?_eq_getElem (by simp at hi; omega)] at hy
        exact ⟨k, _, hy⟩)
      simpa using this
    · cases h'
  | rep n e ih =>
    refine ⟨fun t cs fuel x h ht => ?_, fun fs off cs h => by simp [chk] at h⟩
    simp only [chk] at h
    split at h
    · rename_i k et hu
      simp only [Bool.and_eq_true, beq_iff_eq] at h
      obtain ⟨hkn, h1, h2, h3⟩ := h
      have hkn := Nat.eq_of_beq_eq_true hkn
      subst hkn
      obtain ⟨xs, fu, hfu, _, hl, hxl, hp⟩ := DataW.trod_array hu ht
      rw [h2] at hp
      refine ⟨(List.range' 0 k).map (fun i => (cs.drop (i * e.size)).take e.size), (chunk_list cs e.size k (by omega)).symm, by simp, ?_⟩
      intro c hc
      obtain ⟨i, hi, rfl⟩ := List.mem_map.1 hc
      simp at hi
      have hy := hp i hi
      rw [List.getElem?_eq_getElem (by omega)] at hy
      exact ih.1 _ _ _ _ h1 hy
    · cases h
  | slice e ih =>
    refine ⟨fun t cs fuel x h ht => ?_, fun fs off cs h => by simp [chk] at h⟩
    simp only [chk] at h
    split at h
    · rename_i et hu
      simp only [Bool.and_eq_true, beq_iff_eq] at h
      obtain ⟨h1, h2, h3⟩ := h
      have hpos : 0 < e.size := by rw [Nat.blt_eq] at h3; exact h3
      rcases DataW.trod_slice hu ht with ⟨rfl, _⟩ | ⟨a, len, cap, elems, rest, n, _, rfl, _, hb, hl, hm, hlen, hel, hrest, _⟩
      · exact ⟨_, [], rfl, .inl (.inl ⟨0, rfl, rfl⟩), rfl, by simp, by simp⟩
      · rw [h2] at hel hrest
        have first : ∀ i, (∃ cs y, (w.cells? base (a.add (i * e.size)) e.size).bind (DataW.trod enc P w base spare held n et) = some y ∧ cs = y) → ∃ cs y, w.cells? base (a.add (i * e.size)) e.size = some cs ∧ DataW.trod enc P w base spare held n et cs = some y := by
          rintro i ⟨_, y, hy, _⟩
          rw [Option.bind_eq_some_iff] at hy
          obtain ⟨cs, g1, g2⟩ := hy
          exact ⟨cs, y, g1, g2⟩
        have hel' : ∀ i, i < len → ∃ cs y, w.cells? base (a.add (i * e.size)) e.size = some cs ∧ DataW.trod enc P w base spare held n et cs = some y := by
          intro i hi
          have := hel i hi
          rw [List.getElem?_eq_getElem (by omega)] at this
          exact first i ⟨_, _, this, rfl⟩
        have hblk : cap = 0 ∨ ∃ b o arr t fr, a = ⟨b, o, none⟩ ∧ w.heap[b]? = some (.cells arr t fr) := by
          by_cases hc : cap = 0
          · exact .inl hc
          · right
            have : ∃ cs y, w.cells? base (a.add (0 * e.size)) e.size = some cs ∧ DataW.trod enc P w base spare held n et cs = some y := by
              by_cases hl0 : len = 0
              · obtain ⟨hr1, hr2⟩ := hrest (hsp _)
                have h0 := hr2 0 (by omega)
                obtain ⟨z, hz⟩ : ∃ z, rest[0]? = some z := ⟨_, List.getElem?_eq_getElem (by omega)⟩
                rw [hz, hl0] at h0
                exact first 0 ⟨_, _, h0, rfl⟩
              · exact hel' 0 (by omega)
            obtain ⟨cs, y, g1, _⟩ := this
            obtain ⟨_, g3, g4⟩ := World.cells?_some g1
            have := g4 0 hpos
            rw [Nat.zero_mul, add_zero, add_zero, List.getElem?_eq_getElem (by omega)] at this
            obtain ⟨b, o, arr, t, fr, e1, e2, _⟩ := cell_some this
            exact ⟨b, o, arr, t, fr, e1, e2⟩
        rcases hblk with rfl | ⟨b, o, arr, t', fr, rfl, harr⟩
        · obtain rfl : len = 0 := by omega
          exact ⟨_, [], rfl, .inr ⟨rfl, a, rfl⟩, rfl, by simp, by simp⟩
        · have each : ∀ i, i < len → ∃ cs y, cs = ((arr.toList.drop o).drop (i * e.size)).take e.size ∧ DataW.trod enc P w base spare held n et cs = some y ∧ o + i * e.size + e.size ≤ arr.size := by
            intro i hi
            obtain ⟨cs, y, g1, g2⟩ := hel' i hi
            obtain ⟨_, g3, g4⟩ := World.cells?_some g1
            have g5 : ∀ k, k < e.size → arr[o + i * e.size + k]? = cs[k]? := by
              intro k hk'
              have := g4 k hk'
              rw [add_none, add_none, cell_at harr] at this
              exact this
            have hlast : o + i * e.size + e.size ≤ arr.size := by
              have := g5 (e.size - 1) (by omega)
              rw [List.getElem?_eq_getElem (by omega)] at this
              have := (Array.getElem?_eq_some_iff.1 this).1
              omega
            refine ⟨cs, y, ?_, g2, hlast⟩
            apply List.ext_getElem?
            intro k
            by_cases hk' : k < e.size
            · rw [← g5 k hk', List.getElem?_take, if_pos hk', List.getElem?_drop, List.getElem?_drop, Array.getElem?_toList]
              congr 1; omega
            · rw [List.getElem?_eq_none (by omega), List.getElem?_eq_none (by simp; omega)]
          have hbound : len * e.size ≤ (arr.toList.drop o).length ∨ len = 0 := by
            by_cases h0 : len = 0
            · exact .inr h0
            · obtain ⟨_, _, _, _, g⟩ := each (len - 1) (by omega)
              left
              have : len * e.size = (len - 1) * e.size + e.size := by
                rw [← Nat.succ_mul]; congr 1; omega
              simp
              omega
          have hflat := chunks_flat (arr.toList.drop o) e.size len 0 (by
            rw [Nat.zero_add]
            rcases hbound with h | h
            · exact h
            · rw [h]; simp)
          have hdat : ∀ c ∈ (List.range' 0 len).map (fun i => ((arr.toList.drop o).drop (i * e.size)).take e.size), Dat (fun b => w.heap[b]?) e c := by
            intro c hc
            obtain ⟨i, hi, rfl⟩ := List.mem_map.1 hc
            simp at hi
            obtain ⟨cs, y, k1, k2, _⟩ := each i hi
            rw [← k1]
            exact ih.1 _ _ _ _ h1 k2
          refine ⟨_, (List.range' 0 len).map (fun i => ((arr.toList.drop o).drop (i * e.size)).take e.size), rfl, .inl (.inr ⟨b, o, cap, len, arr, t', fr, rfl, harr, ?_, hl, ?_, ?_⟩), by simp [lenV], hdat, by simp; omega⟩
          · rw [flat_len (fun c hc => (hdat c hc).length)]; simp
          · intro j' u hu
            rw [hflat] at hu
            simp only [Nat.zero_mul, List.drop_zero, List.getElem?_take] at hu
            split at hu
            · rw [List.getElem?_drop, Array.getElem?_toList] at hu; exact hu
            · simp at hu
          · intro u hu
            obtain ⟨c, hc, huc⟩ := List.mem_flatten.1 hu
            exact (hdat c hc).one u huc
    · cases h
theorem flat_at : ∀ {els : List (List Value)} {s i j : Nat} {c : List Value} {u : Value}, (∀ c ∈ els, c.length = s) → els[i]? = some c → c[j]? = some u → els.flatten[i * s + j]? = some u
  | [], _, _, _, _, _, _, hi, _ => by simp at hi
  | a :: els, s, 0, j, c, u, hl, hi, hj => by
    simp at hi; subst hi
    have := (List.getElem?_eq_some_iff.1 hj).1
    rw [Nat.zero_mul, Nat.zero_add, List.flatten_cons, List.getElem?_append_left this]; exact hj
  | a :: els, s, i + 1, j, c, u, hl, hi, hj => by
    have ha := hl a (by simp)
    have ih := flat_at (els := els) (s := s) (fun c hc => hl c (by simp [hc])) (by simpa using hi) hj
    rw [List.flatten_cons, List.getElem?_append_right (by rw [ha, Nat.add_mul]; omega), ha, show (i + 1) * s + j - s = i * s + j by rw [Nat.add_mul]; omega]
    exact ih
theorem Lies.elem {m : Mem} {s : Nat} {v : Value} {els : List (List Value)} (h : Lies m s v els.flatten) (hl : ∀ c ∈ els, c.length = s) (hp : 0 < s) (hv : lenV v = els.length) {i : Nat} (hi : i < els.length) :
    ∃ b o c, v = .slice (some ⟨b, o, none⟩) els.length c ∧ ∀ i c, els[i]? = some c → MRange m b (o + i * s) c := by
  rcases h with ⟨c, rfl, h⟩ | ⟨b, o, c, n, arr, t, fr, rfl, h1, h2, h3, h4, h5⟩
  · simp [lenV] at hv; omega
  · simp only [lenV] at hv; subst hv
    refine ⟨b, o, c, rfl, fun i c hc => ⟨arr, t, fr, h1, fun j u hu => ?_⟩⟩
    have := h4 _ u (flat_at hl hc hu)
    rw [show o + i * s + j = o + (i * s + j) by omega]; exact this
theorem dat_ints {m : Mem} {k : IntKind} {n : Nat} {cs : List Value} (h : Dat m (.rep n (.int k)) cs) : ∃ l : List Int, cs = l.map (Value.int k) ∧ l.length = n ∧ ∀ x ∈ l, (Lit.int k x).wf = true := by
  obtain ⟨els, rfl, rfl, h⟩ := h
  have := @els_ints k 0 els (fun c hc => by obtain ⟨n, rfl, hw⟩ := h c hc; exact ⟨⟨rfl, hw⟩, trivial⟩)
  obtain ⟨l, h1, h2, h3⟩ := this
  exact ⟨l, h1, h2, h3⟩
theorem dat_sints {m : Mem} {k : IntKind} {cs : List Value} (h : Dat m (.slice (.int k)) cs) : ∃ (v : Value) (l : List Int), cs = [v] ∧ (Lies m 1 v (l.map (Value.int k)) ∨ (l = [] ∧ ∃ a, v = .slice (some a) 0 0)) ∧ lenV v = l.length ∧ (∀ x ∈ l, (Lit.int k x).wf = true) ∧ l.length ≤ maxLen := by
  obtain ⟨v, els, rfl, h1, h2, h3, h4⟩ := h
  obtain ⟨l, g1, g2, g3⟩ := @els_ints k 0 els (fun c hc => by obtain ⟨n, rfl, hw⟩ := h3 c hc; exact ⟨⟨rfl, hw⟩, trivial⟩)
  refine ⟨v, l, rfl, ?_, by omega, g3, by omega⟩
  rcases h1 with h1 | ⟨rfl, a, rfl⟩
  · rw [g1] at h1; exact .inl h1
  · exact .inr ⟨by apply List.eq_nil_of_length_eq_zero; simpa using g2, a, rfl⟩
theorem open_dat (hsp : ∀ b, spare b = true) {sh : Sh} {t : TypeId} {v : Value} {d : DataW H} {ps : List MemPlace} (hc : (chk P sh).1 t = true) (hd : DataW.Trod enc P w base spare held t v d ps) : Dat (fun b => w.heap[b]?) sh v.cells.toList := by
  obtain ⟨fuel, hf⟩ := hd
  exact (trod_dat hsp sh).1 _ _ _ _ hc hf
theorem val_slice {r : Reach} {b0 : Nat} {t e : TypeId} {v : Value} (hu : P.underlying t = some (.slice e)) (h : Value.okWide P w r b0 t v) : v.cells.toList = [v] ∧ v.oneCell' = true := by
  unfold Value.okWide at h
  rw [hu] at h
  simp only [Cell.okWide, hu, Cell.ok] at h
  cases v <;> simp at h
  exact ⟨rfl, rfl⟩
theorem val_int {k : IntKind} {r : Reach} {b0 : Nat} {t : TypeId} {v : Value} (hu : P.underlying t = some (.int k)) (h : Value.okWide P w r b0 t v) : v.cells.toList = [v] ∧ v.oneCell' = true := by
  unfold Value.okWide at h
  rw [hu] at h
  simp only [Cell.okWide, hu, Cell.ok] at h
  cases v <;> simp at h
  exact ⟨rfl, rfl⟩
theorem wf_i64 {n : Int} (h : (Lit.int .i64 n).wf = true) : -9223372036854775808 ≤ n ∧ n ≤ 9223372036854775807 := by
  simpa [Lit.wf, IntKind.min, IntKind.max, IntKind.signed, IntKind.bits] using h
theorem wf_u64 {n : Int} (h : (Lit.int .u64 n).wf = true) : 0 ≤ n ∧ n < 18446744073709551616 := by
  have : 0 ≤ n ∧ n ≤ 18446744073709551615 := by simpa [Lit.wf, IntKind.min, IntKind.max, IntKind.signed, IntKind.bits] using h
  omega
end
end Go.E
namespace Go.E.YtcionccfgcnhoaaGreatDoor
open Go.Proofs
set_option maxRecDepth 100000
theorem read_nil {m : Mem} {c : Nat} : Spec Tryz.prog 52 [.v (.slice none 0 c)] m fun r m' => ∃ v' ps p, r = [.v v', i64 ((Fr.read (([] : List Int).length + 1) []).2.1 : Nat), i64 (Fr.read (([] : List Int).length + 1) []).2.2] ∧ Split m' [p, m] ∧ Lists p v' ps ∧ ps.map (·.2) = (Fr.read (([] : List Int).length + 1) []).1 := by
  have hst := (Got.start []).stop (by simp [Fr.next_nil])
  refine en52 rfl (goY ?_)
  conv => whnf
  refine .mk 0 _ rfl (ι := Nat) (fun i => i) (fun _ _ => False) (fun _ => []) (fun _ => []) ?_ ?_
  · conv => whnf
    repeat (refine And.intro (by first | omega | (simp only [times]; omega)) ?_; conv => whnf)
    refine xcall (next_spec (l := []) (.inl (Lb.nil _ _)) (fun x hx => by cases hx) (by simp)) ?_
    rintro _ m1 ⟨v1, p1, rfl, hs1, hv1⟩
    conv => whnf
    rw [Fr.next_nil]
    refine ⟨fun h => absurd h (by first | decide | simp), fun _ => ?_⟩
    conv => whnf
    rw [hst]
    exact ⟨_, [], emp, rfl, (hs1.erase 0).addEmp, ⟨.inl ⟨_, rfl, rfl⟩, by simp⟩, rfl⟩
  · rintro i mm h; exact h.elim
end Go.E.YtcionccfgcnhoaaGreatDoor
namespace Go.E
end Go.E
namespace Go.E.YtcionccfgcnhoaaGreatDoor
open Go.Proofs
set_option maxRecDepth 100000
def LsA (m : Mem) (v : Value) (ps : List (Value × List Int)) : Prop := Lists m v ps ∨ (ps = [] ∧ ∃ a, v = .slice (some a) 0 0)
theorem LsA.shape {m : Mem} {v : Value} {ps : List (Value × List Int)} (h : LsA m v ps) : ∃ a c, v = .slice a ps.length c := by
  rcases h with h | ⟨rfl, a, rfl⟩
  · exact h.shape
  · exact ⟨_, _, rfl⟩
theorem LsA.lists {m : Mem} {v : Value} {ps : List (Value × List Int)} (h : LsA m v ps) (hl : 0 < ps.length) : Lists m v ps := by
  rcases h with h | ⟨rfl, _⟩
  · exact h
  · simp at hl
theorem LsA.real {m : Mem} {v : Value} {ps : List (Value × List Int)} (h : LsA m v ps) {i : Nat} (hi : i < ps.length) : ∃ b o c, v = .slice (some ⟨b, o, none⟩) ps.length c ∧ ∀ (i : Nat) (hi : i < ps.length), mcell m b (o + i) = some ps[i].1 := (h.lists (by omega)).real hi
theorem LsA.la {m : Mem} {v : Value} {ps : List (Value × List Int)} (h : LsA m v ps) : ∀ p ∈ ps, La m p.1 p.2 := by
  rcases h with h | ⟨rfl, _⟩
  · exact h.la
  · simp
theorem pushLat {m : Mem} {ls : List Mem} {p : Mem} {b' i : Nat} {x : Value} {y : Value} {vs : List Value} (hs : Split m ls) (hi : ls[i]? = some p) (hb : m b' = some (.cells #[x] 80)) (hx : x.oneCell' = true) (hy : Own p 80 1 y vs) (hl : vs.length ≤ 100000000) :
    PrimSpec Tryz.prog (.builtin .append [69, 69]) [.v y, .v (.slice (some ⟨b', 0, none⟩) 1 1)] m fun r m' => ∃ y' p', r = [.v y'] ∧ Split m' (ls.set i p') ∧ Own p' 80 1 y' (vs ++ [x]) := by
  have e1 := hy.lies.len
  have e2 : lenV (.slice (some ⟨b', 0, none⟩) 1 1) = 1 := rfl
  have g : Gives m 1 (.slice 80) (.slice (some ⟨b', 0, none⟩) 1 1) [x] :=
    .inl ⟨_, rfl, .inl (.inr ⟨b', 0, 1, 1, _, _, _, rfl, hb, rfl, Nat.le_refl _, fun j u hu => by simpa using hu, by simpa using hx⟩)⟩
  exact (append_at tt_ok hLs rfl hBs hLs rfl hs hi hy g (by rw [e2]; simp only; omega) (by rw [e2]; omega)).mono fun r m' ⟨v', p', h1, h2, h3⟩ => ⟨v', p', h1, h2, h3.own⟩
end Go.E.YtcionccfgcnhoaaGreatDoor
namespace Go.E.Fr
theorem whole_end : ∀ {l : List (List Int)} {k : Nat}, (whole l k).2 = (cat (l.take (whole l k).1)).length ∧ (whole l k).2 ≤ k ∧ (cat l).take (whole l k).2 = cat (l.take (whole l k).1)
  | [], k => by simp [whole, cat]
  | r :: l, k => by
    have ih := whole_end (l := l) (k := k - (wr r).length)
    unfold whole
    by_cases h : (wr r).length ≤ k
    · rw [if_pos h]
      dsimp only
      obtain ⟨h1, h2, h3⟩ := ih
      have e : ∀ j, cat ((r :: l).take (j + 1)) = wr r ++ cat (l.take j) := fun j => by simp [cat]
      have e0 : cat (r :: l) = wr r ++ cat l := by simp [cat]
      refine ⟨by rw [e, List.length_append, ← h1], by omega, ?_⟩
      rw [e, e0, List.take_append, List.take_of_length_le (by omega), show (wr r).length + (whole l (k - (wr r).length)).2 - (wr r).length = (whole l (k - (wr r).length)).2 by omega, h3]
    · rw [if_neg h]; simp [cat]
theorem whole_ge : ∀ {l : List (List Int)} {k s : Nat}, s ≤ l.length → (cat (l.take s)).length ≤ k → s ≤ (whole l k).1
  | _, _, 0, _, _ => Nat.zero_le _
  | [], k, s + 1, h, _ => by simp at h
  | r :: l, k, s + 1, h, hk => by
    have e : (cat ((r :: l).take (s + 1))).length = (wr r).length + (cat (l.take s)).length := by simp [cat]
    have ih := whole_ge (l := l) (k := k - (wr r).length) (s := s) (by simpa using h) (by omega)
    unfold whole
    rw [if_pos (by omega)]
    simp only; omega
end Go.E.Fr
namespace Go.E.YtcionccfgcnhoaaGreatDoor
open Go.Proofs
set_option maxRecDepth 100000
def toN (l : List Int) : List Nat := l.map Int.toNat
theorem nc_toN {l : List Int} (h : Byt l) : nc (toN l) = l := by
  rw [nc, toN, List.map_map]
  refine (List.map_congr_left fun x hx => ?_).trans (List.map_id l)
  have := h x hx
  simp only [Function.comp, id]; omega
theorem toN_len (l : List Int) : (toN l).length = l.length := by simp [toN]
theorem toN_byt {l : List Int} (h : Byt l) : ∀ x ∈ toN l, x < 256 := fun x hx => by
  obtain ⟨y, hy, rfl⟩ := List.mem_map.1 hx
  have := h y hy
  omega
theorem toN_take (l : List Int) (n : Nat) : toN (l.take n) = (toN l).take n := by simp [toN, List.map_take]
theorem toN_append (l k : List Int) : toN (l ++ k) = toN l ++ toN k := by simp [toN]
theorem byt_take {l : List Int} (h : Byt l) (n : Nat) : Byt (l.take n) := fun x hx => h x (List.mem_of_mem_take hx)
abbrev logO (bf : Nat) (name : ByteArray) (all sure : Nat) : Obj := .cells #[.pointer (some ⟨bf, 0, none⟩), .string name, .int .i64 (all : Int), .int .i64 (sure : Int)] 114
def lgA (name : ByteArray) (pr : Bool) (l : List Nat) (sf : Nat) : List Af := if pr then [⟨name, l, sf⟩] else []
theorem read_any {m : Mem} {v : Value} {l : List Int} (hv : Lb m v l) (hb : Byt l) (hl : l.length ≤ 1000000) : Spec Tryz.prog 52 [.v v] m fun r m' => ∃ v' ps p, r = [.v v', i64 ((Fr.read (l.length + 1) l).2.1 : Nat), i64 (Fr.read (l.length + 1) l).2.2] ∧ Split m' [p, m] ∧ Lists p v' ps ∧ ps.map (·.2) = (Fr.read (l.length + 1) l).1 := by
  rcases Lb.cases hv with ⟨c, rfl, rfl⟩ | ⟨b, o, c, arr, t, fr, rfl, _, hc, _⟩
  · exact read_nil
  · exact read_spec hv.la hb hl hc
theorem place_sync {p : Mem} {bf nb ns : Nat} {q : Int} {A : List Af} {name : ByteArray} {k : Nat} (h : FA p bf q nb ns A) (hk : Sm k A nb ns) : Spec Tryz.prog 56 [.a [.one (.pointer (some ⟨bf, 0, none⟩)), .one (.string name)]] p fun r m' => r = [] ∧ FA m' bf q nb (if (fileA A name).isSome then ns + 1 else ns) (syncA A name) := by
  refine en56 rfl (goY ?_)
  conv => whnf
  refine xcall (sync_A (name := name) h hk) ?_
  rintro _ m1 ⟨rfl, h1⟩
  conv => whnf
  exact ⟨rfl, h1⟩
theorem lg_file (name : ByteArray) (l : List Nat) (sf : Nat) : fileA (lgA name true l sf) name = some ⟨name, l, sf⟩ := by simp [fileA, lgA]
end Go.E.YtcionccfgcnhoaaGreatDoor
