/-
  E13, E14, Tab
-/
import Derived.Test.YtcionccfgcnhoaaGreatDoorStoreRefusesZ3
import Derived.ScopeJumps
import Derived.RangeFuncLeaves
import Derived.RangeFuncCalls
import Derived.Test.YtcionccfgcnhoaaGreatDoorProg
namespace Go.E
def Alike (x y : SV) : Prop := x = y ∨ (x = .c (.v (.bool true)) ∧ y = .tt) ∨ (x = .c (.v (.bool false)) ∧ y = .ff)
def Le (s s1 : St) : Prop := (∀ i, s1.fr i = .any ∨ (Alike (s1.fr i) (s.fr i) ∧ (s.fr i).under s1.L.length)) ∧ (∃ rest, s.L = s1.L ++ rest) ∧ Sub s1.m s.m ∧ s1.x = []
def frOf : List (Nat × SV) → Nat → SV
  | [], _ => .any
  | (j, x) :: r, i => bif Nat.beq i j then x else frOf r i
def underB (n : Nat) : SV → Bool
  | .p h _ => Nat.blt h n
  | .q h _ _ => Nat.blt h n
  | .sl h _ _ _ _ => Nat.blt h n
  | _ => true
theorem underB_spec {n : Nat} {x : SV} (h : underB n x = true) : x.under n := by
  cases x <;> simp only [underB] at h <;> simp only [SV.under] <;> exact blt_lt.1 h
def allUnder (n : Nat) : List (Nat × SV) → Bool
  | [] => true
  | x :: r => underB n x.2 && allUnder n r
def addrK : Option Addr → Option Addr → Prop → Prop
  | some ⟨b, o, none⟩, some ⟨b', o', none⟩, K => b = b' ∧ o = o' ∧ K
  | none, none, K => K
  | x, y, K => x = y ∧ K
def valK (y x : Value) (K : Prop) : Prop :=
  match y with
  | .int k a => match x with
    | .int k' b => bif kEq k k' then a = b ∧ K else False
    | _ => False
  | .bool a => match x with
    | .bool b => a = b ∧ K
    | _ => False
  | .string a => match x with
    | .string b => a = b ∧ K
    | _ => False
  | .pointer a => match x with
    | .pointer b => addrK a b K
    | _ => False
  | .slice a n c => match x with
    | .slice a' n' c' => addrK a a' (n = n' ∧ c = c' ∧ K)
    | _ => False
  | .map a => match x with
    | .map b => a = b ∧ K
    | _ => False
  | y => y = x ∧ K
def segK (y x : Seg) (K : Prop) : Prop :=
  match y with
  | .one y => match x with
    | .one x => valK y x K
    | _ => False
  | .ints k n l => match x with
    | .ints k' n' l' => bif kEq k k' && Nat.beq n n' then l = l' ∧ K else False
    | _ => False
  | .vals n l => match x with
    | .vals n' l' => bif Nat.beq n n' then l = l' ∧ K else False
    | _ => False
def lbK : LB → LB → Prop → Prop
  | [], [], K => K
  | y :: r, x :: r', K => segK y x (lbK r r' K)
  | _, _, _ => False
def slotK (y x : SV) (K : Prop) : Prop :=
  match x with
  | .p h o => match y with
    | .p h' o' => bif Nat.beq h' h && Nat.beq o' o then K else False
    | _ => False
  | .q h o d => match y with
    | .q h' o' d' => bif Nat.beq h' h && Nat.beq o' o then d' = d ∧ K else False
    | _ => False
  | .sl h o d n c => match y with
    | .sl h' o' d' n' c' => bif Nat.beq h' h && Nat.beq o' o then d' = d ∧ n' = n ∧ c' = c ∧ K else False
    | _ => False
  | .c (.a c) => match y with
    | .c (.a d) => lbK d c K
    | _ => False
  | .c (.v v) => match y with
    | .c (.v z) => valK z v K
    | .tt => match v with
      | .bool b => true = b ∧ K
      | _ => False
    | .ff => match v with
      | .bool b => false = b ∧ K
      | _ => False
    | _ => False
  | .tt => match y with
    | .tt => K
    | _ => False
  | .ff => match y with
    | .ff => K
    | _ => False
  | .un => match y with
    | .un => K
    | _ => False
  | .t l => match y with
    | .t l' => l' = l ∧ K
    | _ => False
  | .any => K
def slotsK : List (Nat × SV) → (Nat → SV) → Prop → Prop
  | [], _, K => K
  | (j, x) :: r, fr, K => slotK (fr j) x (slotsK r fr K)
def locsK : Loc → Loc → Prop → Prop
  | _, [], K => K
  | (t, c) :: r, (t', c') :: r', K => bif Nat.beq t t' then lbK c c' (locsK r r' K) else False
  | [], _ :: _, _ => False
def LeK (s : St) (fr : List (Nat × SV)) (L : Loc) (m : Mem) : Prop := bif allUnder L.length fr then slotsK fr s.fr (locsK s.L L (Sub m s.m)) else False
theorem addrK_spec {y x : Option Addr} {K : Prop} (h : addrK y x K) : y = x ∧ K := by
  unfold addrK at h
  split at h
  · obtain ⟨rfl, rfl, h⟩ := h; exact ⟨rfl, h⟩
  · exact ⟨rfl, h⟩
  · exact h
theorem valK_spec {y x : Value} {K : Prop} (h : valK y x K) : y = x ∧ K := by
  unfold valK at h
  split at h
  · rename_i k a
    split at h
    · rename_i k' b
      cases hk : kEq k k' with
      | false => simp [hk] at h
      | true => have := kEq_eq hk; subst this; simp only [hk, cond_true] at h; exact ⟨by rw [h.1], h.2⟩
    · exact h.elim
  · split at h
    · exact ⟨by rw [h.1], h.2⟩
    · exact h.elim
  · split at h
    · exact ⟨by rw [h.1], h.2⟩
    · exact h.elim
  · split at h
    · have := addrK_spec h; exact ⟨by rw [this.1], this.2⟩
    · exact h.elim
  · split at h
    · obtain ⟨h1, h2, h3, h4⟩ := addrK_spec h; exact ⟨by rw [h1, h2, h3], h4⟩
    · exact h.elim
  · split at h
    · exact ⟨by rw [h.1], h.2⟩
    · exact h.elim
  · exact h
theorem segK_spec {y x : Seg} {K : Prop} (h : segK y x K) : y = x ∧ K := by
  unfold segK at h
  split at h
  · split at h
    · have := valK_spec h; exact ⟨by rw [this.1], this.2⟩
    · exact h.elim
  · rename_i k n l
    split at h
    · rename_i k' n' l'
      cases hk : (kEq k k' && Nat.beq n n') with
      | false => simp [hk] at h
      | true =>
        simp only [hk, cond_true] at h
        simp only [Bool.and_eq_true] at hk
        have e1 := kEq_eq hk.1; have e2 := Nat.eq_of_beq_eq_true hk.2
        subst e1; subst e2
        exact ⟨by rw [h.1], h.2⟩
    · exact h.elim
  · rename_i n l
    split at h
    · rename_i n' l'
      cases hk : Nat.beq n n' with
      | false => simp [hk] at h
      | true =>
        simp only [hk, cond_true] at h
        have e2 := Nat.eq_of_beq_eq_true hk
        subst e2
        exact ⟨by rw [h.1], h.2⟩
    · exact h.elim
theorem lbK_spec : ∀ {y x : LB} {K : Prop}, lbK y x K → y = x ∧ K
  | [], [], _, h => ⟨rfl, h⟩
  | y :: r, x :: r', K, h => by
    obtain ⟨h1, h2⟩ := segK_spec h
    obtain ⟨h3, h4⟩ := lbK_spec h2
    exact ⟨by rw [h1, h3], h4⟩
  | [], _ :: _, _, h => h.elim
  | _ :: _, [], _, h => h.elim
theorem slotK_spec {y x : SV} {K : Prop} (h : slotK y x K) : (x = .any ∨ Alike x y) ∧ K := by
  unfold slotK at h
  split at h
  · rename_i hh o
    split at h
    · rename_i h' o'
      cases hk : (Nat.beq h' hh && Nat.beq o' o) with
      | false => simp [hk] at h
      | true =>
        simp only [hk, cond_true] at h
        simp only [Bool.and_eq_true] at hk
        have e1 := Nat.eq_of_beq_eq_true hk.1; have e2 := Nat.eq_of_beq_eq_true hk.2
        subst e1; subst e2
        exact ⟨.inr (.inl rfl), h⟩
    · exact h.elim
  · rename_i hh o d
    split at h
    · rename_i h' o' d'
      cases hk : (Nat.beq h' hh && Nat.beq o' o) with
      | false => simp [hk] at h
      | true =>
        simp only [hk, cond_true] at h
        simp only [Bool.and_eq_true] at hk
        have e1 := Nat.eq_of_beq_eq_true hk.1; have e2 := Nat.eq_of_beq_eq_true hk.2
        subst e1; subst e2
        exact ⟨.inr (.inl (by rw [h.1])), h.2⟩
    · exact h.elim
  · rename_i hh o d n c
    split at h
    · rename_i h' o' d' n' c'
      cases hk : (Nat.beq h' hh && Nat.beq o' o) with
      | false => simp [hk] at h
      | true =>
        simp only [hk, cond_true] at h
        simp only [Bool.and_eq_true] at hk
        have e1 := Nat.eq_of_beq_eq_true hk.1; have e2 := Nat.eq_of_beq_eq_true hk.2
        subst e1; subst e2
        obtain ⟨rfl, rfl, rfl, h⟩ := h
        exact ⟨.inr (.inl rfl), h⟩
    · exact h.elim
  · split at h
    · have := lbK_spec h; exact ⟨.inr (.inl (by rw [this.1])), this.2⟩
    · exact h.elim
  · split at h
    · have := valK_spec h; exact ⟨.inr (.inl (by rw [this.1])), this.2⟩
    · split at h
      · exact ⟨.inr (.inr (.inl ⟨by rw [← h.1], rfl⟩)), h.2⟩
      · exact h.elim
    · split at h
      · exact ⟨.inr (.inr (.inr ⟨by rw [← h.1], rfl⟩)), h.2⟩
      · exact h.elim
    · exact h.elim
  · split at h
    · exact ⟨.inr (.inl rfl), h⟩
    · exact h.elim
  · split at h
    · exact ⟨.inr (.inl rfl), h⟩
    · exact h.elim
  · split at h
    · exact ⟨.inr (.inl rfl), h⟩
    · exact h.elim
  · split at h
    · exact ⟨.inr (.inl (by rw [h.1])), h.2⟩
    · exact h.elim
  · exact ⟨.inl rfl, h⟩
theorem Alike.under {x y : SV} (h : Alike x y) {n : Nat} (hu : x.under n) : y.under n := by
  rcases h with rfl | ⟨rfl, rfl⟩ | ⟨rfl, rfl⟩
  · exact hu
  · trivial
  · trivial
theorem slotsK_spec : ∀ {l : List (Nat × SV)} {fr : Nat → SV} {K : Prop} {n : Nat}, slotsK l fr K → allUnder n l = true → (∀ i, frOf l i = .any ∨ (Alike (frOf l i) (fr i) ∧ (fr i).under n)) ∧ K
  | [], _, _, _, h, _ => ⟨fun _ => .inl rfl, h⟩
  | (j, x) :: r, fr, K, n, h, hu => by
    simp only [allUnder, Bool.and_eq_true] at hu
    obtain ⟨h1, h2⟩ := slotK_spec h
    obtain ⟨h3, h4⟩ := slotsK_spec h2 hu.2
    refine ⟨fun i => ?_, h4⟩
    simp only [frOf]
    cases hb : Nat.beq i j with
    | true =>
      have := Nat.eq_of_beq_eq_true hb; subst this
      rcases h1 with h1 | h1
      · exact .inl h1
      · exact .inr ⟨h1, h1.under (underB_spec hu.1)⟩
    | false => exact h3 i
theorem locsK_spec : ∀ {y x : Loc} {K : Prop}, locsK y x K → (∃ rest, y = x ++ rest) ∧ K
  | y, [], _, h => ⟨⟨y, rfl⟩, by simpa [locsK] using h⟩
  | (t, c) :: r, (t', c') :: r', K, h => by
    simp only [locsK] at h
    cases hb : Nat.beq t t' with
    | false => simp [hb] at h
    | true =>
      simp only [hb, cond_true] at h
      have := Nat.eq_of_beq_eq_true hb; subst this
      obtain ⟨rfl, h2⟩ := lbK_spec h
      obtain ⟨⟨rest, h3⟩, h4⟩ := locsK_spec h2
      exact ⟨⟨rest, by rw [h3]; rfl⟩, h4⟩
  | [], _ :: _, _, h => h.elim
theorem LeK.le {s : St} {fr : List (Nat × SV)} {L : Loc} {m : Mem} (h : LeK s fr L m) : Le s ⟨frOf fr, L, m, []⟩ := by
  unfold LeK at h
  cases hb : allUnder L.length fr with
  | false => simp [hb] at h
  | true =>
    simp only [hb, cond_true] at h
    obtain ⟨h1, h2⟩ := slotsK_spec h hb
    obtain ⟨h3, h4⟩ := locsK_spec h2
    exact ⟨h1, h3, h4, rfl⟩
inductive XLoop (X : (Exit → St → Prop) → St → Prop) (Q : Exit → St → Prop) (s : St) : Prop
  | mk {ι : Type} (μ : ι → Nat) (Inv : ι → Prop) (fr : ι → List (Nat × SV)) (L : ι → Loc) (m : ι → Mem) (i0 : ι) (h0 : Inv i0) (hk : LeK s (fr i0) (L i0) (m i0))
    (step : ∀ i, Inv i → X (fun e s' => match e with
      | .normal => ∃ j, Inv j ∧ μ j < μ i ∧ LeK s' (fr j) (L j) (m j)
      | e => Q e s') ⟨frOf (fr i), L i, m i, []⟩)
def setc (s : St) (c : Operand) (x : SV) : St :=
  match c with
  | .tmp t => ⟨putF s.fr (some t) x, s.L, s.m, s.x⟩
  | _ => s
inductive XAt (X : St → Prop) : St → Prop
  | at {s : St} (h : X s) : XAt X s
  | via {s : St} (fr : List (Nat × SV)) (L : Loc) (m : Mem) (hk : LeK s fr L m) (h : XAt X ⟨frOf fr, L, m, []⟩) : XAt X s
def regX (c : Cfg) (id : Nat) (ops : Array Oper) (draw : Bool) (K : St → Prop) (s : St) : Prop :=
  match draw with
  | false => xops c ops.toList ops.toList K ⟨s.fr, s.L, s.m, []⟩
  | true => bif fresh s ops.toList then xord c ops.toList (c.ord id).ms s (c.ord id).od K ⟨s.fr, s.L, s.m, []⟩ else False
abbrev RF := Operand → Array Tmp → Code → Code → (Exit → St → Prop) → St → Prop
def xwpG (c : Cfg) (sc : Code → (Exit → St → Prop) → St → Prop) (rf : RF) : Code → (Exit → St → Prop) → St → Prop
  | .skip, Q, s => Q .normal s
  | .seq x y, Q, s => xwpG c sc rf x (fun e s' => match e with
    | .normal => xwpG c sc rf y Q s'
    | e => Q e s') s
  | .region id ops draw, Q, s => match c.cut id with
    | false => regX c id ops draw (Q .normal) s
    | true => XAt (regX c id ops draw (Q .normal)) s
  | .cond o x y, Q, s => match ev s o with
    | .tt => xwpG c sc rf x Q s
    | .ff => xwpG c sc rf y Q s
    | .c (.v (.bool b)) => (b = true → xwpG c sc rf x Q (setc s o .tt)) ∧ (b = false → xwpG c sc rf y Q (setc s o .ff))
    | _ => False
  | .block id body, Q, s => xwpG c sc rf body (fun e s' => match e with
    | .exit j => bif Nat.beq j id then Q .normal s' else Q (.exit j) s'
    | e => Q e s') s
  | .exit id, Q, s => Q (.exit id) s
  | .ret, Q, s => Q .ret s
  | .label _, Q, s => Q .normal s
  | .goto l, Q, s => Q (.goto l) s
  | .loop body, Q, s => XLoop (xwpG c sc rf body) Q s
  | .scope body, Q, s => sc body Q s
  | .rangeFunc g ps x y, Q, s => rf g ps x y Q s
  | _, _, _ => False
def QJ (l : Nat) (J : St → Prop) (Q : Exit → St → Prop) : Exit → St → Prop
  | .goto l', s => bif Nat.beq l' l then J s else False
  | e, s => Q e s
inductive XScope (X : Code → (Exit → St → Prop) → St → Prop) (b : Code) (Q : Exit → St → Prop) (s : St) : Prop
  | mk (l : Nat) (rest : Code) (hf : findLabel b l = some rest) {ι : Type} (μ : ι → Nat) (Inv : ι → Prop) (fr : ι → List (Nat × SV)) (L : ι → Loc) (m : ι → Mem)
    (first : X b (QJ l (fun s' => ∃ j, Inv j ∧ LeK s' (fr j) (L j) (m j)) Q) s)
    (pass : ∀ i, Inv i → X rest (QJ l (fun s' => ∃ j, Inv j ∧ μ j < μ i ∧ LeK s' (fr j) (L j) (m j)) Q) ⟨frOf (fr i), L i, m i, []⟩)
def xwp0 (c : Cfg) : Code → (Exit → St → Prop) → St → Prop := xwpG c (fun _ _ _ => False) (fun _ _ _ _ _ _ => False)
def putAll : (Nat → SV) → List Tmp → List CV → (Nat → SV)
  | fr, p :: ps, x :: xs => putAll (putF fr (some p) (.c x)) ps xs
  | fr, _, _ => fr
def asgQ (X : Code → (Exit → St → Prop) → St → Prop) (body : Code) (J : Mem → Prop) : Exit → St → Prop
  | .normal, s => match s.L with
    | [] => X body (fun e s => match e with
      | .normal => J s.m
      | _ => False) ⟨s.fr, [], s.m, []⟩
    | _ :: _ => False
  | _, _ => False
inductive XRange (P : Program) (X : Code → (Exit → St → Prop) → St → Prop) (g : Operand) (ps : Array Tmp) (asg body : Code) (Q : Exit → St → Prop) (s : St) : Prop
  | mk (gf : FuncId) (captured : Array Value) (hg : ev s g = .c (.v (.func (.func gf) #[] captured))) (hcap : allOne captured.toList = true) (hL : s.L = [])
    {ι : Type} (Inv : ι → Mem → Prop) (i0 : ι) (h0 : Inv i0 s.m) (El : ι → List CV → ι → Prop) (hEl : ∀ i x j, El i x j → x.length = ps.size)
    (round : ∀ i x j m, Inv i m → El i x j → X asg (asgQ X body (Inv j)) ⟨putAll s.fr ps.toList x, [], m, []⟩)
    (Fin : Mem → Prop)
    (iter : ∀ (l : Nat) (o : Obj), s.m l = none → (∀ i x j m, Inv i m → El i x j → m l = none → YSpec P l x (m.set l o) fun r m' => r = [.v (.bool true)] ∧ ∃ m1, Inv j m1 ∧ m1 l = none ∧ m' = m1.set l o) →
      Spec P gf (.v (.func (.yield l) #[] #[]) :: captured.toList.map CV.v) (s.m.set l o) fun r m' => ∃ m1, Fin m1 ∧ m1 l = none ∧ m' = m1.set l o)
    (rest : ∀ m1, Fin m1 → Q .normal ⟨s.fr, [], m1, []⟩)
def xwp (c : Cfg) : Code → (Exit → St → Prop) → St → Prop := xwpG c (XScope (xwp0 c)) (XRange c.P (xwp0 c))
theorem fresh_x {s : St} {x : List Nat} : ∀ {l : List Oper}, fresh ⟨s.fr, s.L, s.m, x⟩ l = fresh s l
  | [] => rfl
  | o :: l => by simp only [fresh, fresh_x (l := l)]
theorem ldOk_x {s : St} {x : List Nat} {ms : List Nat} {i : Nat} {y : SV} : ∀ {l : List (Nat × Ks)}, ldOk ⟨s.fr, s.L, s.m, x⟩ ms i y l = ldOk s ms i y l
  | [] => rfl
  | (_, .but _) :: l => by simp only [ldOk, ldOk_x (l := l)]
  | (_, .all) :: l => by simp only [ldOk, ldOk_x (l := l)]
  | (_, .none) :: l => by simp only [ldOk, ldOk_x (l := l)]
  | (_, .new) :: l => by simp only [ldOk, ldOk_x (l := l)]
theorem xord_x {c : Cfg} {ops : List Oper} {ms : List Nat} {s0 : St} {x : List Nat} : ∀ {t : OT} {K : St → Prop} {s : St}, xord c ops ms ⟨s0.fr, s0.L, s0.m, x⟩ t K s = xord c ops ms s0 t K s
  | .nil, _, _ => rfl
  | .or a b, K, s => by simp only [xord, xord_x (t := a), xord_x (t := b)]
  | .op i k r, K, s => by
    have e1 : kpOf ⟨s0.fr, s0.L, s0.m, x⟩ k = kpOf s0 k := by cases k <;> rfl
    have e2 : ∀ o, loadOk c.T ⟨s0.fr, s0.L, s0.m, x⟩ ms i o s r.els = loadOk c.T s0 ms i o s r.els := by intro o; simp only [loadOk, ldOk_x]
    have e3 : xord c ops ms ⟨s0.fr, s0.L, s0.m, x⟩ r K = xord c ops ms s0 r K := funext fun s => xord_x (t := r)
    simp only [xord, e1, e2, e3]
def dstB (n : Nat) : Option Nat → Bool
  | some d => Nat.blt d n
  | none => true
def codeOk (c : Cfg) (n : Nat) : Code → Bool
  | .seq x y => codeOk c n x && codeOk c n y
  | .region id ops draw => (ops.toList.all (fun o => dstB n o.dst) && ops.toList.all (fun o => notDefer o.op)) && (!draw || ordOk c.T ops (c.ord id))
  | .cond _ x y => codeOk c n x && codeOk c n y
  | .block _ b => codeOk c n b
  | .loop b => codeOk c n b
  | .scope b => codeOk c n b
  | .rangeFunc _ ps x y => codeOk c n x && codeOk c n y && ps.toList.all (fun p => Nat.blt p n)
  | _ => true
section
variable {c : Cfg} {nt : Nat} {D : List Deferred} {m0 : Mem} {W0 : World} {ρ : List Nat} {s : St} {a : Act} {W : World}
theorem conc_take {x : SV} {k : Nat} (h : x.under k) : conc (ρ.take k) x = conc ρ x := by
  have hg : ∀ i, i < k → (ρ.take k).getD i 0 = ρ.getD i 0 := fun i hi => by
    simp only [List.getD_eq_getElem?_getD, List.getElem?_take, hi, if_true]
  cases x <;> simp only [SV.under] at h <;> simp only [conc] <;> try rw [hg _ h]
theorem Rel.le (hr : Rel nt D m0 W0 ρ s a W) {s1 : St} (h : Le s s1) : Rel nt D m0 W0 (ρ.take s1.L.length) s1 a W := by
  obtain ⟨h1, ⟨rest, h2⟩, h3, h4⟩ := h
  have hlen : s1.L.length ≤ ρ.length := by rw [hr.len, h2]; simp
  have htl : (ρ.take s1.L.length).length = s1.L.length := by rw [List.length_take]; omega
  refine ⟨hr.defers, hr.size, fun i => ?_, htl, ?_, ?_, hr.after.forget h3, by rw [h4]; simp⟩
  · rcases h1 i with h | ⟨h, hu⟩
    · exact .inl h
    · rcases hr.slots i with g | ⟨g1, g2, g3⟩
      · rcases h with h | ⟨_, h⟩ | ⟨_, h⟩
        · exact .inl (h.trans g)
        · rw [g] at h; cases h
        · rw [g] at h; cases h
      · refine .inr ?_
        rcases h with h | ⟨h, h'⟩ | ⟨h, h'⟩
        · rw [h, conc_take hu, htl]
          exact ⟨g1, g2, hu⟩
        · rw [h, g1, h']; exact ⟨rfl, rfl, trivial⟩
        · rw [h, g1, h']; exact ⟨rfl, rfl, trivial⟩
  · intro i t cc hi
    have hlt : i < s1.L.length := (List.getElem?_eq_some_iff.1 hi).1
    have hg : (ρ.take s1.L.length).getD i 0 = ρ.getD i 0 := by simp only [List.getD_eq_getElem?_getD, List.getElem?_take, hlt, if_true]
    rw [hg]
    obtain ⟨k1, k2, k3, k4⟩ := hr.locs i t cc (by rw [h2, List.getElem?_append_left hlt]; exact hi)
    refine ⟨k1, k2, ?_, k4⟩
    cases hx : s1.m (ρ.getD i 0) with
    | none => rfl
    | some o => have := h3 _ _ hx; rw [k3] at this; cases this
  · exact hr.nodup.sublist (List.take_sublist _ _)
theorem XAt.use {X : St → Prop} {s : St} (h : XAt X s) : ∀ {ρ : List Nat}, Rel nt D m0 W0 ρ s a W → ∃ s' ρ', X s' ∧ Rel nt D m0 W0 ρ' s' a W := by
  induction h with
  | «at» h => exact fun hr => ⟨_, _, h, hr⟩
  | via fr L m hk _ ih => exact fun hr => ih (hr.le hk.le)
theorem After.putOut {m : Mem} (h : After m0 W0 m W) {b : Nat} (hm : m b = none) (hb : W0.heap.size ≤ b) (o : Obj) : After m0 W0 m (W.putObj b o) := by
  refine ⟨fun x u hx => ?_, by simp; exact h.size, h.tape, h.os, h.output, fun x hx hn => ?_, h.drawn⟩
  · have e : x ≠ b := fun e => by subst e; rw [hm] at hx; cases hx
    rw [World.putObj_heap_other e]; exact h.over x u hx
  · have e : x ≠ b := by omega
    rw [World.putObj_heap_other e]; exact h.frame x hx hn
theorem Rel.putOut (hr : Rel nt D m0 W0 ρ s a W) {b : Nat} (hm : s.m b = none) (hb : W0.heap.size ≤ b) (hρ : b ∉ ρ) (o : Obj) : Rel nt D m0 W0 ρ s a (W.putObj b o) := by
  refine ⟨hr.defers, hr.size, hr.slots, hr.len, fun h t cc hh => ?_, hr.nodup, hr.after.putOut hm hb o, hr.seen⟩
  obtain ⟨k1, k2, k3, k4⟩ := hr.locs h t cc hh
  have hlt : h < ρ.length := by rw [hr.len]; exact (List.getElem?_eq_some_iff.1 hh).1
  have hne : ρ.getD h 0 ≠ b := fun e => hρ (e ▸ getD_mem hlt)
  exact ⟨by rw [World.putObj_heap_other hne]; exact k1, k2, k3, k4⟩
theorem Rel.base {m1 : Mem} {W1 : World} (hA : After m0 W0 m1 W1) (hr : Rel nt D m1 W1 ρ s a W) : Rel nt D m0 W0 ρ s a W :=
  ⟨hr.defers, hr.size, hr.slots, hr.len, fun h t cc hh => by
    obtain ⟨k1, k2, k3, k4⟩ := hr.locs h t cc hh
    exact ⟨k1, k2, k3, Nat.le_trans hA.size k4⟩, hr.nodup, hA.trans hr.after, hr.seen⟩
theorem leaves_of {P : Program} {fn : Func} {tmps : Array Value} {R : Ending → World → Prop} {Good : World → Prop} {Ok : Nat → Prop} (hput : ∀ w r, Ok r → Good w → Good (w.putObj r (.deferred none))) (hend : ∀ w, Good w → ∃ v, (results fn tmps).run P w = .ok v w ∧ R (.returned v) w) :
    ∀ (D : List Deferred) (w : World), (∀ d ∈ D, ∃ r, d = { target := .collected r, args := #[] } ∧ w.heap[r]? = some (.deferred (some [])) ∧ Ok r) → D.Pairwise (· ≠ ·) → Good w → LeavesInM Fence.wide 0 P fn tmps R D .returning w
  | [], w, _, _, hg => hend w hg
  | d :: D, w, h, hp, hg => by
    obtain ⟨r, rfl, hr, hok⟩ := h d (by simp)
    rw [List.pairwise_cons] at hp
    refine ⟨by simp, .inl ⟨r, _, rfl, run_takeDeferred hr, leaves_of hput hend D _ (fun d' hd' => ?_) hp.2 (hput w r hok hg)⟩⟩
    obtain ⟨r', rfl, hr', hok'⟩ := h d' (by simp [hd'])
    have hne : r' ≠ r := fun e => hp.1 _ hd' (by rw [e])
    exact ⟨r', rfl, by rw [World.putObj_heap_other hne]; exact hr', hok'⟩
structure Marks (m1 : Mem) (W0 W1 : World) (D : List Deferred) : Prop where
  each : ∀ d ∈ D, ∃ r, d = { target := .collected r, args := #[] } ∧ W1.heap[r]? = some (.deferred (some [])) ∧ m1 r = none ∧ W0.heap.size ≤ r
  apart : D.Pairwise (· ≠ ·)
theorem Marks.nil (m1 : Mem) (W0 W1 : World) : Marks m1 W0 W1 [] := ⟨by simp, List.Pairwise.nil⟩
abbrev Wrap := List Deferred → Mem → World → Prop
def RelM (nt : Nat) (Wr : Wrap) (ρ : List Nat) (s : St) (a : Act) (W : World) : Prop :=
  ∃ D m1 W1, Wr D m1 W1 ∧ Rel nt D m1 W1 ρ s a W
def Base (m0 : Mem) (W0 : World) : Wrap := fun D m1 W1 => After m0 W0 m1 W1 ∧ Marks m1 W0 W1 D
def Here (D : List Deferred) (m0 : Mem) (W0 : World) : Wrap := fun D' m1 W1 => D' = D ∧ m1 = m0 ∧ W1 = W0
section
variable {Wr : Wrap}
theorem RelM.le (h : RelM nt Wr ρ s a W) {s1 : St} (k : Le s s1) : RelM nt Wr (ρ.take s1.L.length) s1 a W := by
  obtain ⟨D, m1, W1, hA, hr⟩ := h
  exact ⟨D, m1, W1, hA, hr.le k⟩
def QPost (nt : Nat) (Wr : Wrap) (Q : Exit → St → Prop) : Exit → Act → World → Prop := fun e a W => (∀ ch, e ≠ .panic ch) ∧ ∃ s ρ, Q e s ∧ RelM nt Wr ρ s a W
theorem Rel.setc (hr : Rel nt D m0 W0 ρ s a W) {o : Operand} {b : Bool} (h : ev s o = .c (.v (.bool b))) : Rel nt D m0 W0 ρ (setc s o (if b then .tt else .ff)) a W := by
  cases o with
  | tmp t => exact hr.decide h
  | _ => exact hr
theorem wpIn_loop_n {F : Fence} {n0 : Nat} {P : Program} {Q : Exit → Act → World → Prop} {c : Code} (I : Nat → Act → World → Prop) {n : Nat} (h0 : I n a W)
    (round : ∀ n a W, I n a W → c.wpIn F n0 P (Exit.then (fun a' W' => ∃ k, k < n ∧ I k a' W') Q) a W) : (Code.loop c).wpIn F n0 P Q a W := by
  intro b k cs hro hb hr
  have key : ∀ n a w, I n a w → ∃ e a' w', Q e a' w' ∧ ArrivesIn (Machine.fenced P F) P (lone (b.atR a (.code c :: .inLoop c :: k)) cs w) b k cs e a' w' := by
    intro n
    induction n using Nat.strongRecOn with
    | _ n ih =>
      intro a w hI
      obtain ⟨e, a₁, w₁, hq, harr⟩ := round n a w hI b (.inLoop c :: k) cs hro hb hr
      cases e with
      | normal =>
        obtain ⟨n', hlt, hI₁⟩ := hq
        obtain ⟨e₂, a₂, w₂, hq₂, harr₂⟩ := ih n' hlt a₁ w₁ hI₁
        exact ⟨e₂, a₂, w₂, hq₂, .of_steps (StepsIn.trans harr (.one (fenced_calm hb hr rfl) stepR_inLoop)) harr₂⟩
      | exit id => exact ⟨_, a₁, w₁, hq, .pass (x := .inLoop c) rfl (fun _ _ => .inl (by simp)) harr⟩
      | goto l => exact ⟨_, a₁, w₁, hq, .pass (x := .inLoop c) rfl (fun _ _ => .inl (by simp)) harr⟩
      | ret => exact ⟨_, a₁, w₁, hq, .pass (x := .inLoop c) rfl (fun _ _ => .inl (by simp)) harr⟩
      | panic ch => exact ⟨_, a₁, w₁, hq, .pass (x := .inLoop c) rfl (fun _ _ => .inl (by simp)) harr⟩
      | outgrown => exact ⟨_, a₁, w₁, hq, .pass (x := .inLoop c) rfl (fun _ _ => .inl (by simp)) harr⟩
  obtain ⟨e, a', w', hq, harr⟩ := key n a W h0
  exact ⟨e, a', w', hq, .of_steps (.one (fenced_calm hb hr rfl) stepR_loop) harr⟩
theorem dst_of {n : Nat} {ops : Array Oper} (h : ops.toList.all (fun o => dstB n o.dst) = true) : ∀ o ∈ ops.toList, dstIn o.dst n := by
  intro o ho i hi
  have := List.all_eq_true.1 h o ho
  rw [hi] at this
  exact blt_lt.1 this
theorem xwpG_spec {F : Fence} (hF : FOk F) (hT : TabOk c.P c.T) (hm : c.P.follows .mixedOrders = true) {sc : Code → (Exit → St → Prop) → St → Prop} {rf : RF}
    (hsc : ∀ b, codeOk c nt b = true → ∀ (Q : Exit → St → Prop) (s : St) (ρ : List Nat) (a : Act) (W : World), sc b Q s → RelM nt Wr ρ s a W → (Code.scope b).wpIn F 0 c.P (QPost nt Wr Q) a W)
    (hrf : ∀ g ps x y, codeOk c nt (.rangeFunc g ps x y) = true → ∀ (Q : Exit → St → Prop) (s : St) (ρ : List Nat) (a : Act) (W : World), rf g ps x y Q s → RelM nt Wr ρ s a W → (Code.rangeFunc g ps x y).wpIn F 0 c.P (QPost nt Wr Q) a W) :
    ∀ (code : Code), codeOk c nt code = true → ∀ (Q : Exit → St → Prop) (s : St) (ρ : List Nat) (a : Act) (W : World), xwpG c sc rf code Q s → RelM nt Wr ρ s a W → code.wpIn F 0 c.P (QPost nt Wr Q) a W := by
  intro code
  induction code with
  | skip => intro _ Q s ρ a W h hr; exact wpIn_skip ⟨by simp, s, ρ, h, hr⟩
  | label l => intro _ Q s ρ a W h hr; exact wpIn_label ⟨by simp, s, ρ, h, hr⟩
  | exit id => intro _ Q s ρ a W h hr; exact wpIn_exit ⟨by simp, s, ρ, h, hr⟩
  | goto l => intro _ Q s ρ a W h hr; exact wpIn_goto ⟨by simp, s, ρ, h, hr⟩
  | ret => intro _ Q s ρ a W h hr; exact wpIn_ret ⟨by simp, s, ρ, h, hr⟩
  | refuse why => intro _ Q s ρ a W h hr; exact h.elim
  | rangeFunc f ps x y _ _ => intro hok Q s ρ a W h hr; exact hrf f ps x y hok Q s ρ a W h hr
  | scope b _ => intro hok Q s ρ a W h hr; exact hsc b hok Q s ρ a W h hr
  | seq x y ihx ihy =>
    intro hok Q s ρ a W h hr
    simp only [codeOk, Bool.and_eq_true] at hok
    refine wpIn_seq (wpIn_mono (ihx hok.1 _ s ρ a W h hr) fun e a' W' hq => ?_)
    obtain ⟨hnp, s', ρ', hk, hr'⟩ := hq
    cases e with
    | normal => exact ihy hok.2 Q s' ρ' a' W' hk hr'
    | _ => exact ⟨hnp, s', ρ', hk, hr'⟩
  | block id b ih =>
    intro hok Q s ρ a W h hr
    refine wpIn_block (wpIn_mono (ih hok _ s ρ a W h hr) fun e a' W' hq => ?_)
    obtain ⟨hnp, s', ρ', hk, hr'⟩ := hq
    cases e with
    | exit j =>
      simp only [Exit.inBlock]
      cases hb : Nat.beq j id with
      | true =>
        rw [if_pos (Nat.eq_of_beq_eq_true hb)]
        simp only [hb, cond_true] at hk
        exact ⟨by simp, s', ρ', hk, hr'⟩
      | false =>
        have hne : j ≠ id := fun e => by subst e; rw [Nat.beq_refl] at hb; cases hb
        rw [if_neg hne]
        simp only [hb, cond_false] at hk
        exact ⟨by simp, s', ρ', hk, hr'⟩
    | _ => exact ⟨hnp, s', ρ', hk, hr'⟩
  | cond o x y ihx ihy =>
    intro hok Q s ρ a W h hM
    simp only [codeOk, Bool.and_eq_true] at hok
    simp only [xwpG] at h
    obtain ⟨D, m1, W1, hA, hr⟩ := hM
    have hf := hr.fits o
    split at h
    · rename_i e
      rw [e] at hf
      exact wpIn_cond_true (hf.eq (by simp)) (ihx hok.1 Q s ρ a W h ⟨D, m1, W1, hA, hr⟩)
    · rename_i e
      rw [e] at hf
      exact wpIn_cond_false (hf.eq (by simp)) (ihy hok.2 Q s ρ a W h ⟨D, m1, W1, hA, hr⟩)
    · rename_i b e
      rw [e] at hf
      have hs := hr.setc e
      cases b with
      | true => exact wpIn_cond_true (hf.eq (by simp)) (ihx hok.1 Q _ ρ a W (h.1 rfl) ⟨D, m1, W1, hA, hs⟩)
      | false => exact wpIn_cond_false (hf.eq (by simp)) (ihy hok.2 Q _ ρ a W (h.2 rfl) ⟨D, m1, W1, hA, hs⟩)
    · exact h.elim
  | region id ops draw =>
    intro hok Q s ρ a W h hM
    simp only [codeOk, Bool.and_eq_true] at hok
    obtain ⟨D, m1, W1, hA, hr⟩ := hM
    have hnd : ∀ o ∈ ops.toList, notDefer o.op = true := fun o ho => List.all_eq_true.1 hok.1.2 o ho
    have post : ∀ e a' W', QN nt D m1 W1 (Q .normal) e a' W' → QPost nt Wr Q e a' W' := by
      intro e a' W' hq
      cases e with
      | normal =>
        obtain ⟨s', ρ', hk, hr'⟩ := hq
        exact ⟨by simp, s', ρ', hk, D, m1, W1, hA, hr'⟩
      | _ => exact hq.elim
    have key : ∀ (s : St) (ρ : List Nat), regX c id ops draw (Q .normal) s → Rel nt D m1 W1 ρ s a W → (Code.region id ops draw).wpIn F 0 c.P (QPost nt Wr Q) a W := by
      intro s ρ h hr
      unfold regX at h
      cases draw with
      | false => exact wpIn_mono (region_plain hT hF (dst_of hok.1.1) hnd hr.clear h) post
      | true =>
        simp only at h
        cases hfr : fresh s ops.toList with
        | false => simp [hfr] at h
        | true =>
          simp only [hfr, cond_true] at h
          exact wpIn_mono (region_drawn hF (s := ⟨s.fr, s.L, s.m, []⟩) hT hm (dst_of hok.1.1) hnd (c.ord id) (by simpa using hok.2) (fresh_x ▸ hfr) hr.clear (xord_x ▸ h)) post
    simp only [xwpG] at h
    cases hc : c.cut id with
    | false => simp only [hc] at h; exact key s ρ h hr
    | true =>
      simp only [hc] at h
      obtain ⟨s', ρ', h', hr'⟩ := h.use hr
      exact key s' ρ' h' hr'
  | loop b ih =>
    intro hok Q s ρ a W h hr
    obtain ⟨μ, Inv, fr, L, m, i0, h0, hle, hround⟩ := h
    refine wpIn_loop_n (fun n a W => ∃ i ρ, Inv i ∧ μ i = n ∧ RelM nt Wr ρ ⟨frOf (fr i), L i, m i, []⟩ a W) (n := μ i0) ⟨i0, _, h0, rfl, hr.le hle.le⟩ ?_
    rintro n a W ⟨i, ρ, hi, rfl, hr⟩
    refine wpIn_mono (ih hok _ _ ρ a W (hround i hi) hr) fun e a' W' hq => ?_
    obtain ⟨hnp, s', ρ', hk, hr'⟩ := hq
    cases e with
    | normal =>
      obtain ⟨j, hj, hlt, hle⟩ := hk
      exact ⟨μ j, hlt, j, _, hj, rfl, hr'.le hle.le⟩
    | _ => exact ⟨hnp, s', ρ', hk, hr'⟩
theorem codeOk_label {l : Nat} : ∀ {b rest : Code}, codeOk c nt b = true → findLabel b l = some rest → codeOk c nt rest = true := by
  intro b
  induction b with
  | seq x y ihx ihy =>
    intro rest h hf
    simp only [codeOk, Bool.and_eq_true] at h
    simp only [findLabel] at hf
    cases hx : findLabel x l with
    | some r => rw [hx] at hf; cases hf; simp only [codeOk, Bool.and_eq_true]; exact ⟨ihx h.1 hx, h.2⟩
    | none => rw [hx] at hf; exact ihy h.2 hf
  | label l' => intro rest h hf; simp only [findLabel] at hf; split at hf <;> cases hf; rfl
  | _ => intro rest h hf; simp [findLabel] at hf
theorem wp_scope_n {P : Program} {Q : Exit → Act → World → Prop} {b rest : Code} (l : Nat) (J : Nat → Act → World → Prop) (hf : findLabel b l = some rest)
    (first : b.wp P (Exit.jump l (fun a' W' => ∃ k, J k a' W') Q) a W)
    (pass : ∀ n a W, J n a W → rest.wp P (Exit.jump l (fun a' W' => ∃ k, k < n ∧ J k a' W') Q) a W) : (Code.scope b).wp P Q a W := by
  intro f k cs
  have hg : gotoIn l (.inScope b :: k) = some (.code rest :: .inScope b :: k) := by simp [gotoIn, hf]
  have key : ∀ n a W, J n a W → ∃ e a' W', Q e a' W' ∧ Arrives P (lone (f.at a (.code rest :: .inScope b :: k)) cs W) f k cs e a' W' := by
    intro n
    induction n using Nat.strongRecOn with
    | _ n ih =>
      intro a W hJ
      obtain ⟨e, a₁, w₁, hq, harr⟩ := pass n a W hJ f (.inScope b :: k) cs
      cases e with
      | normal => exact ⟨.normal, a₁, w₁, hq, Steps.trans harr (.one step_inScope)⟩
      | exit id => exact ⟨.exit id, a₁, w₁, hq, fun k' hk => harr k' (by simp [exitTo, hk])⟩
      | goto l' =>
        obtain ⟨rfl, n', hlt, hJ'⟩ := hq
        obtain ⟨e₂, a₂, w₂, hq₂, harr₂⟩ := ih n' hlt a₁ w₁ hJ'
        exact ⟨e₂, a₂, w₂, hq₂, .of_steps (harr _ hg) harr₂⟩
      | ret => exact ⟨_, a₁, w₁, hq, harr⟩
      | panic ch => exact ⟨_, a₁, w₁, hq, harr⟩
      | outgrown => exact ⟨_, a₁, w₁, hq, harr⟩
  obtain ⟨e, a₁, w₁, hq, harr⟩ := first f (.inScope b :: k) cs
  cases e with
  | normal => exact ⟨.normal, a₁, w₁, hq, .head step_scope (Steps.trans harr (.one step_inScope))⟩
  | exit id => exact ⟨.exit id, a₁, w₁, hq, fun k' hk => .head step_scope (harr k' (by simp [exitTo, hk]))⟩
  | goto l' =>
    obtain ⟨rfl, n', hJ'⟩ := hq
    obtain ⟨e₂, a₂, w₂, hq₂, harr₂⟩ := key n' a₁ w₁ hJ'
    exact ⟨e₂, a₂, w₂, hq₂, .of_steps (.head step_scope (harr _ hg)) harr₂⟩
  | ret => exact ⟨_, a₁, w₁, hq, .of_steps (.one step_scope) harr⟩
  | panic ch => exact ⟨_, a₁, w₁, hq, .of_steps (.one step_scope) harr⟩
  | outgrown => exact ⟨_, a₁, w₁, hq, .of_steps (.one step_scope) harr⟩
theorem xwp0_spec {F : Fence} (hF : FOk F) (hT : TabOk c.P c.T) (hm : c.P.follows .mixedOrders = true) : ∀ (code : Code), codeOk c nt code = true → ∀ (Q : Exit → St → Prop) (s : St) (ρ : List Nat) (a : Act) (W : World), xwp0 c code Q s → RelM nt Wr ρ s a W → code.wpIn F 0 c.P (QPost nt Wr Q) a W :=
  xwpG_spec hF hT hm (fun _ _ _ _ _ _ _ h _ => h.elim) (fun _ _ _ _ _ _ _ _ _ _ h _ => h.elim)
theorem QPost.jump {l : Nat} {J : St → Prop} {Q : Exit → St → Prop} {J' : Act → World → Prop} (hJ : ∀ s ρ a W, J s → RelM nt Wr ρ s a W → J' a W) : ∀ e a W, QPost nt Wr (QJ l J Q) e a W → Exit.jump l J' (QPost nt Wr Q) e a W := by
  rintro e a W ⟨hnp, s, ρ, hk, hr⟩
  cases e with
  | goto l' =>
    simp only [QJ] at hk
    cases hb : Nat.beq l' l with
    | true => simp only [hb, cond_true] at hk; exact ⟨Nat.eq_of_beq_eq_true hb, hJ s ρ a W hk hr⟩
    | false => simp [hb] at hk
  | _ => exact ⟨hnp, s, ρ, hk, hr⟩
theorem scope_spec (hT : TabOk c.P c.T) (hm : c.P.follows .mixedOrders = true) : ∀ b, codeOk c nt b = true → ∀ (Q : Exit → St → Prop) (s : St) (ρ : List Nat) (a : Act) (W : World), XScope (xwp0 c) b Q s → RelM nt Wr ρ s a W → (Code.scope b).wpIn Fence.wide 0 c.P (QPost nt Wr Q) a W := by
  intro b hok Q s ρ a W h hr
  obtain ⟨l, rest, hf, μ, Inv, fr, L, m, first, pass⟩ := h
  refine wpIn_wide.2 (wp_scope_n l (fun n a W => ∃ i ρ, Inv i ∧ μ i = n ∧ RelM nt Wr ρ ⟨frOf (fr i), L i, m i, []⟩ a W) hf ?_ ?_)
  · refine wp_mono (wpIn_wide.1 (xwp0_spec (.inl rfl) hT hm b hok _ s ρ a W first hr)) (QPost.jump ?_)
    rintro s ρ a W ⟨j, hj, hk⟩ hr
    exact ⟨μ j, j, _, hj, rfl, hr.le hk.le⟩
  · rintro n a W ⟨i, ρ, hi, rfl, hr⟩
    refine wp_mono (wpIn_wide.1 (xwp0_spec (.inl rfl) hT hm rest (codeOk_label hok hf) _ _ ρ a W (pass i hi) hr)) (QPost.jump ?_)
    rintro s ρ a W ⟨j, hj, hlt, hk⟩ hr
    exact ⟨μ j, hlt, j, _, hj, rfl, hr.le hk.le⟩
end
theorem Rel.round {ps : Array Tmp} {x : List CV} (hr : Rel nt D m0 W0 [] s a W) (hps : ∀ p ∈ ps.toList, p < nt) (hx : ∀ v ∈ x, v.ok) {m : Mem} {w : World} (hw : Over m w) :
    Rel nt [] m w [] ⟨putAll s.fr ps.toList x, [], m, []⟩ { tmps := (ps.zip (x.map CV.val).toArray).foldl (fun t (p, v) => t.setIfInBounds p v) a.tmps, defers := [] } w := by
  have key : ∀ (l : List Tmp) (x : List CV) (fr : Nat → SV) (t : Array Value), (∀ p ∈ l, p < nt) → (∀ v ∈ x, v.ok) → t.size = nt → (∀ i, fr i = .any ∨ (t[i]? = some (conc [] (fr i)) ∧ (fr i).ok ∧ (fr i).under 0)) →
      ((l.zip (x.map CV.val)).foldl (fun t (q : Tmp × Value) => t.setIfInBounds q.1 q.2) t).size = nt ∧ ∀ i, putAll fr l x i = .any ∨ (((l.zip (x.map CV.val)).foldl (fun t (q : Tmp × Value) => t.setIfInBounds q.1 q.2) t)[i]? = some (conc [] (putAll fr l x i)) ∧ (putAll fr l x i).ok ∧ (putAll fr l x i).under 0) := by
    intro l
    induction l with
    | nil => intro x fr t _ _ ht h; cases x <;> exact ⟨ht, h⟩
    | cons p l ih =>
      intro x fr t hp hx ht h
      cases x with
      | nil => exact ⟨ht, h⟩
      | cons v x =>
        refine ih x (putF fr (some p) (.c v)) (t.setIfInBounds p v.val) (fun q hq => hp q (by simp [hq])) (fun q hq => hx q (by simp [hq])) (by simpa using ht) fun i => ?_
        rw [putF_at]
        by_cases e : some p = some i
        · simp only [Option.some.injEq] at e
          subst e
          rw [if_pos rfl]
          have hpn : p < t.size := ht ▸ hp p (by simp)
          exact .inr ⟨by rw [Array.getElem?_setIfInBounds_self_of_lt hpn]; rfl, hx v (by simp), trivial⟩
        · rw [if_neg e]
          simp only [Option.some.injEq] at e
          rcases h i with h' | ⟨h1, h2⟩
          · exact .inl h'
          · exact .inr ⟨by rw [Array.getElem?_setIfInBounds_ne e]; exact h1, h2⟩
  have hz : (ps.zip (x.map CV.val).toArray).foldl (fun t (p, v) => t.setIfInBounds p v) a.tmps = (ps.toList.zip (x.map CV.val)).foldl (fun t (q : Tmp × Value) => t.setIfInBounds q.1 q.2) a.tmps := by
    rw [← Array.foldl_toList]; simp
  obtain ⟨k1, k2⟩ := key ps.toList x s.fr a.tmps hps hx hr.size (fun i => by
    rcases hr.slots i with h | ⟨h1, h2, h3⟩
    · exact .inl h
    · exact .inr ⟨h1, h2, h3⟩)
  rw [← hz] at k1 k2
  exact ⟨rfl, k1, k2, rfl, by simp, by simp, After.refl hw, by simp⟩
theorem range_spec (hT : TabOk c.P c.T) (hm : c.P.follows .mixedOrders = true) : ∀ g ps x y, codeOk c nt (.rangeFunc g ps x y) = true → ∀ (Q : Exit → St → Prop) (s : St) (ρ : List Nat) (a : Act) (W : World), XRange c.P (xwp0 c) g ps x y Q s → RelM nt (Base m0 W0) ρ s a W → (Code.rangeFunc g ps x y).wpIn Fence.wide 0 c.P (QPost nt (Base m0 W0) Q) a W := by
  intro g ps asg body hok Q s ρ a W h hM
  obtain ⟨gf, captured, hg, hcap, hL, Inv, i0, h0, El, hEl, round, Fin, iter, rest⟩ := h
  obtain ⟨D, m1, W1, ⟨hA, hMk⟩, hr⟩ := hM
  simp only [codeOk, Bool.and_eq_true] at hok
  obtain ⟨⟨hok1, hok2⟩, hok3⟩ := hok
  have hps : ∀ p ∈ ps.toList, p < nt := fun p hp => blt_lt.1 (List.all_eq_true.1 hok3 p hp)
  have hρ : ρ = [] := by
    have := hr.len
    rw [hL] at this
    exact List.length_eq_zero_iff.1 this
  subst hρ
  have hgf := hr.fits g
  rw [hg] at hgf
  have hgv := hgf.eq (by simp)
  simp only [conc, CV.val] at hgv
  have hT0 : After m0 W0 s.m W := hA.trans hr.after
  have hover := hT0.over
  refine wpIn_rangeFunc fun fn _ => ?_
  let rc : Loop := { state := .ready, pending := none, fn := fn, tmps := a.tmps, params := ps, assign := asg, body := body, defers := W.heap.size }
  let Wd := W.alloc (.deferred (some []))
  let W' := Wd.alloc (.loop rc)
  have hl1 : W.heap.size + 1 = Wd.heap.size := by simp [Wd]
  have hsl : s.m (W.heap.size + 1) = none := hover.none (by omega)
  have hsd : s.m W.heap.size = none := hover.none (Nat.le_refl _)
  have hY : ∀ i x j m, Inv i m → El i x j → m (W.heap.size + 1) = none → YSpec c.P (W.heap.size + 1) x (m.set (W.heap.size + 1) (.loop rc)) fun r m' => r = [.v (.bool true)] ∧ ∃ m1, Inv j m1 ∧ m1 (W.heap.size + 1) = none ∧ m' = m1.set (W.heap.size + 1) (.loop rc) := by
    intro i x j m hi hx hml hxok w hw
    have hwl : w.heap[W.heap.size + 1]? = some (.loop rc) := hw _ _ (Mem.set_same ..)
    have hwm : Over m w := hw.sub (Mem.sub_set _ hml)
    refine ⟨_, _, _, _, run_yield hwl (by simp [rc, hEl i x j hx]), roundIn_of_wpIn trivial ?_⟩
    have hrr := hr.round (x := x) hps hxok hwm
    refine wpIn_mono (xwp0_spec (Wr := Here [] m w) (.inr ⟨_, rfl⟩) hT hm asg hok1 _ _ _ _ _ (round i x j m hi hx) ⟨[], m, w, ⟨rfl, rfl, rfl⟩, hrr⟩) fun e a1 w1 hq => ?_
    obtain ⟨hnp, s1, ρ1, hk, D1, mm, ww, ⟨e1, e2, e3⟩, hr1⟩ := hq
    subst D1 mm ww
    cases e <;> first | exact hk.elim | skip
    simp only [asgQ] at hk
    split at hk
    rotate_left
    · exact hk.elim
    rename_i hL1
    have hAf := hr1.after
    have hlt : W.heap.size + 1 < w.heap.size := (Array.getElem?_eq_some_iff.1 hwl).1
    obtain ⟨f1, f2⟩ := hAf.frame _ hlt hml
    have hw1l := f2.trans hwl
    refine ⟨_, run_beginRound hw1l rfl, ?_⟩
    have hρ1 : ρ1 = [] := by
      have := hr1.len
      rw [hL1] at this
      exact List.length_eq_zero_iff.1 this
    subst hρ1
    have hw1lt : W.heap.size + 1 < w1.heap.size := (Array.getElem?_eq_some_iff.1 hw1l).1
    have hov2 : Over s1.m (w1.putObj (W.heap.size + 1) (.loop { rc with state := .busy })) := fun b o hb => by
      have e : b ≠ W.heap.size + 1 := fun e => by rw [e, f1] at hb; cases hb
      rw [World.putObj_heap_other e]; exact hAf.over b o hb
    have hr2 : Rel nt [] s1.m (w1.putObj (W.heap.size + 1) (.loop { rc with state := .busy })) [] ⟨s1.fr, [], s1.m, []⟩ a1 (w1.putObj (W.heap.size + 1) (.loop { rc with state := .busy })) :=
      ⟨hr1.defers, hr1.size, hr1.slots, rfl, by simp, by simp, After.refl hov2, by simp⟩
    refine wpIn_mono (xwp0_spec (Wr := Here [] s1.m _) (.inr ⟨_, rfl⟩) hT hm body hok2 _ _ _ _ _ hk ⟨[], _, _, ⟨rfl, rfl, rfl⟩, hr2⟩) fun e a2 w2 hq2 => ?_
    obtain ⟨hnp2, s2, ρ2, hk2, D2, mm2, ww2, ⟨e1, e2, e3⟩, hr3⟩ := hq2
    subst D2 mm2 ww2
    cases e <;> first | exact hk2.elim | skip
    have hAf2 := hr3.after
    obtain ⟨g1, g2⟩ := hAf2.frame (W.heap.size + 1) (by simp; omega) f1
    have hw2l : w2.heap[W.heap.size + 1]? = some (.loop { rc with state := .busy }) := g2.trans (World.putObj_heap_same hw1lt)
    refine ⟨_, _, run_endRound none hw2l, [.v (.bool true)], s2.m.set (W.heap.size + 1) (.loop rc), rfl, ?_, ⟨rfl, s2.m, hk2, g1, rfl⟩, ?_⟩
    · intro z hz; simp at hz; subst hz; rfl
    · have e1 : ({ { rc with state := .busy } with state := if (none : Option Code).isNone then .ready else .done, pending := none } : Loop) = rc := rfl
      have hw2lt : W.heap.size + 1 < w2.heap.size := (Array.getElem?_eq_some_iff.1 hw2l).1
      refine ⟨fun b o hb => ?_, ?_, ?_, ?_, ?_, fun b hb hn => ?_, fun s => ?_⟩
      rotate_left 6
      · have s0 := s.less (m' := m) (Nat.le_refl _) fun b hb => by
          by_cases e : b = W.heap.size + 1
          · subst e; rw [Mem.set_same] at hb; cases hb
          · rw [Mem.set_ne _ _ e] at hb; exact hb
        exact Nat.le_trans (hAf.drawn s0) (hAf2.drawn ((s0.next hAf.size fun b hb hm => (hAf.frame b hb hm).1).less (Nat.le_of_eq (by simp)) fun _ h => h))
      · by_cases e : b = W.heap.size + 1
        · subst e; rw [Mem.set_same] at hb; cases hb
          exact World.putObj_heap_same hw2lt
        · rw [Mem.set_ne _ _ e] at hb
          rw [World.putObj_heap_other e]; exact hAf2.over b o hb
      · have := hAf.size; have := hAf2.size; simp at *; omega
      · exact hAf2.tape.trans hAf.tape
      · exact hAf2.os.trans hAf.os
      · exact hAf2.output.trans hAf.output
      · have e : b ≠ W.heap.size + 1 := fun e => by rw [e, Mem.set_same] at hn; cases hn
        rw [Mem.set_ne _ _ e] at hn
        obtain ⟨p1, p2⟩ := hAf.frame b hb hn
        have hb1 : b < w1.heap.size := Nat.lt_of_lt_of_le hb hAf.size
        obtain ⟨q1, q2⟩ := hAf2.frame b (by simpa using hb1) p1
        exact ⟨by rw [Mem.set_ne _ _ e]; exact q1, by rw [World.putObj_heap_other e, q2, World.putObj_heap_other e]; exact p2⟩
  obtain ⟨henter, hcalls⟩ := iter (W.heap.size + 1) (.loop rc) hsl hY
  have hT1 : After m0 W0 (s.m.set (W.heap.size + 1) (.loop rc)) W' := by
    have := (hT0.allocOut (.deferred (some []))).alloc (.loop rc)
    rw [← hl1] at this
    exact this
  have hcok : ∀ v ∈ (CV.v (.func (.yield (W.heap.size + 1)) #[] #[]) :: captured.toList.map CV.v), v.ok := by
    intro v hv
    rcases List.mem_cons.1 hv with rfl | hv
    · rfl
    · obtain ⟨y, hy, rfl⟩ := List.mem_map.1 hv
      exact allOne_spec hcap y hy
  have hvals : ((CV.v (.func (.yield (W.heap.size + 1)) #[] #[]) :: captured.toList.map CV.v).map CV.val).toArray = #[] ++ #[.func (.yield (W.heap.size + 1)) #[] #[]] ++ captured := by
    apply Array.ext'
    simp [CV.val, Function.comp_def]
  refine ⟨W.heap.size + 1, [{ target := .collected W.heap.size, args := #[] }], W', { target := .fn (.func gf) captured, args := #[] ++ #[.func (.yield (W.heap.size + 1)) #[] #[]] }, W', gf, #[] ++ #[.func (.yield (W.heap.size + 1)) #[] #[]] ++ captured, W', run_enterLoop_outer .., ?_, fun _ _ => trivial, ?_, fun e => (by cases e), ?_⟩
  · simp only [rangeCall, resolve, Array.map, hgv, Deferred.ofValue, Sem.run_pure]
    simp [resolve, hgv, Deferred.ofValue, Act.eval]
  · exact henter _ _
  · rw [← hvals]
    refine (callsIn_wide (n := 0 - 1)).2 ((hcalls hcok W' hT1.over).mono ?_)
    rintro e W2 ⟨r, m', rfl, hrok, ⟨mF, hF, hFl, rfl⟩, haft⟩
    have hW2l : W2.heap[W.heap.size + 1]? = some (.loop rc) := haft.over _ _ (Mem.set_same ..)
    refine ⟨none, _, run_endLoop hW2l (by simp [rc]), ?_⟩
    have hT2 : After m0 W0 mF W2 := (hT1.trans haft).forget (Mem.sub_set _ hFl)
    have hsz : W0.heap.size ≤ W.heap.size := hT0.size
    have hT3 := hT2.putOut hFl (by omega) (.loop { rc with state := .exhausted })
    refine ⟨by simp, _, [], rest mF hF, { target := .collected W.heap.size, args := #[] } :: D, mF, _, ⟨hT3, ⟨fun d hd => ?_, ?_⟩⟩, ⟨?_, hr.size, hr.slots, rfl, by simp, by simp, After.refl hT3.over, by simp⟩⟩
    · have kept : ∀ r, r ≠ W.heap.size + 1 → r < W'.heap.size → s.m r = none → W'.heap[r]? = some (.deferred (some [])) → mF r = none ∧ (W2.putObj (W.heap.size + 1) (.loop { rc with state := .exhausted })).heap[r]? = some (.deferred (some [])) := by
        intro r hne hlt hn hh
        obtain ⟨p1, p2⟩ := haft.frame r hlt (by rw [Mem.set_ne _ _ hne]; exact hn)
        rw [Mem.set_ne _ _ hne] at p1
        exact ⟨p1, by rw [World.putObj_heap_other hne, p2]; exact hh⟩
      rcases List.mem_cons.1 hd with rfl | hd
      · obtain ⟨p1, p2⟩ := kept W.heap.size (by omega) (by simp [W', Wd]; omega) hsd (by
          show (Wd.alloc _).heap[W.heap.size]? = _
          rw [heap_alloc_old Wd _ (by omega)]; exact heap_alloc_new W _)
        exact ⟨_, rfl, p2, p1, hsz⟩
      · obtain ⟨r, rfl, g1, g2, g3⟩ := hMk.each d hd
        have hlt := (Array.getElem?_eq_some_iff.1 g1).1
        obtain ⟨k1, k2⟩ := hr.after.frame r hlt g2
        have hlt2 : r < W.heap.size := Nat.lt_of_lt_of_le hlt hr.after.size
        obtain ⟨p1, p2⟩ := kept r (by omega) (by simp [W', Wd]; omega) k1 (by
          show (Wd.alloc _).heap[r]? = _
          rw [heap_alloc_old Wd _ (by omega), heap_alloc_old W _ hlt2]; exact k2.trans g1)
        exact ⟨r, rfl, p2, p1, g3⟩
    · rw [List.pairwise_cons]
      refine ⟨fun d hd e => ?_, hMk.apart⟩
      obtain ⟨r, rfl, g1, g2, g3⟩ := hMk.each d hd
      have hlt := (Array.getElem?_eq_some_iff.1 g1).1
      have hlt2 : r < W.heap.size := Nat.lt_of_lt_of_le hlt hr.after.size
      simp at e
      omega
    · show [_] ++ a.defers = _
      rw [hr.defers]; rfl
theorem xwp_spec (hT : TabOk c.P c.T) (hm : c.P.follows .mixedOrders = true) : ∀ (code : Code), codeOk c nt code = true → ∀ (Q : Exit → St → Prop) (s : St) (ρ : List Nat) (a : Act) (W : World), xwp c code Q s → RelM nt (Base m0 W0) ρ s a W → code.wpIn Fence.wide 0 c.P (QPost nt (Base m0 W0) Q) a W :=
  xwpG_spec (.inl rfl) hT hm (scope_spec hT hm) (range_spec hT hm)
end
def initF (args : List CV) : Nat → SV := fun i => match nth args i with
  | some x => .c x
  | none => .any
def xres1 (T : Tab) (s : St) (r : ResultVar) (K : CV → Prop) : Prop :=
  match r with
  | .tmp t => match s.fr t with
    | .c x => K x
    | .tt => K (.v (.bool true))
    | .ff => K (.v (.bool false))
    | _ => False
  | .cell t ty => fLoad T s ty (s.fr t) fun sv _ => match sv with
    | .c x => K x
    | _ => False
def xres (T : Tab) (s : St) : List ResultVar → (List CV → Prop) → Prop
  | [], K => K []
  | r :: rs, K => xres1 T s r fun x => xres T s rs fun l => K (x :: l)
def QRet (T : Tab) (rs : List ResultVar) (R : List CV → Mem → Prop) : Exit → St → Prop
  | .ret, s => xres T s rs fun r => R r s.m
  | .normal, s => xres T s rs fun r => R r s.m
  | _, _ => False
section
variable {c : Cfg} {nt : Nat} {D : List Deferred} {m0 : Mem} {W0 : World} {ρ : List Nat} {s : St} {a : Act} {W : World} {P : Program} {T : Tab}
def resOne (tmps : Array Value) : ResultVar → Sem Value
  | .tmp t => pure (tmps.getD t undef)
  | .cell p t => do loadVar t (← asAddr (tmps.getD p undef))
theorem xres1_spec (hT : TabOk P T) (hr : Rel nt D m0 W0 ρ s a W) {r : ResultVar} {K : CV → Prop} (h : xres1 T s r K) :
    ∃ x, K x ∧ x.ok ∧ (resOne a.tmps r).run P W = .ok x.val W := by
  cases r with
  | tmp t =>
    simp only [xres1] at h
    have hf := hr.fits (.tmp t)
    simp only [ev, Act.eval] at hf
    split at h
    · rename_i x e
      rw [e] at hf
      exact ⟨x, h, (hf.okay (by simp)).1, by simp only [resOne, Sem.run_pure]; rw [hf.eq (by simp)]; rfl⟩
    · rename_i e
      rw [e] at hf
      exact ⟨_, h, rfl, by simp only [resOne, Sem.run_pure]; rw [hf.eq (by simp)]; rfl⟩
    · rename_i e
      rw [e] at hf
      exact ⟨_, h, rfl, by simp only [resOne, Sem.run_pure]; rw [hf.eq (by simp)]; rfl⟩
    · exact h.elim
  | cell t ty =>
    simp only [xres1] at h
    obtain ⟨sv, bs, v, _, h1, h2, h3, _, _, _, h4⟩ := fLoad_spec (xo := .tmp t) hT hr (hr.fits (.tmp t)) h
    split at h1
    · rename_i x
      refine ⟨x, h1, (h2.okay (by simp)).1, ?_⟩
      have := h4 { dst := none, op := .load ty (.tmp t), type := 0, pos := "", after := #[], guard := none } rfl W (fun _ _ => rfl)
      rw [h2.eq (by simp)] at this
      simp only [execOp, Act.eval, Instr.loadAt, Sem.run_bind] at this
      simp only [resOne, Sem.run_bind]
      cases hv : a.tmps.getD t undef with
      | pointer p =>
        cases p with
        | some ad =>
          simp only [hv, Instr.sureAddr, Sem.run_pure, Result.andThen_ok] at this
          simp only [asAddr, Sem.run_pure, Result.andThen_ok]
          cases hl : (loadVar ty ad).run P W with
          | ok z w => rw [hl] at this; simp at this; rw [this.1, this.2]; rfl
          | halt z w => rw [hl] at this; simp at this
        | none => simp [hv, Instr.sureAddr, stuck, Sem.run] at this
      | _ => simp [hv, Instr.sureAddr, stuck, Sem.run] at this
    · exact h1.elim
theorem xres_spec (hT : TabOk P T) (hr : Rel nt D m0 W0 ρ s a W) : ∀ {rs : List ResultVar} {K : List CV → Prop}, xres T s rs K →
    ∃ l, K l ∧ (∀ x ∈ l, x.ok) ∧ (rs.mapM (resOne a.tmps)).run P W = .ok (l.map CV.val) W
  | [], K, h => ⟨[], h, by simp, by simp⟩
  | r :: rs, K, h => by
    obtain ⟨x, h1, h2, h3⟩ := xres1_spec hT hr h
    obtain ⟨l, g1, g2, g3⟩ := xres_spec hT hr h1
    refine ⟨x :: l, g1, by simpa using ⟨h2, g2⟩, ?_⟩
    rw [List.mapM_cons, Sem.run_bind, h3]
    simp only [Result.andThen_ok, Sem.run_bind, g3, Sem.run_pure, List.map_cons]
theorem results_spec (hT : TabOk P T) (hr : Rel nt D m0 W0 ρ s a W) {fn : Func} {K : List CV → Prop} (h : xres T s fn.results.toList K) :
    ∃ l, K l ∧ (∀ x ∈ l, x.ok) ∧ (results fn a.tmps).run P W = .ok (resVal l) W := by
  obtain ⟨l, h1, h2, h3⟩ := xres_spec hT hr h
  refine ⟨l, h1, h2, ?_⟩
  have e : results fn a.tmps = (do
      let vs ← fn.results.mapM (resOne a.tmps)
      pure (if h : vs.size = 1 then vs[0] else .tuple vs)) := by
    unfold results
    congr 1
  rw [e, Sem.run_bind, Array.mapM_eq_mapM_toList]
  simp only [map_eq_pure_bind, Sem.run_bind, h3, Result.andThen_ok, Sem.run_pure]
  match l with
  | [x] => simp [resVal]
  | [] => simp [resVal]
  | x :: y :: r => simp [resVal]
theorem Spec.of_body {f : FuncId} {fn : Func} {code : Code} {args : List CV} {m : Mem} {R : List CV → Mem → Prop} (hf : c.P.funcs[f]? = some fn) (hb : fn.body = some code) (hn : (fn.name == "runtime.NumGoroutine") = false)
    (hT : TabOk c.P c.T) (hm : c.P.follows .mixedOrders = true) (hok : codeOk c fn.ntmps code = true) (hlen : Nat.ble args.length fn.ntmps = true)
    (h : xwp c code (QRet c.T fn.results.toList R) ⟨initF args, [], m, []⟩) : Spec c.P f args m R := by
  refine ⟨fun args w => ?_, fun hargs W hW => ?_⟩
  · have hn' : ¬ fn.name = "runtime.NumGoroutine" := by simpa using hn
    simp [callFunc, hf, hb, hn']
  · have hle := ble_le.1 hlen
    refine (callsIn_wide (n := 0)).1 (callsIn_of_wp_marks hf hb trivial ?_)
    have hr : Rel fn.ntmps [] m W [] ⟨initF args, [], m, []⟩ { tmps := (args.map CV.val).toArray ++ Array.replicate (fn.ntmps - (args.map CV.val).toArray.size) undef, defers := [] } W := by
      refine ⟨rfl, by simp; omega, fun i => ?_, rfl, by simp, by simp, After.refl hW, by simp⟩
      simp only [initF]
      cases hx : nth args i with
      | none => exact .inl rfl
      | some x =>
        refine .inr ⟨?_, hargs x (by rw [nth_eq] at hx; exact List.mem_of_getElem? hx), trivial⟩
        rw [nth_eq] at hx
        have hlt := (List.getElem?_eq_some_iff.1 hx).1
        rw [Array.getElem?_append_left (by simpa using hlt)]
        simp [hx, conc]
    have leave : ∀ s' ρ' a' W', xres c.T s' fn.results.toList (fun r => R r s'.m) → RelM fn.ntmps (Base m W) ρ' s' a' W' → LeavesInM Fence.wide 0 c.P fn a'.tmps (fun e W' => ∃ r m', e = .returned (resVal r) ∧ (∀ x ∈ r, x.ok) ∧ R r m' ∧ After m W m' W') a'.defers .returning W' := by
      intro s' ρ' a' W' hk ⟨D, m1, W1, ⟨hA, hM⟩, hr'⟩
      have hb := hr'.base hA
      rw [hr'.defers]
      refine leaves_of (Good := fun w => Rel fn.ntmps D m W ρ' s' a' w) (Ok := fun r => s'.m r = none ∧ W.heap.size ≤ r ∧ r ∉ ρ') (fun w r h g => g.putOut h.1 h.2.1 h.2.2 _) (fun w hw => ?_) D W' (fun d hd => ?_) hM.apart hb
      · obtain ⟨l, h1, h2, h3⟩ := results_spec hT hw hk
        exact ⟨_, h3, l, _, rfl, h2, h1, hw.after⟩
      · obtain ⟨r, rfl, g1, g2, g3⟩ := hM.each d hd
        have hlt := (Array.getElem?_eq_some_iff.1 g1).1
        obtain ⟨k1, k2⟩ := hr'.after.frame r hlt g2
        refine ⟨r, rfl, k2.trans g1, k1, g3, fun hin => ?_⟩
        obtain ⟨i, hi, rfl⟩ := mem_getD hin
        have := (hr'.out hi).2.1
        omega
    refine wpIn_mono (xwp_spec hT hm code hok _ _ _ _ _ h ⟨[], m, W, ⟨After.refl hW, Marks.nil _ _ _⟩, hr⟩) fun e a' W' hq => ?_
    obtain ⟨hnp, s', ρ', hk, hr'⟩ := hq
    cases e with
    | ret => exact leave s' ρ' a' W' hk hr'
    | normal => exact leave s' ρ' a' W' hk hr'
    | panic ch => exact absurd rfl (hnp ch)
    | _ => exact hk.elim
end
end Go.E
namespace Go.E
inductive TTree where
  | leaf (t : TypeId) (i : TI)
  | node (k : Nat) (l r : TTree)
def TTree.get : TTree → TypeId → Option TI
  | .leaf t i, q => bif Nat.beq q t then some i else none
  | .node k l r, q => bif Nat.blt q k then l.get q else r.get q
def TTree.leaves : TTree → List (TypeId × TI)
  | .leaf t i => [(t, i)]
  | .node _ l r => l.leaves ++ r.leaves
def Seg.okB : Seg → Bool
  | .one x => x.oneCell'
  | .ints _ n l => l.length == n
  | .vals n l => l.length == n && l.all (·.oneCell')
def LB.okB : LB → Bool
  | [] => true
  | s :: r => s.okB && LB.okB r
theorem LB.okB_spec : ∀ {c : LB}, LB.okB c = true → LB.ok c
  | [], _ => trivial
  | s :: r, h => by
    simp only [LB.okB, Bool.and_eq_true] at h
    refine ⟨?_, LB.okB_spec h.2⟩
    cases s with
    | one x => exact h.1
    | ints k n l => simpa [Seg.okB, Seg.ok] using h.1
    | vals n l =>
      have := h.1
      simp only [Seg.okB, Bool.and_eq_true, beq_iff_eq, List.all_eq_true] at this
      exact this
def infoOf (P : Program) (t : TypeId) : Option TK × Option (Nat × Nat × Option (Array Value)) :=
  ((P.underlying t).map TK.of, (P.info? t).map fun j => (j.size, j.bytes, j.zero.map Value.cells))
def infoSaid (i : TI) : Option TK × Option (Nat × Nat × Option (Array Value)) := (some i.k, some (i.size, i.bytes, some (LB.cells i.zero).toArray))
theorem get_mem : ∀ {T : TTree} {t : TypeId} {i : TI}, T.get t = some i → (t, i) ∈ T.leaves
  | .leaf t' i', t, i, h => by
    simp only [TTree.get] at h
    cases hb : Nat.beq t t' with
    | true =>
      have := Nat.eq_of_beq_eq_true hb; subst this
      simp only [hb, cond_true, Option.some.injEq] at h; subst h
      simp [TTree.leaves]
    | false => simp [hb] at h
  | .node k l r, t, i, h => by
    simp only [TTree.get] at h
    simp only [TTree.leaves, List.mem_append]
    cases hb : Nat.blt t k with
    | true => simp only [hb, cond_true] at h; exact .inl (get_mem h)
    | false => simp only [hb, cond_false] at h; exact .inr (get_mem h)
theorem map_eq_at {α β : Type} {f g : α → β} : ∀ {l : List α}, l.map f = l.map g → ∀ x ∈ l, f x = g x
  | [], _, x, hx => by cases hx
  | y :: l, h, x, hx => by
    simp only [List.map_cons, List.cons.injEq] at h
    rcases List.mem_cons.1 hx with rfl | hx
    · exact h.1
    · exact map_eq_at h.2 x hx
theorem tabOk {P : Program} {T : TTree} (h1 : T.leaves.map (fun x => infoOf P x.1) = T.leaves.map (fun x => infoSaid x.2)) (h2 : T.leaves.all (fun x => LB.okB x.2.zero) = true)
    (h3 : T.leaves.all (fun x => !x.2.eq || (x.2.k.agg && goodB P 50 x.1 (LB.cells x.2.zero) && !P.eqGuardType P.depth x.1 && (LB.cells x.2.zero).length == x.2.size)) = true) : TabOk P T.get := by
  intro t i h
  have hm := get_mem h
  have e := map_eq_at h1 _ hm
  simp only [infoOf, infoSaid, Prod.mk.injEq] at e
  refine ⟨e.1, e.2, LB.okB_spec (List.all_eq_true.1 h2 _ hm), fun he => ?_⟩
  have := List.all_eq_true.1 h3 _ hm
  simp only [he, Bool.not_true, Bool.false_or, Bool.and_eq_true, Bool.not_eq_true', beq_iff_eq] at this
  exact ⟨this.1.1.1, this.1.1.2, this.1.2, this.2⟩
def inL : List Nat → Nat → Bool
  | [], _ => false
  | x :: r, d => bif Nat.beq d x then true else inL r d
def atL : List (Nat × Ord) → Nat → Ord
  | [], _ => ⟨.nil, []⟩
  | (j, x) :: r, i => bif Nat.beq i j then x else atL r i
def bodyOf (fn : Func) : Code := fn.body.getD .skip
theorem Spec.law {P : Program} {f : FuncId} {args : List CV} (W : World) (hok : ∀ x ∈ args, x.ok) (h : Spec P f args (fun b => W.heap[b]?) fun r m' => r = [.v (.bool true)] ∧ Sub (fun b => W.heap[b]?) m') :
    Calls P f (args.map CV.val).toArray W fun e W' => e = .returned (.bool true) ∧ RowKit.Below W.heap.size W W' := by
  refine (h.2 hok W (fun b o hb => hb)).mono fun e W' he => ?_
  obtain ⟨r, m', rfl, _, ⟨rfl, hs⟩, ha⟩ := he
  refine ⟨rfl, ha.os, ha.tape, ha.output, ha.size, fun k hk => ?_⟩
  have : W.heap[k]? = some W.heap[k] := by simp [hk]
  rw [this]
  exact ha.over k _ (hs k _ this)
end Go.E
namespace Go.E.YtcionccfgcnhoaaGreatDoor
open Go.Proofs
set_option maxRecDepth 100000
noncomputable def tt : TTree := (.node 157 (.node 78 (.node 38 (.node 18 (.node 9 (.node 5 (.node 3 (.node 2 (.leaf 1 ⟨.func, 1, 8, [.one .nilFunc], false⟩)
 (.leaf 2 ⟨.int .i64, 1, 8, [.one (.int .i64 0)], false⟩))
 (.node 4 (.leaf 3 ⟨.int .i64, 1, 8, [.one (.int .i64 0)], false⟩)
 (.leaf 4 ⟨.bool, 1, 1, [.one (.bool false)], false⟩)))
 (.node 7 (.node 6 (.leaf 5 ⟨.int .u8, 1, 1, [.one (.int .u8 0)], false⟩)
 (.leaf 6 ⟨.int .u8, 1, 1, [.one (.int .u8 0)], false⟩))
 (.node 8 (.leaf 7 ⟨.struct [(0, 2), (1, 3), (2, 4), (3, 6)], 4, 24, [.one (.int .i64 0), .one (.int .i64 0), .one (.bool false), .one (.int .u8 0)], false⟩)
 (.leaf 8 ⟨.struct [(0, 2), (1, 3), (2, 4), (3, 6)], 4, 24, [.one (.int .i64 0), .one (.int .i64 0), .one (.bool false), .one (.int .u8 0)], false⟩))))
 (.node 13 (.node 11 (.node 10 (.leaf 9 ⟨.str, 1, 16, [.one (.string ByteArray.empty)], false⟩)
 (.leaf 10 ⟨.str, 1, 16, [.one (.string ByteArray.empty)], false⟩))
 (.node 12 (.leaf 11 ⟨.str, 1, 16, [.one (.string ByteArray.empty)], false⟩)
 (.leaf 12 ⟨.int .u64, 1, 8, [.one (.int .u64 0)], false⟩)))
 (.node 15 (.node 14 (.leaf 13 ⟨.struct [(0, 9), (1, 12)], 2, 24, [.one (.string ByteArray.empty), .one (.int .u64 0)], false⟩)
 (.leaf 14 ⟨.struct [(0, 9), (1, 12)], 2, 24, [.one (.string ByteArray.empty), .one (.int .u64 0)], false⟩))
 (.node 16 (.leaf 15 ⟨.ptr 299, 1, 8, [.one (.pointer none)], false⟩)
 (.node 17 (.leaf 16 ⟨.ptr 302, 1, 8, [.one (.pointer none)], false⟩)
 (.leaf 17 ⟨.ptr 309, 1, 8, [.one (.pointer none)], false⟩))))))
 (.node 28 (.node 22 (.node 20 (.node 19 (.leaf 18 ⟨.struct [(0, 17)], 1, 8, [.one (.pointer none)], false⟩)
 (.leaf 19 ⟨.struct [(0, 17)], 1, 8, [.one (.pointer none)], false⟩))
 (.node 21 (.leaf 20 ⟨.iface, 1, 16, [.one .nilIface], false⟩)
 (.leaf 21 ⟨.int .i32, 1, 4, [.one (.int .i32 0)], false⟩)))
 (.node 24 (.node 23 (.leaf 22 ⟨.slice 42, 1, 24, [.one (.slice none 0 0)], false⟩)
 (.leaf 23 ⟨.slice 3, 1, 24, [.one (.slice none 0 0)], false⟩))
 (.node 25 (.leaf 24 ⟨.ptr 55, 1, 8, [.one (.pointer none)], false⟩)
 (.node 27 (.leaf 25 ⟨.int .i64, 1, 8, [.one (.int .i64 0)], false⟩)
 (.leaf 27 ⟨.func, 1, 8, [.one .nilFunc], false⟩)))))
 (.node 33 (.node 31 (.node 29 (.leaf 28 ⟨.func, 1, 8, [.one .nilFunc], false⟩)
 (.leaf 29 ⟨.ptr 78, 1, 8, [.one (.pointer none)], false⟩))
 (.node 32 (.leaf 31 ⟨.func, 1, 8, [.one .nilFunc], false⟩)
 (.leaf 32 ⟨.func, 1, 8, [.one .nilFunc], false⟩)))
 (.node 35 (.node 34 (.leaf 33 ⟨.slice 9, 1, 24, [.one (.slice none 0 0)], false⟩)
 (.leaf 34 ⟨.func, 1, 8, [.one .nilFunc], false⟩))
 (.node 36 (.leaf 35 ⟨.int .u64, 1, 8, [.one (.int .u64 0)], false⟩)
 (.node 37 (.leaf 36 ⟨.array 8 35, 8, 64, [.ints .u64 8 (List.replicate 8 0)], true⟩)
 (.leaf 37 ⟨.array 8 35, 8, 64, [.ints .u64 8 (List.replicate 8 0)], true⟩)))))))
 (.node 55 (.node 46 (.node 42 (.node 40 (.node 39 (.leaf 38 ⟨.slice 57, 1, 24, [.one (.slice none 0 0)], false⟩)
 (.leaf 39 ⟨.struct [(0, 37), (8, 38)], 9, 88, [.ints .u64 8 (List.replicate 8 0), .one (.slice none 0 0)], false⟩))
 (.node 41 (.leaf 40 ⟨.struct [(0, 37), (8, 38)], 9, 88, [.ints .u64 8 (List.replicate 8 0), .one (.slice none 0 0)], false⟩)
 (.leaf 41 ⟨.struct [(0, 3), (1, 9), (2, 40), (11, 23)], 12, 136, [.one (.int .i64 0), .one (.string ByteArray.empty), .ints .u64 8 (List.replicate 8 0), .one (.slice none 0 0), .one (.slice none 0 0)], false⟩)))
 (.node 44 (.node 43 (.leaf 42 ⟨.struct [(0, 3), (1, 9), (2, 40), (11, 23)], 12, 136, [.one (.int .i64 0), .one (.string ByteArray.empty), .ints .u64 8 (List.replicate 8 0), .one (.slice none 0 0), .one (.slice none 0 0)], false⟩)
 (.leaf 43 ⟨.func, 1, 8, [.one .nilFunc], false⟩))
 (.node 45 (.leaf 44 ⟨.func, 1, 8, [.one .nilFunc], false⟩)
 (.leaf 45 ⟨.func, 1, 8, [.one .nilFunc], false⟩))))
 (.node 50 (.node 48 (.node 47 (.leaf 46 ⟨.func, 1, 8, [.one .nilFunc], false⟩)
 (.leaf 47 ⟨.func, 1, 8, [.one .nilFunc], false⟩))
 (.node 49 (.leaf 48 ⟨.map 9 90, 1, 8, [.one (.map none)], false⟩)
 (.leaf 49 ⟨.struct [], 0, 0, [], false⟩)))
 (.node 52 (.node 51 (.leaf 50 ⟨.struct [], 0, 0, [], false⟩)
 (.leaf 51 ⟨.struct [], 0, 0, [], false⟩))
 (.node 53 (.leaf 52 ⟨.struct [(0, 50), (0, 51), (0, 35)], 1, 8, [.one (.int .u64 0)], false⟩)
 (.node 54 (.leaf 53 ⟨.struct [(0, 50), (0, 51), (0, 35)], 1, 8, [.one (.int .u64 0)], false⟩)
 (.leaf 54 ⟨.struct [(0, 3), (1, 48), (2, 53), (3, 53)], 4, 32, [.one (.int .i64 0), .one (.map none), .one (.int .u64 0), .one (.int .u64 0)], false⟩))))))
 (.node 67 (.node 60 (.node 57 (.node 56 (.leaf 55 ⟨.struct [(0, 3), (1, 48), (2, 53), (3, 53)], 4, 32, [.one (.int .i64 0), .one (.map none), .one (.int .u64 0), .one (.int .u64 0)], false⟩)
 (.leaf 56 ⟨.struct [(0, 3), (1, 3), (2, 35), (3, 3)], 4, 32, [.one (.int .i64 0), .one (.int .i64 0), .one (.int .u64 0), .one (.int .i64 0)], true⟩))
 (.node 59 (.leaf 57 ⟨.struct [(0, 3), (1, 3), (2, 35), (3, 3)], 4, 32, [.one (.int .i64 0), .one (.int .i64 0), .one (.int .u64 0), .one (.int .i64 0)], true⟩)
 (.leaf 59 ⟨.func, 1, 8, [.one .nilFunc], false⟩)))
 (.node 64 (.node 62 (.leaf 60 ⟨.func, 1, 8, [.one .nilFunc], false⟩)
 (.leaf 62 ⟨.func, 1, 8, [.one .nilFunc], false⟩))
 (.node 65 (.leaf 64 ⟨.func, 1, 8, [.one .nilFunc], false⟩)
 (.node 66 (.leaf 65 ⟨.func, 1, 8, [.one .nilFunc], false⟩)
 (.leaf 66 ⟨.func, 1, 8, [.one .nilFunc], false⟩)))))
 (.node 72 (.node 69 (.node 68 (.leaf 67 ⟨.slice 82, 1, 24, [.one (.slice none 0 0)], false⟩)
 (.leaf 68 ⟨.func, 1, 8, [.one .nilFunc], false⟩))
 (.node 71 (.leaf 69 ⟨.slice 80, 1, 24, [.one (.slice none 0 0)], false⟩)
 (.leaf 71 ⟨.func, 1, 8, [.one .nilFunc], false⟩)))
 (.node 75 (.node 74 (.leaf 72 ⟨.ptr 114, 1, 8, [.one (.pointer none)], false⟩)
 (.leaf 74 ⟨.func, 1, 8, [.one .nilFunc], false⟩))
 (.node 76 (.leaf 75 ⟨.func, 1, 8, [.one .nilFunc], false⟩)
 (.node 77 (.leaf 76 ⟨.ptr 148, 1, 8, [.one (.pointer none)], false⟩)
 (.leaf 77 ⟨.struct [(0, 24), (1, 3), (2, 67), (3, 72), (4, 76)], 5, 56, [.one (.pointer none), .one (.int .i64 0), .one (.slice none 0 0), .one (.pointer none), .one (.pointer none)], false⟩))))))))
 (.node 119 (.node 98 (.node 88 (.node 82 (.node 80 (.node 79 (.leaf 78 ⟨.struct [(0, 24), (1, 3), (2, 67), (3, 72), (4, 76)], 5, 56, [.one (.pointer none), .one (.int .i64 0), .one (.slice none 0 0), .one (.pointer none), .one (.pointer none)], false⟩)
 (.leaf 79 ⟨.func, 1, 8, [.one .nilFunc], false⟩))
 (.node 81 (.leaf 80 ⟨.slice 5, 1, 24, [.one (.slice none 0 0)], false⟩)
 (.leaf 81 ⟨.struct [(0, 9), (1, 40)], 10, 104, [.one (.string ByteArray.empty), .ints .u64 8 (List.replicate 8 0), .one (.slice none 0 0)], false⟩)))
 (.node 85 (.node 84 (.leaf 82 ⟨.struct [(0, 9), (1, 40)], 10, 104, [.one (.string ByteArray.empty), .ints .u64 8 (List.replicate 8 0), .one (.slice none 0 0)], false⟩)
 (.leaf 84 ⟨.func, 1, 8, [.one .nilFunc], false⟩))
 (.node 87 (.leaf 85 ⟨.func, 1, 8, [.one .nilFunc], false⟩)
 (.leaf 87 ⟨.func, 1, 8, [.one .nilFunc], false⟩))))
 (.node 92 (.node 90 (.node 89 (.leaf 88 ⟨.func, 1, 8, [.one .nilFunc], false⟩)
 (.leaf 89 ⟨.func, 1, 8, [.one .nilFunc], false⟩))
 (.node 91 (.leaf 90 ⟨.ptr 92, 1, 8, [.one (.pointer none)], false⟩)
 (.leaf 91 ⟨.struct [(0, 80), (1, 3)], 2, 32, [.one (.slice none 0 0), .one (.int .i64 0)], false⟩)))
 (.node 94 (.node 93 (.leaf 92 ⟨.struct [(0, 80), (1, 3)], 2, 32, [.one (.slice none 0 0), .one (.int .i64 0)], false⟩)
 (.leaf 93 ⟨.func, 1, 8, [.one .nilFunc], false⟩))
 (.node 95 (.leaf 94 ⟨.func, 1, 8, [.one .nilFunc], false⟩)
 (.node 97 (.leaf 95 ⟨.func, 1, 8, [.one .nilFunc], false⟩)
 (.leaf 97 ⟨.func, 1, 8, [.one .nilFunc], false⟩))))))
 (.node 110 (.node 103 (.node 101 (.node 99 (.leaf 98 ⟨.func, 1, 8, [.one .nilFunc], false⟩)
 (.leaf 99 ⟨.func, 1, 8, [.one .nilFunc], false⟩))
 (.node 102 (.leaf 101 ⟨.func, 1, 8, [.one .nilFunc], false⟩)
 (.leaf 102 ⟨.func, 1, 8, [.one .nilFunc], false⟩)))
 (.node 105 (.node 104 (.leaf 103 ⟨.func, 1, 8, [.one .nilFunc], false⟩)
 (.leaf 104 ⟨.func, 1, 8, [.one .nilFunc], false⟩))
 (.node 107 (.leaf 105 ⟨.func, 1, 8, [.one .nilFunc], false⟩)
 (.node 108 (.leaf 107 ⟨.func, 1, 8, [.one .nilFunc], false⟩)
 (.leaf 108 ⟨.func, 1, 8, [.one .nilFunc], false⟩)))))
 (.node 114 (.node 112 (.node 111 (.leaf 110 ⟨.func, 1, 8, [.one .nilFunc], false⟩)
 (.leaf 111 ⟨.struct [(0, 24), (1, 9)], 2, 24, [.one (.pointer none), .one (.string ByteArray.empty)], false⟩))
 (.node 113 (.leaf 112 ⟨.struct [(0, 24), (1, 9)], 2, 24, [.one (.pointer none), .one (.string ByteArray.empty)], false⟩)
 (.leaf 113 ⟨.struct [(0, 112), (2, 3), (3, 3)], 4, 40, [.one (.pointer none), .one (.string ByteArray.empty), .one (.int .i64 0), .one (.int .i64 0)], false⟩)))
 (.node 116 (.node 115 (.leaf 114 ⟨.struct [(0, 112), (2, 3), (3, 3)], 4, 40, [.one (.pointer none), .one (.string ByteArray.empty), .one (.int .i64 0), .one (.int .i64 0)], false⟩)
 (.leaf 115 ⟨.func, 1, 8, [.one .nilFunc], false⟩))
 (.node 117 (.leaf 116 ⟨.func, 1, 8, [.one .nilFunc], false⟩)
 (.node 118 (.leaf 117 ⟨.func, 1, 8, [.one .nilFunc], false⟩)
 (.leaf 118 ⟨.func, 1, 8, [.one .nilFunc], false⟩)))))))
 (.node 136 (.node 127 (.node 123 (.node 121 (.node 120 (.leaf 119 ⟨.slice 69, 1, 24, [.one (.slice none 0 0)], false⟩)
 (.leaf 120 ⟨.func, 1, 8, [.one .nilFunc], false⟩))
 (.node 122 (.leaf 121 ⟨.ptr 172, 1, 8, [.one (.pointer none)], false⟩)
 (.leaf 122 ⟨.func, 1, 8, [.one .nilFunc], false⟩)))
 (.node 125 (.node 124 (.leaf 123 ⟨.func, 1, 8, [.one .nilFunc], false⟩)
 (.leaf 124 ⟨.func, 1, 8, [.one .nilFunc], false⟩))
 (.node 126 (.leaf 125 ⟨.func, 1, 8, [.one .nilFunc], false⟩)
 (.leaf 126 ⟨.func, 1, 8, [.one .nilFunc], false⟩))))
 (.node 131 (.node 129 (.node 128 (.leaf 127 ⟨.func, 1, 8, [.one .nilFunc], false⟩)
 (.leaf 128 ⟨.func, 1, 8, [.one .nilFunc], false⟩))
 (.node 130 (.leaf 129 ⟨.func, 1, 8, [.one .nilFunc], false⟩)
 (.leaf 130 ⟨.ptr 132, 1, 8, [.one (.pointer none)], false⟩)))
 (.node 133 (.node 132 (.leaf 131 ⟨.struct [(0, 80)], 1, 24, [.one (.slice none 0 0)], false⟩)
 (.leaf 132 ⟨.struct [(0, 80)], 1, 24, [.one (.slice none 0 0)], false⟩))
 (.node 134 (.leaf 133 ⟨.func, 1, 8, [.one .nilFunc], false⟩)
 (.node 135 (.leaf 134 ⟨.func, 1, 8, [.one .nilFunc], false⟩)
 (.leaf 135 ⟨.func, 1, 8, [.one .nilFunc], false⟩))))))
 (.node 145 (.node 140 (.node 138 (.node 137 (.leaf 136 ⟨.func, 1, 8, [.one .nilFunc], false⟩)
 (.leaf 137 ⟨.func, 1, 8, [.one .nilFunc], false⟩))
 (.node 139 (.leaf 138 ⟨.func, 1, 8, [.one .nilFunc], false⟩)
 (.leaf 139 ⟨.func, 1, 8, [.one .nilFunc], false⟩)))
 (.node 142 (.node 141 (.leaf 140 ⟨.func, 1, 8, [.one .nilFunc], false⟩)
 (.leaf 141 ⟨.func, 1, 8, [.one .nilFunc], false⟩))
 (.node 143 (.leaf 142 ⟨.func, 1, 8, [.one .nilFunc], false⟩)
 (.node 144 (.leaf 143 ⟨.func, 1, 8, [.one .nilFunc], false⟩)
 (.leaf 144 ⟨.func, 1, 8, [.one .nilFunc], false⟩)))))
 (.node 149 (.node 147 (.node 146 (.leaf 145 ⟨.func, 1, 8, [.one .nilFunc], false⟩)
 (.leaf 146 ⟨.func, 1, 8, [.one .nilFunc], false⟩))
 (.node 148 (.leaf 147 ⟨.struct [(0, 24), (1, 3), (2, 80), (3, 3)], 4, 48, [.one (.pointer none), .one (.int .i64 0), .one (.slice none 0 0), .one (.int .i64 0)], false⟩)
 (.leaf 148 ⟨.struct [(0, 24), (1, 3), (2, 80), (3, 3)], 4, 48, [.one (.pointer none), .one (.int .i64 0), .one (.slice none 0 0), .one (.int .i64 0)], false⟩)))
 (.node 152 (.node 150 (.leaf 149 ⟨.func, 1, 8, [.one .nilFunc], false⟩)
 (.leaf 150 ⟨.func, 1, 8, [.one .nilFunc], false⟩))
 (.node 154 (.leaf 152 ⟨.func, 1, 8, [.one .nilFunc], false⟩)
 (.node 155 (.leaf 154 ⟨.func, 1, 8, [.one .nilFunc], false⟩)
 (.leaf 155 ⟨.func, 1, 8, [.one .nilFunc], false⟩)))))))))
 (.node 234 (.node 194 (.node 176 (.node 166 (.node 162 (.node 159 (.node 158 (.leaf 157 ⟨.func, 1, 8, [.one .nilFunc], false⟩)
 (.leaf 158 ⟨.func, 1, 8, [.one .nilFunc], false⟩))
 (.node 161 (.leaf 159 ⟨.int .u64, 1, 8, [.one (.int .u64 0)], false⟩)
 (.leaf 161 ⟨.func, 1, 8, [.one .nilFunc], false⟩)))
 (.node 164 (.node 163 (.leaf 162 ⟨.ptr 164, 1, 8, [.one (.pointer none)], false⟩)
 (.leaf 163 ⟨.struct [(0, 162), (1, 80)], 2, 32, [.one (.pointer none), .one (.slice none 0 0)], false⟩))
 (.node 165 (.leaf 164 ⟨.struct [(0, 162), (1, 80)], 2, 32, [.one (.pointer none), .one (.slice none 0 0)], false⟩)
 (.leaf 165 ⟨.func, 1, 8, [.one .nilFunc], false⟩))))
 (.node 171 (.node 169 (.node 167 (.leaf 166 ⟨.iface, 1, 16, [.one .nilIface], false⟩)
 (.leaf 167 ⟨.iface, 1, 16, [.one .nilIface], false⟩))
 (.node 170 (.leaf 169 ⟨.func, 1, 8, [.one .nilFunc], false⟩)
 (.leaf 170 ⟨.func, 1, 8, [.one .nilFunc], false⟩)))
 (.node 173 (.node 172 (.leaf 171 ⟨.struct [(0, 4), (1, 80), (2, 25)], 3, 40, [.one (.bool false), .one (.slice none 0 0), .one (.int .i64 0)], false⟩)
 (.leaf 172 ⟨.struct [(0, 4), (1, 80), (2, 25)], 3, 40, [.one (.bool false), .one (.slice none 0 0), .one (.int .i64 0)], false⟩))
 (.node 174 (.leaf 173 ⟨.func, 1, 8, [.one .nilFunc], false⟩)
 (.node 175 (.leaf 174 ⟨.func, 1, 8, [.one .nilFunc], false⟩)
 (.leaf 175 ⟨.func, 1, 8, [.one .nilFunc], false⟩))))))
 (.node 185 (.node 180 (.node 178 (.node 177 (.leaf 176 ⟨.func, 1, 8, [.one .nilFunc], false⟩)
 (.leaf 177 ⟨.func, 1, 8, [.one .nilFunc], false⟩))
 (.node 179 (.leaf 178 ⟨.func, 1, 8, [.one .nilFunc], false⟩)
 (.leaf 179 ⟨.func, 1, 8, [.one .nilFunc], false⟩)))
 (.node 182 (.node 181 (.leaf 180 ⟨.func, 1, 8, [.one .nilFunc], false⟩)
 (.leaf 181 ⟨.func, 1, 8, [.one .nilFunc], false⟩))
 (.node 183 (.leaf 182 ⟨.func, 1, 8, [.one .nilFunc], false⟩)
 (.node 184 (.leaf 183 ⟨.func, 1, 8, [.one .nilFunc], false⟩)
 (.leaf 184 ⟨.func, 1, 8, [.one .nilFunc], false⟩)))))
 (.node 189 (.node 187 (.node 186 (.leaf 185 ⟨.struct [(0, 3), (1, 35)], 2, 16, [.one (.int .i64 0), .one (.int .u64 0)], true⟩)
 (.leaf 186 ⟨.struct [(0, 3), (1, 35)], 2, 16, [.one (.int .i64 0), .one (.int .u64 0)], true⟩))
 (.node 188 (.leaf 187 ⟨.func, 1, 8, [.one .nilFunc], false⟩)
 (.leaf 188 ⟨.func, 1, 8, [.one .nilFunc], false⟩)))
 (.node 191 (.node 190 (.leaf 189 ⟨.slice 186, 1, 24, [.one (.slice none 0 0)], false⟩)
 (.leaf 190 ⟨.func, 1, 8, [.one .nilFunc], false⟩))
 (.node 192 (.leaf 191 ⟨.func, 1, 8, [.one .nilFunc], false⟩)
 (.node 193 (.leaf 192 ⟨.func, 1, 8, [.one .nilFunc], false⟩)
 (.leaf 193 ⟨.int .u32, 1, 4, [.one (.int .u32 0)], false⟩)))))))
 (.node 215 (.node 204 (.node 198 (.node 196 (.node 195 (.leaf 194 ⟨.func, 1, 8, [.one .nilFunc], false⟩)
 (.leaf 195 ⟨.func, 1, 8, [.one .nilFunc], false⟩))
 (.node 197 (.leaf 196 ⟨.func, 1, 8, [.one .nilFunc], false⟩)
 (.leaf 197 ⟨.slice 37, 1, 24, [.one (.slice none 0 0)], false⟩)))
 (.node 200 (.node 199 (.leaf 198 ⟨.func, 1, 8, [.one .nilFunc], false⟩)
 (.leaf 199 ⟨.func, 1, 8, [.one .nilFunc], false⟩))
 (.node 202 (.leaf 200 ⟨.func, 1, 8, [.one .nilFunc], false⟩)
 (.leaf 202 ⟨.func, 1, 8, [.one .nilFunc], false⟩))))
 (.node 208 (.node 206 (.node 205 (.leaf 204 ⟨.func, 1, 8, [.one .nilFunc], false⟩)
 (.leaf 205 ⟨.ptr 53, 1, 8, [.one (.pointer none)], false⟩))
 (.node 207 (.leaf 206 ⟨.func, 1, 8, [.one .nilFunc], false⟩)
 (.leaf 207 ⟨.ptr 35, 1, 8, [.one (.pointer none)], false⟩)))
 (.node 212 (.node 210 (.leaf 208 ⟨.func, 1, 8, [.one .nilFunc], false⟩)
 (.leaf 210 ⟨.func, 1, 8, [.one .nilFunc], false⟩))
 (.node 213 (.leaf 212 ⟨.func, 1, 8, [.one .nilFunc], false⟩)
 (.node 214 (.leaf 213 ⟨.ptr 5, 1, 8, [.one (.pointer none)], false⟩)
 (.leaf 214 ⟨.func, 1, 8, [.one .nilFunc], false⟩))))))
 (.node 225 (.node 220 (.node 218 (.node 216 (.leaf 215 ⟨.func, 1, 8, [.one .nilFunc], false⟩)
 (.leaf 216 ⟨.int .i64, 1, 8, [.one (.int .i64 0)], false⟩))
 (.node 219 (.leaf 218 ⟨.func, 1, 8, [.one .nilFunc], false⟩)
 (.leaf 219 ⟨.func, 1, 8, [.one .nilFunc], false⟩)))
 (.node 222 (.node 221 (.leaf 220 ⟨.func, 1, 8, [.one .nilFunc], false⟩)
 (.leaf 221 ⟨.func, 1, 8, [.one .nilFunc], false⟩))
 (.node 223 (.leaf 222 ⟨.func, 1, 8, [.one .nilFunc], false⟩)
 (.node 224 (.leaf 223 ⟨.func, 1, 8, [.one .nilFunc], false⟩)
 (.leaf 224 ⟨.func, 1, 8, [.one .nilFunc], false⟩)))))
 (.node 229 (.node 227 (.node 226 (.leaf 225 ⟨.func, 1, 8, [.one .nilFunc], false⟩)
 (.leaf 226 ⟨.func, 1, 8, [.one .nilFunc], false⟩))
 (.node 228 (.leaf 227 ⟨.func, 1, 8, [.one .nilFunc], false⟩)
 (.leaf 228 ⟨.func, 1, 8, [.one .nilFunc], false⟩)))
 (.node 231 (.node 230 (.leaf 229 ⟨.func, 1, 8, [.one .nilFunc], false⟩)
 (.leaf 230 ⟨.func, 1, 8, [.one .nilFunc], false⟩))
 (.node 232 (.leaf 231 ⟨.func, 1, 8, [.one .nilFunc], false⟩)
 (.node 233 (.leaf 232 ⟨.func, 1, 8, [.one .nilFunc], false⟩)
 (.leaf 233 ⟨.func, 1, 8, [.one .nilFunc], false⟩))))))))
 (.node 274 (.node 253 (.node 244 (.node 240 (.node 236 (.node 235 (.leaf 234 ⟨.func, 1, 8, [.one .nilFunc], false⟩)
 (.leaf 235 ⟨.array 24 5, 24, 24, [.ints .u8 24 (List.replicate 24 0)], true⟩))
 (.node 238 (.leaf 236 ⟨.func, 1, 8, [.one .nilFunc], false⟩)
 (.leaf 238 ⟨.func, 1, 8, [.one .nilFunc], false⟩)))
 (.node 242 (.node 241 (.leaf 240 ⟨.func, 1, 8, [.one .nilFunc], false⟩)
 (.leaf 241 ⟨.func, 1, 8, [.one .nilFunc], false⟩))
 (.node 243 (.leaf 242 ⟨.int .u64, 1, 8, [.one (.int .u64 0)], false⟩)
 (.leaf 243 ⟨.func, 1, 8, [.one .nilFunc], false⟩))))
 (.node 248 (.node 246 (.node 245 (.leaf 244 ⟨.func, 1, 8, [.one .nilFunc], false⟩)
 (.leaf 245 ⟨.ptr 3, 1, 8, [.one (.pointer none)], false⟩))
 (.node 247 (.leaf 246 ⟨.func, 1, 8, [.one .nilFunc], false⟩)
 (.leaf 247 ⟨.func, 1, 8, [.one .nilFunc], false⟩)))
 (.node 250 (.node 249 (.leaf 248 ⟨.func, 1, 8, [.one .nilFunc], false⟩)
 (.leaf 249 ⟨.func, 1, 8, [.one .nilFunc], false⟩))
 (.node 251 (.leaf 250 ⟨.func, 1, 8, [.one .nilFunc], false⟩)
 (.node 252 (.leaf 251 ⟨.func, 1, 8, [.one .nilFunc], false⟩)
 (.leaf 252 ⟨.func, 1, 8, [.one .nilFunc], false⟩))))))
 (.node 264 (.node 258 (.node 256 (.node 255 (.leaf 253 ⟨.int .i64, 1, 8, [.one (.int .i64 0)], false⟩)
 (.leaf 255 ⟨.func, 1, 8, [.one .nilFunc], false⟩))
 (.node 257 (.leaf 256 ⟨.ptr 277, 1, 8, [.one (.pointer none)], false⟩)
 (.leaf 257 ⟨.func, 1, 8, [.one .nilFunc], false⟩)))
 (.node 260 (.node 259 (.leaf 258 ⟨.func, 1, 8, [.one .nilFunc], false⟩)
 (.leaf 259 ⟨.func, 1, 8, [.one .nilFunc], false⟩))
 (.node 261 (.leaf 260 ⟨.array 20 35, 20, 160, [.ints .u64 20 (List.replicate 20 0)], true⟩)
 (.node 262 (.leaf 261 ⟨.array 65 5, 65, 65, [.ints .u8 65 (List.replicate 65 0)], true⟩)
 (.leaf 262 ⟨.ptr 242, 1, 8, [.one (.pointer none)], false⟩)))))
 (.node 268 (.node 266 (.node 265 (.leaf 264 ⟨.func, 1, 8, [.one .nilFunc], false⟩)
 (.leaf 265 ⟨.func, 1, 8, [.one .nilFunc], false⟩))
 (.node 267 (.leaf 266 ⟨.func, 1, 8, [.one .nilFunc], false⟩)
 (.leaf 267 ⟨.func, 1, 8, [.one .nilFunc], false⟩)))
 (.node 270 (.node 269 (.leaf 268 ⟨.func, 1, 8, [.one .nilFunc], false⟩)
 (.leaf 269 ⟨.func, 1, 8, [.one .nilFunc], false⟩))
 (.node 271 (.leaf 270 ⟨.func, 1, 8, [.one .nilFunc], false⟩)
 (.node 272 (.leaf 271 ⟨.func, 1, 8, [.one .nilFunc], false⟩)
 (.leaf 272 ⟨.func, 1, 8, [.one .nilFunc], false⟩)))))))
 (.node 292 (.node 283 (.node 278 (.node 276 (.node 275 (.leaf 274 ⟨.func, 1, 8, [.one .nilFunc], false⟩)
 (.leaf 275 ⟨.func, 1, 8, [.one .nilFunc], false⟩))
 (.node 277 (.leaf 276 ⟨.struct [(0, 9), (1, 9), (2, 167)], 3, 48, [.one (.string ByteArray.empty), .one (.string ByteArray.empty), .one .nilIface], false⟩)
 (.leaf 277 ⟨.struct [(0, 9), (1, 9), (2, 167)], 3, 48, [.one (.string ByteArray.empty), .one (.string ByteArray.empty), .one .nilIface], false⟩)))
 (.node 280 (.node 279 (.leaf 278 ⟨.func, 1, 8, [.one .nilFunc], false⟩)
 (.leaf 279 ⟨.func, 1, 8, [.one .nilFunc], false⟩))
 (.node 281 (.leaf 280 ⟨.func, 1, 8, [.one .nilFunc], false⟩)
 (.node 282 (.leaf 281 ⟨.func, 1, 8, [.one .nilFunc], false⟩)
 (.leaf 282 ⟨.func, 1, 8, [.one .nilFunc], false⟩)))))
 (.node 287 (.node 285 (.node 284 (.leaf 283 ⟨.func, 1, 8, [.one .nilFunc], false⟩)
 (.leaf 284 ⟨.ptr 286, 1, 8, [.one (.pointer none)], false⟩))
 (.node 286 (.leaf 285 ⟨.struct [(0, 9)], 1, 16, [.one (.string ByteArray.empty)], true⟩)
 (.leaf 286 ⟨.struct [(0, 9)], 1, 16, [.one (.string ByteArray.empty)], true⟩)))
 (.node 289 (.node 288 (.leaf 287 ⟨.array 32 5, 32, 32, [.ints .u8 32 (List.replicate 32 0)], true⟩)
 (.leaf 288 ⟨.array 64 5, 64, 64, [.ints .u8 64 (List.replicate 64 0)], true⟩))
 (.node 290 (.leaf 289 ⟨.func, 1, 8, [.one .nilFunc], false⟩)
 (.node 291 (.leaf 290 ⟨.func, 1, 8, [.one .nilFunc], false⟩)
 (.leaf 291 ⟨.func, 1, 8, [.one .nilFunc], false⟩))))))
 (.node 301 (.node 296 (.node 294 (.node 293 (.leaf 292 ⟨.func, 1, 8, [.one .nilFunc], false⟩)
 (.leaf 293 ⟨.func, 1, 8, [.one .nilFunc], false⟩))
 (.node 295 (.leaf 294 ⟨.func, 1, 8, [.one .nilFunc], false⟩)
 (.leaf 295 ⟨.func, 1, 8, [.one .nilFunc], false⟩)))
 (.node 298 (.node 297 (.leaf 296 ⟨.func, 1, 8, [.one .nilFunc], false⟩)
 (.leaf 297 ⟨.func, 1, 8, [.one .nilFunc], false⟩))
 (.node 299 (.leaf 298 ⟨.struct [(0, 17), (1, 17), (2, 17), (3, 9)], 4, 40, [.one (.pointer none), .one (.pointer none), .one (.pointer none), .one (.string ByteArray.empty)], false⟩)
 (.node 300 (.leaf 299 ⟨.struct [(0, 17), (1, 17), (2, 17), (3, 9)], 4, 40, [.one (.pointer none), .one (.pointer none), .one (.pointer none), .one (.string ByteArray.empty)], false⟩)
 (.leaf 300 ⟨.array 0 16, 0, 0, [.vals 0 []], false⟩)))))
 (.node 305 (.node 303 (.node 302 (.leaf 301 ⟨.struct [(0, 300)], 0, 0, [.vals 0 []], false⟩)
 (.leaf 302 ⟨.struct [(0, 300)], 0, 0, [.vals 0 []], false⟩))
 (.node 304 (.leaf 303 ⟨.int .u8, 1, 1, [.one (.int .u8 0)], false⟩)
 (.leaf 304 ⟨.int .u8, 1, 1, [.one (.int .u8 0)], false⟩)))
 (.node 307 (.node 306 (.leaf 305 ⟨.func, 1, 8, [.one .nilFunc], false⟩)
 (.leaf 306 ⟨.int .i32, 1, 4, [.one (.int .i32 0)], false⟩))
 (.node 308 (.leaf 307 ⟨.int .i32, 1, 4, [.one (.int .i32 0)], false⟩)
 (.node 309 (.leaf 308 ⟨.struct [(0, 12), (1, 12), (2, 193), (3, 303), (4, 5), (5, 5), (6, 304), (7, 305), (8, 213), (9, 306), (10, 307)], 11, 48, [.one (.int .u64 0), .one (.int .u64 0), .one (.int .u32 0), .one (.int .u8 0), .one (.int .u8 0), .one (.int .u8 0), .one (.int .u8 0), .one .nilFunc, .one (.pointer none), .one (.int .i32 0), .one (.int .i32 0)], false⟩)
 (.leaf 309 ⟨.struct [(0, 12), (1, 12), (2, 193), (3, 303), (4, 5), (5, 5), (6, 304), (7, 305), (8, 213), (9, 306), (10, 307)], 11, 48, [.one (.int .u64 0), .one (.int .u64 0), .one (.int .u32 0), .one (.int .u8 0), .one (.int .u8 0), .one (.int .u8 0), .one (.int .u8 0), .one .nilFunc, .one (.pointer none), .one (.int .i32 0), .one (.int .i32 0)], false⟩))))))))))
set_option maxHeartbeats 4000000 in
theorem tt_ok : TabOk Tryz.prog tt.get := tabOk (by kernel_rfl) (by kernel_rfl) (by kernel_rfl)
theorem wide : Tryz.prog.follows .mixedOrders = true := by kernel_rfl
end Go.E.YtcionccfgcnhoaaGreatDoor
