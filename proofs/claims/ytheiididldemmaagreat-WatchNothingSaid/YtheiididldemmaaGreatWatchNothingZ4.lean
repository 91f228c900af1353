/-
  E13, E14, E15, E17
-/
import Derived.Test.YtheiididldemmaaGreatWatchNothingZ3
import Derived.ScopeJumps
import Derived.RangeFuncLeaves
import Derived.RangeFuncCalls
import Derived.Great.BuildSlice
import Derived.Deep.AppendSrc
/-
  Code: what is to be shown of it; loops; a function's body; and that this serves.
-/
namespace Go.E

/-- the same value, in two ways of writing it -/
def Alike (x y : SV) : Prop := x = y ∨ (x = .c (.v (.bool true)) ∧ y = .tt) ∨ (x = .c (.v (.bool false)) ∧ y = .ff)
/-- s1 knows less than s: slots are forgotten, blocks of the call's own that came last, memory that is known. -/
def Le (s s1 : St) : Prop := (∀ i, s1.fr i = .any ∨ (Alike (s1.fr i) (s.fr i) ∧ (s.fr i).under s1.L.length)) ∧ (∃ rest, s.L = s1.L ++ rest) ∧ Sub s1.m s.m ∧ s1.x = []

/-- a frame out of what is known of it -/
def frOf : List (Nat × SV) → Nat → SV
  | [], _ => .any
  | (j, x) :: r, i => bif Nat.beq i j then x else frOf r i
def underB (n : Nat) : SV → Bool
  | .p h _ => Nat.blt h n
  | .q h _ _ => Nat.blt h n
  | .sl h _ _ _ _ => Nat.blt h n
  | _ => true
theorem underB_spec {n : Nat} {x : SV} (h : underB n x = true) : x.under n := by
  cases x <;> simp only [underB] at h <;> simp only [SV.under] <;> exact blt_lt.1 h
def allUnder (n : Nat) : List (Nat × SV) → Bool
  | [] => true
  | x :: r => underB n x.2 && allUnder n r

/-! ### is y the wanted x? step by step -/
def addrK : Option Addr → Option Addr → Prop → Prop
  | some ⟨b, o, none⟩, some ⟨b', o', none⟩, K => b = b' ∧ o = o' ∧ K
  | none, none, K => K
  | x, y, K => x = y ∧ K
def valK (y x : Value) (K : Prop) : Prop :=
  match y with
  | .int k a => match x with
    | .int k' b => bif kEq k k' then a = b ∧ K else False
    | _ => False
  | .bool a => match x with
    | .bool b => a = b ∧ K
    | _ => False
  | .string a => match x with
    | .string b => a = b ∧ K
    | _ => False
  | .pointer a => match x with
    | .pointer b => addrK a b K
    | _ => False
  | .slice a n c => match x with
    | .slice a' n' c' => addrK a a' (n = n' ∧ c = c' ∧ K)
    | _ => False
  | .map a => match x with
    | .map b => a = b ∧ K
    | _ => False
  | y => y = x ∧ K
def segK (y x : Seg) (K : Prop) : Prop :=
  match y with
  | .one y => match x with
    | .one x => valK y x K
    | _ => False
  | .ints k n l => match x with
    | .ints k' n' l' => bif kEq k k' && Nat.beq n n' then l = l' ∧ K else False
    | _ => False
  | .vals n l => match x with
    | .vals n' l' => bif Nat.beq n n' then l = l' ∧ K else False
    | _ => False
def lbK : LB → LB → Prop → Prop
  | [], [], K => K
  | y :: r, x :: r', K => segK y x (lbK r r' K)
  | _, _, _ => False
def slotK (y x : SV) (K : Prop) : Prop :=
  match x with
  | .p h o => match y with
    | .p h' o' => bif Nat.beq h' h && Nat.beq o' o then K else False
    | _ => False
  | .q h o d => match y with
    | .q h' o' d' => bif Nat.beq h' h && Nat.beq o' o then d' = d ∧ K else False
    | _ => False
  | .sl h o d n c => match y with
    | .sl h' o' d' n' c' => bif Nat.beq h' h && Nat.beq o' o then d' = d ∧ n' = n ∧ c' = c ∧ K else False
    | _ => False
  | .c (.a c) => match y with
    | .c (.a d) => lbK d c K
    | _ => False
  | .c (.v v) => match y with
    | .c (.v z) => valK z v K
    | .tt => match v with
      | .bool b => true = b ∧ K
      | _ => False
    | .ff => match v with
      | .bool b => false = b ∧ K
      | _ => False
    | _ => False
  | .tt => match y with
    | .tt => K
    | _ => False
  | .ff => match y with
    | .ff => K
    | _ => False
  | .un => match y with
    | .un => K
    | _ => False
  | .t l => match y with
    | .t l' => l' = l ∧ K
    | _ => False
  | .any => K
def slotsK : List (Nat × SV) → (Nat → SV) → Prop → Prop
  | [], _, K => K
  | (j, x) :: r, fr, K => slotK (fr j) x (slotsK r fr K)
def locsK : Loc → Loc → Prop → Prop
  | _, [], K => K
  | (t, c) :: r, (t', c') :: r', K => bif Nat.beq t t' then lbK c c' (locsK r r' K) else False
  | [], _ :: _, _ => False
def LeK (s : St) (fr : List (Nat × SV)) (L : Loc) (m : Mem) : Prop := bif allUnder L.length fr then slotsK fr s.fr (locsK s.L L (Sub m s.m)) else False

theorem addrK_spec {y x : Option Addr} {K : Prop} (h : addrK y x K) : y = x ∧ K := by
  unfold addrK at h
  split at h
  · obtain ⟨rfl, rfl, h⟩ := h; exact ⟨rfl, h⟩
  · exact ⟨rfl, h⟩
  · exact h
theorem valK_spec {y x : Value} {K : Prop} (h : valK y x K) : y = x ∧ K := by
  unfold valK at h
  split at h
  · rename_i k a
    split at h
    · rename_i k' b
      cases hk : kEq k k' with
      | false => simp [hk] at h
      | true => have := kEq_eq hk; subst this; simp only [hk, cond_true] at h; exact ⟨by rw [h.1], h.2⟩
    · exact h.elim
  · split at h
    · exact ⟨by rw [h.1], h.2⟩
    · exact h.elim
  · split at h
    · exact ⟨by rw [h.1], h.2⟩
    · exact h.elim
  · split at h
    · have := addrK_spec h; exact ⟨by rw [this.1], this.2⟩
    · exact h.elim
  · split at h
    · obtain ⟨h1, h2, h3, h4⟩ := addrK_spec h; exact ⟨by rw [h1, h2, h3], h4⟩
    · exact h.elim
  · split at h
    · exact ⟨by rw [h.1], h.2⟩
    · exact h.elim
  · exact h
theorem segK_spec {y x : Seg} {K : Prop} (h : segK y x K) : y = x ∧ K := by
  unfold segK at h
  split at h
  · split at h
    · have := valK_spec h; exact ⟨by rw [this.1], this.2⟩
    · exact h.elim
  · rename_i k n l
    split at h
    · rename_i k' n' l'
      cases hk : (kEq k k' && Nat.beq n n') with
      | false => simp [hk] at h
      | true =>
        simp only [hk, cond_true] at h
        simp only [Bool.and_eq_true] at hk
        have e1 := kEq_eq hk.1; have e2 := Nat.eq_of_beq_eq_true hk.2
        subst e1; subst e2
        exact ⟨by rw [h.1], h.2⟩
    · exact h.elim
  · rename_i n l
    split at h
    · rename_i n' l'
      cases hk : Nat.beq n n' with
      | false => simp [hk] at h
      | true =>
        simp only [hk, cond_true] at h
        have e2 := Nat.eq_of_beq_eq_true hk
        subst e2
        exact ⟨by rw [h.1], h.2⟩
    · exact h.elim
theorem lbK_spec : ∀ {y x : LB} {K : Prop}, lbK y x K → y = x ∧ K
  | [], [], _, h => ⟨rfl, h⟩
  | y :: r, x :: r', K, h => by
    obtain ⟨h1, h2⟩ := segK_spec h
    obtain ⟨h3, h4⟩ := lbK_spec h2
    exact ⟨by rw [h1, h3], h4⟩
  | [], _ :: _, _, h => h.elim
  | _ :: _, [], _, h => h.elim
theorem slotK_spec {y x : SV} {K : Prop} (h : slotK y x K) : (x = .any ∨ Alike x y) ∧ K := by
  unfold slotK at h
  split at h
  · rename_i hh o
    split at h
    · rename_i h' o'
      cases hk : (Nat.beq h' hh && Nat.beq o' o) with
      | false => simp [hk] at h
      | true =>
        simp only [hk, cond_true] at h
        simp only [Bool.and_eq_true] at hk
        have e1 := Nat.eq_of_beq_eq_true hk.1; have e2 := Nat.eq_of_beq_eq_true hk.2
        subst e1; subst e2
        exact ⟨.inr (.inl rfl), h⟩
    · exact h.elim
  · rename_i hh o d
    split at h
    · rename_i h' o' d'
      cases hk : (Nat.beq h' hh && Nat.beq o' o) with
      | false => simp [hk] at h
      | true =>
        simp only [hk, cond_true] at h
        simp only [Bool.and_eq_true] at hk
        have e1 := Nat.eq_of_beq_eq_true hk.1; have e2 := Nat.eq_of_beq_eq_true hk.2
        subst e1; subst e2
        exact ⟨.inr (.inl (by rw [h.1])), h.2⟩
    · exact h.elim
  · rename_i hh o d n c
    split at h
    · rename_i h' o' d' n' c'
      cases hk : (Nat.beq h' hh && Nat.beq o' o) with
      | false => simp [hk] at h
      | true =>
        simp only [hk, cond_true] at h
        simp only [Bool.and_eq_true] at hk
        have e1 := Nat.eq_of_beq_eq_true hk.1; have e2 := Nat.eq_of_beq_eq_true hk.2
        subst e1; subst e2
        obtain ⟨rfl, rfl, rfl, h⟩ := h
        exact ⟨.inr (.inl rfl), h⟩
    · exact h.elim
  · split at h
    · have := lbK_spec h; exact ⟨.inr (.inl (by rw [this.1])), this.2⟩
    · exact h.elim
  · split at h
    · have := valK_spec h; exact ⟨.inr (.inl (by rw [this.1])), this.2⟩
    · split at h
      · exact ⟨.inr (.inr (.inl ⟨by rw [← h.1], rfl⟩)), h.2⟩
      · exact h.elim
    · split at h
      · exact ⟨.inr (.inr (.inr ⟨by rw [← h.1], rfl⟩)), h.2⟩
      · exact h.elim
    · exact h.elim
  · split at h
    · exact ⟨.inr (.inl rfl), h⟩
    · exact h.elim
  · split at h
    · exact ⟨.inr (.inl rfl), h⟩
    · exact h.elim
  · split at h
    · exact ⟨.inr (.inl rfl), h⟩
    · exact h.elim
  · split at h
    · exact ⟨.inr (.inl (by rw [h.1])), h.2⟩
    · exact h.elim
  · exact ⟨.inl rfl, h⟩
theorem Alike.under {x y : SV} (h : Alike x y) {n : Nat} (hu : x.under n) : y.under n := by
  rcases h with rfl | ⟨rfl, rfl⟩ | ⟨rfl, rfl⟩
  · exact hu
  · trivial
  · trivial
theorem slotsK_spec : ∀ {l : List (Nat × SV)} {fr : Nat → SV} {K : Prop} {n : Nat}, slotsK l fr K → allUnder n l = true → (∀ i, frOf l i = .any ∨ (Alike (frOf l i) (fr i) ∧ (fr i).under n)) ∧ K
  | [], _, _, _, h, _ => ⟨fun _ => .inl rfl, h⟩
  | (j, x) :: r, fr, K, n, h, hu => by
    simp only [allUnder, Bool.and_eq_true] at hu
    obtain ⟨h1, h2⟩ := slotK_spec h
    obtain ⟨h3, h4⟩ := slotsK_spec h2 hu.2
    refine ⟨fun i => ?_, h4⟩
    simp only [frOf]
    cases hb : Nat.beq i j with
    | true =>
      have := Nat.eq_of_beq_eq_true hb; subst this
      rcases h1 with h1 | h1
      · exact .inl h1
      · exact .inr ⟨h1, h1.under (underB_spec hu.1)⟩
    | false => exact h3 i
theorem locsK_spec : ∀ {y x : Loc} {K : Prop}, locsK y x K → (∃ rest, y = x ++ rest) ∧ K
  | y, [], _, h => ⟨⟨y, rfl⟩, by simpa [locsK] using h⟩
  | (t, c) :: r, (t', c') :: r', K, h => by
    simp only [locsK] at h
    cases hb : Nat.beq t t' with
    | false => simp [hb] at h
    | true =>
      simp only [hb, cond_true] at h
      have := Nat.eq_of_beq_eq_true hb; subst this
      obtain ⟨rfl, h2⟩ := lbK_spec h
      obtain ⟨⟨rest, h3⟩, h4⟩ := locsK_spec h2
      exact ⟨⟨rest, by rw [h3]; rfl⟩, h4⟩
  | [], _ :: _, _, h => h.elim
theorem LeK.le {s : St} {fr : List (Nat × SV)} {L : Loc} {m : Mem} (h : LeK s fr L m) : Le s ⟨frOf fr, L, m, []⟩ := by
  unfold LeK at h
  cases hb : allUnder L.length fr with
  | false => simp [hb] at h
  | true =>
    simp only [hb, cond_true] at h
    obtain ⟨h1, h2⟩ := slotsK_spec h hb
    obtain ⟨h3, h4⟩ := locsK_spec h2
    exact ⟨h1, h3, h4, rfl⟩

/-- A LOOP: what its head knows, by i; what i must be; a measure that falls. -/
inductive XLoop (X : (Exit → St → Prop) → St → Prop) (Q : Exit → St → Prop) (s : St) : Prop
  | mk {ι : Type} (μ : ι → Nat) (Inv : ι → Prop) (fr : ι → List (Nat × SV)) (L : ι → Loc) (m : ι → Mem) (i0 : ι) (h0 : Inv i0) (hk : LeK s (fr i0) (L i0) (m i0))
    (step : ∀ i, Inv i → X (fun e s' => match e with
      | .normal => ∃ j, Inv j ∧ μ j < μ i ∧ LeK s' (fr j) (L j) (m j)
      | e => Q e s') ⟨frOf (fr i), L i, m i, []⟩)

def setc (s : St) (c : Operand) (x : SV) : St :=
  match c with
  | .tmp t => ⟨putF s.fr (some t) x, s.L, s.m, s.x⟩
  | _ => s

/-- where the run halts, so that what is known may be said anew -/
inductive XAt (X : St → Prop) : St → Prop
  | at {s : St} (h : X s) : XAt X s
  | via {s : St} (fr : List (Nat × SV)) (L : Loc) (m : Mem) (hk : LeK s fr L m) (h : XAt X ⟨frOf fr, L, m, []⟩) : XAt X s

def regX (c : Cfg) (id : Nat) (ops : Array Oper) (draw : Bool) (K : St → Prop) (s : St) : Prop :=
  match draw with
  | false => xops c ops.toList ops.toList K ⟨s.fr, s.L, s.m, []⟩
  | true => bif fresh s ops.toList then xord c ops.toList (c.ord id).ms s (c.ord id).od K ⟨s.fr, s.L, s.m, []⟩ else False
abbrev RF := Operand → Array Tmp → Code → Code → (Exit → St → Prop) → St → Prop
def xwpG (c : Cfg) (sc : Code → (Exit → St → Prop) → St → Prop) (rf : RF) : Code → (Exit → St → Prop) → St → Prop
  | .skip, Q, s => Q .normal s
  | .seq x y, Q, s => xwpG c sc rf x (fun e s' => match e with
    | .normal => xwpG c sc rf y Q s'
    | e => Q e s') s
  | .region id ops draw, Q, s => match c.cut id with
    | false => regX c id ops draw (Q .normal) s
    | true => XAt (regX c id ops draw (Q .normal)) s
  | .cond o x y, Q, s => match ev s o with
    | .tt => xwpG c sc rf x Q s
    | .ff => xwpG c sc rf y Q s
    | .c (.v (.bool b)) => (b = true → xwpG c sc rf x Q (setc s o .tt)) ∧ (b = false → xwpG c sc rf y Q (setc s o .ff))
    | _ => False
  | .block id body, Q, s => xwpG c sc rf body (fun e s' => match e with
    | .exit j => bif Nat.beq j id then Q .normal s' else Q (.exit j) s'
    | e => Q e s') s
  | .exit id, Q, s => Q (.exit id) s
  | .ret, Q, s => Q .ret s
  | .label _, Q, s => Q .normal s
  | .goto l, Q, s => Q (.goto l) s
  | .loop body, Q, s => XLoop (xwpG c sc rf body) Q s
  | .scope body, Q, s => sc body Q s
  | .rangeFunc g ps x y, Q, s => rf g ps x y Q s
  | _, _, _ => False
def QJ (l : Nat) (J : St → Prop) (Q : Exit → St → Prop) : Exit → St → Prop
  | .goto l', s => bif Nat.beq l' l then J s else False
  | e, s => Q e s
/-- A SCOPE with jumps to one label: what is known at each jump, by i; a measure that falls -/
inductive XScope (X : Code → (Exit → St → Prop) → St → Prop) (b : Code) (Q : Exit → St → Prop) (s : St) : Prop
  | mk (l : Nat) (rest : Code) (hf : findLabel b l = some rest) {ι : Type} (μ : ι → Nat) (Inv : ι → Prop) (fr : ι → List (Nat × SV)) (L : ι → Loc) (m : ι → Mem)
    (first : X b (QJ l (fun s' => ∃ j, Inv j ∧ LeK s' (fr j) (L j) (m j)) Q) s)
    (pass : ∀ i, Inv i → X rest (QJ l (fun s' => ∃ j, Inv j ∧ μ j < μ i ∧ LeK s' (fr j) (L j) (m j)) Q) ⟨frOf (fr i), L i, m i, []⟩)
def xwp0 (c : Cfg) : Code → (Exit → St → Prop) → St → Prop := xwpG c (fun _ _ _ => False) (fun _ _ _ _ _ _ => False)
/-- a frame with values in slots -/
def putAll : (Nat → SV) → List Tmp → List CV → (Nat → SV)
  | fr, p :: ps, x :: xs => putAll (putF fr (some p) (.c x)) ps xs
  | fr, _, _ => fr
/-- what a round must come to -/
def asgQ (X : Code → (Exit → St → Prop) → St → Prop) (body : Code) (J : Mem → Prop) : Exit → St → Prop
  | .normal, s => match s.L with
    | [] => X body (fun e s => match e with
      | .normal => J s.m
      | _ => False) ⟨s.fr, [], s.m, []⟩
    | _ :: _ => False
  | _, _ => False
/-- A RANGE OVER A FUNCTION: what memory is known between two rounds, by i; what may come next -/
inductive XRange (P : Program) (X : Code → (Exit → St → Prop) → St → Prop) (g : Operand) (ps : Array Tmp) (asg body : Code) (Q : Exit → St → Prop) (s : St) : Prop
  | mk (gf : FuncId) (captured : Array Value) (hg : ev s g = .c (.v (.func (.func gf) #[] captured))) (hcap : allOne captured.toList = true) (hL : s.L = [])
    {ι : Type} (Inv : ι → Mem → Prop) (i0 : ι) (h0 : Inv i0 s.m) (El : ι → List CV → ι → Prop) (hEl : ∀ i x j, El i x j → x.length = ps.size)
    (round : ∀ i x j m, Inv i m → El i x j → X asg (asgQ X body (Inv j)) ⟨putAll s.fr ps.toList x, [], m, []⟩)
    (Fin : Mem → Prop)
    (iter : ∀ (l : Nat) (o : Obj), s.m l = none → (∀ i x j m, Inv i m → El i x j → m l = none → YSpec P l x (m.set l o) fun r m' => r = [.v (.bool true)] ∧ ∃ m1, Inv j m1 ∧ m1 l = none ∧ m' = m1.set l o) →
      Spec P gf (.v (.func (.yield l) #[] #[]) :: captured.toList.map CV.v) (s.m.set l o) fun r m' => ∃ m1, Fin m1 ∧ m1 l = none ∧ m' = m1.set l o)
    (rest : ∀ m1, Fin m1 → Q .normal ⟨s.fr, [], m1, []⟩)
def xwp (c : Cfg) : Code → (Exit → St → Prop) → St → Prop := xwpG c (XScope (xwp0 c)) (XRange c.P (xwp0 c))

theorem fresh_x {s : St} {x : List Nat} : ∀ {l : List Oper}, fresh ⟨s.fr, s.L, s.m, x⟩ l = fresh s l
  | [] => rfl
  | o :: l => by simp only [fresh, fresh_x (l := l)]
theorem ldOk_x {s : St} {x : List Nat} {ms : List Nat} {i : Nat} {y : SV} : ∀ {l : List (Nat × Ks)}, ldOk ⟨s.fr, s.L, s.m, x⟩ ms i y l = ldOk s ms i y l
  | [] => rfl
  | (_, .but _) :: l => by simp only [ldOk, ldOk_x (l := l)]
  | (_, .all) :: l => by simp only [ldOk, ldOk_x (l := l)]
  | (_, .none) :: l => by simp only [ldOk, ldOk_x (l := l)]
  | (_, .new) :: l => by simp only [ldOk, ldOk_x (l := l)]
theorem xord_x {c : Cfg} {ops : List Oper} {ms : List Nat} {s0 : St} {x : List Nat} : ∀ {t : OT} {K : St → Prop} {s : St}, xord c ops ms ⟨s0.fr, s0.L, s0.m, x⟩ t K s = xord c ops ms s0 t K s
  | .nil, _, _ => rfl
  | .or a b, K, s => by simp only [xord, xord_x (t := a), xord_x (t := b)]
  | .op i k r, K, s => by
    have e1 : kpOf ⟨s0.fr, s0.L, s0.m, x⟩ k = kpOf s0 k := by cases k <;> rfl
    have e2 : ∀ o, loadOk c.T ⟨s0.fr, s0.L, s0.m, x⟩ ms i o s r.els = loadOk c.T s0 ms i o s r.els := by intro o; simp only [loadOk, ldOk_x]
    have e3 : xord c ops ms ⟨s0.fr, s0.L, s0.m, x⟩ r K = xord c ops ms s0 r K := funext fun s => xord_x (t := r)
    simp only [xord, e1, e2, e3]

def dstB (n : Nat) : Option Nat → Bool
  | some d => Nat.blt d n
  | none => true
/-- the slots lie in the frame, the orders serve -/
def codeOk (c : Cfg) (n : Nat) : Code → Bool
  | .seq x y => codeOk c n x && codeOk c n y
  | .region id ops draw => (ops.toList.all (fun o => dstB n o.dst) && ops.toList.all (fun o => notDefer o.op)) && (!draw || ordOk c.T ops (c.ord id))
  | .cond _ x y => codeOk c n x && codeOk c n y
  | .block _ b => codeOk c n b
  | .loop b => codeOk c n b
  | .scope b => codeOk c n b
  | .rangeFunc _ ps x y => codeOk c n x && codeOk c n y && ps.toList.all (fun p => Nat.blt p n)
  | _ => true

section
variable {c : Cfg} {nt : Nat} {D : List Deferred} {m0 : Mem} {W0 : World} {ρ : List Nat} {s : St} {a : Act} {W : World}

theorem conc_take {x : SV} {k : Nat} (h : x.under k) : conc (ρ.take k) x = conc ρ x := by
  have hg : ∀ i, i < k → (ρ.take k).getD i 0 = ρ.getD i 0 := fun i hi => by
    simp only [List.getD_eq_getElem?_getD, List.getElem?_take, hi, if_true]
  cases x <;> simp only [SV.under] at h <;> simp only [conc] <;> try rw [hg _ h]

theorem Rel.le (hr : Rel nt D m0 W0 ρ s a W) {s1 : St} (h : Le s s1) : Rel nt D m0 W0 (ρ.take s1.L.length) s1 a W := by
  obtain ⟨h1, ⟨rest, h2⟩, h3, h4⟩ := h
  have hlen : s1.L.length ≤ ρ.length := by rw [hr.len, h2]; simp
  have htl : (ρ.take s1.L.length).length = s1.L.length := by rw [List.length_take]; omega
  refine ⟨hr.defers, hr.size, fun i => ?_, htl, ?_, ?_, hr.after.forget h3, by rw [h4]; simp⟩
  · rcases h1 i with h | ⟨h, hu⟩
    · exact .inl h
    · rcases hr.slots i with g | ⟨g1, g2, g3⟩
      · rcases h with h | ⟨_, h⟩ | ⟨_, h⟩
        · exact .inl (h.trans g)
        · rw [g] at h; cases h
        · rw [g] at h; cases h
      · refine .inr ?_
        rcases h with h | ⟨h, h'⟩ | ⟨h, h'⟩
        · rw [h, conc_take hu, htl]
          exact ⟨g1, g2, hu⟩
        · rw [h, g1, h']; exact ⟨rfl, rfl, trivial⟩
        · rw [h, g1, h']; exact ⟨rfl, rfl, trivial⟩
  · intro i t cc hi
    have hlt : i < s1.L.length := (List.getElem?_eq_some_iff.1 hi).1
    have hg : (ρ.take s1.L.length).getD i 0 = ρ.getD i 0 := by simp only [List.getD_eq_getElem?_getD, List.getElem?_take, hlt, if_true]
    rw [hg]
    obtain ⟨k1, k2, k3, k4⟩ := hr.locs i t cc (by rw [h2, List.getElem?_append_left hlt]; exact hi)
    refine ⟨k1, k2, ?_, k4⟩
    cases hx : s1.m (ρ.getD i 0) with
    | none => rfl
    | some o => have := h3 _ _ hx; rw [k3] at this; cases this
  · exact hr.nodup.sublist (List.take_sublist _ _)

theorem XAt.use {X : St → Prop} {s : St} (h : XAt X s) : ∀ {ρ : List Nat}, Rel nt D m0 W0 ρ s a W → ∃ s' ρ', X s' ∧ Rel nt D m0 W0 ρ' s' a W := by
  induction h with
  | «at» h => exact fun hr => ⟨_, _, h, hr⟩
  | via fr L m hk _ ih => exact fun hr => ih (hr.le hk.le)
theorem After.putOut {m : Mem} (h : After m0 W0 m W) {b : Nat} (hm : m b = none) (hb : W0.heap.size ≤ b) (o : Obj) : After m0 W0 m (W.putObj b o) := by
  refine ⟨fun x u hx => ?_, by simp; exact h.size, h.tape, h.os, h.output, fun x hx hn => ?_, h.drawn⟩
  · have e : x ≠ b := fun e => by subst e; rw [hm] at hx; cases hx
    rw [World.putObj_heap_other e]; exact h.over x u hx
  · have e : x ≠ b := by omega
    rw [World.putObj_heap_other e]; exact h.frame x hx hn
theorem Rel.putOut (hr : Rel nt D m0 W0 ρ s a W) {b : Nat} (hm : s.m b = none) (hb : W0.heap.size ≤ b) (hρ : b ∉ ρ) (o : Obj) : Rel nt D m0 W0 ρ s a (W.putObj b o) := by
  refine ⟨hr.defers, hr.size, hr.slots, hr.len, fun h t cc hh => ?_, hr.nodup, hr.after.putOut hm hb o, hr.seen⟩
  obtain ⟨k1, k2, k3, k4⟩ := hr.locs h t cc hh
  have hlt : h < ρ.length := by rw [hr.len]; exact (List.getElem?_eq_some_iff.1 hh).1
  have hne : ρ.getD h 0 ≠ b := fun e => hρ (e ▸ getD_mem hlt)
  exact ⟨by rw [World.putObj_heap_other hne]; exact k1, k2, k3, k4⟩
theorem Rel.base {m1 : Mem} {W1 : World} (hA : After m0 W0 m1 W1) (hr : Rel nt D m1 W1 ρ s a W) : Rel nt D m0 W0 ρ s a W :=
  ⟨hr.defers, hr.size, hr.slots, hr.len, fun h t cc hh => by
    obtain ⟨k1, k2, k3, k4⟩ := hr.locs h t cc hh
    exact ⟨k1, k2, k3, Nat.le_trans hA.size k4⟩, hr.nodup, hA.trans hr.after, hr.seen⟩
/-- the marks are taken, one by one -/
theorem leaves_of {P : Program} {fn : Func} {tmps : Array Value} {R : Ending → World → Prop} {Good : World → Prop} {Ok : Nat → Prop} (hput : ∀ w r, Ok r → Good w → Good (w.putObj r (.deferred none))) (hend : ∀ w, Good w → ∃ v, (results fn tmps).run P w = .ok v w ∧ R (.returned v) w) :
    ∀ (D : List Deferred) (w : World), (∀ d ∈ D, ∃ r, d = { target := .collected r, args := #[] } ∧ w.heap[r]? = some (.deferred (some [])) ∧ Ok r) → D.Pairwise (· ≠ ·) → Good w → LeavesInM Fence.wide 0 P fn tmps R D .returning w
  | [], w, _, _, hg => hend w hg
  | d :: D, w, h, hp, hg => by
    obtain ⟨r, rfl, hr, hok⟩ := h d (by simp)
    rw [List.pairwise_cons] at hp
    refine ⟨by simp, .inl ⟨r, _, rfl, run_takeDeferred hr, leaves_of hput hend D _ (fun d' hd' => ?_) hp.2 (hput w r hok hg)⟩⟩
    obtain ⟨r', rfl, hr', hok'⟩ := h d' (by simp [hd'])
    have hne : r' ≠ r := fun e => hp.1 _ hd' (by rw [e])
    exact ⟨r', rfl, by rw [World.putObj_heap_other hne]; exact hr', hok'⟩
/-- marks of loops over functions that were gone through -/
structure Marks (m1 : Mem) (W0 W1 : World) (D : List Deferred) : Prop where
  each : ∀ d ∈ D, ∃ r, d = { target := .collected r, args := #[] } ∧ W1.heap[r]? = some (.deferred (some [])) ∧ m1 r = none ∧ W0.heap.size ≤ r
  apart : D.Pairwise (· ≠ ·)
theorem Marks.nil (m1 : Mem) (W0 W1 : World) : Marks m1 W0 W1 [] := ⟨by simp, List.Pairwise.nil⟩
abbrev Wrap := List Deferred → Mem → World → Prop
/-- how a symbolic state stands to a frame and a world, behind whatever loops over functions -/
def RelM (nt : Nat) (Wr : Wrap) (ρ : List Nat) (s : St) (a : Act) (W : World) : Prop :=
  ∃ D m1 W1, Wr D m1 W1 ∧ Rel nt D m1 W1 ρ s a W
/-- a call's own beginning, and what was gone through since -/
def Base (m0 : Mem) (W0 : World) : Wrap := fun D m1 W1 => After m0 W0 m1 W1 ∧ Marks m1 W0 W1 D
/-- a beginning, and no loop over a function since -/
def Here (D : List Deferred) (m0 : Mem) (W0 : World) : Wrap := fun D' m1 W1 => D' = D ∧ m1 = m0 ∧ W1 = W0
section
variable {Wr : Wrap}
theorem RelM.le (h : RelM nt Wr ρ s a W) {s1 : St} (k : Le s s1) : RelM nt Wr (ρ.take s1.L.length) s1 a W := by
  obtain ⟨D, m1, W1, hA, hr⟩ := h
  exact ⟨D, m1, W1, hA, hr.le k⟩
/-- what is known of where code leads, as a post of the model's -/
def QPost (nt : Nat) (Wr : Wrap) (Q : Exit → St → Prop) : Exit → Act → World → Prop := fun e a W => (∀ ch, e ≠ .panic ch) ∧ ∃ s ρ, Q e s ∧ RelM nt Wr ρ s a W

theorem Rel.setc (hr : Rel nt D m0 W0 ρ s a W) {o : Operand} {b : Bool} (h : ev s o = .c (.v (.bool b))) : Rel nt D m0 W0 ρ (setc s o (if b then .tt else .ff)) a W := by
  cases o with
  | tmp t => exact hr.decide h
  | _ => exact hr

theorem wpIn_loop_n {F : Fence} {n0 : Nat} {P : Program} {Q : Exit → Act → World → Prop} {c : Code} (I : Nat → Act → World → Prop) {n : Nat} (h0 : I n a W)
    (round : ∀ n a W, I n a W → c.wpIn F n0 P (Exit.then (fun a' W' => ∃ k, k < n ∧ I k a' W') Q) a W) : (Code.loop c).wpIn F n0 P Q a W := by
  intro b k cs hro hb hr
  have key : ∀ n a w, I n a w → ∃ e a' w', Q e a' w' ∧ ArrivesIn (Machine.fenced P F) P (lone (b.atR a (.code c :: .inLoop c :: k)) cs w) b k cs e a' w' := by
    intro n
    induction n using Nat.strongRecOn with
    | _ n ih =>
      intro a w hI
      obtain ⟨e, a₁, w₁, hq, harr⟩ := round n a w hI b (.inLoop c :: k) cs hro hb hr
      cases e with
      | normal =>
        obtain ⟨n', hlt, hI₁⟩ := hq
        obtain ⟨e₂, a₂, w₂, hq₂, harr₂⟩ := ih n' hlt a₁ w₁ hI₁
        exact ⟨e₂, a₂, w₂, hq₂, .of_steps (StepsIn.trans harr (.one (fenced_calm hb hr rfl) stepR_inLoop)) harr₂⟩
      | exit id => exact ⟨_, a₁, w₁, hq, .pass (x := .inLoop c) rfl (fun _ _ => .inl (by simp)) harr⟩
      | goto l => exact ⟨_, a₁, w₁, hq, .pass (x := .inLoop c) rfl (fun _ _ => .inl (by simp)) harr⟩
      | ret => exact ⟨_, a₁, w₁, hq, .pass (x := .inLoop c) rfl (fun _ _ => .inl (by simp)) harr⟩
      | panic ch => exact ⟨_, a₁, w₁, hq, .pass (x := .inLoop c) rfl (fun _ _ => .inl (by simp)) harr⟩
      | outgrown => exact ⟨_, a₁, w₁, hq, .pass (x := .inLoop c) rfl (fun _ _ => .inl (by simp)) harr⟩
  obtain ⟨e, a', w', hq, harr⟩ := key n a W h0
  exact ⟨e, a', w', hq, .of_steps (.one (fenced_calm hb hr rfl) stepR_loop) harr⟩

theorem dst_of {n : Nat} {ops : Array Oper} (h : ops.toList.all (fun o => dstB n o.dst) = true) : ∀ o ∈ ops.toList, dstIn o.dst n := by
  intro o ho i hi
  have := List.all_eq_true.1 h o ho
  rw [hi] at this
  exact blt_lt.1 this

theorem xwpG_spec {F : Fence} (hF : FOk F) (hT : TabOk c.P c.T) (hm : c.P.follows .mixedOrders = true) {sc : Code → (Exit → St → Prop) → St → Prop} {rf : RF}
    (hsc : ∀ b, codeOk c nt b = true → ∀ (Q : Exit → St → Prop) (s : St) (ρ : List Nat) (a : Act) (W : World), sc b Q s → RelM nt Wr ρ s a W → (Code.scope b).wpIn F 0 c.P (QPost nt Wr Q) a W)
    (hrf : ∀ g ps x y, codeOk c nt (.rangeFunc g ps x y) = true → ∀ (Q : Exit → St → Prop) (s : St) (ρ : List Nat) (a : Act) (W : World), rf g ps x y Q s → RelM nt Wr ρ s a W → (Code.rangeFunc g ps x y).wpIn F 0 c.P (QPost nt Wr Q) a W) :
    ∀ (code : Code), codeOk c nt code = true → ∀ (Q : Exit → St → Prop) (s : St) (ρ : List Nat) (a : Act) (W : World), xwpG c sc rf code Q s → RelM nt Wr ρ s a W → code.wpIn F 0 c.P (QPost nt Wr Q) a W := by
  intro code
  induction code with
  | skip => intro _ Q s ρ a W h hr; exact wpIn_skip ⟨by simp, s, ρ, h, hr⟩
  | label l => intro _ Q s ρ a W h hr; exact wpIn_label ⟨by simp, s, ρ, h, hr⟩
  | exit id => intro _ Q s ρ a W h hr; exact wpIn_exit ⟨by simp, s, ρ, h, hr⟩
  | goto l => intro _ Q s ρ a W h hr; exact wpIn_goto ⟨by simp, s, ρ, h, hr⟩
  | ret => intro _ Q s ρ a W h hr; exact wpIn_ret ⟨by simp, s, ρ, h, hr⟩
  | refuse why => intro _ Q s ρ a W h hr; exact h.elim
  | rangeFunc f ps x y _ _ => intro hok Q s ρ a W h hr; exact hrf f ps x y hok Q s ρ a W h hr
  | scope b _ => intro hok Q s ρ a W h hr; exact hsc b hok Q s ρ a W h hr
  | seq x y ihx ihy =>
    intro hok Q s ρ a W h hr
    simp only [codeOk, Bool.and_eq_true] at hok
    refine wpIn_seq (wpIn_mono (ihx hok.1 _ s ρ a W h hr) fun e a' W' hq => ?_)
    obtain ⟨hnp, s', ρ', hk, hr'⟩ := hq
    cases e with
    | normal => exact ihy hok.2 Q s' ρ' a' W' hk hr'
    | _ => exact ⟨hnp, s', ρ', hk, hr'⟩
  | block id b ih =>
    intro hok Q s ρ a W h hr
    refine wpIn_block (wpIn_mono (ih hok _ s ρ a W h hr) fun e a' W' hq => ?_)
    obtain ⟨hnp, s', ρ', hk, hr'⟩ := hq
    cases e with
    | exit j =>
      simp only [Exit.inBlock]
      cases hb : Nat.beq j id with
      | true =>
        rw [if_pos (Nat.eq_of_beq_eq_true hb)]
        simp only [hb, cond_true] at hk
        exact ⟨by simp, s', ρ', hk, hr'⟩
      | false =>
        have hne : j ≠ id := fun e => by subst e; rw [Nat.beq_refl] at hb; cases hb
        rw [if_neg hne]
        simp only [hb, cond_false] at hk
        exact ⟨by simp, s', ρ', hk, hr'⟩
    | _ => exact ⟨hnp, s', ρ', hk, hr'⟩
  | cond o x y ihx ihy =>
    intro hok Q s ρ a W h hM
    simp only [codeOk, Bool.and_eq_true] at hok
    simp only [xwpG] at h
    obtain ⟨D, m1, W1, hA, hr⟩ := hM
    have hf := hr.fits o
    split at h
    · rename_i e
      rw [e] at hf
      exact wpIn_cond_true (hf.eq (by simp)) (ihx hok.1 Q s ρ a W h ⟨D, m1, W1, hA, hr⟩)
    · rename_i e
      rw [e] at hf
      exact wpIn_cond_false (hf.eq (by simp)) (ihy hok.2 Q s ρ a W h ⟨D, m1, W1, hA, hr⟩)
    · rename_i b e
      rw [e] at hf
      have hs := hr.setc e
      cases b with
      | true => exact wpIn_cond_true (hf.eq (by simp)) (ihx hok.1 Q _ ρ a W (h.1 rfl) ⟨D, m1, W1, hA, hs⟩)
      | false => exact wpIn_cond_false (hf.eq (by simp)) (ihy hok.2 Q _ ρ a W (h.2 rfl) ⟨D, m1, W1, hA, hs⟩)
    · exact h.elim
  | region id ops draw =>
    intro hok Q s ρ a W h hM
    simp only [codeOk, Bool.and_eq_true] at hok
    obtain ⟨D, m1, W1, hA, hr⟩ := hM
    have hnd : ∀ o ∈ ops.toList, notDefer o.op = true := fun o ho => List.all_eq_true.1 hok.1.2 o ho
    have post : ∀ e a' W', QN nt D m1 W1 (Q .normal) e a' W' → QPost nt Wr Q e a' W' := by
      intro e a' W' hq
      cases e with
      | normal =>
        obtain ⟨s', ρ', hk, hr'⟩ := hq
        exact ⟨by simp, s', ρ', hk, D, m1, W1, hA, hr'⟩
      | _ => exact hq.elim
    have key : ∀ (s : St) (ρ : List Nat), regX c id ops draw (Q .normal) s → Rel nt D m1 W1 ρ s a W → (Code.region id ops draw).wpIn F 0 c.P (QPost nt Wr Q) a W := by
      intro s ρ h hr
      unfold regX at h
      cases draw with
      | false => exact wpIn_mono (region_plain hT hF (dst_of hok.1.1) hnd hr.clear h) post
      | true =>
        simp only at h
        cases hfr : fresh s ops.toList with
        | false => simp [hfr] at h
        | true =>
          simp only [hfr, cond_true] at h
          exact wpIn_mono (region_drawn hF (s := ⟨s.fr, s.L, s.m, []⟩) hT hm (dst_of hok.1.1) hnd (c.ord id) (by simpa using hok.2) (fresh_x ▸ hfr) hr.clear (xord_x ▸ h)) post
    simp only [xwpG] at h
    cases hc : c.cut id with
    | false => simp only [hc] at h; exact key s ρ h hr
    | true =>
      simp only [hc] at h
      obtain ⟨s', ρ', h', hr'⟩ := h.use hr
      exact key s' ρ' h' hr'
  | loop b ih =>
    intro hok Q s ρ a W h hr
    obtain ⟨μ, Inv, fr, L, m, i0, h0, hle, hround⟩ := h
    refine wpIn_loop_n (fun n a W => ∃ i ρ, Inv i ∧ μ i = n ∧ RelM nt Wr ρ ⟨frOf (fr i), L i, m i, []⟩ a W) (n := μ i0) ⟨i0, _, h0, rfl, hr.le hle.le⟩ ?_
    rintro n a W ⟨i, ρ, hi, rfl, hr⟩
    refine wpIn_mono (ih hok _ _ ρ a W (hround i hi) hr) fun e a' W' hq => ?_
    obtain ⟨hnp, s', ρ', hk, hr'⟩ := hq
    cases e with
    | normal =>
      obtain ⟨j, hj, hlt, hle⟩ := hk
      exact ⟨μ j, hlt, j, _, hj, rfl, hr'.le hle.le⟩
    | _ => exact ⟨hnp, s', ρ', hk, hr'⟩
theorem codeOk_label {l : Nat} : ∀ {b rest : Code}, codeOk c nt b = true → findLabel b l = some rest → codeOk c nt rest = true := by
  intro b
  induction b with
  | seq x y ihx ihy =>
    intro rest h hf
    simp only [codeOk, Bool.and_eq_true] at h
    simp only [findLabel] at hf
    cases hx : findLabel x l with
    | some r => rw [hx] at hf; cases hf; simp only [codeOk, Bool.and_eq_true]; exact ⟨ihx h.1 hx, h.2⟩
    | none => rw [hx] at hf; exact ihy h.2 hf
  | label l' => intro rest h hf; simp only [findLabel] at hf; split at hf <;> cases hf; rfl
  | _ => intro rest h hf; simp [findLabel] at hf
theorem wp_scope_n {P : Program} {Q : Exit → Act → World → Prop} {b rest : Code} (l : Nat) (J : Nat → Act → World → Prop) (hf : findLabel b l = some rest)
    (first : b.wp P (Exit.jump l (fun a' W' => ∃ k, J k a' W') Q) a W)
    (pass : ∀ n a W, J n a W → rest.wp P (Exit.jump l (fun a' W' => ∃ k, k < n ∧ J k a' W') Q) a W) : (Code.scope b).wp P Q a W := by
  intro f k cs
  have hg : gotoIn l (.inScope b :: k) = some (.code rest :: .inScope b :: k) := by simp [gotoIn, hf]
  have key : ∀ n a W, J n a W → ∃ e a' W', Q e a' W' ∧ Arrives P (lone (f.at a (.code rest :: .inScope b :: k)) cs W) f k cs e a' W' := by
    intro n
    induction n using Nat.strongRecOn with
    | _ n ih =>
      intro a W hJ
      obtain ⟨e, a₁, w₁, hq, harr⟩ := pass n a W hJ f (.inScope b :: k) cs
      cases e with
      | normal => exact ⟨.normal, a₁, w₁, hq, Steps.trans harr (.one step_inScope)⟩
      | exit id => exact ⟨.exit id, a₁, w₁, hq, fun k' hk => harr k' (by simp [exitTo, hk])⟩
      | goto l' =>
        obtain ⟨rfl, n', hlt, hJ'⟩ := hq
        obtain ⟨e₂, a₂, w₂, hq₂, harr₂⟩ := ih n' hlt a₁ w₁ hJ'
        exact ⟨e₂, a₂, w₂, hq₂, .of_steps (harr _ hg) harr₂⟩
      | ret => exact ⟨_, a₁, w₁, hq, harr⟩
      | panic ch => exact ⟨_, a₁, w₁, hq, harr⟩
      | outgrown => exact ⟨_, a₁, w₁, hq, harr⟩
  obtain ⟨e, a₁, w₁, hq, harr⟩ := first f (.inScope b :: k) cs
  cases e with
  | normal => exact ⟨.normal, a₁, w₁, hq, .head step_scope (Steps.trans harr (.one step_inScope))⟩
  | exit id => exact ⟨.exit id, a₁, w₁, hq, fun k' hk => .head step_scope (harr k' (by simp [exitTo, hk]))⟩
  | goto l' =>
    obtain ⟨rfl, n', hJ'⟩ := hq
    obtain ⟨e₂, a₂, w₂, hq₂, harr₂⟩ := key n' a₁ w₁ hJ'
    exact ⟨e₂, a₂, w₂, hq₂, .of_steps (.head step_scope (harr _ hg)) harr₂⟩
  | ret => exact ⟨_, a₁, w₁, hq, .of_steps (.one step_scope) harr⟩
  | panic ch => exact ⟨_, a₁, w₁, hq, .of_steps (.one step_scope) harr⟩
  | outgrown => exact ⟨_, a₁, w₁, hq, .of_steps (.one step_scope) harr⟩
theorem xwp0_spec {F : Fence} (hF : FOk F) (hT : TabOk c.P c.T) (hm : c.P.follows .mixedOrders = true) : ∀ (code : Code), codeOk c nt code = true → ∀ (Q : Exit → St → Prop) (s : St) (ρ : List Nat) (a : Act) (W : World), xwp0 c code Q s → RelM nt Wr ρ s a W → code.wpIn F 0 c.P (QPost nt Wr Q) a W :=
  xwpG_spec hF hT hm (fun _ _ _ _ _ _ _ h _ => h.elim) (fun _ _ _ _ _ _ _ _ _ _ h _ => h.elim)
theorem QPost.jump {l : Nat} {J : St → Prop} {Q : Exit → St → Prop} {J' : Act → World → Prop} (hJ : ∀ s ρ a W, J s → RelM nt Wr ρ s a W → J' a W) : ∀ e a W, QPost nt Wr (QJ l J Q) e a W → Exit.jump l J' (QPost nt Wr Q) e a W := by
  rintro e a W ⟨hnp, s, ρ, hk, hr⟩
  cases e with
  | goto l' =>
    simp only [QJ] at hk
    cases hb : Nat.beq l' l with
    | true => simp only [hb, cond_true] at hk; exact ⟨Nat.eq_of_beq_eq_true hb, hJ s ρ a W hk hr⟩
    | false => simp [hb] at hk
  | _ => exact ⟨hnp, s, ρ, hk, hr⟩
theorem scope_spec (hT : TabOk c.P c.T) (hm : c.P.follows .mixedOrders = true) : ∀ b, codeOk c nt b = true → ∀ (Q : Exit → St → Prop) (s : St) (ρ : List Nat) (a : Act) (W : World), XScope (xwp0 c) b Q s → RelM nt Wr ρ s a W → (Code.scope b).wpIn Fence.wide 0 c.P (QPost nt Wr Q) a W := by
  intro b hok Q s ρ a W h hr
  obtain ⟨l, rest, hf, μ, Inv, fr, L, m, first, pass⟩ := h
  refine wpIn_wide.2 (wp_scope_n l (fun n a W => ∃ i ρ, Inv i ∧ μ i = n ∧ RelM nt Wr ρ ⟨frOf (fr i), L i, m i, []⟩ a W) hf ?_ ?_)
  · refine wp_mono (wpIn_wide.1 (xwp0_spec (.inl rfl) hT hm b hok _ s ρ a W first hr)) (QPost.jump ?_)
    rintro s ρ a W ⟨j, hj, hk⟩ hr
    exact ⟨μ j, j, _, hj, rfl, hr.le hk.le⟩
  · rintro n a W ⟨i, ρ, hi, rfl, hr⟩
    refine wp_mono (wpIn_wide.1 (xwp0_spec (.inl rfl) hT hm rest (codeOk_label hok hf) _ _ ρ a W (pass i hi) hr)) (QPost.jump ?_)
    rintro s ρ a W ⟨j, hj, hlt, hk⟩ hr
    exact ⟨μ j, hlt, j, _, hj, rfl, hr.le hk.le⟩
end
theorem putAll_at (fr : Nat → SV) : ∀ (ps : List Tmp) (xs : List CV) (i : Nat), putAll fr ps xs i = .any ∨ (∃ x ∈ xs, putAll fr ps xs i = .c x) ∨ putAll fr ps xs i = fr i := by
  intro ps
  induction ps generalizing fr with
  | nil => intro xs i; exact .inr (.inr (by cases xs <;> rfl))
  | cons p ps ih =>
    intro xs i
    cases xs with
    | nil => exact .inr (.inr rfl)
    | cons x xs =>
      rcases ih (putF fr (some p) (.c x)) xs i with h | ⟨y, hy, h⟩ | h
      · exact .inl h
      · exact .inr (.inl ⟨y, by simp [hy], h⟩)
      · simp only [putAll]
        rw [h, putF_at]
        split
        · exact .inr (.inl ⟨x, by simp, rfl⟩)
        · exact .inr (.inr rfl)
/-- a round's frame -/
theorem Rel.round {ps : Array Tmp} {x : List CV} (hr : Rel nt D m0 W0 [] s a W) (hps : ∀ p ∈ ps.toList, p < nt) (hx : ∀ v ∈ x, v.ok) {m : Mem} {w : World} (hw : Over m w) :
    Rel nt [] m w [] ⟨putAll s.fr ps.toList x, [], m, []⟩ { tmps := (ps.zip (x.map CV.val).toArray).foldl (fun t (p, v) => t.setIfInBounds p v) a.tmps, defers := [] } w := by
  have key : ∀ (l : List Tmp) (x : List CV) (fr : Nat → SV) (t : Array Value), (∀ p ∈ l, p < nt) → (∀ v ∈ x, v.ok) → t.size = nt → (∀ i, fr i = .any ∨ (t[i]? = some (conc [] (fr i)) ∧ (fr i).ok ∧ (fr i).under 0)) →
      ((l.zip (x.map CV.val)).foldl (fun t (q : Tmp × Value) => t.setIfInBounds q.1 q.2) t).size = nt ∧ ∀ i, putAll fr l x i = .any ∨ (((l.zip (x.map CV.val)).foldl (fun t (q : Tmp × Value) => t.setIfInBounds q.1 q.2) t)[i]? = some (conc [] (putAll fr l x i)) ∧ (putAll fr l x i).ok ∧ (putAll fr l x i).under 0) := by
    intro l
    induction l with
    | nil => intro x fr t _ _ ht h; cases x <;> exact ⟨ht, h⟩
    | cons p l ih =>
      intro x fr t hp hx ht h
      cases x with
      | nil => exact ⟨ht, h⟩
      | cons v x =>
        refine ih x (putF fr (some p) (.c v)) (t.setIfInBounds p v.val) (fun q hq => hp q (by simp [hq])) (fun q hq => hx q (by simp [hq])) (by simpa using ht) fun i => ?_
        rw [putF_at]
        by_cases e : some p = some i
        · simp only [Option.some.injEq] at e
          subst e
          rw [if_pos rfl]
          have hpn : p < t.size := ht ▸ hp p (by simp)
          exact .inr ⟨by rw [Array.getElem?_setIfInBounds_self_of_lt hpn]; rfl, hx v (by simp), trivial⟩
        · rw [if_neg e]
          simp only [Option.some.injEq] at e
          rcases h i with h' | ⟨h1, h2⟩
          · exact .inl h'
          · exact .inr ⟨by rw [Array.getElem?_setIfInBounds_ne e]; exact h1, h2⟩
  have hz : (ps.zip (x.map CV.val).toArray).foldl (fun t (p, v) => t.setIfInBounds p v) a.tmps = (ps.toList.zip (x.map CV.val)).foldl (fun t (q : Tmp × Value) => t.setIfInBounds q.1 q.2) a.tmps := by
    rw [← Array.foldl_toList]; simp
  obtain ⟨k1, k2⟩ := key ps.toList x s.fr a.tmps hps hx hr.size (fun i => by
    rcases hr.slots i with h | ⟨h1, h2, h3⟩
    · exact .inl h
    · exact .inr ⟨h1, h2, h3⟩)
  rw [← hz] at k1 k2
  exact ⟨rfl, k1, k2, rfl, by simp, by simp, After.refl hw, by simp⟩
theorem ready_eq {r : Loop} (h1 : r.state = .ready) (h2 : r.pending = none) : ({ { r with state := .busy } with state := .ready, pending := none } : Loop) = r := by
  cases r; simp at h1 h2; subst h1; subst h2; rfl
theorem range_spec (hT : TabOk c.P c.T) (hm : c.P.follows .mixedOrders = true) : ∀ g ps x y, codeOk c nt (.rangeFunc g ps x y) = true → ∀ (Q : Exit → St → Prop) (s : St) (ρ : List Nat) (a : Act) (W : World), XRange c.P (xwp0 c) g ps x y Q s → RelM nt (Base m0 W0) ρ s a W → (Code.rangeFunc g ps x y).wpIn Fence.wide 0 c.P (QPost nt (Base m0 W0) Q) a W := by
  intro g ps asg body hok Q s ρ a W h hM
  obtain ⟨gf, captured, hg, hcap, hL, Inv, i0, h0, El, hEl, round, Fin, iter, rest⟩ := h
  obtain ⟨D, m1, W1, ⟨hA, hMk⟩, hr⟩ := hM
  simp only [codeOk, Bool.and_eq_true] at hok
  obtain ⟨⟨hok1, hok2⟩, hok3⟩ := hok
  have hps : ∀ p ∈ ps.toList, p < nt := fun p hp => blt_lt.1 (List.all_eq_true.1 hok3 p hp)
  have hρ : ρ = [] := by
    have := hr.len
    rw [hL] at this
    exact List.length_eq_zero_iff.1 this
  subst hρ
  have hgf := hr.fits g
  rw [hg] at hgf
  have hgv := hgf.eq (by simp)
  simp only [conc, CV.val] at hgv
  have hT0 : After m0 W0 s.m W := hA.trans hr.after
  have hover := hT0.over
  refine wpIn_rangeFunc fun fn _ => ?_
  let rc : Loop := { state := .ready, pending := none, fn := fn, tmps := a.tmps, params := ps, assign := asg, body := body, defers := W.heap.size }
  let Wd := W.alloc (.deferred (some []))
  let W' := Wd.alloc (.loop rc)
  have hl1 : W.heap.size + 1 = Wd.heap.size := by simp [Wd]
  have hsl : s.m (W.heap.size + 1) = none := hover.none (by omega)
  have hsd : s.m W.heap.size = none := hover.none (Nat.le_refl _)
  -- one round
  have hY : ∀ i x j m, Inv i m → El i x j → m (W.heap.size + 1) = none → YSpec c.P (W.heap.size + 1) x (m.set (W.heap.size + 1) (.loop rc)) fun r m' => r = [.v (.bool true)] ∧ ∃ m1, Inv j m1 ∧ m1 (W.heap.size + 1) = none ∧ m' = m1.set (W.heap.size + 1) (.loop rc) := by
    intro i x j m hi hx hml hxok w hw
    have hwl : w.heap[W.heap.size + 1]? = some (.loop rc) := hw _ _ (Mem.set_same ..)
    have hwm : Over m w := hw.sub (Mem.sub_set _ hml)
    refine ⟨_, _, _, _, run_yield hwl (by simp [rc, hEl i x j hx]), roundIn_of_wpIn trivial ?_⟩
    have hrr := hr.round (x := x) hps hxok hwm
    refine wpIn_mono (xwp0_spec (Wr := Here [] m w) (.inr ⟨_, rfl⟩) hT hm asg hok1 _ _ _ _ _ (round i x j m hi hx) ⟨[], m, w, ⟨rfl, rfl, rfl⟩, hrr⟩) fun e a1 w1 hq => ?_
    obtain ⟨hnp, s1, ρ1, hk, D1, mm, ww, ⟨e1, e2, e3⟩, hr1⟩ := hq
    subst D1 mm ww
    cases e <;> first | exact hk.elim | skip
    simp only [asgQ] at hk
    split at hk
    rotate_left
    · exact hk.elim
    rename_i hL1
    have hAf := hr1.after
    have hlt : W.heap.size + 1 < w.heap.size := (Array.getElem?_eq_some_iff.1 hwl).1
    obtain ⟨f1, f2⟩ := hAf.frame _ hlt hml
    have hw1l := f2.trans hwl
    refine ⟨_, run_beginRound hw1l rfl, ?_⟩
    have hρ1 : ρ1 = [] := by
      have := hr1.len
      rw [hL1] at this
      exact List.length_eq_zero_iff.1 this
    subst hρ1
    have hw1lt : W.heap.size + 1 < w1.heap.size := (Array.getElem?_eq_some_iff.1 hw1l).1
    have hov2 : Over s1.m (w1.putObj (W.heap.size + 1) (.loop { rc with state := .busy })) := fun b o hb => by
      have e : b ≠ W.heap.size + 1 := fun e => by rw [e, f1] at hb; cases hb
      rw [World.putObj_heap_other e]; exact hAf.over b o hb
    -- the body, from a world of its own
    have hr2 : Rel nt [] s1.m (w1.putObj (W.heap.size + 1) (.loop { rc with state := .busy })) [] ⟨s1.fr, [], s1.m, []⟩ a1 (w1.putObj (W.heap.size + 1) (.loop { rc with state := .busy })) :=
      ⟨hr1.defers, hr1.size, hr1.slots, rfl, by simp, by simp, After.refl hov2, by simp⟩
    refine wpIn_mono (xwp0_spec (Wr := Here [] s1.m _) (.inr ⟨_, rfl⟩) hT hm body hok2 _ _ _ _ _ hk ⟨[], _, _, ⟨rfl, rfl, rfl⟩, hr2⟩) fun e a2 w2 hq2 => ?_
    obtain ⟨hnp2, s2, ρ2, hk2, D2, mm2, ww2, ⟨e1, e2, e3⟩, hr3⟩ := hq2
    subst D2 mm2 ww2
    cases e <;> first | exact hk2.elim | skip
    have hAf2 := hr3.after
    obtain ⟨g1, g2⟩ := hAf2.frame (W.heap.size + 1) (by simp; omega) f1
    have hw2l : w2.heap[W.heap.size + 1]? = some (.loop { rc with state := .busy }) := g2.trans (World.putObj_heap_same hw1lt)
    refine ⟨_, _, run_endRound none hw2l, [.v (.bool true)], s2.m.set (W.heap.size + 1) (.loop rc), rfl, ?_, ⟨rfl, s2.m, hk2, g1, rfl⟩, ?_⟩
    · intro z hz; simp at hz; subst hz; rfl
    · have e1 : ({ { rc with state := .busy } with state := if (none : Option Code).isNone then .ready else .done, pending := none } : Loop) = rc := rfl
      have hw2lt : W.heap.size + 1 < w2.heap.size := (Array.getElem?_eq_some_iff.1 hw2l).1
      refine ⟨fun b o hb => ?_, ?_, ?_, ?_, ?_, fun b hb hn => ?_, fun s => Nat.le_trans (hAf.drawn s) (hAf2.drawn s)⟩
      · by_cases e : b = W.heap.size + 1
        · subst e; rw [Mem.set_same] at hb; cases hb
          exact World.putObj_heap_same hw2lt
        · rw [Mem.set_ne _ _ e] at hb
          rw [World.putObj_heap_other e]; exact hAf2.over b o hb
      · have := hAf.size; have := hAf2.size; simp at *; omega
      · exact hAf2.tape.trans hAf.tape
      · exact hAf2.os.trans hAf.os
      · exact hAf2.output.trans hAf.output
      · have e : b ≠ W.heap.size + 1 := fun e => by rw [e, Mem.set_same] at hn; cases hn
        rw [Mem.set_ne _ _ e] at hn
        obtain ⟨p1, p2⟩ := hAf.frame b hb hn
        have hb1 : b < w1.heap.size := Nat.lt_of_lt_of_le hb hAf.size
        obtain ⟨q1, q2⟩ := hAf2.frame b (by simpa using hb1) p1
        exact ⟨by rw [Mem.set_ne _ _ e]; exact q1, by rw [World.putObj_heap_other e, q2, World.putObj_heap_other e]; exact p2⟩
  obtain ⟨henter, hcalls⟩ := iter (W.heap.size + 1) (.loop rc) hsl hY
  have hT1 : After m0 W0 (s.m.set (W.heap.size + 1) (.loop rc)) W' := by
    have := (hT0.allocOut (.deferred (some []))).alloc (.loop rc)
    rw [← hl1] at this
    exact this
  have hcok : ∀ v ∈ (CV.v (.func (.yield (W.heap.size + 1)) #[] #[]) :: captured.toList.map CV.v), v.ok := by
    intro v hv
    rcases List.mem_cons.1 hv with rfl | hv
    · rfl
    · obtain ⟨y, hy, rfl⟩ := List.mem_map.1 hv
      exact allOne_spec hcap y hy
  have hvals : ((CV.v (.func (.yield (W.heap.size + 1)) #[] #[]) :: captured.toList.map CV.v).map CV.val).toArray = #[] ++ #[.func (.yield (W.heap.size + 1)) #[] #[]] ++ captured := by
    apply Array.ext'
    simp [CV.val, Function.comp_def]
  refine ⟨W.heap.size + 1, [{ target := .collected W.heap.size, args := #[] }], W', { target := .fn (.func gf) captured, args := #[] ++ #[.func (.yield (W.heap.size + 1)) #[] #[]] }, W', gf, #[] ++ #[.func (.yield (W.heap.size + 1)) #[] #[]] ++ captured, W', run_enterLoop_outer .., ?_, fun _ _ => trivial, ?_, fun e => (by cases e), ?_⟩
  · simp only [rangeCall, resolve, Array.map, hgv, Deferred.ofValue, Sem.run_pure]
    simp [resolve, hgv, Deferred.ofValue, Act.eval]
  · exact henter _ _
  · rw [← hvals]
    refine (callsIn_wide (n := 0 - 1)).2 ((hcalls hcok W' hT1.over).mono ?_)
    rintro e W2 ⟨r, m', rfl, hrok, ⟨mF, hF, hFl, rfl⟩, haft⟩
    have hW2l : W2.heap[W.heap.size + 1]? = some (.loop rc) := haft.over _ _ (Mem.set_same ..)
    refine ⟨none, _, run_endLoop hW2l (by simp [rc]), ?_⟩
    have hT2 : After m0 W0 mF W2 := (hT1.trans haft).forget (Mem.sub_set _ hFl)
    have hsz : W0.heap.size ≤ W.heap.size := hT0.size
    have hT3 := hT2.putOut hFl (by omega) (.loop { rc with state := .exhausted })
    refine ⟨by simp, _, [], rest mF hF, { target := .collected W.heap.size, args := #[] } :: D, mF, _, ⟨hT3, ⟨fun d hd => ?_, ?_⟩⟩, ⟨?_, hr.size, hr.slots, rfl, by simp, by simp, After.refl hT3.over, by simp⟩⟩
    · have kept : ∀ r, r ≠ W.heap.size + 1 → r < W'.heap.size → s.m r = none → W'.heap[r]? = some (.deferred (some [])) → mF r = none ∧ (W2.putObj (W.heap.size + 1) (.loop { rc with state := .exhausted })).heap[r]? = some (.deferred (some [])) := by
        intro r hne hlt hn hh
        obtain ⟨p1, p2⟩ := haft.frame r hlt (by rw [Mem.set_ne _ _ hne]; exact hn)
        rw [Mem.set_ne _ _ hne] at p1
        exact ⟨p1, by rw [World.putObj_heap_other hne, p2]; exact hh⟩
      rcases List.mem_cons.1 hd with rfl | hd
      · obtain ⟨p1, p2⟩ := kept W.heap.size (by omega) (by simp [W', Wd]; omega) hsd (by
          show (Wd.alloc _).heap[W.heap.size]? = _
          rw [heap_alloc_old Wd _ (by omega)]; exact heap_alloc_new W _)
        exact ⟨_, rfl, p2, p1, hsz⟩
      · obtain ⟨r, rfl, g1, g2, g3⟩ := hMk.each d hd
        have hlt := (Array.getElem?_eq_some_iff.1 g1).1
        obtain ⟨k1, k2⟩ := hr.after.frame r hlt g2
        have hlt2 : r < W.heap.size := Nat.lt_of_lt_of_le hlt hr.after.size
        obtain ⟨p1, p2⟩ := kept r (by omega) (by simp [W', Wd]; omega) k1 (by
          show (Wd.alloc _).heap[r]? = _
          rw [heap_alloc_old Wd _ (by omega), heap_alloc_old W _ hlt2]; exact k2.trans g1)
        exact ⟨r, rfl, p2, p1, g3⟩
    · rw [List.pairwise_cons]
      refine ⟨fun d hd e => ?_, hMk.apart⟩
      obtain ⟨r, rfl, g1, g2, g3⟩ := hMk.each d hd
      have hlt := (Array.getElem?_eq_some_iff.1 g1).1
      have hlt2 : r < W.heap.size := Nat.lt_of_lt_of_le hlt hr.after.size
      simp at e
      omega
    · show [_] ++ a.defers = _
      rw [hr.defers]; rfl
theorem xwp_spec (hT : TabOk c.P c.T) (hm : c.P.follows .mixedOrders = true) : ∀ (code : Code), codeOk c nt code = true → ∀ (Q : Exit → St → Prop) (s : St) (ρ : List Nat) (a : Act) (W : World), xwp c code Q s → RelM nt (Base m0 W0) ρ s a W → code.wpIn Fence.wide 0 c.P (QPost nt (Base m0 W0) Q) a W :=
  xwpG_spec (.inl rfl) hT hm (scope_spec hT hm) (range_spec hT hm)
#print axioms xwp_spec
end

/-! ### a function -/
def initF (args : List CV) : Nat → SV := fun i => match nth args i with
  | some x => .c x
  | none => .any
def xres1 (T : Tab) (s : St) (r : ResultVar) (K : CV → Prop) : Prop :=
  match r with
  | .tmp t => match s.fr t with
    | .c x => K x
    | .tt => K (.v (.bool true))
    | .ff => K (.v (.bool false))
    | _ => False
  | .cell t ty => fLoad T s ty (s.fr t) fun sv _ => match sv with
    | .c x => K x
    | _ => False
def xres (T : Tab) (s : St) : List ResultVar → (List CV → Prop) → Prop
  | [], K => K []
  | r :: rs, K => xres1 T s r fun x => xres T s rs fun l => K (x :: l)
def QRet (T : Tab) (rs : List ResultVar) (R : List CV → Mem → Prop) : Exit → St → Prop
  | .ret, s => xres T s rs fun r => R r s.m
  | .normal, s => xres T s rs fun r => R r s.m
  | _, _ => False

section
variable {c : Cfg} {nt : Nat} {D : List Deferred} {m0 : Mem} {W0 : World} {ρ : List Nat} {s : St} {a : Act} {W : World} {P : Program} {T : Tab}

def resOne (tmps : Array Value) : ResultVar → Sem Value
  | .tmp t => pure (tmps.getD t undef)
  | .cell p t => do loadVar t (← asAddr (tmps.getD p undef))
theorem xres1_spec (hT : TabOk P T) (hr : Rel nt D m0 W0 ρ s a W) {r : ResultVar} {K : CV → Prop} (h : xres1 T s r K) :
    ∃ x, K x ∧ x.ok ∧ (resOne a.tmps r).run P W = .ok x.val W := by
  cases r with
  | tmp t =>
    simp only [xres1] at h
    have hf := hr.fits (.tmp t)
    simp only [ev, Act.eval] at hf
    split at h
    · rename_i x e
      rw [e] at hf
      exact ⟨x, h, (hf.okay (by simp)).1, by simp only [resOne, Sem.run_pure]; rw [hf.eq (by simp)]; rfl⟩
    · rename_i e
      rw [e] at hf
      exact ⟨_, h, rfl, by simp only [resOne, Sem.run_pure]; rw [hf.eq (by simp)]; rfl⟩
    · rename_i e
      rw [e] at hf
      exact ⟨_, h, rfl, by simp only [resOne, Sem.run_pure]; rw [hf.eq (by simp)]; rfl⟩
    · exact h.elim
  | cell t ty =>
    simp only [xres1] at h
    obtain ⟨sv, bs, v, _, h1, h2, h3, _, _, _, h4⟩ := fLoad_spec (xo := .tmp t) hT hr (hr.fits (.tmp t)) h
    split at h1
    · rename_i x
      refine ⟨x, h1, (h2.okay (by simp)).1, ?_⟩
      have := h4 { dst := none, op := .load ty (.tmp t), type := 0, pos := "", after := #[], guard := none } rfl W (fun _ _ => rfl)
      rw [h2.eq (by simp)] at this
      simp only [execOp, Act.eval, Instr.loadAt, Sem.run_bind] at this
      simp only [resOne, Sem.run_bind]
      cases hv : a.tmps.getD t undef with
      | pointer p =>
        cases p with
        | some ad =>
          simp only [hv, Instr.sureAddr, Sem.run_pure, Result.andThen_ok] at this
          simp only [asAddr, Sem.run_pure, Result.andThen_ok]
          cases hl : (loadVar ty ad).run P W with
          | ok z w => rw [hl] at this; simp at this; rw [this.1, this.2]; rfl
          | halt z w => rw [hl] at this; simp at this
        | none => simp [hv, Instr.sureAddr, stuck, Sem.run] at this
      | _ => simp [hv, Instr.sureAddr, stuck, Sem.run] at this
    · exact h1.elim

theorem xres_spec (hT : TabOk P T) (hr : Rel nt D m0 W0 ρ s a W) : ∀ {rs : List ResultVar} {K : List CV → Prop}, xres T s rs K →
    ∃ l, K l ∧ (∀ x ∈ l, x.ok) ∧ (rs.mapM (resOne a.tmps)).run P W = .ok (l.map CV.val) W
  | [], K, h => ⟨[], h, by simp, by simp⟩
  | r :: rs, K, h => by
    obtain ⟨x, h1, h2, h3⟩ := xres1_spec hT hr h
    obtain ⟨l, g1, g2, g3⟩ := xres_spec hT hr h1
    refine ⟨x :: l, g1, by simpa using ⟨h2, g2⟩, ?_⟩
    rw [List.mapM_cons, Sem.run_bind, h3]
    simp only [Result.andThen_ok, Sem.run_bind, g3, Sem.run_pure, List.map_cons]

theorem results_spec (hT : TabOk P T) (hr : Rel nt D m0 W0 ρ s a W) {fn : Func} {K : List CV → Prop} (h : xres T s fn.results.toList K) :
    ∃ l, K l ∧ (∀ x ∈ l, x.ok) ∧ (results fn a.tmps).run P W = .ok (resVal l) W := by
  obtain ⟨l, h1, h2, h3⟩ := xres_spec hT hr h
  refine ⟨l, h1, h2, ?_⟩
  have e : results fn a.tmps = (do
      let vs ← fn.results.mapM (resOne a.tmps)
      pure (if h : vs.size = 1 then vs[0] else .tuple vs)) := by
    unfold results
    congr 1
  rw [e, Sem.run_bind, Array.mapM_eq_mapM_toList]
  simp only [map_eq_pure_bind, Sem.run_bind, h3, Result.andThen_ok, Sem.run_pure]
  match l with
  | [x] => simp [resVal]
  | [] => simp [resVal]
  | x :: y :: r => simp [resVal]

theorem Spec.of_body {f : FuncId} {fn : Func} {code : Code} {args : List CV} {m : Mem} {R : List CV → Mem → Prop} (hf : c.P.funcs[f]? = some fn) (hb : fn.body = some code) (hn : (fn.name == "runtime.NumGoroutine") = false)
    (hT : TabOk c.P c.T) (hm : c.P.follows .mixedOrders = true) (hok : codeOk c fn.ntmps code = true) (hlen : Nat.ble args.length fn.ntmps = true)
    (h : xwp c code (QRet c.T fn.results.toList R) ⟨initF args, [], m, []⟩) : Spec c.P f args m R := by
  refine ⟨fun args w => ?_, fun hargs W hW => ?_⟩
  · have hn' : ¬ fn.name = "runtime.NumGoroutine" := by simpa using hn
    simp [callFunc, hf, hb, hn']
  · have hle := ble_le.1 hlen
    refine (callsIn_wide (n := 0)).1 (callsIn_of_wp_marks hf hb trivial ?_)
    have hr : Rel fn.ntmps [] m W [] ⟨initF args, [], m, []⟩ { tmps := (args.map CV.val).toArray ++ Array.replicate (fn.ntmps - (args.map CV.val).toArray.size) undef, defers := [] } W := by
      refine ⟨rfl, by simp; omega, fun i => ?_, rfl, by simp, by simp, After.refl hW, by simp⟩
      simp only [initF]
      cases hx : nth args i with
      | none => exact .inl rfl
      | some x =>
        refine .inr ⟨?_, hargs x (by rw [nth_eq] at hx; exact List.mem_of_getElem? hx), trivial⟩
        rw [nth_eq] at hx
        have hlt := (List.getElem?_eq_some_iff.1 hx).1
        rw [Array.getElem?_append_left (by simpa using hlt)]
        simp [hx, conc]
    have leave : ∀ s' ρ' a' W', xres c.T s' fn.results.toList (fun r => R r s'.m) → RelM fn.ntmps (Base m W) ρ' s' a' W' → LeavesInM Fence.wide 0 c.P fn a'.tmps (fun e W' => ∃ r m', e = .returned (resVal r) ∧ (∀ x ∈ r, x.ok) ∧ R r m' ∧ After m W m' W') a'.defers .returning W' := by
      intro s' ρ' a' W' hk ⟨D, m1, W1, ⟨hA, hM⟩, hr'⟩
      have hb := hr'.base hA
      rw [hr'.defers]
      refine leaves_of (Good := fun w => Rel fn.ntmps D m W ρ' s' a' w) (Ok := fun r => s'.m r = none ∧ W.heap.size ≤ r ∧ r ∉ ρ') (fun w r h g => g.putOut h.1 h.2.1 h.2.2 _) (fun w hw => ?_) D W' (fun d hd => ?_) hM.apart hb
      · obtain ⟨l, h1, h2, h3⟩ := results_spec hT hw hk
        exact ⟨_, h3, l, _, rfl, h2, h1, hw.after⟩
      · obtain ⟨r, rfl, g1, g2, g3⟩ := hM.each d hd
        have hlt := (Array.getElem?_eq_some_iff.1 g1).1
        obtain ⟨k1, k2⟩ := hr'.after.frame r hlt g2
        refine ⟨r, rfl, k2.trans g1, k1, g3, fun hin => ?_⟩
        obtain ⟨i, hi, rfl⟩ := mem_getD hin
        have := (hr'.out hi).2.1
        omega
    refine wpIn_mono (xwp_spec hT hm code hok _ _ _ _ _ h ⟨[], m, W, ⟨After.refl hW, Marks.nil _ _ _⟩, hr⟩) fun e a' W' hq => ?_
    obtain ⟨hnp, s', ρ', hk, hr'⟩ := hq
    cases e with
    | ret => exact leave s' ρ' a' W' hk hr'
    | normal => exact leave s' ρ' a' W' hk hr'
    | panic ch => exact absurd rfl (hnp ch)
    | _ => exact hk.elim
#print axioms Spec.of_body
end
end Go.E

/-
  For whoever proves: loops by what they carry, calls, numbers that fit, and the way from a contract to a law's row.
-/
namespace Go.E

/-! ### the table of types, as a tree -/
inductive TTree where
  | leaf (t : TypeId) (i : TI)
  | node (k : Nat) (l r : TTree)
def TTree.get : TTree → TypeId → Option TI
  | .leaf t i, q => bif Nat.beq q t then some i else none
  | .node k l r, q => bif Nat.blt q k then l.get q else r.get q
def TTree.leaves : TTree → List (TypeId × TI)
  | .leaf t i => [(t, i)]
  | .node _ l r => l.leaves ++ r.leaves
def Seg.okB : Seg → Bool
  | .one x => x.oneCell'
  | .ints _ n l => l.length == n
  | .vals n l => l.length == n && l.all (·.oneCell')
def LB.okB : LB → Bool
  | [] => true
  | s :: r => s.okB && LB.okB r
theorem LB.okB_spec : ∀ {c : LB}, LB.okB c = true → LB.ok c
  | [], _ => trivial
  | s :: r, h => by
    simp only [LB.okB, Bool.and_eq_true] at h
    refine ⟨?_, LB.okB_spec h.2⟩
    cases s with
    | one x => exact h.1
    | ints k n l => simpa [Seg.okB, Seg.ok] using h.1
    | vals n l =>
      have := h.1
      simp only [Seg.okB, Bool.and_eq_true, beq_iff_eq, List.all_eq_true] at this
      exact this
def infoOf (P : Program) (t : TypeId) : Option TK × Option (Nat × Nat × Option (Array Value)) :=
  ((P.underlying t).map TK.of, (P.info? t).map fun j => (j.size, j.bytes, j.zero.map Value.cells))
def infoSaid (i : TI) : Option TK × Option (Nat × Nat × Option (Array Value)) := (some i.k, some (i.size, i.bytes, some (LB.cells i.zero).toArray))
theorem get_mem : ∀ {T : TTree} {t : TypeId} {i : TI}, T.get t = some i → (t, i) ∈ T.leaves
  | .leaf t' i', t, i, h => by
    simp only [TTree.get] at h
    cases hb : Nat.beq t t' with
    | true =>
      have := Nat.eq_of_beq_eq_true hb; subst this
      simp only [hb, cond_true, Option.some.injEq] at h; subst h
      simp [TTree.leaves]
    | false => simp [hb] at h
  | .node k l r, t, i, h => by
    simp only [TTree.get] at h
    simp only [TTree.leaves, List.mem_append]
    cases hb : Nat.blt t k with
    | true => simp only [hb, cond_true] at h; exact .inl (get_mem h)
    | false => simp only [hb, cond_false] at h; exact .inr (get_mem h)
theorem map_eq_at {α β : Type} {f g : α → β} : ∀ {l : List α}, l.map f = l.map g → ∀ x ∈ l, f x = g x
  | [], _, x, hx => by cases hx
  | y :: l, h, x, hx => by
    simp only [List.map_cons, List.cons.injEq] at h
    rcases List.mem_cons.1 hx with rfl | hx
    · exact h.1
    · exact map_eq_at h.2 x hx
theorem tabOk {P : Program} {T : TTree} (h1 : T.leaves.map (fun x => infoOf P x.1) = T.leaves.map (fun x => infoSaid x.2)) (h2 : T.leaves.all (fun x => LB.okB x.2.zero) = true)
    (h3 : T.leaves.all (fun x => !x.2.eq || (x.2.k.agg && goodB P 50 x.1 (LB.cells x.2.zero) && !P.eqGuardType P.depth x.1 && (LB.cells x.2.zero).length == x.2.size)) = true) : TabOk P T.get := by
  intro t i h
  have hm := get_mem h
  have e := map_eq_at h1 _ hm
  simp only [infoOf, infoSaid, Prod.mk.injEq] at e
  refine ⟨e.1, e.2, LB.okB_spec (List.all_eq_true.1 h2 _ hm), fun he => ?_⟩
  have := List.all_eq_true.1 h3 _ hm
  simp only [he, Bool.not_true, Bool.false_or, Bool.and_eq_true, Bool.not_eq_true', beq_iff_eq] at this
  exact ⟨this.1.1.1, this.1.1.2, this.1.2, this.2⟩

/-- the slots of a list -/
def inL : List Nat → Nat → Bool
  | [], _ => false
  | x :: r, d => bif Nat.beq d x then true else inL r d
/-- the orders of the regions that draw, by their numbers -/
def atL : List (Nat × Ord) → Nat → Ord
  | [], _ => ⟨.nil, []⟩
  | (j, x) :: r, i => bif Nat.beq i j then x else atL r i
def bodyOf (fn : Func) : Code := fn.body.getD .skip

/-! ### a law -/
theorem Spec.law {P : Program} {f : FuncId} {args : List CV} (W : World) (hok : ∀ x ∈ args, x.ok) (h : Spec P f args (fun b => W.heap[b]?) fun r m' => r = [.v (.bool true)] ∧ Sub (fun b => W.heap[b]?) m') :
    Calls P f (args.map CV.val).toArray W fun e W' => e = .returned (.bool true) ∧ RowKit.Below W.heap.size W W' := by
  refine (h.2 hok W (fun b o hb => hb)).mono fun e W' he => ?_
  obtain ⟨r, m', rfl, _, ⟨rfl, hs⟩, ha⟩ := he
  refine ⟨rfl, ha.os, ha.tape, ha.output, ha.size, fun k hk => ?_⟩
  have : W.heap[k]? = some W.heap[k] := by simp [hk]
  rw [this]
  exact ha.over k _ (hs k _ this)
end Go.E

/-
  Contracts of operations that make slices.
-/
namespace Go.E
section
variable {P : Program} {T : Tab}

def CV.cs : CV → List Value
  | .v x => [x]
  | .a c => LB.cells c
theorem CV.cs_val {x : CV} (h : x.ok) : x.val.cells = x.cs.toArray := by
  cases x with
  | v z => exact cells_one h
  | a c => rfl

theorem TOk.slice {t e : TypeId} {i : TI} (h : TOk P t i) (hk : i.k = .slice e) : P.underlying t = some (.slice e) := by
  obtain ⟨d, h1, h2⟩ := h.desc
  rw [hk] at h2
  cases d <;> simp [TK.of] at h2
  rw [h1, h2]

def fl (args : List CV) : List Value := (args.map CV.cs).flatten

theorem fill_dense {size : Nat} : ∀ (args : List CV) (k : Nat) (cells : Array Value), (∀ x ∈ args, x.ok) → (∀ x ∈ args, x.cs.length = size) → (k + args.length) * size ≤ cells.size →
    Instr.fill (fun i => some (i * size, size)) cells ((List.range' k args.length).zip (args.map CV.val)) = some (cells.toList.take (k * size) ++ (fl args ++ cells.toList.drop ((k + args.length) * size))).toArray
  | [], k, cells, _, _, _ => by simp [Instr.fill, fl]
  | x :: r, k, cells, h1, h2, h3 => by
    have hx := h1 x (by simp)
    have hl := h2 x (by simp)
    have hcv := CV.cs_val hx
    simp only [List.length_cons] at h3
    have h3' : k * size + size ≤ cells.size := by
      have : (k + (r.length + 1)) * size = k * size + size + r.length * size := by simp [Nat.add_mul]; omega
      omega
    simp only [List.length_cons, List.range'_succ, List.map_cons, List.zip_cons_cons]
    rw [fill_step (off := k * size) (size := size) rfl (by rw [hcv]; simpa using hl) (by rw [hcv]; simp [hl]; exact h3')]
    rw [laid_cells _ _ hcv _ _ (by rw [hl]; exact h3')]
    rw [fill_dense r (k + 1) _ (fun y hy => h1 y (by simp [hy])) (fun y hy => h2 y (by simp [hy])) (by simp [hl]; simp [Nat.add_mul] at h3 ⊢; omega)]
    congr 2
    have e1 : (k + 1) * size = k * size + size := by rw [Nat.add_mul, Nat.one_mul]
    have e2 : k + 1 + r.length = k + (r.length + 1) := by omega
    have ht : (List.take (k * size) cells.toList).length = k * size := by simp; omega
    simp only [fl, List.map_cons, List.flatten_cons, e1, e2]
    rw [List.take_append, ht, List.take_append, hl]
    rw [List.drop_append, ht, List.drop_append, hl]
    have d1 : List.take (k * size + size) (List.take (k * size) cells.toList) = List.take (k * size) cells.toList := by rw [List.take_take]; congr 1; omega
    have d2 : List.drop ((k + (r.length + 1)) * size) (List.take (k * size) cells.toList) = [] := by
      apply List.drop_eq_nil_of_le; rw [ht]; simp [Nat.add_mul]
    have d3 : k * size + size - k * size = size := by omega
    have d4 : List.take size x.cs = x.cs := by rw [← hl]; exact List.take_length
    have hge : k * size + size ≤ (k + (r.length + 1)) * size := by simp [Nat.add_mul]
    have d5 : List.drop ((k + (r.length + 1)) * size - k * size) x.cs = [] := by apply List.drop_eq_nil_of_le; rw [hl]; omega
    rw [d1, d2, d3, d4, d5, Nat.sub_self, List.take_zero, List.append_nil, List.nil_append, List.nil_append, List.drop_drop]
    have d6 : k * size + size + ((k + (r.length + 1)) * size - k * size - size) = (k + (r.length + 1)) * size := by omega
    rw [d6]
    simp [List.append_assoc]

/-- a slice literal all of whose parts are told, in order -/
theorem buildSlice_spec (hT : TabOk P T) {t e : TypeId} {ti ei : TI} (ht : T t = some ti) (hk : ti.k = .slice e) (he : T e = some ei) {n : Nat} {ix : List Nat} (hix : ix = List.range' 0 n) {args : List CV} (hn : args.length = n)
    (hsz : ∀ x ∈ args, x.cs.length = ei.size) (hb : n * ei.size ≤ 16777216) (hp : 0 < n * ei.size) {m : Mem} :
    PrimSpec P (.buildSlice t n ix) args m fun r m' => ∃ b, m b = none ∧ r = [.v (.slice (some ⟨b, 0, none⟩) n n)] ∧ m' = m.set b (.cells (fl args).toArray e) := by
  intro hok ty W hW
  obtain ⟨j, hj, hjs, _, z, hz, hzc⟩ := (hT e ei he).inf
  refine ⟨[.v (.slice (some ⟨W.heap.size, 0, none⟩) n n)], m.set W.heap.size (.cells (fl args).toArray e), W.alloc (.cells (fl args).toArray e), ?_, ?_, ⟨W.heap.size, hW.none (Nat.le_refl _), rfl, rfl⟩, (After.refl hW).alloc _⟩
  · subst hix
    simp only [Prim.run, Prim.out, Prim.tup, cond_false, resVal]
    subst hn
    refine run_buildSlice W t e _ _ _ j z ((hT t ti ht).slice hk) hj hz (by rw [hjs]; omega) (by rw [hjs]; omega) ?_
    rw [hjs]
    have := fill_dense args 0 ((Array.range (args.length * ei.size)).map (z.cells[· % z.cells.size]!)) hok hsz (by simp)
    simp only [CV.val]
    rw [this]
    congr 2
    simp
  · intro x hx
    simp at hx; subst hx; rfl
end
end Go.E

/-
  Slices that are owned: append; make; what lies in them; copies.
-/
namespace Go.E
section
variable {P : Program} {T : Tab}

/-- A slice's cells lie in memory that is known. -/
def Lies (m : Mem) (size : Nat) (v : Value) (l : List Value) : Prop :=
  (∃ c, v = .slice none 0 c ∧ l = []) ∨ ∃ b o c n arr t fr, v = .slice (some ⟨b, o, none⟩) n c ∧ m b = some (.cells arr t fr) ∧ l.length = n * size ∧ n ≤ c ∧ (∀ j u, l[j]? = some u → arr[o + j]? = some u) ∧ (∀ u ∈ l, u.oneCell' = true)
/-- A slice whose whole row is known, and may be written. -/
def Own (m : Mem) (e : TypeId) (size : Nat) (v : Value) (l : List Value) : Prop :=
  (v = .slice none 0 0 ∧ l = []) ∨ ∃ b o c n arr, v = .slice (some ⟨b, o, none⟩) n c ∧ m b = some (.cells arr e (0, 0)) ∧ l.length = n * size ∧ n ≤ c ∧ o + c * size ≤ arr.size ∧ (∀ j u, l[j]? = some u → arr[o + j]? = some u) ∧ (∀ u ∈ l, u.oneCell' = true)
theorem Own.lies {m : Mem} {e : TypeId} {size : Nat} {v : Value} {l : List Value} (h : Own m e size v l) : Lies m size v l := by
  rcases h with ⟨rfl, rfl⟩ | ⟨b, o, c, n, arr, rfl, h1, h2, h5, _, h3, h4⟩
  · exact .inl ⟨0, rfl, rfl⟩
  · exact .inr ⟨b, o, c, n, arr, e, (0, 0), rfl, h1, h2, h5, h3, h4⟩
theorem Lies.sub {m m' : Mem} {size : Nat} {v : Value} {l : List Value} (h : Lies m size v l) (hs : Sub m m') : Lies m' size v l := by
  rcases h with h | ⟨b, o, c, n, arr, t, fr, rfl, h1, h2⟩
  · exact .inl h
  · exact .inr ⟨b, o, c, n, arr, t, fr, rfl, hs _ _ h1, h2⟩
theorem Own.sub {m m' : Mem} {e : TypeId} {size : Nat} {v : Value} {l : List Value} (h : Own m e size v l) (hs : Sub m m') : Own m' e size v l := by
  rcases h with h | ⟨b, o, c, n, arr, rfl, h1, h2⟩
  · exact .inl h
  · exact .inr ⟨b, o, c, n, arr, rfl, hs _ _ h1, h2⟩
/-- the block of a slice -/
def blkV : Value → Option Nat
  | .slice (some a) _ _ => some a.block
  | _ => none
theorem Lies.keep {m m' : Mem} {size : Nat} {v : Value} {l : List Value} (h : Lies m size v l) (hs : ∀ b, blkV v = some b → m' b = m b) : Lies m' size v l := by
  rcases h with h | ⟨b, o, c, n, arr, t, fr, rfl, h1, h2⟩
  · exact .inl h
  · exact .inr ⟨b, o, c, n, arr, t, fr, rfl, by rw [hs b rfl]; exact h1, h2⟩
theorem Own.keep {m m' : Mem} {e : TypeId} {size : Nat} {v : Value} {l : List Value} (h : Own m e size v l) (hs : ∀ b, blkV v = some b → m' b = m b) : Own m' e size v l := by
  rcases h with h | ⟨b, o, c, n, arr, rfl, h1, h2⟩
  · exact .inl h
  · exact .inr ⟨b, o, c, n, arr, rfl, by rw [hs b rfl]; exact h1, h2⟩
/-- how many -/
def lenV : Value → Nat
  | .slice _ n _ => n
  | .string s => s.size
  | _ => 0
theorem Lies.one {m : Mem} {size : Nat} {v : Value} {l : List Value} (h : Lies m size v l) : v.oneCell' = true := by
  rcases h with ⟨c, rfl, _⟩ | ⟨b, o, c, n, arr, t, fr, rfl, _⟩ <;> rfl
theorem Lies.cellsOne {m : Mem} {size : Nat} {v : Value} {l : List Value} (h : Lies m size v l) : ∀ u ∈ l, u.oneCell' = true := by
  rcases h with ⟨c, rfl, rfl⟩ | ⟨b, o, c, n, arr, t, fr, rfl, _, _, _, _, h1⟩
  · simp
  · exact h1
theorem Lies.len {m : Mem} {size : Nat} {v : Value} {l : List Value} (h : Lies m size v l) : l.length = lenV v * size := by
  rcases h with ⟨c, rfl, rfl⟩ | ⟨b, o, c, n, arr, t, fr, rfl, _, h1, _⟩
  · simp [lenV]
  · exact h1

/-- What a second argument of append gives: a slice that lies there, or a string's bytes. -/
def Gives (m : Mem) (size : Nat) (k : TK) (x : Value) (news : List Value) : Prop :=
  (∃ e, k = .slice e ∧ (Lies m size x news ∨ (news = [] ∧ ∃ a, x = .slice (some a) 0 0))) ∨ (k = .str ∧ size = 1 ∧ ∃ s, x = .string s ∧ news = byteCells s)

theorem Gives.src (hT : TabOk P T) {tx : TypeId} {xi : TI} (hx : T tx = some xi) {m : Mem} {size : Nat} {x : Value} {news : List Value} (h : Gives m size xi.k x news) {W : World} (hW : Over m W) : Src P size tx x (lenV x) news W := by
  obtain ⟨d, h1, h2⟩ := (hT tx xi hx).desc
  rcases h with ⟨e, hk, hl⟩ | ⟨hk, rfl, s, rfl, rfl⟩
  · rw [hk] at h2
    have hd := slice_desc h2
    subst hd
    rcases hl with (⟨c, rfl, rfl⟩ | ⟨b, o, c, n, arr, t, fr, rfl, g1, g2, _, g3, g4⟩) | ⟨rfl, a, rfl⟩
    rotate_left 2
    · exact Src.ofSlice W h1 a 0 0 [] (by simp) (by simp) (by simp)
    · exact Src.ofNil W h1 c
    · refine Src.ofSlice W h1 _ n c news g2 (fun j u hu => ?_) g4
      rw [add_none, cell_at (hW _ _ g1)]
      exact g3 j u hu
  · rw [hk] at h2
    have hd := str_desc h2
    subst hd
    exact Src.ofString W h1 s

theorem growBy_le (k : Nat) : ∀ (r c : Nat), c ≤ k → Builtin.growBy k r c ≤ 2 * k + 768
  | 0, c, h => by simp only [Builtin.growBy]; omega
  | r + 1, c, h => by
    simp only [Builtin.growBy]
    split
    · omega
    · by_cases h2 : c + (c + 768) / 4 ≤ k
      · exact growBy_le k r _ h2
      · cases r with
        | zero => simp only [Builtin.growBy]; omega
        | succ r => simp only [Builtin.growBy]; rw [if_pos (by omega)]; omega
theorem nextcap_le {need cap : Nat} (h : cap < need) : Builtin.nextslicecap need cap ≤ 2 * need + 768 := by
  unfold Builtin.nextslicecap
  split
  · omega
  · split
    · omega
    · exact growBy_le need 4 cap (by omega)

theorem drew_eq (W : World) : W.drew = { W with drawn := W.drawn + 1 } := rfl
theorem zeroCells_size (z : Array Value) (n : Nat) : (Builtin.zeroCells z n).size = n * z.size := by simp [Builtin.zeroCells]

theorem getElem?_app_left {α : Type} {l r : List α} {j : Nat} {u : α} (h : l[j]? = some u) : (l ++ r)[j]? = some u := by
  rw [List.getElem?_append_left (List.getElem?_eq_some_iff.1 h).1]; exact h

/-- what an append leaves: v' is the slice behind it -/
structure Apd (m : Mem) (e : TypeId) (size : Nat) (v : Value) (l : List Value) (k : Nat) (v' : Value) (m' : Mem) : Prop where
  own : Own m' e size v' l
  keep : ∀ b o, m b = some o → blkV v ≠ some b → m' b = some o
  new : ∀ b, blkV v' = some b → blkV v = some b ∨ m b = none
  len : lenV v' = lenV v + k
/-- append onto a slice that is owned -/
theorem append_spec (hT : TabOk P T) {t e tx : TypeId} {ti ei xi : TI} (ht : T t = some ti) (hk : ti.k = .slice e) (he : T e = some ei) (hx : T tx = some xi) (hz : (LB.cells ei.zero).length = ei.size) {v x : Value} {l news : List Value} {m : Mem}
    (hv : Own m e ei.size v l) (hg : Gives m ei.size xi.k x news) (hbig : (2 * (lenV v + lenV x) + 768) * ei.bytes ≤ 281474976710656) (hb1 : lenV v + lenV x ≤ 9223372036854775807) :
    PrimSpec P (.builtin .append [t, tx]) [.v v, .v x] m fun r m' => ∃ v', r = [.v v'] ∧ Apd m e ei.size v (l ++ news) (lenV x) v' m' := by
  intro _ ty W hW
  obtain ⟨j, hj, hjs, hjb, z, hjz, hzc⟩ := (hT e ei he).inf
  have hsl := (hT t ti ht).slice hk
  have src := hg.src hT hx hW
  have hzsz : z.cells.size = ei.size := by rw [hzc]; simpa using hz
  have hlies := hv.lies
  -- the arm that grows
  have grow : ∀ (base : Option Addr) (n c : Nat), v = .slice base n c → c < n + lenV x → (Builtin.firstCells ei.size n (.slice base n c)).run P W.drew = .ok l.toArray W.drew → l.length = n * ei.size → (∀ u ∈ l, u.oneCell' = true) →
      ∃ r m' W', (Prim.run (.builtin .append [t, tx]) ty ([CV.v v, CV.v x].map CV.val)).run P W = .ok (resVal r) W' ∧ (∀ x ∈ r, x.ok) ∧
        (∃ v', r = [.v v'] ∧ Apd m e ei.size v (l ++ news) (lenV x) v' m') ∧ After m W m' W' := by
    rintro base n c rfl hlt hold hln hone
    have hbig' : (2 * (n + lenV x) + 768) * ei.bytes ≤ 281474976710656 := hbig
    have hb1' : n + lenV x ≤ 9223372036854775807 := hb1
    have hrun := run_append_grow_src W t tx ty e j z hsl hj hjz base n c l (by rw [hjs]; exact hold) x (lenV x) news (by rw [hjs]; exact src) hlt (by omega)
      (by rw [hjb]; exact Nat.le_trans (Nat.mul_le_mul_right _ (nextcap_le hlt)) hbig')
    have hcap := grownCap_ge W (n + lenV x) c e
    generalize hC : grownCap W (n + lenV x) c e = C at hrun hcap
    refine ⟨[.v (.slice (some ⟨W.heap.size, 0, none⟩) (n + lenV x) C)], m.set W.heap.size (.cells ((l ++ news).toArray ++ Builtin.zeroCells z.cells (C - (n + lenV x))) e), _, ?_, ?_, ⟨_, rfl, ?_, ?_, ?_, rfl⟩, (After.refl hW).drew.alloc _⟩
    · exact hrun
    · intro y hy; simp at hy; subst hy; rfl
    · refine .inr ⟨W.heap.size, 0, C, n + lenV x, _, rfl, Mem.set_same .., ?_, hcap, ?_, ?_, ?_⟩
      · rw [List.length_append, hln, src.newsLen, Nat.add_mul]
      · have e1 : (C - (n + lenV x)) * ei.size + (n + lenV x) * ei.size = C * ei.size := by rw [← Nat.add_mul]; congr 1; omega
        have e2 : (l ++ news).length = (n + lenV x) * ei.size := by rw [List.length_append, hln, src.newsLen, Nat.add_mul]
        simp only [Array.size_append, List.size_toArray, zeroCells_size, hzsz, e2]
        omega
      · intro i u hu
        rw [Nat.zero_add]
        rw [Array.getElem?_append_left (by simpa using (List.getElem?_eq_some_iff.1 hu).1)]
        simpa using hu
      · intro u hu
        rcases List.mem_append.1 hu with h | h
        · exact hone u h
        · exact src.one u h
    · intro b o hb _
      exact Mem.sub_set _ (hW.none (Nat.le_refl _)) b o hb
    · intro b hb
      simp only [blkV, Option.some.injEq] at hb
      subst hb
      exact .inr (hW.none (Nat.le_refl _))
  have len : ∀ w', (Builtin.lenOf x).run P w' = .ok (lenV x) w' := src.len
  rcases hv with ⟨rfl, rfl⟩ | ⟨b, o, c, n, arr, rfl, g1, g2, g3, g4, g5, g6⟩
  · by_cases h0 : lenV x = 0
    · -- nothing onto nothing
      have hn0 : news = [] := by
        have := src.newsLen; rw [h0, Nat.zero_mul] at this; exact List.length_eq_zero_iff.1 this
      subst hn0
      refine ⟨[.v (.slice none 0 0)], m, W, ?_, ?_, ⟨_, rfl, .inl ⟨rfl, rfl⟩, fun b o h _ => h, fun b hb => by simp [blkV] at hb, by rw [h0]; rfl⟩, After.refl hW⟩
      · have hc : (Builtin.firstCells ei.size 0 x).run P W = .ok #[] W := by have := src.cells; rw [h0] at this; exact this
        have len0 : ∀ w', (Builtin.lenOf x).run P w' = .ok 0 w' := by rw [← h0]; exact len
        rcases src.kind with ⟨e', hk'⟩ | hk' <;>
          simp [Prim.run, Prim.out, Prim.tup, cond_false, CV.val, resVal, Builtin.append_, run_underlying hsl, run_underlying hk', sizeOf, typeInfo, hj, len0, hjs, hc]
      · intro y hy; simp at hy; subst hy; rfl
    · exact grow none 0 0 rfl (by omega) (by simp [Builtin.firstCells]) (by simp) (by simp)
  · by_cases hroom : n + lenV x ≤ c
    · have hW1 := hW _ _ g1
      have hnl := src.newsLen
      have hle : o + n * ei.size + news.length ≤ arr.size := by
        have : n * ei.size + lenV x * ei.size ≤ c * ei.size := by rw [← Nat.add_mul]; exact Nat.mul_le_mul_right _ hroom
        omega
      have hst := run_storeCells_gen (P := P) b (o + n * ei.size) e (0, 0) news 0 arr W hW1 (by simpa using hle) src.one (by intro j _ h; omega)
      simp only [Nat.add_zero] at hst
      generalize hA : (arr.toList.take (o + n * ei.size) ++ (news ++ arr.toList.drop (o + n * ei.size + news.length))).toArray = A at hst
      have hAs : A.size = arr.size := by rw [← hA]; simp; omega
      have hAat : ∀ i, i < o + n * ei.size → A[i]? = arr[i]? := by
        intro i hi
        rw [← hA]
        simp only [List.getElem?_toArray]
        rw [List.getElem?_append_left (by simp; omega), List.getElem?_take, if_pos hi]
        simp
      have hAnew : ∀ i u, news[i]? = some u → A[o + n * ei.size + i]? = some u := by
        intro i u hu
        have hi := (List.getElem?_eq_some_iff.1 hu).1
        rw [← hA]
        simp only [List.getElem?_toArray]
        have hl1 : (arr.toList.take (o + n * ei.size)).length = o + n * ei.size := by simp; omega
        rw [List.getElem?_append_right (by omega), hl1, Nat.add_sub_cancel_left, List.getElem?_append_left hi]
        exact hu
      refine ⟨[.v (.slice (some ⟨b, o, none⟩) (n + lenV x) c)], m.set b (.cells A e (0, 0)), W.setRow b A, ?_, ?_, ⟨_, rfl, .inr ⟨b, o, c, n + lenV x, A, rfl, Mem.set_same .., ?_, hroom, by rw [hAs]; exact g4, ?_, ?_⟩, ?_, fun b' hb' => .inl hb', rfl⟩, (After.refl hW).setRow g1 A⟩
      · have hc := src.cells
        rcases src.kind with ⟨e', hk'⟩ | hk' <;>
          simp [Prim.run, Prim.out, Prim.tup, cond_false, CV.val, resVal, Builtin.append_, run_underlying hsl, run_underlying hk', sizeOf, typeInfo, hj, len, hjs, hroom, hc, add_none, hst]
      · intro y hy; simp at hy; subst hy; rfl
      · rw [List.length_append, g2, hnl, Nat.add_mul]
      · intro i u hu
        by_cases hi : i < l.length
        · rw [List.getElem?_append_left hi] at hu
          rw [hAat _ (by omega)]
          exact g5 i u hu
        · rw [List.getElem?_append_right (by omega)] at hu
          have := hAnew _ _ hu
          rw [show o + i = o + n * ei.size + (i - l.length) by omega]
          exact this
      · intro u hu
        rcases List.mem_append.1 hu with h | h
        · exact g6 u h
        · exact src.one u h
      · intro b' o' hb' hne
        rw [Mem.set_ne _ _ (fun e => hne (by rw [e]; rfl))]
        exact hb'
    · refine grow (some ⟨b, o, none⟩) n c rfl (by omega) ?_ g2 g6
      refine run_firstCells_some W.drew ei.size n _ n c l g2 (fun i u hu => ?_)
      rw [add_none]
      have hW1 : W.drew.heap[b]? = some (.cells arr e (0, 0)) := hW _ _ g1
      rw [cell_at hW1]
      exact g5 i u hu
#print axioms append_spec
end
end Go.E
