/-
  E13, E14, Tab, Cfg, H, Bits, ShaP, E15, E17
-/
import Derived.Test.YtodgjanekjefbaaShaMetersZ3
import Derived.ScopeJumps
import Derived.RangeFuncLeaves
import Derived.RangeFuncCalls
import Derived.Test.YtodgjanekjefbaaProg
import Derived.Great.BuildSlice
import Derived.Deep.AppendSrc
/-
  Code: what is to be shown of it; loops; a function's body; and that this serves.
-/
namespace Go.E

/-- the same value, in two ways of writing it -/
def Alike (x y : SV) : Prop := x = y ∨ (x = .c (.v (.bool true)) ∧ y = .tt) ∨ (x = .c (.v (.bool false)) ∧ y = .ff)
/-- s1 knows less than s: slots are forgotten, blocks of the call's own that came last, memory that is known. -/
def Le (s s1 : St) : Prop := (∀ i, s1.fr i = .any ∨ (Alike (s1.fr i) (s.fr i) ∧ (s.fr i).under s1.L.length)) ∧ (∃ rest, s.L = s1.L ++ rest) ∧ Sub s1.m s.m ∧ s1.x = []

/-- a frame out of what is known of it -/
def frOf : List (Nat × SV) → Nat → SV
  | [], _ => .any
  | (j, x) :: r, i => bif Nat.beq i j then x else frOf r i
def underB (n : Nat) : SV → Bool
  | .p h _ => Nat.blt h n
  | .q h _ _ => Nat.blt h n
  | .sl h _ _ _ _ => Nat.blt h n
  | _ => true
theorem underB_spec {n : Nat} {x : SV} (h : underB n x = true) : x.under n := by
  cases x <;> simp only [underB] at h <;> simp only [SV.under] <;> exact blt_lt.1 h
def allUnder (n : Nat) : List (Nat × SV) → Bool
  | [] => true
  | x :: r => underB n x.2 && allUnder n r

/-! ### is y the wanted x? step by step -/
def addrK : Option Addr → Option Addr → Prop → Prop
  | some ⟨b, o, none⟩, some ⟨b', o', none⟩, K => b = b' ∧ o = o' ∧ K
  | none, none, K => K
  | x, y, K => x = y ∧ K
def valK (y x : Value) (K : Prop) : Prop :=
  match y with
  | .int k a => match x with
    | .int k' b => bif kEq k k' then a = b ∧ K else False
    | _ => False
  | .bool a => match x with
    | .bool b => a = b ∧ K
    | _ => False
  | .string a => match x with
    | .string b => a = b ∧ K
    | _ => False
  | .pointer a => match x with
    | .pointer b => addrK a b K
    | _ => False
  | .slice a n c => match x with
    | .slice a' n' c' => addrK a a' (n = n' ∧ c = c' ∧ K)
    | _ => False
  | .map a => match x with
    | .map b => a = b ∧ K
    | _ => False
  | y => y = x ∧ K
def segK (y x : Seg) (K : Prop) : Prop :=
  match y with
  | .one y => match x with
    | .one x => valK y x K
    | _ => False
  | .ints k n l => match x with
    | .ints k' n' l' => bif kEq k k' && Nat.beq n n' then l = l' ∧ K else False
    | _ => False
  | .vals n l => match x with
    | .vals n' l' => bif Nat.beq n n' then l = l' ∧ K else False
    | _ => False
def lbK : LB → LB → Prop → Prop
  | [], [], K => K
  | y :: r, x :: r', K => segK y x (lbK r r' K)
  | _, _, _ => False
def slotK (y x : SV) (K : Prop) : Prop :=
  match x with
  | .p h o => match y with
    | .p h' o' => bif Nat.beq h' h && Nat.beq o' o then K else False
    | _ => False
  | .q h o d => match y with
    | .q h' o' d' => bif Nat.beq h' h && Nat.beq o' o then d' = d ∧ K else False
    | _ => False
  | .sl h o d n c => match y with
    | .sl h' o' d' n' c' => bif Nat.beq h' h && Nat.beq o' o then d' = d ∧ n' = n ∧ c' = c ∧ K else False
    | _ => False
  | .c (.a c) => match y with
    | .c (.a d) => lbK d c K
    | _ => False
  | .c (.v v) => match y with
    | .c (.v z) => valK z v K
    | .tt => match v with
      | .bool b => true = b ∧ K
      | _ => False
    | .ff => match v with
      | .bool b => false = b ∧ K
      | _ => False
    | _ => False
  | .tt => match y with
    | .tt => K
    | _ => False
  | .ff => match y with
    | .ff => K
    | _ => False
  | .un => match y with
    | .un => K
    | _ => False
  | .t l => match y with
    | .t l' => l' = l ∧ K
    | _ => False
  | .any => K
def slotsK : List (Nat × SV) → (Nat → SV) → Prop → Prop
  | [], _, K => K
  | (j, x) :: r, fr, K => slotK (fr j) x (slotsK r fr K)
def locsK : Loc → Loc → Prop → Prop
  | _, [], K => K
  | (t, c) :: r, (t', c') :: r', K => bif Nat.beq t t' then lbK c c' (locsK r r' K) else False
  | [], _ :: _, _ => False
def LeK (s : St) (fr : List (Nat × SV)) (L : Loc) (m : Mem) : Prop := bif allUnder L.length fr then slotsK fr s.fr (locsK s.L L (Sub m s.m)) else False

theorem addrK_spec {y x : Option Addr} {K : Prop} (h : addrK y x K) : y = x ∧ K := by
  unfold addrK at h
  split at h
  · obtain ⟨rfl, rfl, h⟩ := h; exact ⟨rfl, h⟩
  · exact ⟨rfl, h⟩
  · exact h
theorem valK_spec {y x : Value} {K : Prop} (h : valK y x K) : y = x ∧ K := by
  unfold valK at h
  split at h
  · rename_i k a
    split at h
    · rename_i k' b
      cases hk : kEq k k' with
      | false => simp [hk] at h
      | true => have := kEq_eq hk; subst this; simp only [hk, cond_true] at h; exact ⟨by rw [h.1], h.2⟩
    · exact h.elim
  · split at h
    · exact ⟨by rw [h.1], h.2⟩
    · exact h.elim
  · split at h
    · exact ⟨by rw [h.1], h.2⟩
    · exact h.elim
  · split at h
    · have := addrK_spec h; exact ⟨by rw [this.1], this.2⟩
    · exact h.elim
  · split at h
    · obtain ⟨h1, h2, h3, h4⟩ := addrK_spec h; exact ⟨by rw [h1, h2, h3], h4⟩
    · exact h.elim
  · split at h
    · exact ⟨by rw [h.1], h.2⟩
    · exact h.elim
  · exact h
theorem segK_spec {y x : Seg} {K : Prop} (h : segK y x K) : y = x ∧ K := by
  unfold segK at h
  split at h
  · split at h
    · have := valK_spec h; exact ⟨by rw [this.1], this.2⟩
    · exact h.elim
  · rename_i k n l
    split at h
    · rename_i k' n' l'
      cases hk : (kEq k k' && Nat.beq n n') with
      | false => simp [hk] at h
      | true =>
        simp only [hk, cond_true] at h
        simp only [Bool.and_eq_true] at hk
        have e1 := kEq_eq hk.1; have e2 := Nat.eq_of_beq_eq_true hk.2
        subst e1; subst e2
        exact ⟨by rw [h.1], h.2⟩
    · exact h.elim
  · rename_i n l
    split at h
    · rename_i n' l'
      cases hk : Nat.beq n n' with
      | false => simp [hk] at h
      | true =>
        simp only [hk, cond_true] at h
        have e2 := Nat.eq_of_beq_eq_true hk
        subst e2
        exact ⟨by rw [h.1], h.2⟩
    · exact h.elim
theorem lbK_spec : ∀ {y x : LB} {K : Prop}, lbK y x K → y = x ∧ K
  | [], [], _, h => ⟨rfl, h⟩
  | y :: r, x :: r', K, h => by
    obtain ⟨h1, h2⟩ := segK_spec h
    obtain ⟨h3, h4⟩ := lbK_spec h2
    exact ⟨by rw [h1, h3], h4⟩
  | [], _ :: _, _, h => h.elim
  | _ :: _, [], _, h => h.elim
theorem slotK_spec {y x : SV} {K : Prop} (h : slotK y x K) : (x = .any ∨ Alike x y) ∧ K := by
  unfold slotK at h
  split at h
  · rename_i hh o
    split at h
    · rename_i h' o'
      cases hk : (Nat.beq h' hh && Nat.beq o' o) with
      | false => simp [hk] at h
      | true =>
        simp only [hk, cond_true] at h
        simp only [Bool.and_eq_true] at hk
        have e1 := Nat.eq_of_beq_eq_true hk.1; have e2 := Nat.eq_of_beq_eq_true hk.2
        subst e1; subst e2
        exact ⟨.inr (.inl rfl), h⟩
    · exact h.elim
  · rename_i hh o d
    split at h
    · rename_i h' o' d'
      cases hk : (Nat.beq h' hh && Nat.beq o' o) with
      | false => simp [hk] at h
      | true =>
        simp only [hk, cond_true] at h
        simp only [Bool.and_eq_true] at hk
        have e1 := Nat.eq_of_beq_eq_true hk.1; have e2 := Nat.eq_of_beq_eq_true hk.2
        subst e1; subst e2
        exact ⟨.inr (.inl (by rw [h.1])), h.2⟩
    · exact h.elim
  · rename_i hh o d n c
    split at h
    · rename_i h' o' d' n' c'
      cases hk : (Nat.beq h' hh && Nat.beq o' o) with
      | false => simp [hk] at h
      | true =>
        simp only [hk, cond_true] at h
        simp only [Bool.and_eq_true] at hk
        have e1 := Nat.eq_of_beq_eq_true hk.1; have e2 := Nat.eq_of_beq_eq_true hk.2
        subst e1; subst e2
        obtain ⟨rfl, rfl, rfl, h⟩ := h
        exact ⟨.inr (.inl rfl), h⟩
    · exact h.elim
  · split at h
    · have := lbK_spec h; exact ⟨.inr (.inl (by rw [this.1])), this.2⟩
    · exact h.elim
  · split at h
    · have := valK_spec h; exact ⟨.inr (.inl (by rw [this.1])), this.2⟩
    · split at h
      · exact ⟨.inr (.inr (.inl ⟨by rw [← h.1], rfl⟩)), h.2⟩
      · exact h.elim
    · split at h
      · exact ⟨.inr (.inr (.inr ⟨by rw [← h.1], rfl⟩)), h.2⟩
      · exact h.elim
    · exact h.elim
  · split at h
    · exact ⟨.inr (.inl rfl), h⟩
    · exact h.elim
  · split at h
    · exact ⟨.inr (.inl rfl), h⟩
    · exact h.elim
  · split at h
    · exact ⟨.inr (.inl rfl), h⟩
    · exact h.elim
  · split at h
    · exact ⟨.inr (.inl (by rw [h.1])), h.2⟩
    · exact h.elim
  · exact ⟨.inl rfl, h⟩
theorem Alike.under {x y : SV} (h : Alike x y) {n : Nat} (hu : x.under n) : y.under n := by
  rcases h with rfl | ⟨rfl, rfl⟩ | ⟨rfl, rfl⟩
  · exact hu
  · trivial
  · trivial
theorem slotsK_spec : ∀ {l : List (Nat × SV)} {fr : Nat → SV} {K : Prop} {n : Nat}, slotsK l fr K → allUnder n l = true → (∀ i, frOf l i = .any ∨ (Alike (frOf l i) (fr i) ∧ (fr i).under n)) ∧ K
  | [], _, _, _, h, _ => ⟨fun _ => .inl rfl, h⟩
  | (j, x) :: r, fr, K, n, h, hu => by
    simp only [allUnder, Bool.and_eq_true] at hu
    obtain ⟨h1, h2⟩ := slotK_spec h
    obtain ⟨h3, h4⟩ := slotsK_spec h2 hu.2
    refine ⟨fun i => ?_, h4⟩
    simp only [frOf]
    cases hb : Nat.beq i j with
    | true =>
      have := Nat.eq_of_beq_eq_true hb; subst this
      rcases h1 with h1 | h1
      · exact .inl h1
      · exact .inr ⟨h1, h1.under (underB_spec hu.1)⟩
    | false => exact h3 i
theorem locsK_spec : ∀ {y x : Loc} {K : Prop}, locsK y x K → (∃ rest, y = x ++ rest) ∧ K
  | y, [], _, h => ⟨⟨y, rfl⟩, by simpa [locsK] using h⟩
  | (t, c) :: r, (t', c') :: r', K, h => by
    simp only [locsK] at h
    cases hb : Nat.beq t t' with
    | false => simp [hb] at h
    | true =>
      simp only [hb, cond_true] at h
      have := Nat.eq_of_beq_eq_true hb; subst this
      obtain ⟨rfl, h2⟩ := lbK_spec h
      obtain ⟨⟨rest, h3⟩, h4⟩ := locsK_spec h2
      exact ⟨⟨rest, by rw [h3]; rfl⟩, h4⟩
  | [], _ :: _, _, h => h.elim
theorem LeK.le {s : St} {fr : List (Nat × SV)} {L : Loc} {m : Mem} (h : LeK s fr L m) : Le s ⟨frOf fr, L, m, []⟩ := by
  unfold LeK at h
  cases hb : allUnder L.length fr with
  | false => simp [hb] at h
  | true =>
    simp only [hb, cond_true] at h
    obtain ⟨h1, h2⟩ := slotsK_spec h hb
    obtain ⟨h3, h4⟩ := locsK_spec h2
    exact ⟨h1, h3, h4, rfl⟩

/-- A LOOP: what its head knows, by i; what i must be; a measure that falls. -/
inductive XLoop (X : (Exit → St → Prop) → St → Prop) (Q : Exit → St → Prop) (s : St) : Prop
  | mk {ι : Type} (μ : ι → Nat) (Inv : ι → Prop) (fr : ι → List (Nat × SV)) (L : ι → Loc) (m : ι → Mem) (i0 : ι) (h0 : Inv i0) (hk : LeK s (fr i0) (L i0) (m i0))
    (step : ∀ i, Inv i → X (fun e s' => match e with
      | .normal => ∃ j, Inv j ∧ μ j < μ i ∧ LeK s' (fr j) (L j) (m j)
      | e => Q e s') ⟨frOf (fr i), L i, m i, []⟩)

def setc (s : St) (c : Operand) (x : SV) : St :=
  match c with
  | .tmp t => ⟨putF s.fr (some t) x, s.L, s.m, s.x⟩
  | _ => s

/-- where the run halts, so that what is known may be said anew -/
inductive XAt (X : St → Prop) : St → Prop
  | at {s : St} (h : X s) : XAt X s
  | via {s : St} (fr : List (Nat × SV)) (L : Loc) (m : Mem) (hk : LeK s fr L m) (h : XAt X ⟨frOf fr, L, m, []⟩) : XAt X s

def regX (c : Cfg) (id : Nat) (ops : Array Oper) (draw : Bool) (K : St → Prop) (s : St) : Prop :=
  match draw with
  | false => xops c ops.toList ops.toList K ⟨s.fr, s.L, s.m, []⟩
  | true => bif fresh s ops.toList then xord c ops.toList (c.ord id).ms s (c.ord id).od K ⟨s.fr, s.L, s.m, []⟩ else False
abbrev RF := Operand → Array Tmp → Code → Code → (Exit → St → Prop) → St → Prop
def xwpG (c : Cfg) (sc : Code → (Exit → St → Prop) → St → Prop) (rf : RF) : Code → (Exit → St → Prop) → St → Prop
  | .skip, Q, s => Q .normal s
  | .seq x y, Q, s => xwpG c sc rf x (fun e s' => match e with
    | .normal => xwpG c sc rf y Q s'
    | e => Q e s') s
  | .region id ops draw, Q, s => match c.cut id with
    | false => regX c id ops draw (Q .normal) s
    | true => XAt (regX c id ops draw (Q .normal)) s
  | .cond o x y, Q, s => match ev s o with
    | .tt => xwpG c sc rf x Q s
    | .ff => xwpG c sc rf y Q s
    | .c (.v (.bool b)) => (b = true → xwpG c sc rf x Q (setc s o .tt)) ∧ (b = false → xwpG c sc rf y Q (setc s o .ff))
    | _ => False
  | .block id body, Q, s => xwpG c sc rf body (fun e s' => match e with
    | .exit j => bif Nat.beq j id then Q .normal s' else Q (.exit j) s'
    | e => Q e s') s
  | .exit id, Q, s => Q (.exit id) s
  | .ret, Q, s => Q .ret s
  | .label _, Q, s => Q .normal s
  | .goto l, Q, s => Q (.goto l) s
  | .loop body, Q, s => XLoop (xwpG c sc rf body) Q s
  | .scope body, Q, s => sc body Q s
  | .rangeFunc g ps x y, Q, s => rf g ps x y Q s
  | _, _, _ => False
def QJ (l : Nat) (J : St → Prop) (Q : Exit → St → Prop) : Exit → St → Prop
  | .goto l', s => bif Nat.beq l' l then J s else False
  | e, s => Q e s
/-- A SCOPE with jumps to one label: what is known at each jump, by i; a measure that falls -/
inductive XScope (X : Code → (Exit → St → Prop) → St → Prop) (b : Code) (Q : Exit → St → Prop) (s : St) : Prop
  | mk (l : Nat) (rest : Code) (hf : findLabel b l = some rest) {ι : Type} (μ : ι → Nat) (Inv : ι → Prop) (fr : ι → List (Nat × SV)) (L : ι → Loc) (m : ι → Mem)
    (first : X b (QJ l (fun s' => ∃ j, Inv j ∧ LeK s' (fr j) (L j) (m j)) Q) s)
    (pass : ∀ i, Inv i → X rest (QJ l (fun s' => ∃ j, Inv j ∧ μ j < μ i ∧ LeK s' (fr j) (L j) (m j)) Q) ⟨frOf (fr i), L i, m i, []⟩)
def xwp0 (c : Cfg) : Code → (Exit → St → Prop) → St → Prop := xwpG c (fun _ _ _ => False) (fun _ _ _ _ _ _ => False)
/-- a frame with values in slots -/
def putAll : (Nat → SV) → List Tmp → List CV → (Nat → SV)
  | fr, p :: ps, x :: xs => putAll (putF fr (some p) (.c x)) ps xs
  | fr, _, _ => fr
/-- what a round must come to -/
def asgQ (X : Code → (Exit → St → Prop) → St → Prop) (body : Code) (J : Mem → Prop) : Exit → St → Prop
  | .normal, s => match s.L with
    | [] => X body (fun e s => match e with
      | .normal => J s.m
      | _ => False) ⟨s.fr, [], s.m, []⟩
    | _ :: _ => False
  | _, _ => False
/-- A RANGE OVER A FUNCTION: what memory is known between two rounds, by i; what may come next -/
inductive XRange (P : Program) (X : Code → (Exit → St → Prop) → St → Prop) (g : Operand) (ps : Array Tmp) (asg body : Code) (Q : Exit → St → Prop) (s : St) : Prop
  | mk (gf : FuncId) (captured : Array Value) (hg : ev s g = .c (.v (.func (.func gf) #[] captured))) (hcap : allOne captured.toList = true) (hL : s.L = [])
    {ι : Type} (Inv : ι → Mem → Prop) (i0 : ι) (h0 : Inv i0 s.m) (El : ι → List CV → ι → Prop) (hEl : ∀ i x j, El i x j → x.length = ps.size)
    (round : ∀ i x j m, Inv i m → El i x j → X asg (asgQ X body (Inv j)) ⟨putAll s.fr ps.toList x, [], m, []⟩)
    (Fin : Mem → Prop)
    (iter : ∀ (l : Nat) (o : Obj), s.m l = none → (∀ i x j m, Inv i m → El i x j → m l = none → YSpec P l x (m.set l o) fun r m' => r = [.v (.bool true)] ∧ ∃ m1, Inv j m1 ∧ m1 l = none ∧ m' = m1.set l o) →
      Spec P gf (.v (.func (.yield l) #[] #[]) :: captured.toList.map CV.v) (s.m.set l o) fun r m' => ∃ m1, Fin m1 ∧ m1 l = none ∧ m' = m1.set l o)
    (rest : ∀ m1, Fin m1 → Q .normal ⟨s.fr, [], m1, []⟩)
def xwp (c : Cfg) : Code → (Exit → St → Prop) → St → Prop := xwpG c (XScope (xwp0 c)) (XRange c.P (xwp0 c))

theorem fresh_x {s : St} {x : List Nat} : ∀ {l : List Oper}, fresh ⟨s.fr, s.L, s.m, x⟩ l = fresh s l
  | [] => rfl
  | o :: l => by simp only [fresh, fresh_x (l := l)]
theorem ldOk_x {s : St} {x : List Nat} {ms : List Nat} {i : Nat} {y : SV} : ∀ {l : List (Nat × Ks)}, ldOk ⟨s.fr, s.L, s.m, x⟩ ms i y l = ldOk s ms i y l
  | [] => rfl
  | (_, .but _) :: l => by simp only [ldOk, ldOk_x (l := l)]
  | (_, .all) :: l => by simp only [ldOk, ldOk_x (l := l)]
  | (_, .none) :: l => by simp only [ldOk, ldOk_x (l := l)]
  | (_, .new) :: l => by simp only [ldOk, ldOk_x (l := l)]
theorem xord_x {c : Cfg} {ops : List Oper} {ms : List Nat} {s0 : St} {x : List Nat} : ∀ {t : OT} {K : St → Prop} {s : St}, xord c ops ms ⟨s0.fr, s0.L, s0.m, x⟩ t K s = xord c ops ms s0 t K s
  | .nil, _, _ => rfl
  | .or a b, K, s => by simp only [xord, xord_x (t := a), xord_x (t := b)]
  | .op i k r, K, s => by
    have e1 : kpOf ⟨s0.fr, s0.L, s0.m, x⟩ k = kpOf s0 k := by cases k <;> rfl
    have e2 : ∀ o, loadOk c.T ⟨s0.fr, s0.L, s0.m, x⟩ ms i o s r.els = loadOk c.T s0 ms i o s r.els := by intro o; simp only [loadOk, ldOk_x]
    have e3 : xord c ops ms ⟨s0.fr, s0.L, s0.m, x⟩ r K = xord c ops ms s0 r K := funext fun s => xord_x (t := r)
    simp only [xord, e1, e2, e3]

def dstB (n : Nat) : Option Nat → Bool
  | some d => Nat.blt d n
  | none => true
/-- the slots lie in the frame, the orders serve -/
def codeOk (c : Cfg) (n : Nat) : Code → Bool
  | .seq x y => codeOk c n x && codeOk c n y
  | .region id ops draw => (ops.toList.all (fun o => dstB n o.dst) && ops.toList.all (fun o => notDefer o.op)) && (!draw || ordOk c.T ops (c.ord id))
  | .cond _ x y => codeOk c n x && codeOk c n y
  | .block _ b => codeOk c n b
  | .loop b => codeOk c n b
  | .scope b => codeOk c n b
  | .rangeFunc _ ps x y => codeOk c n x && codeOk c n y && ps.toList.all (fun p => Nat.blt p n)
  | _ => true

section
variable {c : Cfg} {nt : Nat} {D : List Deferred} {m0 : Mem} {W0 : World} {ρ : List Nat} {s : St} {a : Act} {W : World}

theorem conc_take {x : SV} {k : Nat} (h : x.under k) : conc (ρ.take k) x = conc ρ x := by
  have hg : ∀ i, i < k → (ρ.take k).getD i 0 = ρ.getD i 0 := fun i hi => by
    simp only [List.getD_eq_getElem?_getD, List.getElem?_take, hi, if_true]
  cases x <;> simp only [SV.under] at h <;> simp only [conc] <;> try rw [hg _ h]

theorem Rel.le (hr : Rel nt D m0 W0 ρ s a W) {s1 : St} (h : Le s s1) : Rel nt D m0 W0 (ρ.take s1.L.length) s1 a W := by
  obtain ⟨h1, ⟨rest, h2⟩, h3, h4⟩ := h
  have hlen : s1.L.length ≤ ρ.length := by rw [hr.len, h2]; simp
  have htl : (ρ.take s1.L.length).length = s1.L.length := by rw [List.length_take]; omega
  refine ⟨hr.defers, hr.size, fun i => ?_, htl, ?_, ?_, hr.after.forget h3, by rw [h4]; simp⟩
  · rcases h1 i with h | ⟨h, hu⟩
    · exact .inl h
    · rcases hr.slots i with g | ⟨g1, g2, g3⟩
      · rcases h with h | ⟨_, h⟩ | ⟨_, h⟩
        · exact .inl (h.trans g)
        · rw [g] at h; cases h
        · rw [g] at h; cases h
      · refine .inr ?_
        rcases h with h | ⟨h, h'⟩ | ⟨h, h'⟩
        · rw [h, conc_take hu, htl]
          exact ⟨g1, g2, hu⟩
        · rw [h, g1, h']; exact ⟨rfl, rfl, trivial⟩
        · rw [h, g1, h']; exact ⟨rfl, rfl, trivial⟩
  · intro i t cc hi
    have hlt : i < s1.L.length := (List.getElem?_eq_some_iff.1 hi).1
    have hg : (ρ.take s1.L.length).getD i 0 = ρ.getD i 0 := by simp only [List.getD_eq_getElem?_getD, List.getElem?_take, hlt, if_true]
    rw [hg]
    obtain ⟨k1, k2, k3, k4⟩ := hr.locs i t cc (by rw [h2, List.getElem?_append_left hlt]; exact hi)
    refine ⟨k1, k2, ?_, k4⟩
    cases hx : s1.m (ρ.getD i 0) with
    | none => rfl
    | some o => have := h3 _ _ hx; rw [k3] at this; cases this
  · exact hr.nodup.sublist (List.take_sublist _ _)

theorem XAt.use {X : St → Prop} {s : St} (h : XAt X s) : ∀ {ρ : List Nat}, Rel nt D m0 W0 ρ s a W → ∃ s' ρ', X s' ∧ Rel nt D m0 W0 ρ' s' a W := by
  induction h with
  | «at» h => exact fun hr => ⟨_, _, h, hr⟩
  | via fr L m hk _ ih => exact fun hr => ih (hr.le hk.le)
theorem After.putOut {m : Mem} (h : After m0 W0 m W) {b : Nat} (hm : m b = none) (hb : W0.heap.size ≤ b) (o : Obj) : After m0 W0 m (W.putObj b o) := by
  refine ⟨fun x u hx => ?_, by simp; exact h.size, h.tape, h.os, h.output, fun x hx hn => ?_⟩
  · have e : x ≠ b := fun e => by subst e; rw [hm] at hx; cases hx
    rw [World.putObj_heap_other e]; exact h.over x u hx
  · have e : x ≠ b := by omega
    rw [World.putObj_heap_other e]; exact h.frame x hx hn
theorem Rel.putOut (hr : Rel nt D m0 W0 ρ s a W) {b : Nat} (hm : s.m b = none) (hb : W0.heap.size ≤ b) (hρ : b ∉ ρ) (o : Obj) : Rel nt D m0 W0 ρ s a (W.putObj b o) := by
  refine ⟨hr.defers, hr.size, hr.slots, hr.len, fun h t cc hh => ?_, hr.nodup, hr.after.putOut hm hb o, hr.seen⟩
  obtain ⟨k1, k2, k3, k4⟩ := hr.locs h t cc hh
  have hlt : h < ρ.length := by rw [hr.len]; exact (List.getElem?_eq_some_iff.1 hh).1
  have hne : ρ.getD h 0 ≠ b := fun e => hρ (e ▸ getD_mem hlt)
  exact ⟨by rw [World.putObj_heap_other hne]; exact k1, k2, k3, k4⟩
theorem Rel.base {m1 : Mem} {W1 : World} (hA : After m0 W0 m1 W1) (hr : Rel nt D m1 W1 ρ s a W) : Rel nt D m0 W0 ρ s a W :=
  ⟨hr.defers, hr.size, hr.slots, hr.len, fun h t cc hh => by
    obtain ⟨k1, k2, k3, k4⟩ := hr.locs h t cc hh
    exact ⟨k1, k2, k3, Nat.le_trans hA.size k4⟩, hr.nodup, hA.trans hr.after, hr.seen⟩
/-- the marks are taken, one by one -/
theorem leaves_of {P : Program} {fn : Func} {tmps : Array Value} {R : Ending → World → Prop} {Good : World → Prop} {Ok : Nat → Prop} (hput : ∀ w r, Ok r → Good w → Good (w.putObj r (.deferred none))) (hend : ∀ w, Good w → ∃ v, (results fn tmps).run P w = .ok v w ∧ R (.returned v) w) :
    ∀ (D : List Deferred) (w : World), (∀ d ∈ D, ∃ r, d = { target := .collected r, args := #[] } ∧ w.heap[r]? = some (.deferred (some [])) ∧ Ok r) → D.Pairwise (· ≠ ·) → Good w → LeavesInM Fence.wide 0 P fn tmps R D .returning w
  | [], w, _, _, hg => hend w hg
  | d :: D, w, h, hp, hg => by
    obtain ⟨r, rfl, hr, hok⟩ := h d (by simp)
    rw [List.pairwise_cons] at hp
    refine ⟨by simp, .inl ⟨r, _, rfl, run_takeDeferred hr, leaves_of hput hend D _ (fun d' hd' => ?_) hp.2 (hput w r hok hg)⟩⟩
    obtain ⟨r', rfl, hr', hok'⟩ := h d' (by simp [hd'])
    have hne : r' ≠ r := fun e => hp.1 _ hd' (by rw [e])
    exact ⟨r', rfl, by rw [World.putObj_heap_other hne]; exact hr', hok'⟩
/-- marks of loops over functions that were gone through -/
structure Marks (m1 : Mem) (W0 W1 : World) (D : List Deferred) : Prop where
  each : ∀ d ∈ D, ∃ r, d = { target := .collected r, args := #[] } ∧ W1.heap[r]? = some (.deferred (some [])) ∧ m1 r = none ∧ W0.heap.size ≤ r
  apart : D.Pairwise (· ≠ ·)
theorem Marks.nil (m1 : Mem) (W0 W1 : World) : Marks m1 W0 W1 [] := ⟨by simp, List.Pairwise.nil⟩
abbrev Wrap := List Deferred → Mem → World → Prop
/-- how a symbolic state stands to a frame and a world, behind whatever loops over functions -/
def RelM (nt : Nat) (Wr : Wrap) (ρ : List Nat) (s : St) (a : Act) (W : World) : Prop :=
  ∃ D m1 W1, Wr D m1 W1 ∧ Rel nt D m1 W1 ρ s a W
/-- a call's own beginning, and what was gone through since -/
def Base (m0 : Mem) (W0 : World) : Wrap := fun D m1 W1 => After m0 W0 m1 W1 ∧ Marks m1 W0 W1 D
/-- a beginning, and no loop over a function since -/
def Here (D : List Deferred) (m0 : Mem) (W0 : World) : Wrap := fun D' m1 W1 => D' = D ∧ m1 = m0 ∧ W1 = W0
section
variable {Wr : Wrap}
theorem RelM.le (h : RelM nt Wr ρ s a W) {s1 : St} (k : Le s s1) : RelM nt Wr (ρ.take s1.L.length) s1 a W := by
  obtain ⟨D, m1, W1, hA, hr⟩ := h
  exact ⟨D, m1, W1, hA, hr.le k⟩
/-- what is known of where code leads, as a post of the model's -/
def QPost (nt : Nat) (Wr : Wrap) (Q : Exit → St → Prop) : Exit → Act → World → Prop := fun e a W => (∀ ch, e ≠ .panic ch) ∧ ∃ s ρ, Q e s ∧ RelM nt Wr ρ s a W

theorem Rel.setc (hr : Rel nt D m0 W0 ρ s a W) {o : Operand} {b : Bool} (h : ev s o = .c (.v (.bool b))) : Rel nt D m0 W0 ρ (setc s o (if b then .tt else .ff)) a W := by
  cases o with
  | tmp t => exact hr.decide h
  | _ => exact hr

theorem wpIn_loop_n {F : Fence} {n0 : Nat} {P : Program} {Q : Exit → Act → World → Prop} {c : Code} (I : Nat → Act → World → Prop) {n : Nat} (h0 : I n a W)
    (round : ∀ n a W, I n a W → c.wpIn F n0 P (Exit.then (fun a' W' => ∃ k, k < n ∧ I k a' W') Q) a W) : (Code.loop c).wpIn F n0 P Q a W := by
  intro b k cs hro hb hr
  have key : ∀ n a w, I n a w → ∃ e a' w', Q e a' w' ∧ ArrivesIn (Machine.fenced P F) P (lone (b.atR a (.code c :: .inLoop c :: k)) cs w) b k cs e a' w' := by
    intro n
    induction n using Nat.strongRecOn with
    | _ n ih =>
      intro a w hI
      obtain ⟨e, a₁, w₁, hq, harr⟩ := round n a w hI b (.inLoop c :: k) cs hro hb hr
      cases e with
      | normal =>
        obtain ⟨n', hlt, hI₁⟩ := hq
        obtain ⟨e₂, a₂, w₂, hq₂, harr₂⟩ := ih n' hlt a₁ w₁ hI₁
        exact ⟨e₂, a₂, w₂, hq₂, .of_steps (StepsIn.trans harr (.one (fenced_calm hb hr rfl) stepR_inLoop)) harr₂⟩
      | exit id => exact ⟨_, a₁, w₁, hq, .pass (x := .inLoop c) rfl (fun _ _ => .inl (by simp)) harr⟩
      | goto l => exact ⟨_, a₁, w₁, hq, .pass (x := .inLoop c) rfl (fun _ _ => .inl (by simp)) harr⟩
      | ret => exact ⟨_, a₁, w₁, hq, .pass (x := .inLoop c) rfl (fun _ _ => .inl (by simp)) harr⟩
      | panic ch => exact ⟨_, a₁, w₁, hq, .pass (x := .inLoop c) rfl (fun _ _ => .inl (by simp)) harr⟩
      | outgrown => exact ⟨_, a₁, w₁, hq, .pass (x := .inLoop c) rfl (fun _ _ => .inl (by simp)) harr⟩
  obtain ⟨e, a', w', hq, harr⟩ := key n a W h0
  exact ⟨e, a', w', hq, .of_steps (.one (fenced_calm hb hr rfl) stepR_loop) harr⟩

theorem dst_of {n : Nat} {ops : Array Oper} (h : ops.toList.all (fun o => dstB n o.dst) = true) : ∀ o ∈ ops.toList, dstIn o.dst n := by
  intro o ho i hi
  have := List.all_eq_true.1 h o ho
  rw [hi] at this
  exact blt_lt.1 this

theorem xwpG_spec {F : Fence} (hF : FOk F) (hT : TabOk c.P c.T) (hm : c.P.follows .mixedOrders = true) {sc : Code → (Exit → St → Prop) → St → Prop} {rf : RF}
    (hsc : ∀ b, codeOk c nt b = true → ∀ (Q : Exit → St → Prop) (s : St) (ρ : List Nat) (a : Act) (W : World), sc b Q s → RelM nt Wr ρ s a W → (Code.scope b).wpIn F 0 c.P (QPost nt Wr Q) a W)
    (hrf : ∀ g ps x y, codeOk c nt (.rangeFunc g ps x y) = true → ∀ (Q : Exit → St → Prop) (s : St) (ρ : List Nat) (a : Act) (W : World), rf g ps x y Q s → RelM nt Wr ρ s a W → (Code.rangeFunc g ps x y).wpIn F 0 c.P (QPost nt Wr Q) a W) :
    ∀ (code : Code), codeOk c nt code = true → ∀ (Q : Exit → St → Prop) (s : St) (ρ : List Nat) (a : Act) (W : World), xwpG c sc rf code Q s → RelM nt Wr ρ s a W → code.wpIn F 0 c.P (QPost nt Wr Q) a W := by
  intro code
  induction code with
  | skip => intro _ Q s ρ a W h hr; exact wpIn_skip ⟨by simp, s, ρ, h, hr⟩
  | label l => intro _ Q s ρ a W h hr; exact wpIn_label ⟨by simp, s, ρ, h, hr⟩
  | exit id => intro _ Q s ρ a W h hr; exact wpIn_exit ⟨by simp, s, ρ, h, hr⟩
  | goto l => intro _ Q s ρ a W h hr; exact wpIn_goto ⟨by simp, s, ρ, h, hr⟩
  | ret => intro _ Q s ρ a W h hr; exact wpIn_ret ⟨by simp, s, ρ, h, hr⟩
  | refuse why => intro _ Q s ρ a W h hr; exact h.elim
  | rangeFunc f ps x y _ _ => intro hok Q s ρ a W h hr; exact hrf f ps x y hok Q s ρ a W h hr
  | scope b _ => intro hok Q s ρ a W h hr; exact hsc b hok Q s ρ a W h hr
  | seq x y ihx ihy =>
    intro hok Q s ρ a W h hr
    simp only [codeOk, Bool.and_eq_true] at hok
    refine wpIn_seq (wpIn_mono (ihx hok.1 _ s ρ a W h hr) fun e a' W' hq => ?_)
    obtain ⟨hnp, s', ρ', hk, hr'⟩ := hq
    cases e with
    | normal => exact ihy hok.2 Q s' ρ' a' W' hk hr'
    | _ => exact ⟨hnp, s', ρ', hk, hr'⟩
  | block id b ih =>
    intro hok Q s ρ a W h hr
    refine wpIn_block (wpIn_mono (ih hok _ s ρ a W h hr) fun e a' W' hq => ?_)
    obtain ⟨hnp, s', ρ', hk, hr'⟩ := hq
    cases e with
    | exit j =>
      simp only [Exit.inBlock]
      cases hb : Nat.beq j id with
      | true =>
        rw [if_pos (Nat.eq_of_beq_eq_true hb)]
        simp only [hb, cond_true] at hk
        exact ⟨by simp, s', ρ', hk, hr'⟩
      | false =>
        have hne : j ≠ id := fun e => by subst e; rw [Nat.beq_refl] at hb; cases hb
        rw [if_neg hne]
        simp only [hb, cond_false] at hk
        exact ⟨by simp, s', ρ', hk, hr'⟩
    | _ => exact ⟨hnp, s', ρ', hk, hr'⟩
  | cond o x y ihx ihy =>
    intro hok Q s ρ a W h hM
    simp only [codeOk, Bool.and_eq_true] at hok
    simp only [xwpG] at h
    obtain ⟨D, m1, W1, hA, hr⟩ := hM
    have hf := hr.fits o
    split at h
    · rename_i e
      rw [e] at hf
      exact wpIn_cond_true (hf.eq (by simp)) (ihx hok.1 Q s ρ a W h ⟨D, m1, W1, hA, hr⟩)
    · rename_i e
      rw [e] at hf
      exact wpIn_cond_false (hf.eq (by simp)) (ihy hok.2 Q s ρ a W h ⟨D, m1, W1, hA, hr⟩)
    · rename_i b e
      rw [e] at hf
      have hs := hr.setc e
      cases b with
      | true => exact wpIn_cond_true (hf.eq (by simp)) (ihx hok.1 Q _ ρ a W (h.1 rfl) ⟨D, m1, W1, hA, hs⟩)
      | false => exact wpIn_cond_false (hf.eq (by simp)) (ihy hok.2 Q _ ρ a W (h.2 rfl) ⟨D, m1, W1, hA, hs⟩)
    · exact h.elim
  | region id ops draw =>
    intro hok Q s ρ a W h hM
    simp only [codeOk, Bool.and_eq_true] at hok
    obtain ⟨D, m1, W1, hA, hr⟩ := hM
    have hnd : ∀ o ∈ ops.toList, notDefer o.op = true := fun o ho => List.all_eq_true.1 hok.1.2 o ho
    have post : ∀ e a' W', QN nt D m1 W1 (Q .normal) e a' W' → QPost nt Wr Q e a' W' := by
      intro e a' W' hq
      cases e with
      | normal =>
        obtain ⟨s', ρ', hk, hr'⟩ := hq
        exact ⟨by simp, s', ρ', hk, D, m1, W1, hA, hr'⟩
      | _ => exact hq.elim
    have key : ∀ (s : St) (ρ : List Nat), regX c id ops draw (Q .normal) s → Rel nt D m1 W1 ρ s a W → (Code.region id ops draw).wpIn F 0 c.P (QPost nt Wr Q) a W := by
      intro s ρ h hr
      unfold regX at h
      cases draw with
      | false => exact wpIn_mono (region_plain hT hF (dst_of hok.1.1) hnd hr.clear h) post
      | true =>
        simp only at h
        cases hfr : fresh s ops.toList with
        | false => simp [hfr] at h
        | true =>
          simp only [hfr, cond_true] at h
          exact wpIn_mono (region_drawn hF (s := ⟨s.fr, s.L, s.m, []⟩) hT hm (dst_of hok.1.1) hnd (c.ord id) (by simpa using hok.2) (fresh_x ▸ hfr) hr.clear (xord_x ▸ h)) post
    simp only [xwpG] at h
    cases hc : c.cut id with
    | false => simp only [hc] at h; exact key s ρ h hr
    | true =>
      simp only [hc] at h
      obtain ⟨s', ρ', h', hr'⟩ := h.use hr
      exact key s' ρ' h' hr'
  | loop b ih =>
    intro hok Q s ρ a W h hr
    obtain ⟨μ, Inv, fr, L, m, i0, h0, hle, hround⟩ := h
    refine wpIn_loop_n (fun n a W => ∃ i ρ, Inv i ∧ μ i = n ∧ RelM nt Wr ρ ⟨frOf (fr i), L i, m i, []⟩ a W) (n := μ i0) ⟨i0, _, h0, rfl, hr.le hle.le⟩ ?_
    rintro n a W ⟨i, ρ, hi, rfl, hr⟩
    refine wpIn_mono (ih hok _ _ ρ a W (hround i hi) hr) fun e a' W' hq => ?_
    obtain ⟨hnp, s', ρ', hk, hr'⟩ := hq
    cases e with
    | normal =>
      obtain ⟨j, hj, hlt, hle⟩ := hk
      exact ⟨μ j, hlt, j, _, hj, rfl, hr'.le hle.le⟩
    | _ => exact ⟨hnp, s', ρ', hk, hr'⟩
theorem codeOk_label {l : Nat} : ∀ {b rest : Code}, codeOk c nt b = true → findLabel b l = some rest → codeOk c nt rest = true := by
  intro b
  induction b with
  | seq x y ihx ihy =>
    intro rest h hf
    simp only [codeOk, Bool.and_eq_true] at h
    simp only [findLabel] at hf
    cases hx : findLabel x l with
    | some r => rw [hx] at hf; cases hf; simp only [codeOk, Bool.and_eq_true]; exact ⟨ihx h.1 hx, h.2⟩
    | none => rw [hx] at hf; exact ihy h.2 hf
  | label l' => intro rest h hf; simp only [findLabel] at hf; split at hf <;> cases hf; rfl
  | _ => intro rest h hf; simp [findLabel] at hf
theorem wp_scope_n {P : Program} {Q : Exit → Act → World → Prop} {b rest : Code} (l : Nat) (J : Nat → Act → World → Prop) (hf : findLabel b l = some rest)
    (first : b.wp P (Exit.jump l (fun a' W' => ∃ k, J k a' W') Q) a W)
    (pass : ∀ n a W, J n a W → rest.wp P (Exit.jump l (fun a' W' => ∃ k, k < n ∧ J k a' W') Q) a W) : (Code.scope b).wp P Q a W := by
  intro f k cs
  have hg : gotoIn l (.inScope b :: k) = some (.code rest :: .inScope b :: k) := by simp [gotoIn, hf]
  have key : ∀ n a W, J n a W → ∃ e a' W', Q e a' W' ∧ Arrives P (lone (f.at a (.code rest :: .inScope b :: k)) cs W) f k cs e a' W' := by
    intro n
    induction n using Nat.strongRecOn with
    | _ n ih =>
      intro a W hJ
      obtain ⟨e, a₁, w₁, hq, harr⟩ := pass n a W hJ f (.inScope b :: k) cs
      cases e with
      | normal => exact ⟨.normal, a₁, w₁, hq, Steps.trans harr (.one step_inScope)⟩
      | exit id => exact ⟨.exit id, a₁, w₁, hq, fun k' hk => harr k' (by simp [exitTo, hk])⟩
      | goto l' =>
        obtain ⟨rfl, n', hlt, hJ'⟩ := hq
        obtain ⟨e₂, a₂, w₂, hq₂, harr₂⟩ := ih n' hlt a₁ w₁ hJ'
        exact ⟨e₂, a₂, w₂, hq₂, .of_steps (harr _ hg) harr₂⟩
      | ret => exact ⟨_, a₁, w₁, hq, harr⟩
      | panic ch => exact ⟨_, a₁, w₁, hq, harr⟩
      | outgrown => exact ⟨_, a₁, w₁, hq, harr⟩
  obtain ⟨e, a₁, w₁, hq, harr⟩ := first f (.inScope b :: k) cs
  cases e with
  | normal => exact ⟨.normal, a₁, w₁, hq, .head step_scope (Steps.trans harr (.one step_inScope))⟩
  | exit id => exact ⟨.exit id, a₁, w₁, hq, fun k' hk => .head step_scope (harr k' (by simp [exitTo, hk]))⟩
  | goto l' =>
    obtain ⟨rfl, n', hJ'⟩ := hq
    obtain ⟨e₂, a₂, w₂, hq₂, harr₂⟩ := key n' a₁ w₁ hJ'
    exact ⟨e₂, a₂, w₂, hq₂, .of_steps (.head step_scope (harr _ hg)) harr₂⟩
  | ret => exact ⟨_, a₁, w₁, hq, .of_steps (.one step_scope) harr⟩
  | panic ch => exact ⟨_, a₁, w₁, hq, .of_steps (.one step_scope) harr⟩
  | outgrown => exact ⟨_, a₁, w₁, hq, .of_steps (.one step_scope) harr⟩
theorem xwp0_spec {F : Fence} (hF : FOk F) (hT : TabOk c.P c.T) (hm : c.P.follows .mixedOrders = true) : ∀ (code : Code), codeOk c nt code = true → ∀ (Q : Exit → St → Prop) (s : St) (ρ : List Nat) (a : Act) (W : World), xwp0 c code Q s → RelM nt Wr ρ s a W → code.wpIn F 0 c.P (QPost nt Wr Q) a W :=
  xwpG_spec hF hT hm (fun _ _ _ _ _ _ _ h _ => h.elim) (fun _ _ _ _ _ _ _ _ _ _ h _ => h.elim)
theorem QPost.jump {l : Nat} {J : St → Prop} {Q : Exit → St → Prop} {J' : Act → World → Prop} (hJ : ∀ s ρ a W, J s → RelM nt Wr ρ s a W → J' a W) : ∀ e a W, QPost nt Wr (QJ l J Q) e a W → Exit.jump l J' (QPost nt Wr Q) e a W := by
  rintro e a W ⟨hnp, s, ρ, hk, hr⟩
  cases e with
  | goto l' =>
    simp only [QJ] at hk
    cases hb : Nat.beq l' l with
    | true => simp only [hb, cond_true] at hk; exact ⟨Nat.eq_of_beq_eq_true hb, hJ s ρ a W hk hr⟩
    | false => simp [hb] at hk
  | _ => exact ⟨hnp, s, ρ, hk, hr⟩
theorem scope_spec (hT : TabOk c.P c.T) (hm : c.P.follows .mixedOrders = true) : ∀ b, codeOk c nt b = true → ∀ (Q : Exit → St → Prop) (s : St) (ρ : List Nat) (a : Act) (W : World), XScope (xwp0 c) b Q s → RelM nt Wr ρ s a W → (Code.scope b).wpIn Fence.wide 0 c.P (QPost nt Wr Q) a W := by
  intro b hok Q s ρ a W h hr
  obtain ⟨l, rest, hf, μ, Inv, fr, L, m, first, pass⟩ := h
  refine wpIn_wide.2 (wp_scope_n l (fun n a W => ∃ i ρ, Inv i ∧ μ i = n ∧ RelM nt Wr ρ ⟨frOf (fr i), L i, m i, []⟩ a W) hf ?_ ?_)
  · refine wp_mono (wpIn_wide.1 (xwp0_spec (.inl rfl) hT hm b hok _ s ρ a W first hr)) (QPost.jump ?_)
    rintro s ρ a W ⟨j, hj, hk⟩ hr
    exact ⟨μ j, j, _, hj, rfl, hr.le hk.le⟩
  · rintro n a W ⟨i, ρ, hi, rfl, hr⟩
    refine wp_mono (wpIn_wide.1 (xwp0_spec (.inl rfl) hT hm rest (codeOk_label hok hf) _ _ ρ a W (pass i hi) hr)) (QPost.jump ?_)
    rintro s ρ a W ⟨j, hj, hlt, hk⟩ hr
    exact ⟨μ j, hlt, j, _, hj, rfl, hr.le hk.le⟩
end
theorem putAll_at (fr : Nat → SV) : ∀ (ps : List Tmp) (xs : List CV) (i : Nat), putAll fr ps xs i = .any ∨ (∃ x ∈ xs, putAll fr ps xs i = .c x) ∨ putAll fr ps xs i = fr i := by
  intro ps
  induction ps generalizing fr with
  | nil => intro xs i; exact .inr (.inr (by cases xs <;> rfl))
  | cons p ps ih =>
    intro xs i
    cases xs with
    | nil => exact .inr (.inr rfl)
    | cons x xs =>
      rcases ih (putF fr (some p) (.c x)) xs i with h | ⟨y, hy, h⟩ | h
      · exact .inl h
      · exact .inr (.inl ⟨y, by simp [hy], h⟩)
      · simp only [putAll]
        rw [h, putF_at]
        split
        · exact .inr (.inl ⟨x, by simp, rfl⟩)
        · exact .inr (.inr rfl)
/-- a round's frame -/
theorem Rel.round {ps : Array Tmp} {x : List CV} (hr : Rel nt D m0 W0 [] s a W) (hps : ∀ p ∈ ps.toList, p < nt) (hx : ∀ v ∈ x, v.ok) {m : Mem} {w : World} (hw : Over m w) :
    Rel nt [] m w [] ⟨putAll s.fr ps.toList x, [], m, []⟩ { tmps := (ps.zip (x.map CV.val).toArray).foldl (fun t (p, v) => t.setIfInBounds p v) a.tmps, defers := [] } w := by
  have key : ∀ (l : List Tmp) (x : List CV) (fr : Nat → SV) (t : Array Value), (∀ p ∈ l, p < nt) → (∀ v ∈ x, v.ok) → t.size = nt → (∀ i, fr i = .any ∨ (t[i]? = some (conc [] (fr i)) ∧ (fr i).ok ∧ (fr i).under 0)) →
      ((l.zip (x.map CV.val)).foldl (fun t (q : Tmp × Value) => t.setIfInBounds q.1 q.2) t).size = nt ∧ ∀ i, putAll fr l x i = .any ∨ (((l.zip (x.map CV.val)).foldl (fun t (q : Tmp × Value) => t.setIfInBounds q.1 q.2) t)[i]? = some (conc [] (putAll fr l x i)) ∧ (putAll fr l x i).ok ∧ (putAll fr l x i).under 0) := by
    intro l
    induction l with
    | nil => intro x fr t _ _ ht h; cases x <;> exact ⟨ht, h⟩
    | cons p l ih =>
      intro x fr t hp hx ht h
      cases x with
      | nil => exact ⟨ht, h⟩
      | cons v x =>
        refine ih x (putF fr (some p) (.c v)) (t.setIfInBounds p v.val) (fun q hq => hp q (by simp [hq])) (fun q hq => hx q (by simp [hq])) (by simpa using ht) fun i => ?_
        rw [putF_at]
        by_cases e : some p = some i
        · simp only [Option.some.injEq] at e
          subst e
          rw [if_pos rfl]
          have hpn : p < t.size := ht ▸ hp p (by simp)
          exact .inr ⟨by rw [Array.getElem?_setIfInBounds_self_of_lt hpn]; rfl, hx v (by simp), trivial⟩
        · rw [if_neg e]
          simp only [Option.some.injEq] at e
          rcases h i with h' | ⟨h1, h2⟩
          · exact .inl h'
          · exact .inr ⟨by rw [Array.getElem?_setIfInBounds_ne e]; exact h1, h2⟩
  have hz : (ps.zip (x.map CV.val).toArray).foldl (fun t (p, v) => t.setIfInBounds p v) a.tmps = (ps.toList.zip (x.map CV.val)).foldl (fun t (q : Tmp × Value) => t.setIfInBounds q.1 q.2) a.tmps := by
    rw [← Array.foldl_toList]; simp
  obtain ⟨k1, k2⟩ := key ps.toList x s.fr a.tmps hps hx hr.size (fun i => by
    rcases hr.slots i with h | ⟨h1, h2, h3⟩
    · exact .inl h
    · exact .inr ⟨h1, h2, h3⟩)
  rw [← hz] at k1 k2
  exact ⟨rfl, k1, k2, rfl, by simp, by simp, After.refl hw, by simp⟩
theorem ready_eq {r : Loop} (h1 : r.state = .ready) (h2 : r.pending = none) : ({ { r with state := .busy } with state := .ready, pending := none } : Loop) = r := by
  cases r; simp at h1 h2; subst h1; subst h2; rfl
theorem range_spec (hT : TabOk c.P c.T) (hm : c.P.follows .mixedOrders = true) : ∀ g ps x y, codeOk c nt (.rangeFunc g ps x y) = true → ∀ (Q : Exit → St → Prop) (s : St) (ρ : List Nat) (a : Act) (W : World), XRange c.P (xwp0 c) g ps x y Q s → RelM nt (Base m0 W0) ρ s a W → (Code.rangeFunc g ps x y).wpIn Fence.wide 0 c.P (QPost nt (Base m0 W0) Q) a W := by
  intro g ps asg body hok Q s ρ a W h hM
  obtain ⟨gf, captured, hg, hcap, hL, Inv, i0, h0, El, hEl, round, Fin, iter, rest⟩ := h
  obtain ⟨D, m1, W1, ⟨hA, hMk⟩, hr⟩ := hM
  simp only [codeOk, Bool.and_eq_true] at hok
  obtain ⟨⟨hok1, hok2⟩, hok3⟩ := hok
  have hps : ∀ p ∈ ps.toList, p < nt := fun p hp => blt_lt.1 (List.all_eq_true.1 hok3 p hp)
  have hρ : ρ = [] := by
    have := hr.len
    rw [hL] at this
    exact List.length_eq_zero_iff.1 this
  subst hρ
  have hgf := hr.fits g
  rw [hg] at hgf
  have hgv := hgf.eq (by simp)
  simp only [conc, CV.val] at hgv
  have hT0 : After m0 W0 s.m W := hA.trans hr.after
  have hover := hT0.over
  refine wpIn_rangeFunc fun fn _ => ?_
  let rc : Loop := { state := .ready, pending := none, fn := fn, tmps := a.tmps, params := ps, assign := asg, body := body, defers := W.heap.size }
  let Wd := W.alloc (.deferred (some []))
  let W' := Wd.alloc (.loop rc)
  have hl1 : W.heap.size + 1 = Wd.heap.size := by simp [Wd]
  have hsl : s.m (W.heap.size + 1) = none := hover.none (by omega)
  have hsd : s.m W.heap.size = none := hover.none (Nat.le_refl _)
  -- one round
  have hY : ∀ i x j m, Inv i m → El i x j → m (W.heap.size + 1) = none → YSpec c.P (W.heap.size + 1) x (m.set (W.heap.size + 1) (.loop rc)) fun r m' => r = [.v (.bool true)] ∧ ∃ m1, Inv j m1 ∧ m1 (W.heap.size + 1) = none ∧ m' = m1.set (W.heap.size + 1) (.loop rc) := by
    intro i x j m hi hx hml hxok w hw
    have hwl : w.heap[W.heap.size + 1]? = some (.loop rc) := hw _ _ (Mem.set_same ..)
    have hwm : Over m w := hw.sub (Mem.sub_set _ hml)
    refine ⟨_, _, _, _, run_yield hwl (by simp [rc, hEl i x j hx]), roundIn_of_wpIn trivial ?_⟩
    have hrr := hr.round (x := x) hps hxok hwm
    refine wpIn_mono (xwp0_spec (Wr := Here [] m w) (.inr ⟨_, rfl⟩) hT hm asg hok1 _ _ _ _ _ (round i x j m hi hx) ⟨[], m, w, ⟨rfl, rfl, rfl⟩, hrr⟩) fun e a1 w1 hq => ?_
    obtain ⟨hnp, s1, ρ1, hk, D1, mm, ww, ⟨e1, e2, e3⟩, hr1⟩ := hq
    subst D1 mm ww
    cases e <;> first | exact hk.elim | skip
    simp only [asgQ] at hk
    split at hk
    rotate_left
    · exact hk.elim
    rename_i hL1
    have hAf := hr1.after
    have hlt : W.heap.size + 1 < w.heap.size := (Array.getElem?_eq_some_iff.1 hwl).1
    obtain ⟨f1, f2⟩ := hAf.frame _ hlt hml
    have hw1l := f2.trans hwl
    refine ⟨_, run_beginRound hw1l rfl, ?_⟩
    have hρ1 : ρ1 = [] := by
      have := hr1.len
      rw [hL1] at this
      exact List.length_eq_zero_iff.1 this
    subst hρ1
    have hw1lt : W.heap.size + 1 < w1.heap.size := (Array.getElem?_eq_some_iff.1 hw1l).1
    have hov2 : Over s1.m (w1.putObj (W.heap.size + 1) (.loop { rc with state := .busy })) := fun b o hb => by
      have e : b ≠ W.heap.size + 1 := fun e => by rw [e, f1] at hb; cases hb
      rw [World.putObj_heap_other e]; exact hAf.over b o hb
    -- the body, from a world of its own
    have hr2 : Rel nt [] s1.m (w1.putObj (W.heap.size + 1) (.loop { rc with state := .busy })) [] ⟨s1.fr, [], s1.m, []⟩ a1 (w1.putObj (W.heap.size + 1) (.loop { rc with state := .busy })) :=
      ⟨hr1.defers, hr1.size, hr1.slots, rfl, by simp, by simp, After.refl hov2, by simp⟩
    refine wpIn_mono (xwp0_spec (Wr := Here [] s1.m _) (.inr ⟨_, rfl⟩) hT hm body hok2 _ _ _ _ _ hk ⟨[], _, _, ⟨rfl, rfl, rfl⟩, hr2⟩) fun e a2 w2 hq2 => ?_
    obtain ⟨hnp2, s2, ρ2, hk2, D2, mm2, ww2, ⟨e1, e2, e3⟩, hr3⟩ := hq2
    subst D2 mm2 ww2
    cases e <;> first | exact hk2.elim | skip
    have hAf2 := hr3.after
    obtain ⟨g1, g2⟩ := hAf2.frame (W.heap.size + 1) (by simp; omega) f1
    have hw2l : w2.heap[W.heap.size + 1]? = some (.loop { rc with state := .busy }) := g2.trans (World.putObj_heap_same hw1lt)
    refine ⟨_, _, run_endRound none hw2l, [.v (.bool true)], s2.m.set (W.heap.size + 1) (.loop rc), rfl, ?_, ⟨rfl, s2.m, hk2, g1, rfl⟩, ?_⟩
    · intro z hz; simp at hz; subst hz; rfl
    · have e1 : ({ { rc with state := .busy } with state := if (none : Option Code).isNone then .ready else .done, pending := none } : Loop) = rc := rfl
      have hw2lt : W.heap.size + 1 < w2.heap.size := (Array.getElem?_eq_some_iff.1 hw2l).1
      refine ⟨fun b o hb => ?_, ?_, ?_, ?_, ?_, fun b hb hn => ?_⟩
      · by_cases e : b = W.heap.size + 1
        · subst e; rw [Mem.set_same] at hb; cases hb
          exact World.putObj_heap_same hw2lt
        · rw [Mem.set_ne _ _ e] at hb
          rw [World.putObj_heap_other e]; exact hAf2.over b o hb
      · have := hAf.size; have := hAf2.size; simp at *; omega
      · exact hAf2.tape.trans hAf.tape
      · exact hAf2.os.trans hAf.os
      · exact hAf2.output.trans hAf.output
      · have e : b ≠ W.heap.size + 1 := fun e => by rw [e, Mem.set_same] at hn; cases hn
        rw [Mem.set_ne _ _ e] at hn
        obtain ⟨p1, p2⟩ := hAf.frame b hb hn
        have hb1 : b < w1.heap.size := Nat.lt_of_lt_of_le hb hAf.size
        obtain ⟨q1, q2⟩ := hAf2.frame b (by simpa using hb1) p1
        exact ⟨by rw [Mem.set_ne _ _ e]; exact q1, by rw [World.putObj_heap_other e, q2, World.putObj_heap_other e]; exact p2⟩
  obtain ⟨henter, hcalls⟩ := iter (W.heap.size + 1) (.loop rc) hsl hY
  have hT1 : After m0 W0 (s.m.set (W.heap.size + 1) (.loop rc)) W' := by
    have := (hT0.allocOut (.deferred (some []))).alloc (.loop rc)
    rw [← hl1] at this
    exact this
  have hcok : ∀ v ∈ (CV.v (.func (.yield (W.heap.size + 1)) #[] #[]) :: captured.toList.map CV.v), v.ok := by
    intro v hv
    rcases List.mem_cons.1 hv with rfl | hv
    · rfl
    · obtain ⟨y, hy, rfl⟩ := List.mem_map.1 hv
      exact allOne_spec hcap y hy
  have hvals : ((CV.v (.func (.yield (W.heap.size + 1)) #[] #[]) :: captured.toList.map CV.v).map CV.val).toArray = #[] ++ #[.func (.yield (W.heap.size + 1)) #[] #[]] ++ captured := by
    apply Array.ext'
    simp [CV.val, Function.comp_def]
  refine ⟨W.heap.size + 1, [{ target := .collected W.heap.size, args := #[] }], W', { target := .fn (.func gf) captured, args := #[] ++ #[.func (.yield (W.heap.size + 1)) #[] #[]] }, W', gf, #[] ++ #[.func (.yield (W.heap.size + 1)) #[] #[]] ++ captured, W', run_enterLoop_outer .., ?_, fun _ _ => trivial, ?_, fun e => (by cases e), ?_⟩
  · simp only [rangeCall, resolve, Array.map, hgv, Deferred.ofValue, Sem.run_pure]
    simp [resolve, hgv, Deferred.ofValue, Act.eval]
  · exact henter _ _
  · rw [← hvals]
    refine (callsIn_wide (n := 0 - 1)).2 ((hcalls hcok W' hT1.over).mono ?_)
    rintro e W2 ⟨r, m', rfl, hrok, ⟨mF, hF, hFl, rfl⟩, haft⟩
    have hW2l : W2.heap[W.heap.size + 1]? = some (.loop rc) := haft.over _ _ (Mem.set_same ..)
    refine ⟨none, _, run_endLoop hW2l (by simp [rc]), ?_⟩
    have hT2 : After m0 W0 mF W2 := (hT1.trans haft).forget (Mem.sub_set _ hFl)
    have hsz : W0.heap.size ≤ W.heap.size := hT0.size
    have hT3 := hT2.putOut hFl (by omega) (.loop { rc with state := .exhausted })
    refine ⟨by simp, _, [], rest mF hF, { target := .collected W.heap.size, args := #[] } :: D, mF, _, ⟨hT3, ⟨fun d hd => ?_, ?_⟩⟩, ⟨?_, hr.size, hr.slots, rfl, by simp, by simp, After.refl hT3.over, by simp⟩⟩
    · have kept : ∀ r, r ≠ W.heap.size + 1 → r < W'.heap.size → s.m r = none → W'.heap[r]? = some (.deferred (some [])) → mF r = none ∧ (W2.putObj (W.heap.size + 1) (.loop { rc with state := .exhausted })).heap[r]? = some (.deferred (some [])) := by
        intro r hne hlt hn hh
        obtain ⟨p1, p2⟩ := haft.frame r hlt (by rw [Mem.set_ne _ _ hne]; exact hn)
        rw [Mem.set_ne _ _ hne] at p1
        exact ⟨p1, by rw [World.putObj_heap_other hne, p2]; exact hh⟩
      rcases List.mem_cons.1 hd with rfl | hd
      · obtain ⟨p1, p2⟩ := kept W.heap.size (by omega) (by simp [W', Wd]; omega) hsd (by
          show (Wd.alloc _).heap[W.heap.size]? = _
          rw [heap_alloc_old Wd _ (by omega)]; exact heap_alloc_new W _)
        exact ⟨_, rfl, p2, p1, hsz⟩
      · obtain ⟨r, rfl, g1, g2, g3⟩ := hMk.each d hd
        have hlt := (Array.getElem?_eq_some_iff.1 g1).1
        obtain ⟨k1, k2⟩ := hr.after.frame r hlt g2
        have hlt2 : r < W.heap.size := Nat.lt_of_lt_of_le hlt hr.after.size
        obtain ⟨p1, p2⟩ := kept r (by omega) (by simp [W', Wd]; omega) k1 (by
          show (Wd.alloc _).heap[r]? = _
          rw [heap_alloc_old Wd _ (by omega), heap_alloc_old W _ hlt2]; exact k2.trans g1)
        exact ⟨r, rfl, p2, p1, g3⟩
    · rw [List.pairwise_cons]
      refine ⟨fun d hd e => ?_, hMk.apart⟩
      obtain ⟨r, rfl, g1, g2, g3⟩ := hMk.each d hd
      have hlt := (Array.getElem?_eq_some_iff.1 g1).1
      have hlt2 : r < W.heap.size := Nat.lt_of_lt_of_le hlt hr.after.size
      simp at e
      omega
    · show [_] ++ a.defers = _
      rw [hr.defers]; rfl
theorem xwp_spec (hT : TabOk c.P c.T) (hm : c.P.follows .mixedOrders = true) : ∀ (code : Code), codeOk c nt code = true → ∀ (Q : Exit → St → Prop) (s : St) (ρ : List Nat) (a : Act) (W : World), xwp c code Q s → RelM nt (Base m0 W0) ρ s a W → code.wpIn Fence.wide 0 c.P (QPost nt (Base m0 W0) Q) a W :=
  xwpG_spec (.inl rfl) hT hm (scope_spec hT hm) (range_spec hT hm)
#print axioms xwp_spec
end

/-! ### a function -/
def initF (args : List CV) : Nat → SV := fun i => match nth args i with
  | some x => .c x
  | none => .any
def xres1 (T : Tab) (s : St) (r : ResultVar) (K : CV → Prop) : Prop :=
  match r with
  | .tmp t => match s.fr t with
    | .c x => K x
    | .tt => K (.v (.bool true))
    | .ff => K (.v (.bool false))
    | _ => False
  | .cell t ty => fLoad T s ty (s.fr t) fun sv _ => match sv with
    | .c x => K x
    | _ => False
def xres (T : Tab) (s : St) : List ResultVar → (List CV → Prop) → Prop
  | [], K => K []
  | r :: rs, K => xres1 T s r fun x => xres T s rs fun l => K (x :: l)
def QRet (T : Tab) (rs : List ResultVar) (R : List CV → Mem → Prop) : Exit → St → Prop
  | .ret, s => xres T s rs fun r => R r s.m
  | .normal, s => xres T s rs fun r => R r s.m
  | _, _ => False

section
variable {c : Cfg} {nt : Nat} {D : List Deferred} {m0 : Mem} {W0 : World} {ρ : List Nat} {s : St} {a : Act} {W : World} {P : Program} {T : Tab}

def resOne (tmps : Array Value) : ResultVar → Sem Value
  | .tmp t => pure (tmps.getD t undef)
  | .cell p t => do loadVar t (← asAddr (tmps.getD p undef))
theorem xres1_spec (hT : TabOk P T) (hr : Rel nt D m0 W0 ρ s a W) {r : ResultVar} {K : CV → Prop} (h : xres1 T s r K) :
    ∃ x, K x ∧ x.ok ∧ (resOne a.tmps r).run P W = .ok x.val W := by
  cases r with
  | tmp t =>
    simp only [xres1] at h
    have hf := hr.fits (.tmp t)
    simp only [ev, Act.eval] at hf
    split at h
    · rename_i x e
      rw [e] at hf
      exact ⟨x, h, (hf.okay (by simp)).1, by simp only [resOne, Sem.run_pure]; rw [hf.eq (by simp)]; rfl⟩
    · rename_i e
      rw [e] at hf
      exact ⟨_, h, rfl, by simp only [resOne, Sem.run_pure]; rw [hf.eq (by simp)]; rfl⟩
    · rename_i e
      rw [e] at hf
      exact ⟨_, h, rfl, by simp only [resOne, Sem.run_pure]; rw [hf.eq (by simp)]; rfl⟩
    · exact h.elim
  | cell t ty =>
    simp only [xres1] at h
    obtain ⟨sv, bs, v, _, h1, h2, h3, _, _, _, h4⟩ := fLoad_spec (xo := .tmp t) hT hr (hr.fits (.tmp t)) h
    split at h1
    · rename_i x
      refine ⟨x, h1, (h2.okay (by simp)).1, ?_⟩
      have := h4 { dst := none, op := .load ty (.tmp t), type := 0, pos := "", after := #[], guard := none } rfl W (fun _ _ => rfl)
      rw [h2.eq (by simp)] at this
      simp only [execOp, Act.eval, Instr.loadAt, Sem.run_bind] at this
      simp only [resOne, Sem.run_bind]
      cases hv : a.tmps.getD t undef with
      | pointer p =>
        cases p with
        | some ad =>
          simp only [hv, Instr.sureAddr, Sem.run_pure, Result.andThen_ok] at this
          simp only [asAddr, Sem.run_pure, Result.andThen_ok]
          cases hl : (loadVar ty ad).run P W with
          | ok z w => rw [hl] at this; simp at this; rw [this.1, this.2]; rfl
          | halt z w => rw [hl] at this; simp at this
        | none => simp [hv, Instr.sureAddr, stuck, Sem.run] at this
      | _ => simp [hv, Instr.sureAddr, stuck, Sem.run] at this
    · exact h1.elim

theorem xres_spec (hT : TabOk P T) (hr : Rel nt D m0 W0 ρ s a W) : ∀ {rs : List ResultVar} {K : List CV → Prop}, xres T s rs K →
    ∃ l, K l ∧ (∀ x ∈ l, x.ok) ∧ (rs.mapM (resOne a.tmps)).run P W = .ok (l.map CV.val) W
  | [], K, h => ⟨[], h, by simp, by simp⟩
  | r :: rs, K, h => by
    obtain ⟨x, h1, h2, h3⟩ := xres1_spec hT hr h
    obtain ⟨l, g1, g2, g3⟩ := xres_spec hT hr h1
    refine ⟨x :: l, g1, by simpa using ⟨h2, g2⟩, ?_⟩
    rw [List.mapM_cons, Sem.run_bind, h3]
    simp only [Result.andThen_ok, Sem.run_bind, g3, Sem.run_pure, List.map_cons]

theorem results_spec (hT : TabOk P T) (hr : Rel nt D m0 W0 ρ s a W) {fn : Func} {K : List CV → Prop} (h : xres T s fn.results.toList K) :
    ∃ l, K l ∧ (∀ x ∈ l, x.ok) ∧ (results fn a.tmps).run P W = .ok (resVal l) W := by
  obtain ⟨l, h1, h2, h3⟩ := xres_spec hT hr h
  refine ⟨l, h1, h2, ?_⟩
  have e : results fn a.tmps = (do
      let vs ← fn.results.mapM (resOne a.tmps)
      pure (if h : vs.size = 1 then vs[0] else .tuple vs)) := by
    unfold results
    congr 1
  rw [e, Sem.run_bind, Array.mapM_eq_mapM_toList]
  simp only [map_eq_pure_bind, Sem.run_bind, h3, Result.andThen_ok, Sem.run_pure]
  match l with
  | [x] => simp [resVal]
  | [] => simp [resVal]
  | x :: y :: r => simp [resVal]

theorem Spec.of_body {f : FuncId} {fn : Func} {code : Code} {args : List CV} {m : Mem} {R : List CV → Mem → Prop} (hf : c.P.funcs[f]? = some fn) (hb : fn.body = some code) (hn : (fn.name == "runtime.NumGoroutine") = false)
    (hT : TabOk c.P c.T) (hm : c.P.follows .mixedOrders = true) (hok : codeOk c fn.ntmps code = true) (hlen : Nat.ble args.length fn.ntmps = true)
    (h : xwp c code (QRet c.T fn.results.toList R) ⟨initF args, [], m, []⟩) : Spec c.P f args m R := by
  refine ⟨fun args w => ?_, fun hargs W hW => ?_⟩
  · have hn' : ¬ fn.name = "runtime.NumGoroutine" := by simpa using hn
    simp [callFunc, hf, hb, hn']
  · have hle := ble_le.1 hlen
    refine (callsIn_wide (n := 0)).1 (callsIn_of_wp_marks hf hb trivial ?_)
    have hr : Rel fn.ntmps [] m W [] ⟨initF args, [], m, []⟩ { tmps := (args.map CV.val).toArray ++ Array.replicate (fn.ntmps - (args.map CV.val).toArray.size) undef, defers := [] } W := by
      refine ⟨rfl, by simp; omega, fun i => ?_, rfl, by simp, by simp, After.refl hW, by simp⟩
      simp only [initF]
      cases hx : nth args i with
      | none => exact .inl rfl
      | some x =>
        refine .inr ⟨?_, hargs x (by rw [nth_eq] at hx; exact List.mem_of_getElem? hx), trivial⟩
        rw [nth_eq] at hx
        have hlt := (List.getElem?_eq_some_iff.1 hx).1
        rw [Array.getElem?_append_left (by simpa using hlt)]
        simp [hx, conc]
    have leave : ∀ s' ρ' a' W', xres c.T s' fn.results.toList (fun r => R r s'.m) → RelM fn.ntmps (Base m W) ρ' s' a' W' → LeavesInM Fence.wide 0 c.P fn a'.tmps (fun e W' => ∃ r m', e = .returned (resVal r) ∧ (∀ x ∈ r, x.ok) ∧ R r m' ∧ After m W m' W') a'.defers .returning W' := by
      intro s' ρ' a' W' hk ⟨D, m1, W1, ⟨hA, hM⟩, hr'⟩
      have hb := hr'.base hA
      rw [hr'.defers]
      refine leaves_of (Good := fun w => Rel fn.ntmps D m W ρ' s' a' w) (Ok := fun r => s'.m r = none ∧ W.heap.size ≤ r ∧ r ∉ ρ') (fun w r h g => g.putOut h.1 h.2.1 h.2.2 _) (fun w hw => ?_) D W' (fun d hd => ?_) hM.apart hb
      · obtain ⟨l, h1, h2, h3⟩ := results_spec hT hw hk
        exact ⟨_, h3, l, _, rfl, h2, h1, hw.after⟩
      · obtain ⟨r, rfl, g1, g2, g3⟩ := hM.each d hd
        have hlt := (Array.getElem?_eq_some_iff.1 g1).1
        obtain ⟨k1, k2⟩ := hr'.after.frame r hlt g2
        refine ⟨r, rfl, k2.trans g1, k1, g3, fun hin => ?_⟩
        obtain ⟨i, hi, rfl⟩ := mem_getD hin
        have := (hr'.out hi).2.1
        omega
    refine wpIn_mono (xwp_spec hT hm code hok _ _ _ _ _ h ⟨[], m, W, ⟨After.refl hW, Marks.nil _ _ _⟩, hr⟩) fun e a' W' hq => ?_
    obtain ⟨hnp, s', ρ', hk, hr'⟩ := hq
    cases e with
    | ret => exact leave s' ρ' a' W' hk hr'
    | normal => exact leave s' ρ' a' W' hk hr'
    | panic ch => exact absurd rfl (hnp ch)
    | _ => exact hk.elim
#print axioms Spec.of_body
end
end Go.E

/-
  For whoever proves: loops by what they carry, calls, numbers that fit, and the way from a contract to a law's row.
-/
namespace Go.E

/-! ### the table of types, as a tree -/
inductive TTree where
  | leaf (t : TypeId) (i : TI)
  | node (k : Nat) (l r : TTree)
def TTree.get : TTree → TypeId → Option TI
  | .leaf t i, q => bif Nat.beq q t then some i else none
  | .node k l r, q => bif Nat.blt q k then l.get q else r.get q
def TTree.leaves : TTree → List (TypeId × TI)
  | .leaf t i => [(t, i)]
  | .node _ l r => l.leaves ++ r.leaves
def Seg.okB : Seg → Bool
  | .one x => x.oneCell'
  | .ints _ n l => l.length == n
  | .vals n l => l.length == n && l.all (·.oneCell')
def LB.okB : LB → Bool
  | [] => true
  | s :: r => s.okB && LB.okB r
theorem LB.okB_spec : ∀ {c : LB}, LB.okB c = true → LB.ok c
  | [], _ => trivial
  | s :: r, h => by
    simp only [LB.okB, Bool.and_eq_true] at h
    refine ⟨?_, LB.okB_spec h.2⟩
    cases s with
    | one x => exact h.1
    | ints k n l => simpa [Seg.okB, Seg.ok] using h.1
    | vals n l =>
      have := h.1
      simp only [Seg.okB, Bool.and_eq_true, beq_iff_eq, List.all_eq_true] at this
      exact this
def infoOf (P : Program) (t : TypeId) : Option TK × Option (Nat × Nat × Option (Array Value)) :=
  ((P.underlying t).map TK.of, (P.info? t).map fun j => (j.size, j.bytes, j.zero.map Value.cells))
def infoSaid (i : TI) : Option TK × Option (Nat × Nat × Option (Array Value)) := (some i.k, some (i.size, i.bytes, some (LB.cells i.zero).toArray))
theorem get_mem : ∀ {T : TTree} {t : TypeId} {i : TI}, T.get t = some i → (t, i) ∈ T.leaves
  | .leaf t' i', t, i, h => by
    simp only [TTree.get] at h
    cases hb : Nat.beq t t' with
    | true =>
      have := Nat.eq_of_beq_eq_true hb; subst this
      simp only [hb, cond_true, Option.some.injEq] at h; subst h
      simp [TTree.leaves]
    | false => simp [hb] at h
  | .node k l r, t, i, h => by
    simp only [TTree.get] at h
    simp only [TTree.leaves, List.mem_append]
    cases hb : Nat.blt t k with
    | true => simp only [hb, cond_true] at h; exact .inl (get_mem h)
    | false => simp only [hb, cond_false] at h; exact .inr (get_mem h)
theorem map_eq_at {α β : Type} {f g : α → β} : ∀ {l : List α}, l.map f = l.map g → ∀ x ∈ l, f x = g x
  | [], _, x, hx => by cases hx
  | y :: l, h, x, hx => by
    simp only [List.map_cons, List.cons.injEq] at h
    rcases List.mem_cons.1 hx with rfl | hx
    · exact h.1
    · exact map_eq_at h.2 x hx
theorem tabOk {P : Program} {T : TTree} (h1 : T.leaves.map (fun x => infoOf P x.1) = T.leaves.map (fun x => infoSaid x.2)) (h2 : T.leaves.all (fun x => LB.okB x.2.zero) = true)
    (h3 : T.leaves.all (fun x => !x.2.eq || (x.2.k.agg && goodB P 50 x.1 (LB.cells x.2.zero) && !P.eqGuardType P.depth x.1 && (LB.cells x.2.zero).length == x.2.size)) = true) : TabOk P T.get := by
  intro t i h
  have hm := get_mem h
  have e := map_eq_at h1 _ hm
  simp only [infoOf, infoSaid, Prod.mk.injEq] at e
  refine ⟨e.1, e.2, LB.okB_spec (List.all_eq_true.1 h2 _ hm), fun he => ?_⟩
  have := List.all_eq_true.1 h3 _ hm
  simp only [he, Bool.not_true, Bool.false_or, Bool.and_eq_true, Bool.not_eq_true', beq_iff_eq] at this
  exact ⟨this.1.1.1, this.1.1.2, this.1.2, this.2⟩

/-- the slots of a list -/
def inL : List Nat → Nat → Bool
  | [], _ => false
  | x :: r, d => bif Nat.beq d x then true else inL r d
/-- the orders of the regions that draw, by their numbers -/
def atL : List (Nat × Ord) → Nat → Ord
  | [], _ => ⟨.nil, []⟩
  | (j, x) :: r, i => bif Nat.beq i j then x else atL r i
def bodyOf (fn : Func) : Code := fn.body.getD .skip

/-! ### a law -/
theorem Spec.law {P : Program} {f : FuncId} {args : List CV} (W : World) (hok : ∀ x ∈ args, x.ok) (h : Spec P f args (fun b => W.heap[b]?) fun r m' => r = [.v (.bool true)] ∧ Sub (fun b => W.heap[b]?) m') :
    Calls P f (args.map CV.val).toArray W fun e W' => e = .returned (.bool true) ∧ RowKit.Below W.heap.size W W' := by
  refine (h.2 hok W (fun b o hb => hb)).mono fun e W' he => ?_
  obtain ⟨r, m', rfl, _, ⟨rfl, hs⟩, ha⟩ := he
  refine ⟨rfl, ha.os, ha.tape, ha.output, ha.size, fun k hk => ?_⟩
  have : W.heap[k]? = some W.heap[k] := by simp [hk]
  rw [this]
  exact ha.over k _ (hs k _ this)
end Go.E

/-
  The table of the types of this seat's program, made by a program, and that it is right.
-/
namespace Go.E.Ytodgjanekjefbaa
open Go.Proofs
set_option maxRecDepth 100000
noncomputable def tt : TTree := (.node 45 (.node 23 (.node 12 (.node 6 (.node 3 (.node 2 (.leaf 1 ⟨.func, 1, 8, [.one .nilFunc], false⟩)
 (.leaf 2 ⟨.int .i64, 1, 8, [.one (.int .i64 0)], false⟩))
 (.node 4 (.leaf 3 ⟨.int .i64, 1, 8, [.one (.int .i64 0)], false⟩)
 (.node 5 (.leaf 4 ⟨.bool, 1, 1, [.one (.bool false)], false⟩)
 (.leaf 5 ⟨.int .u8, 1, 1, [.one (.int .u8 0)], false⟩))))
 (.node 9 (.node 7 (.leaf 6 ⟨.int .u8, 1, 1, [.one (.int .u8 0)], false⟩)
 (.node 8 (.leaf 7 ⟨.struct [(0, 2), (1, 3), (2, 4), (3, 6)], 4, 24, [.one (.int .i64 0), .one (.int .i64 0), .one (.bool false), .one (.int .u8 0)], false⟩)
 (.leaf 8 ⟨.struct [(0, 2), (1, 3), (2, 4), (3, 6)], 4, 24, [.one (.int .i64 0), .one (.int .i64 0), .one (.bool false), .one (.int .u8 0)], false⟩)))
 (.node 10 (.leaf 9 ⟨.str, 1, 16, [.one (.string ByteArray.empty)], false⟩)
 (.node 11 (.leaf 10 ⟨.str, 1, 16, [.one (.string ByteArray.empty)], false⟩)
 (.leaf 11 ⟨.str, 1, 16, [.one (.string ByteArray.empty)], false⟩)))))
 (.node 17 (.node 14 (.node 13 (.leaf 12 ⟨.int .u64, 1, 8, [.one (.int .u64 0)], false⟩)
 (.leaf 13 ⟨.struct [(0, 9), (1, 12)], 2, 24, [.one (.string ByteArray.empty), .one (.int .u64 0)], false⟩))
 (.node 15 (.leaf 14 ⟨.struct [(0, 9), (1, 12)], 2, 24, [.one (.string ByteArray.empty), .one (.int .u64 0)], false⟩)
 (.node 16 (.leaf 15 ⟨.ptr 77, 1, 8, [.one (.pointer none)], false⟩)
 (.leaf 16 ⟨.ptr 80, 1, 8, [.one (.pointer none)], false⟩))))
 (.node 20 (.node 18 (.leaf 17 ⟨.ptr 89, 1, 8, [.one (.pointer none)], false⟩)
 (.node 19 (.leaf 18 ⟨.struct [(0, 17)], 1, 8, [.one (.pointer none)], false⟩)
 (.leaf 19 ⟨.struct [(0, 17)], 1, 8, [.one (.pointer none)], false⟩)))
 (.node 21 (.leaf 20 ⟨.iface, 1, 16, [.one .nilIface], false⟩)
 (.node 22 (.leaf 21 ⟨.int .i32, 1, 4, [.one (.int .i32 0)], false⟩)
 (.leaf 22 ⟨.slice 5, 1, 24, [.one (.slice none 0 0)], false⟩))))))
 (.node 34 (.node 28 (.node 25 (.node 24 (.leaf 23 ⟨.func, 1, 8, [.one .nilFunc], false⟩)
 (.leaf 24 ⟨.array 32 5, 32, 32, [.ints .u8 32 (List.replicate 32 0)], true⟩))
 (.node 26 (.leaf 25 ⟨.array 32 5, 32, 32, [.ints .u8 32 (List.replicate 32 0)], true⟩)
 (.node 27 (.leaf 26 ⟨.func, 1, 8, [.one .nilFunc], false⟩)
 (.leaf 27 ⟨.func, 1, 8, [.one .nilFunc], false⟩))))
 (.node 31 (.node 29 (.leaf 28 ⟨.int .u64, 1, 8, [.one (.int .u64 0)], false⟩)
 (.node 30 (.leaf 29 ⟨.func, 1, 8, [.one .nilFunc], false⟩)
 (.leaf 30 ⟨.func, 1, 8, [.one .nilFunc], false⟩)))
 (.node 32 (.leaf 31 ⟨.func, 1, 8, [.one .nilFunc], false⟩)
 (.node 33 (.leaf 32 ⟨.func, 1, 8, [.one .nilFunc], false⟩)
 (.leaf 33 ⟨.slice 22, 1, 24, [.one (.slice none 0 0)], false⟩)))))
 (.node 39 (.node 36 (.node 35 (.leaf 34 ⟨.ptr 41, 1, 8, [.one (.pointer none)], false⟩)
 (.leaf 35 ⟨.struct [], 0, 0, [], false⟩))
 (.node 37 (.leaf 36 ⟨.struct [], 0, 0, [], false⟩)
 (.node 38 (.leaf 37 ⟨.struct [], 0, 0, [], false⟩)
 (.leaf 38 ⟨.struct [(0, 36), (0, 37), (0, 28)], 1, 8, [.one (.int .u64 0)], false⟩))))
 (.node 42 (.node 40 (.leaf 39 ⟨.struct [(0, 36), (0, 37), (0, 28)], 1, 8, [.one (.int .u64 0)], false⟩)
 (.node 41 (.leaf 40 ⟨.struct [(0, 39)], 1, 8, [.one (.int .u64 0)], false⟩)
 (.leaf 41 ⟨.struct [(0, 39)], 1, 8, [.one (.int .u64 0)], false⟩)))
 (.node 43 (.leaf 42 ⟨.func, 1, 8, [.one .nilFunc], false⟩)
 (.node 44 (.leaf 43 ⟨.func, 1, 8, [.one .nilFunc], false⟩)
 (.leaf 44 ⟨.int .u32, 1, 4, [.one (.int .u32 0)], false⟩)))))))
 (.node 67 (.node 56 (.node 50 (.node 47 (.node 46 (.leaf 45 ⟨.array 8 44, 8, 32, [.ints .u32 8 (List.replicate 8 0)], true⟩)
 (.leaf 46 ⟨.array 8 44, 8, 32, [.ints .u32 8 (List.replicate 8 0)], true⟩))
 (.node 48 (.leaf 47 ⟨.func, 1, 8, [.one .nilFunc], false⟩)
 (.node 49 (.leaf 48 ⟨.func, 1, 8, [.one .nilFunc], false⟩)
 (.leaf 49 ⟨.func, 1, 8, [.one .nilFunc], false⟩))))
 (.node 53 (.node 51 (.leaf 50 ⟨.func, 1, 8, [.one .nilFunc], false⟩)
 (.node 52 (.leaf 51 ⟨.func, 1, 8, [.one .nilFunc], false⟩)
 (.leaf 52 ⟨.func, 1, 8, [.one .nilFunc], false⟩)))
 (.node 54 (.leaf 53 ⟨.func, 1, 8, [.one .nilFunc], false⟩)
 (.node 55 (.leaf 54 ⟨.array 8 28, 8, 64, [.ints .u64 8 (List.replicate 8 0)], true⟩)
 (.leaf 55 ⟨.func, 1, 8, [.one .nilFunc], false⟩)))))
 (.node 61 (.node 58 (.node 57 (.leaf 56 ⟨.func, 1, 8, [.one .nilFunc], false⟩)
 (.leaf 57 ⟨.int .u64, 1, 8, [.one (.int .u64 0)], false⟩))
 (.node 59 (.leaf 58 ⟨.func, 1, 8, [.one .nilFunc], false⟩)
 (.node 60 (.leaf 59 ⟨.func, 1, 8, [.one .nilFunc], false⟩)
 (.leaf 60 ⟨.func, 1, 8, [.one .nilFunc], false⟩))))
 (.node 64 (.node 62 (.leaf 61 ⟨.array 64 44, 64, 256, [.ints .u32 64 (List.replicate 64 0)], true⟩)
 (.node 63 (.leaf 62 ⟨.func, 1, 8, [.one .nilFunc], false⟩)
 (.leaf 63 ⟨.func, 1, 8, [.one .nilFunc], false⟩)))
 (.node 65 (.leaf 64 ⟨.func, 1, 8, [.one .nilFunc], false⟩)
 (.node 66 (.leaf 65 ⟨.array 64 28, 64, 512, [.ints .u64 64 (List.replicate 64 0)], true⟩)
 (.leaf 66 ⟨.func, 1, 8, [.one .nilFunc], false⟩))))))
 (.node 78 (.node 72 (.node 69 (.node 68 (.leaf 67 ⟨.func, 1, 8, [.one .nilFunc], false⟩)
 (.leaf 68 ⟨.slice 28, 1, 24, [.one (.slice none 0 0)], false⟩))
 (.node 70 (.leaf 69 ⟨.func, 1, 8, [.one .nilFunc], false⟩)
 (.node 71 (.leaf 70 ⟨.ptr 39, 1, 8, [.one (.pointer none)], false⟩)
 (.leaf 71 ⟨.func, 1, 8, [.one .nilFunc], false⟩))))
 (.node 75 (.node 73 (.leaf 72 ⟨.ptr 28, 1, 8, [.one (.pointer none)], false⟩)
 (.node 74 (.leaf 73 ⟨.func, 1, 8, [.one .nilFunc], false⟩)
 (.leaf 74 ⟨.func, 1, 8, [.one .nilFunc], false⟩)))
 (.node 76 (.leaf 75 ⟨.func, 1, 8, [.one .nilFunc], false⟩)
 (.node 77 (.leaf 76 ⟨.struct [(0, 17), (1, 17), (2, 17), (3, 9)], 4, 40, [.one (.pointer none), .one (.pointer none), .one (.pointer none), .one (.string ByteArray.empty)], false⟩)
 (.leaf 77 ⟨.struct [(0, 17), (1, 17), (2, 17), (3, 9)], 4, 40, [.one (.pointer none), .one (.pointer none), .one (.pointer none), .one (.string ByteArray.empty)], false⟩)))))
 (.node 84 (.node 81 (.node 79 (.leaf 78 ⟨.array 0 16, 0, 0, [.vals 0 []], false⟩)
 (.node 80 (.leaf 79 ⟨.struct [(0, 78)], 0, 0, [.vals 0 []], false⟩)
 (.leaf 80 ⟨.struct [(0, 78)], 0, 0, [.vals 0 []], false⟩)))
 (.node 82 (.leaf 81 ⟨.func, 1, 8, [.one .nilFunc], false⟩)
 (.node 83 (.leaf 82 ⟨.int .u8, 1, 1, [.one (.int .u8 0)], false⟩)
 (.leaf 83 ⟨.int .u8, 1, 1, [.one (.int .u8 0)], false⟩))))
 (.node 87 (.node 85 (.leaf 84 ⟨.func, 1, 8, [.one .nilFunc], false⟩)
 (.node 86 (.leaf 85 ⟨.ptr 5, 1, 8, [.one (.pointer none)], false⟩)
 (.leaf 86 ⟨.int .i32, 1, 4, [.one (.int .i32 0)], false⟩)))
 (.node 88 (.leaf 87 ⟨.int .i32, 1, 4, [.one (.int .i32 0)], false⟩)
 (.node 89 (.leaf 88 ⟨.struct [(0, 12), (1, 12), (2, 44), (3, 82), (4, 5), (5, 5), (6, 83), (7, 84), (8, 85), (9, 86), (10, 87)], 11, 48, [.one (.int .u64 0), .one (.int .u64 0), .one (.int .u32 0), .one (.int .u8 0), .one (.int .u8 0), .one (.int .u8 0), .one (.int .u8 0), .one .nilFunc, .one (.pointer none), .one (.int .i32 0), .one (.int .i32 0)], false⟩)
 (.leaf 89 ⟨.struct [(0, 12), (1, 12), (2, 44), (3, 82), (4, 5), (5, 5), (6, 83), (7, 84), (8, 85), (9, 86), (10, 87)], 11, 48, [.one (.int .u64 0), .one (.int .u64 0), .one (.int .u32 0), .one (.int .u8 0), .one (.int .u8 0), .one (.int .u8 0), .one (.int .u8 0), .one .nilFunc, .one (.pointer none), .one (.int .i32 0), .one (.int .i32 0)], false⟩))))))))
set_option maxHeartbeats 4000000 in
theorem tt_ok : TabOk Try.prog tt.get := tabOk (by kernel_rfl) (by kernel_rfl) (by kernel_rfl)
theorem wide : Try.prog.follows .mixedOrders = true := by kernel_rfl
end Go.E.Ytodgjanekjefbaa

/-
  : how the functions named here are run: made by a program.
-/
namespace Go.E.Ytodgjanekjefbaa
open Go.Proofs
set_option maxRecDepth 100000
/- maund maundlaw01.ShaSums -/
noncomputable def c3 : Cfg := ⟨Try.prog, tt.get, inL [], atL [], inL []⟩
theorem en3 {args : List CV} {m : Mem} {R : List CV → Mem → Prop} (hlen : Nat.ble args.length Try.f3.ntmps = true) (h : xwp c3 (bodyOf Try.f3) (QRet tt.get Try.f3.results.toList R) ⟨initF args, [], m, []⟩) : Spec Try.prog 3 args m R :=
  Spec.of_body (c := c3) Try.func3 (by kernel_rfl) (by kernel_rfl) tt_ok wide (by kernel_rfl) hlen h
/- maund maundlaw01.ShaBlocks -/
noncomputable def c4 : Cfg := ⟨Try.prog, tt.get, inL [], atL [], inL []⟩
theorem en4 {args : List CV} {m : Mem} {R : List CV → Mem → Prop} (hlen : Nat.ble args.length Try.f4.ntmps = true) (h : xwp c4 (bodyOf Try.f4) (QRet tt.get Try.f4.results.toList R) ⟨initF args, [], m, []⟩) : Spec Try.prog 4 args m R :=
  Spec.of_body (c := c4) Try.func4 (by kernel_rfl) (by kernel_rfl) tt_ok wide (by kernel_rfl) hlen h
/- maund maundlaw01.ShaCuts -/
noncomputable def c5 : Cfg := ⟨Try.prog, tt.get, inL [], atL [], inL [13]⟩
theorem en5 {args : List CV} {m : Mem} {R : List CV → Mem → Prop} (hlen : Nat.ble args.length Try.f5.ntmps = true) (h : xwp c5 (bodyOf Try.f5) (QRet tt.get Try.f5.results.toList R) ⟨initF args, [], m, []⟩) : Spec Try.prog 5 args m R :=
  Spec.of_body (c := c5) Try.func5 (by kernel_rfl) (by kernel_rfl) tt_ok wide (by kernel_rfl) hlen h
/- maund maundlaw01.ShaMeters -/
noncomputable def c6 : Cfg := ⟨Try.prog, tt.get, inL [8], atL [(9, ⟨.op 0 .all (.op 1 .all (.op 2 .all (.op 3 .all (.op 4 .all (.op 7 .all (.op 8 .all (.op 9 .all (.op 10 .all (.or (.op 5 .all (.or (.op 6 .all (.op 11 .all (.op 12 .none (.op 13 .all (.op 14 .all (.op 15 .all (.op 16 .all (.op 17 .all (.op 18 .all (.op 19 .all (.op 22 .all (.op 23 .all (.op 24 .all (.op 25 .all (.or (.op 20 .all (.or (.op 21 .all (.op 26 .all (.op 27 .none (.op 28 .all (.op 29 .all (.nil)))))) (.op 26 .all (.op 21 .all (.op 27 .none (.op 28 .all (.op 29 .all (.nil)))))))) (.op 26 .all (.op 20 .all (.op 21 .all (.op 27 .none (.op 28 .all (.op 29 .all (.nil)))))))))))))))))))))) (.op 11 .all (.op 6 .all (.op 12 .none (.op 13 .all (.op 14 .all (.op 15 .all (.op 16 .all (.op 17 .all (.op 18 .all (.op 19 .all (.op 22 .all (.op 23 .all (.op 24 .all (.op 25 .all (.or (.op 20 .all (.or (.op 21 .all (.op 26 .all (.op 27 .none (.op 28 .all (.op 29 .all (.nil)))))) (.op 26 .all (.op 21 .all (.op 27 .none (.op 28 .all (.op 29 .all (.nil)))))))) (.op 26 .all (.op 20 .all (.op 21 .all (.op 27 .none (.op 28 .all (.op 29 .all (.nil)))))))))))))))))))))))) (.op 11 .all (.op 5 .all (.op 6 .all (.op 12 .none (.op 13 .all (.op 14 .all (.op 15 .all (.op 16 .all (.op 17 .all (.op 18 .all (.op 19 .all (.op 22 .all (.op 23 .all (.op 24 .all (.op 25 .all (.or (.op 20 .all (.or (.op 21 .all (.op 26 .all (.op 27 .none (.op 28 .all (.op 29 .all (.nil)))))) (.op 26 .all (.op 21 .all (.op 27 .none (.op 28 .all (.op 29 .all (.nil)))))))) (.op 26 .all (.op 20 .all (.op 21 .all (.op 27 .none (.op 28 .all (.op 29 .all (.nil)))))))))))))))))))))))))))))))), [0, 0, 0, 6, 14, 30, 63, 0, 0, 384, 896, 1920, 4095, 8191, 16383, 32767, 32767, 32767, 229375, 491519, 1015807, 2097151, 32767, 32767, 12615679, 29392895, 62947327, 134217727, 268435455, 536870911]⟩)], inL [14]⟩
theorem en6 {args : List CV} {m : Mem} {R : List CV → Mem → Prop} (hlen : Nat.ble args.length Try.f6.ntmps = true) (h : xwp c6 (bodyOf Try.f6) (QRet tt.get Try.f6.results.toList R) ⟨initF args, [], m, []⟩) : Spec Try.prog 6 args m R :=
  Spec.of_body (c := c6) Try.func6 (by kernel_rfl) (by kernel_rfl) tt_ok wide (by kernel_rfl) hlen h
/- maund maundlaw01.alive -/
noncomputable def c7 : Cfg := ⟨Try.prog, tt.get, inL [], atL [(2, ⟨.op 0 .all (.op 1 .all (.op 2 .all (.op 3 .all (.op 4 .all (.op 5 .all (.op 6 .all (.op 7 .all (.op 8 .all (.op 9 .all (.op 10 .all (.op 11 .all (.op 12 .all (.op 13 .all (.op 14 .all (.op 15 .all (.op 16 .all (.op 17 .all (.op 18 .all (.op 25 .all (.or (.op 19 .all (.or (.op 20 .all (.op 21 .all (.op 22 .all (.op 23 .all (.op 24 .all (.op 26 .all (.op 27 .all (.op 28 .all (.op 29 .none (.op 30 .none (.op 31 .none (.op 32 .all (.op 33 .all (.op 34 .all (.op 35 .none (.op 36 .all (.op 37 .all (.op 38 .all (.op 39 .none (.op 40 .all (.op 41 .all (.op 42 .all (.nil))))))))))))))))))))))) (.op 21 .all (.or (.op 20 .all (.op 22 .all (.op 23 .all (.op 24 .all (.op 26 .all (.op 27 .all (.op 28 .all (.op 29 .none (.op 30 .none (.op 31 .none (.op 32 .all (.op 33 .all (.op 34 .all (.op 35 .none (.op 36 .all (.op 37 .all (.op 38 .all (.op 39 .none (.op 40 .all (.op 41 .all (.op 42 .all (.nil)))))))))))))))))))))) (.op 22 .all (.op 20 .all (.op 23 .all (.op 24 .all (.op 26 .all (.op 27 .all (.op 28 .all (.op 29 .none (.op 30 .none (.op 31 .none (.op 32 .all (.op 33 .all (.op 34 .all (.op 35 .none (.op 36 .all (.op 37 .all (.op 38 .all (.op 39 .none (.op 40 .all (.op 41 .all (.op 42 .all (.nil)))))))))))))))))))))))))) (.op 21 .all (.or (.op 19 .all (.or (.op 20 .all (.op 22 .all (.op 23 .all (.op 24 .all (.op 26 .all (.op 27 .all (.op 28 .all (.op 29 .none (.op 30 .none (.op 31 .none (.op 32 .all (.op 33 .all (.op 34 .all (.op 35 .none (.op 36 .all (.op 37 .all (.op 38 .all (.op 39 .none (.op 40 .all (.op 41 .all (.op 42 .all (.nil)))))))))))))))))))))) (.op 22 .all (.op 20 .all (.op 23 .all (.op 24 .all (.op 26 .all (.op 27 .all (.op 28 .all (.op 29 .none (.op 30 .none (.op 31 .none (.op 32 .all (.op 33 .all (.op 34 .all (.op 35 .none (.op 36 .all (.op 37 .all (.op 38 .all (.op 39 .none (.op 40 .all (.op 41 .all (.op 42 .all (.nil)))))))))))))))))))))))) (.op 22 .all (.op 19 .all (.op 20 .all (.op 23 .all (.op 24 .all (.op 26 .all (.op 27 .all (.op 28 .all (.op 29 .none (.op 30 .none (.op 31 .none (.op 32 .all (.op 33 .all (.op 34 .all (.op 35 .none (.op 36 .all (.op 37 .all (.op 38 .all (.op 39 .none (.op 40 .all (.op 41 .all (.op 42 .all (.nil))))))))))))))))))))))))))))))))))))))))))))), [0, 1, 3, 7, 15, 31, 63, 127, 255, 511, 1023, 2047, 4095, 8191, 16383, 32767, 65535, 131071, 262143, 524287, 1048575, 524287, 2621439, 8388607, 16777215, 524287, 67108863, 134217727, 268435455, 536870911, 1073741823, 2147483647, 4294967295, 8589934591, 17179869183, 34359738367, 68719476735, 137438953471, 274877906943, 549755813887, 1099511627775, 2199023255551, 4398046511103]⟩)], inL []⟩
theorem en7 {args : List CV} {m : Mem} {R : List CV → Mem → Prop} (hlen : Nat.ble args.length Try.f7.ntmps = true) (h : xwp c7 (bodyOf Try.f7) (QRet tt.get Try.f7.results.toList R) ⟨initF args, [], m, []⟩) : Spec Try.prog 7 args m R :=
  Spec.of_body (c := c7) Try.func7 (by kernel_rfl) (by kernel_rfl) tt_ok wide (by kernel_rfl) hlen h
/- maund sha.Sum -/
noncomputable def c8 : Cfg := ⟨Try.prog, tt.get, inL [2, 3], atL [], inL []⟩
theorem en8 {args : List CV} {m : Mem} {R : List CV → Mem → Prop} (hlen : Nat.ble args.length Try.f8.ntmps = true) (h : xwp c8 (bodyOf Try.f8) (QRet tt.get Try.f8.results.toList R) ⟨initF args, [], m, []⟩) : Spec Try.prog 8 args m R :=
  Spec.of_body (c := c8) Try.func8 (by kernel_rfl) (by kernel_rfl) tt_ok wide (by kernel_rfl) hlen h
/- maund maundref01.Sum -/
noncomputable def c9 : Cfg := ⟨Try.prog, tt.get, inL [], atL [(6, ⟨.op 0 .all (.op 1 .all (.op 2 .all (.op 3 .all (.op 4 .all (.op 5 .all (.op 6 .none (.op 7 .none (.nil)))))))), [0, 0, 0, 0, 8, 30, 63, 127]⟩)], inL []⟩
theorem en9 {args : List CV} {m : Mem} {R : List CV → Mem → Prop} (hlen : Nat.ble args.length Try.f9.ntmps = true) (h : xwp c9 (bodyOf Try.f9) (QRet tt.get Try.f9.results.toList R) ⟨initF args, [], m, []⟩) : Spec Try.prog 9 args m R :=
  Spec.of_body (c := c9) Try.func9 (by kernel_rfl) (by kernel_rfl) tt_ok wide (by kernel_rfl) hlen h
/- maund sha.Point -/
noncomputable def c10 : Cfg := ⟨Try.prog, tt.get, inL [4], atL [], inL []⟩
theorem en10 {args : List CV} {m : Mem} {R : List CV → Mem → Prop} (hlen : Nat.ble args.length Try.f10.ntmps = true) (h : xwp c10 (bodyOf Try.f10) (QRet tt.get Try.f10.results.toList R) ⟨initF args, [], m, []⟩) : Spec Try.prog 10 args m R :=
  Spec.of_body (c := c10) Try.func10 (by kernel_rfl) (by kernel_rfl) tt_ok wide (by kernel_rfl) hlen h
/- maund maundref01.Point -/
noncomputable def c11 : Cfg := ⟨Try.prog, tt.get, inL [], atL [], inL []⟩
theorem en11 {args : List CV} {m : Mem} {R : List CV → Mem → Prop} (hlen : Nat.ble args.length Try.f11.ntmps = true) (h : xwp c11 (bodyOf Try.f11) (QRet tt.get Try.f11.results.toList R) ⟨initF args, [], m, []⟩) : Spec Try.prog 11 args m R :=
  Spec.of_body (c := c11) Try.func11 (by kernel_rfl) (by kernel_rfl) tt_ok wide (by kernel_rfl) hlen h
/- maund sha.Blocks -/
noncomputable def c12 : Cfg := ⟨Try.prog, tt.get, inL [], atL [], inL []⟩
theorem en12 {args : List CV} {m : Mem} {R : List CV → Mem → Prop} (hlen : Nat.ble args.length Try.f12.ntmps = true) (h : xwp c12 (bodyOf Try.f12) (QRet tt.get Try.f12.results.toList R) ⟨initF args, [], m, []⟩) : Spec Try.prog 12 args m R :=
  Spec.of_body (c := c12) Try.func12 (by kernel_rfl) (by kernel_rfl) tt_ok wide (by kernel_rfl) hlen h
/- maund maundref01.Blocks -/
noncomputable def c13 : Cfg := ⟨Try.prog, tt.get, inL [], atL [], inL []⟩
theorem en13 {args : List CV} {m : Mem} {R : List CV → Mem → Prop} (hlen : Nat.ble args.length Try.f13.ntmps = true) (h : xwp c13 (bodyOf Try.f13) (QRet tt.get Try.f13.results.toList R) ⟨initF args, [], m, []⟩) : Spec Try.prog 13 args m R :=
  Spec.of_body (c := c13) Try.func13 (by kernel_rfl) (by kernel_rfl) tt_ok wide (by kernel_rfl) hlen h
/- (*maund sha.Meter).Sum -/
noncomputable def c14 : Cfg := ⟨Try.prog, tt.get, inL [], atL [(8, ⟨.op 0 .all (.op 1 .all (.op 2 .all (.op 3 .all (.op 4 .none (.op 5 .none (.nil)))))), [0, 1, 3, 0, 8, 31]⟩)], inL []⟩
theorem en14 {args : List CV} {m : Mem} {R : List CV → Mem → Prop} (hlen : Nat.ble args.length Try.f14.ntmps = true) (h : xwp c14 (bodyOf Try.f14) (QRet tt.get Try.f14.results.toList R) ⟨initF args, [], m, []⟩) : Spec Try.prog 14 args m R :=
  Spec.of_body (c := c14) Try.func14 (by kernel_rfl) (by kernel_rfl) tt_ok wide (by kernel_rfl) hlen h
/- (*maund sha.Meter).Count -/
noncomputable def c15 : Cfg := ⟨Try.prog, tt.get, inL [], atL [], inL []⟩
theorem en15 {args : List CV} {m : Mem} {R : List CV → Mem → Prop} (hlen : Nat.ble args.length Try.f15.ntmps = true) (h : xwp c15 (bodyOf Try.f15) (QRet tt.get Try.f15.results.toList R) ⟨initF args, [], m, []⟩) : Spec Try.prog 15 args m R :=
  Spec.of_body (c := c15) Try.func15 (by kernel_rfl) (by kernel_rfl) tt_ok wide (by kernel_rfl) hlen h
/- maund sha.first -/
noncomputable def c16 : Cfg := ⟨Try.prog, tt.get, inL [], atL [], inL []⟩
theorem en16 {args : List CV} {m : Mem} {R : List CV → Mem → Prop} (hlen : Nat.ble args.length Try.f16.ntmps = true) (h : xwp c16 (bodyOf Try.f16) (QRet tt.get Try.f16.results.toList R) ⟨initF args, [], m, []⟩) : Spec Try.prog 16 args m R :=
  Spec.of_body (c := c16) Try.func16 (by kernel_rfl) (by kernel_rfl) tt_ok wide (by kernel_rfl) hlen h
/- slices.Chunk[[]byte,byte] -/
noncomputable def c17 : Cfg := ⟨Try.prog, tt.get, inL [2, 3], atL [], inL []⟩
theorem en17 {args : List CV} {m : Mem} {R : List CV → Mem → Prop} (hlen : Nat.ble args.length Try.f17.ntmps = true) (h : xwp c17 (bodyOf Try.f17) (QRet tt.get Try.f17.results.toList R) ⟨initF args, [], m, []⟩) : Spec Try.prog 17 args m R :=
  Spec.of_body (c := c17) Try.func17 (by kernel_rfl) (by kernel_rfl) tt_ok wide (by kernel_rfl) hlen h
/- maund sha.padded -/
noncomputable def c18 : Cfg := ⟨Try.prog, tt.get, inL [], atL [], inL []⟩
theorem en18 {args : List CV} {m : Mem} {R : List CV → Mem → Prop} (hlen : Nat.ble args.length Try.f18.ntmps = true) (h : xwp c18 (bodyOf Try.f18) (QRet tt.get Try.f18.results.toList R) ⟨initF args, [], m, []⟩) : Spec Try.prog 18 args m R :=
  Spec.of_body (c := c18) Try.func18 (by kernel_rfl) (by kernel_rfl) tt_ok wide (by kernel_rfl) hlen h
/- (maund sha.state).block -/
noncomputable def c19 : Cfg := ⟨Try.prog, tt.get, inL [], atL [(1, ⟨.op 1 .all (.op 3 .all (.op 0 .all (.op 2 .all (.op 4 .all (.op 5 .all (.op 6 .all (.op 7 .new (.op 8 .new (.op 9 .none (.nil)))))))))), [0, 0, 3, 0, 0, 0, 0, 119, 247, 511]⟩),
  (5, ⟨.op 0 .all (.op 1 .all (.op 2 .all (.op 3 .all (.op 4 .all (.op 5 .all (.nil)))))), [0, 1, 0, 4, 3, 31]⟩),
  (6, ⟨.op 0 .all (.op 1 .all (.op 2 .all (.op 4 .all (.op 7 .all (.op 11 .all (.op 12 .all (.op 13 .all (.op 14 .all (.op 15 .all (.op 16 .all (.op 17 .all (.op 18 .all (.op 19 .all (.op 20 .all (.op 22 .all (.op 23 .all (.op 24 .all (.op 26 .all (.op 27 .all (.op 28 .all (.op 3 .all (.op 5 .all (.op 6 .all (.op 8 .all (.op 9 .all (.op 10 .all (.op 21 .all (.op 25 .all (.op 29 .all (.op 30 .all (.nil))))))))))))))))))))))))))))))), [0, 1, 0, 4, 0, 28, 60, 0, 188, 508, 1023, 0, 0, 4096, 14336, 0, 32768, 0, 131072, 491520, 1046528, 2097151, 0, 4194304, 12582912, 33554431, 0, 67108864, 201326592, 536870911, 1073741823]⟩),
  (7, ⟨.op 0 .all (.op 2 .all (.op 5 .all (.op 8 .all (.op 9 .all (.op 10 .all (.op 11 .all (.op 12 .all (.op 13 .all (.op 14 .all (.op 15 .all (.op 16 .all (.op 17 .all (.op 18 .all (.op 19 .all (.op 20 .all (.op 21 .all (.op 22 .all (.op 1 .all (.op 3 .all (.op 4 .all (.op 6 .all (.op 7 .all (.op 23 .all (.op 24 .all (.nil))))))))))))))))))))))))), [0, 1, 0, 7, 15, 0, 47, 127, 0, 0, 512, 1792, 0, 0, 8192, 28672, 65280, 0, 131072, 0, 524288, 1966080, 4194048, 8388607, 16777215]⟩)], inL []⟩
theorem en19 {args : List CV} {m : Mem} {R : List CV → Mem → Prop} (hlen : Nat.ble args.length Try.f19.ntmps = true) (h : xwp c19 (bodyOf Try.f19) (QRet tt.get Try.f19.results.toList R) ⟨initF args, [], m, []⟩) : Spec Try.prog 19 args m R :=
  Spec.of_body (c := c19) Try.func19 (by kernel_rfl) (by kernel_rfl) tt_ok wide (by kernel_rfl) hlen h
/- (maund sha.state).digest -/
noncomputable def c20 : Cfg := ⟨Try.prog, tt.get, inL [], atL [], inL []⟩
theorem en20 {args : List CV} {m : Mem} {R : List CV → Mem → Prop} (hlen : Nat.ble args.length Try.f20.ntmps = true) (h : xwp c20 (bodyOf Try.f20) (QRet tt.get Try.f20.results.toList R) ⟨initF args, [], m, []⟩) : Spec Try.prog 20 args m R :=
  Spec.of_body (c := c20) Try.func20 (by kernel_rfl) (by kernel_rfl) tt_ok wide (by kernel_rfl) hlen h
/- maund maundref01.pad -/
noncomputable def c21 : Cfg := ⟨Try.prog, tt.get, inL [], atL [], inL []⟩
theorem en21 {args : List CV} {m : Mem} {R : List CV → Mem → Prop} (hlen : Nat.ble args.length Try.f21.ntmps = true) (h : xwp c21 (bodyOf Try.f21) (QRet tt.get Try.f21.results.toList R) ⟨initF args, [], m, []⟩) : Spec Try.prog 21 args m R :=
  Spec.of_body (c := c21) Try.func21 (by kernel_rfl) (by kernel_rfl) tt_ok wide (by kernel_rfl) hlen h
/- maund maundref01.next -/
noncomputable def c22 : Cfg := ⟨Try.prog, tt.get, inL [6], atL [(8, ⟨.op 0 .all (.op 1 .all (.op 3 .all (.op 4 .all (.op 7 .all (.op 8 .all (.op 2 .all (.op 5 .all (.op 6 .all (.op 9 .none (.op 10 .all (.op 11 .all (.nil)))))))))))), [0, 1, 3, 0, 8, 31, 63, 0, 128, 447, 1023, 2047]⟩),
  (10, ⟨.op 0 .all (.op 1 .all (.op 2 .all (.op 3 .all (.op 4 .all (.op 5 .all (.op 6 .all (.op 7 .all (.op 8 .all (.op 9 .all (.op 10 .all (.op 11 .all (.op 12 .all (.op 13 .all (.op 14 .all (.op 15 .all (.nil)))))))))))))))), [0, 1, 0, 7, 0, 31, 0, 64, 192, 511, 0, 1024, 3072, 8191, 16383, 32767]⟩),
  (11, ⟨.op 0 .all (.op 1 .all (.op 3 .all (.op 4 .all (.op 7 .all (.op 8 .all (.op 2 .all (.op 5 .all (.op 6 .all (.op 9 .none (.op 10 .all (.op 11 .all (.nil)))))))))))), [0, 1, 3, 0, 8, 31, 63, 0, 128, 447, 1023, 2047]⟩),
  (17, ⟨.op 0 .all (.op 1 .all (.op 2 .all (.op 3 .all (.op 4 .all (.op 5 .all (.op 6 .all (.op 7 .all (.op 8 .all (.op 9 .all (.op 10 .none (.nil))))))))))), [0, 0, 2, 6, 0, 16, 48, 126, 254, 511, 1023]⟩)], inL []⟩
theorem en22 {args : List CV} {m : Mem} {R : List CV → Mem → Prop} (hlen : Nat.ble args.length Try.f22.ntmps = true) (h : xwp c22 (bodyOf Try.f22) (QRet tt.get Try.f22.results.toList R) ⟨initF args, [], m, []⟩) : Spec Try.prog 22 args m R :=
  Spec.of_body (c := c22) Try.func22 (by kernel_rfl) (by kernel_rfl) tt_ok wide (by kernel_rfl) hlen h
/- (*sync atomic.Uint64).Add -/
noncomputable def c23 : Cfg := ⟨Try.prog, tt.get, inL [], atL [], inL []⟩
theorem en23 {args : List CV} {m : Mem} {R : List CV → Mem → Prop} (hlen : Nat.ble args.length Try.f23.ntmps = true) (h : xwp c23 (bodyOf Try.f23) (QRet tt.get Try.f23.results.toList R) ⟨initF args, [], m, []⟩) : Spec Try.prog 23 args m R :=
  Spec.of_body (c := c23) Try.func23 (by kernel_rfl) (by kernel_rfl) tt_ok wide (by kernel_rfl) hlen h
/- (*sync atomic.Uint64).Load -/
noncomputable def c24 : Cfg := ⟨Try.prog, tt.get, inL [], atL [], inL []⟩
theorem en24 {args : List CV} {m : Mem} {R : List CV → Mem → Prop} (hlen : Nat.ble args.length Try.f24.ntmps = true) (h : xwp c24 (bodyOf Try.f24) (QRet tt.get Try.f24.results.toList R) ⟨initF args, [], m, []⟩) : Spec Try.prog 24 args m R :=
  Spec.of_body (c := c24) Try.func24 (by kernel_rfl) (by kernel_rfl) tt_ok wide (by kernel_rfl) hlen h
/- slices.Chunk[[]byte,byte]$1 -/
noncomputable def c25 : Cfg := ⟨Try.prog, tt.get, inL [], atL [(3, ⟨.op 0 .all (.op 1 .all (.op 2 .all (.op 3 .all (.op 4 .all (.op 5 .all (.op 6 .all (.nil))))))), [0, 0, 0, 6, 14, 31, 63]⟩)], inL []⟩
theorem en25 {args : List CV} {m : Mem} {R : List CV → Mem → Prop} (hlen : Nat.ble args.length Try.f25.ntmps = true) (h : xwp c25 (bodyOf Try.f25) (QRet tt.get Try.f25.results.toList R) ⟨initF args, [], m, []⟩) : Spec Try.prog 25 args m R :=
  Spec.of_body (c := c25) Try.func25 (by kernel_rfl) (by kernel_rfl) tt_ok wide (by kernel_rfl) hlen h
/- slices.Concat[[]byte,byte] -/
noncomputable def c26 : Cfg := ⟨Try.prog, tt.get, inL [], atL [], inL []⟩
theorem en26 {args : List CV} {m : Mem} {R : List CV → Mem → Prop} (hlen : Nat.ble args.length Try.f26.ntmps = true) (h : xwp c26 (bodyOf Try.f26) (QRet tt.get Try.f26.results.toList R) ⟨initF args, [], m, []⟩) : Spec Try.prog 26 args m R :=
  Spec.of_body (c := c26) Try.func26 (by kernel_rfl) (by kernel_rfl) tt_ok wide (by kernel_rfl) hlen h
/- maund sha.consts -/
noncomputable def c27 : Cfg := ⟨Try.prog, tt.get, inL [], atL [], inL []⟩
theorem en27 {args : List CV} {m : Mem} {R : List CV → Mem → Prop} (hlen : Nat.ble args.length Try.f27.ntmps = true) (h : xwp c27 (bodyOf Try.f27) (QRet tt.get Try.f27.results.toList R) ⟨initF args, [], m, []⟩) : Spec Try.prog 27 args m R :=
  Spec.of_body (c := c27) Try.func27 (by kernel_rfl) (by kernel_rfl) tt_ok wide (by kernel_rfl) hlen h
/- maund sha.spread -/
noncomputable def c28 : Cfg := ⟨Try.prog, tt.get, inL [], atL [(6, ⟨.op 0 .all (.op 1 .all (.op 2 .all (.op 3 .all (.op 4 .all (.op 5 .all (.op 6 .all (.op 7 .all (.op 8 .all (.op 9 .all (.op 10 .all (.op 11 .all (.op 12 .all (.op 13 .all (.op 14 .all (.op 15 .all (.op 16 .all (.op 17 .all (.op 18 .all (.op 19 .all (.op 20 .all (.op 21 .all (.op 22 .all (.op 23 .all (.op 24 .none (.nil))))))))))))))))))))))))), [0, 0, 2, 6, 14, 30, 0, 64, 192, 448, 960, 2046, 0, 4096, 12288, 28672, 61440, 131070, 0, 262144, 786432, 1835008, 4194302, 8388607, 16777215]⟩),
  (11, ⟨.op 0 .all (.op 1 .all (.op 2 .all (.op 3 .all (.op 4 .all (.op 5 .all (.op 6 .all (.op 7 .all (.op 8 .all (.op 9 .all (.nil)))))))))), [0, 1, 3, 7, 0, 16, 48, 112, 15, 511]⟩),
  (12, ⟨.op 0 .all (.op 1 .all (.op 2 .all (.op 3 .all (.op 4 .all (.op 5 .all (.op 7 .all (.op 10 .all (.op 11 .all (.op 14 .all (.op 15 .all (.op 16 .all (.op 17 .all (.op 19 .all (.op 21 .all (.op 24 .all (.op 25 .all (.op 6 .all (.op 8 .all (.op 9 .all (.op 12 .all (.op 13 .all (.op 18 .all (.op 20 .all (.op 22 .all (.op 23 .all (.op 26 .all (.op 27 .all (.op 28 .all (.op 29 .none (.nil)))))))))))))))))))))))))))))), [0, 0, 2, 6, 14, 0, 32, 0, 224, 480, 0, 1024, 4064, 8190, 0, 16384, 49152, 114688, 262142, 0, 524768, 0, 3670496, 7864800, 0, 16777216, 66585056, 134217726, 268435455, 536870911]⟩)], inL []⟩
theorem en28 {args : List CV} {m : Mem} {R : List CV → Mem → Prop} (hlen : Nat.ble args.length Try.f28.ntmps = true) (h : xwp c28 (bodyOf Try.f28) (QRet tt.get Try.f28.results.toList R) ⟨initF args, [], m, []⟩) : Spec Try.prog 28 args m R :=
  Spec.of_body (c := c28) Try.func28 (by kernel_rfl) (by kernel_rfl) tt_ok wide (by kernel_rfl) hlen h
/- maund sha.right -/
noncomputable def c29 : Cfg := ⟨Try.prog, tt.get, inL [], atL [], inL []⟩
theorem en29 {args : List CV} {m : Mem} {R : List CV → Mem → Prop} (hlen : Nat.ble args.length Try.f29.ntmps = true) (h : xwp c29 (bodyOf Try.f29) (QRet tt.get Try.f29.results.toList R) ⟨initF args, [], m, []⟩) : Spec Try.prog 29 args m R :=
  Spec.of_body (c := c29) Try.func29 (by kernel_rfl) (by kernel_rfl) tt_ok wide (by kernel_rfl) hlen h
/- maund maundref01.consts -/
noncomputable def c30 : Cfg := ⟨Try.prog, tt.get, inL [], atL [], inL []⟩
theorem en30 {args : List CV} {m : Mem} {R : List CV → Mem → Prop} (hlen : Nat.ble args.length Try.f30.ntmps = true) (h : xwp c30 (bodyOf Try.f30) (QRet tt.get Try.f30.results.toList R) ⟨initF args, [], m, []⟩) : Spec Try.prog 30 args m R :=
  Spec.of_body (c := c30) Try.func30 (by kernel_rfl) (by kernel_rfl) tt_ok wide (by kernel_rfl) hlen h
/- maund maundref01.word -/
noncomputable def c31 : Cfg := ⟨Try.prog, tt.get, inL [], atL [(2, ⟨.op 0 .all (.op 1 .all (.op 2 .all (.op 3 .all (.op 4 .all (.op 5 .all (.op 6 .all (.op 7 .all (.op 8 .all (.op 9 .all (.op 10 .all (.op 11 .all (.op 12 .all (.op 13 .all (.op 14 .all (.op 15 .all (.op 16 .all (.op 17 .all (.op 18 .all (.op 19 .all (.op 20 .all (.op 21 .all (.op 22 .all (.op 23 .all (.op 24 .all (.op 25 .all (.op 26 .all (.op 27 .all (.op 28 .all (.op 29 .all (.op 30 .all (.op 31 .all (.op 32 .all (.op 33 .all (.nil)))))))))))))))))))))))))))))))))), [0, 0, 2, 7, 15, 31, 63, 0, 0, 256, 768, 1920, 3968, 8064, 16256, 32767, 0, 0, 131072, 393216, 983040, 2031616, 4128768, 8323072, 16777215, 0, 0, 67108864, 201326592, 503316480, 1040187392, 2113929216, 4294967295, 8589934591]⟩),
  (3, ⟨.op 0 .all (.op 1 .all (.op 2 .all (.op 3 .all (.op 4 .all (.op 5 .all (.op 6 .all (.op 7 .all (.op 8 .all (.op 9 .all (.op 10 .all (.op 11 .all (.nil)))))))))))), [0, 0, 2, 7, 15, 0, 0, 64, 224, 480, 31, 2047]⟩),
  (6, ⟨.op 0 .all (.op 1 .all (.op 2 .all (.op 3 .all (.op 4 .all (.op 5 .all (.op 6 .all (.op 7 .all (.op 8 .all (.op 9 .all (.op 10 .all (.op 11 .all (.op 12 .all (.op 13 .all (.op 14 .all (.op 15 .all (.op 16 .all (.nil))))))))))))))))), [0, 0, 2, 7, 15, 0, 63, 0, 0, 256, 896, 1920, 4095, 0, 16383, 32767, 65535]⟩)], inL []⟩
theorem en31 {args : List CV} {m : Mem} {R : List CV → Mem → Prop} (hlen : Nat.ble args.length Try.f31.ntmps = true) (h : xwp c31 (bodyOf Try.f31) (QRet tt.get Try.f31.results.toList R) ⟨initF args, [], m, []⟩) : Spec Try.prog 31 args m R :=
  Spec.of_body (c := c31) Try.func31 (by kernel_rfl) (by kernel_rfl) tt_ok wide (by kernel_rfl) hlen h
/- maund maundref01.turn -/
noncomputable def c32 : Cfg := ⟨Try.prog, tt.get, inL [], atL [], inL []⟩
theorem en32 {args : List CV} {m : Mem} {R : List CV → Mem → Prop} (hlen : Nat.ble args.length Try.f32.ntmps = true) (h : xwp c32 (bodyOf Try.f32) (QRet tt.get Try.f32.results.toList R) ⟨initF args, [], m, []⟩) : Spec Try.prog 32 args m R :=
  Spec.of_body (c := c32) Try.func32 (by kernel_rfl) (by kernel_rfl) tt_ok wide (by kernel_rfl) hlen h
/- slices.Grow[[]byte,byte] -/
noncomputable def c35 : Cfg := ⟨Try.prog, tt.get, inL [], atL [], inL []⟩
theorem en35 {args : List CV} {m : Mem} {R : List CV → Mem → Prop} (hlen : Nat.ble args.length Try.f35.ntmps = true) (h : xwp c35 (bodyOf Try.f35) (QRet tt.get Try.f35.results.toList R) ⟨initF args, [], m, []⟩) : Spec Try.prog 35 args m R :=
  Spec.of_body (c := c35) Try.func35 (by kernel_rfl) (by kernel_rfl) tt_ok wide (by kernel_rfl) hlen h
/- math bits.RotateLeft32 -/
noncomputable def c36 : Cfg := ⟨Try.prog, tt.get, inL [], atL [], inL []⟩
theorem en36 {args : List CV} {m : Mem} {R : List CV → Mem → Prop} (hlen : Nat.ble args.length Try.f36.ntmps = true) (h : xwp c36 (bodyOf Try.f36) (QRet tt.get Try.f36.results.toList R) ⟨initF args, [], m, []⟩) : Spec Try.prog 36 args m R :=
  Spec.of_body (c := c36) Try.func36 (by kernel_rfl) (by kernel_rfl) tt_ok wide (by kernel_rfl) hlen h
end Go.E.Ytodgjanekjefbaa

/-
  Small things for the contracts.
-/
namespace Go.E
abbrev u64 (n : Int) : CV := .v (.int .u64 n)
abbrev i64 (n : Int) : CV := .v (.int .i64 n)
abbrev boolV (b : Bool) : CV := .v (.bool b)
theorem xretk {P : Program} {f : FuncId} {args : List CV} {m : Mem} {r : List CV} {x : List Nat} {K : List CV → Mem → Prop} (h : Ret P f args m r) (k : K r m) : XCall P f args m fun r' m' => Kept x m m' ∧ K r' m' :=
  xret h ⟨fun _ _ => rfl, k⟩
theorem wu {n : Int} (h0 : 0 ≤ n) (h1 : n < 18446744073709551616) : IntKind.u64.wrap n = n := by rw [IntKind.wrap_u64, Int.emod_eq_of_lt h0 h1]
theorem wi {n : Int} (h0 : -9223372036854775808 ≤ n) (h1 : n < 9223372036854775808) : IntKind.i64.wrap n = n := by rw [IntKind.wrap_i64]; omega
theorem iadd {i : Nat} (h : i < 1000000000000) : IntKind.i64.wrap ((i : Int) + 1) = ((i + 1 : Nat) : Int) := by rw [wi (by omega) (by omega)]; omega
end Go.E

/-
  Bits of numbers, plainly.
-/
namespace Go.E
theorem ofInt_nat (w a : Nat) : BitVec.ofInt w (a : Int) = BitVec.ofNat w a := by simp
theorem toNat_ofInt {w a : Nat} (h : a < 2 ^ w) : (BitVec.ofInt w (a : Int)).toNat = a := by
  rw [ofInt_nat, BitVec.toNat_ofNat, Nat.mod_eq_of_lt h]
theorem or_u64 {a b : Nat} (ha : a < 2 ^ 64) (hb : b < 2 ^ 64) : bitsOf .or .u64 a b = ((a ||| b : Nat) : Int) := by
  have h := Nat.or_lt_two_pow ha hb
  show IntKind.u64.wrap ((BitVec.ofInt 64 a ||| BitVec.ofInt 64 b).toNat : Int) = _
  rw [BitVec.toNat_or, toNat_ofInt ha, toNat_ofInt hb, wu (by omega) (by omega)]
theorem and_u64 {a b : Nat} (ha : a < 2 ^ 64) (hb : b < 2 ^ 64) : bitsOf .and .u64 a b = ((a &&& b : Nat) : Int) := by
  have h := Nat.and_lt_two_pow a hb
  show IntKind.u64.wrap ((BitVec.ofInt 64 a &&& BitVec.ofInt 64 b).toNat : Int) = _
  rw [BitVec.toNat_and, toNat_ofInt ha, toNat_ofInt hb, wu (by omega) (by omega)]
theorem xor_u64 {a b : Nat} (ha : a < 2 ^ 64) (hb : b < 2 ^ 64) : bitsOf .xor .u64 a b = ((a ^^^ b : Nat) : Int) := by
  have h := Nat.xor_lt_two_pow ha hb
  show IntKind.u64.wrap ((BitVec.ofInt 64 a ^^^ BitVec.ofInt 64 b).toNat : Int) = _
  rw [BitVec.toNat_xor, toNat_ofInt ha, toNat_ofInt hb, wu (by omega) (by omega)]
theorem wu32 {n : Int} (h0 : 0 ≤ n) (h1 : n < 4294967296) : IntKind.u32.wrap n = n := by rw [IntKind.wrap_u32, Int.emod_eq_of_lt h0 h1]
theorem wu8 {n : Int} (h0 : 0 ≤ n) (h1 : n < 256) : IntKind.u8.wrap n = n := by rw [IntKind.wrap_u8, Int.emod_eq_of_lt h0 h1]
theorem or_u32 {a b : Nat} (ha : a < 2 ^ 32) (hb : b < 2 ^ 32) : bitsOf .or .u32 a b = ((a ||| b : Nat) : Int) := by
  have h := Nat.or_lt_two_pow ha hb
  show IntKind.u32.wrap ((BitVec.ofInt 32 a ||| BitVec.ofInt 32 b).toNat : Int) = _
  rw [BitVec.toNat_or, toNat_ofInt ha, toNat_ofInt hb, wu32 (by omega) (by omega)]
theorem and_u32 {a b : Nat} (ha : a < 2 ^ 32) (hb : b < 2 ^ 32) : bitsOf .and .u32 a b = ((a &&& b : Nat) : Int) := by
  have h := Nat.and_lt_two_pow a hb
  show IntKind.u32.wrap ((BitVec.ofInt 32 a &&& BitVec.ofInt 32 b).toNat : Int) = _
  rw [BitVec.toNat_and, toNat_ofInt ha, toNat_ofInt hb, wu32 (by omega) (by omega)]
theorem xor_u32 {a b : Nat} (ha : a < 2 ^ 32) (hb : b < 2 ^ 32) : bitsOf .xor .u32 a b = ((a ^^^ b : Nat) : Int) := by
  have h := Nat.xor_lt_two_pow ha hb
  show IntKind.u32.wrap ((BitVec.ofInt 32 a ^^^ BitVec.ofInt 32 b).toNat : Int) = _
  rw [BitVec.toNat_xor, toNat_ofInt ha, toNat_ofInt hb, wu32 (by omega) (by omega)]
theorem xor_u8 {a b : Nat} (ha : a < 2 ^ 8) (hb : b < 2 ^ 8) : bitsOf .xor .u8 a b = ((a ^^^ b : Nat) : Int) := by
  have h := Nat.xor_lt_two_pow ha hb
  show IntKind.u8.wrap ((BitVec.ofInt 8 a ^^^ BitVec.ofInt 8 b).toNat : Int) = _
  rw [BitVec.toNat_xor, toNat_ofInt ha, toNat_ofInt hb, wu8 (by omega) (by omega)]
/-- low bits below, the rest above -/
theorem or_low {a c : Nat} (k : Nat) (hc : c < 2 ^ k) : (a * 2 ^ k) ||| c = a * 2 ^ k + c := by
  rw [Nat.mul_comm, Nat.two_pow_add_eq_or_of_lt hc]
/-- all bits turned -/
theorem not_i64 {n : Int} (h0 : -9223372036854775808 ≤ n) (h1 : n ≤ 9223372036854775807) : bitsOf .xor .i64 (if IntKind.i64.signed = true then -1 else IntKind.i64.max) n = -n - 1 := by
  show IntKind.i64.wrap ((BitVec.ofInt 64 (-1) ^^^ BitVec.ofInt 64 n).toNat : Int) = _
  have e : BitVec.ofInt 64 (-1) = BitVec.allOnes 64 := by rfl
  have e2 : BitVec.allOnes 64 ^^^ BitVec.ofInt 64 n = ~~~ (BitVec.ofInt 64 n) := BitVec.allOnes_xor
  rw [e, e2, BitVec.toNat_not, BitVec.toNat_ofInt, IntKind.wrap_i64]
  omega
theorem not_u32 {n : Nat} (h1 : n < 2 ^ 32) : bitsOf .xor .u32 (if IntKind.u32.signed = true then -1 else IntKind.u32.max) n = ((4294967295 - n : Nat) : Int) := by
  show IntKind.u32.wrap ((BitVec.ofInt 32 4294967295 ^^^ BitVec.ofInt 32 n).toNat : Int) = _
  have e : BitVec.ofInt 32 4294967295 = BitVec.allOnes 32 := by rfl
  have e2 : BitVec.allOnes 32 ^^^ BitVec.ofInt 32 n = ~~~ (BitVec.ofInt 32 n) := BitVec.allOnes_xor
  rw [e, e2, BitVec.toNat_not, toNat_ofInt h1, wu32 (by omega) (by omega)]
theorem shr_nat {k : IntKind} {x n : Nat} (hn : n ≤ k.bits) : shrOf k (x : Int) (n : Int) = ((x / 2 ^ n : Nat) : Int) := by
  show (x : Int).fdiv (2 ^ (min ((n : Int).toNat) k.bits)) = _
  rw [Int.toNat_natCast, Nat.min_eq_left hn, Int.fdiv_eq_ediv_of_nonneg _ (Int.le_of_lt (Int.pow_pos (by decide)))]
  simp
theorem shl_u64 {x n : Nat} (hn : n ≤ 64) (hx : x * 2 ^ n < 18446744073709551616) : shlOf .u64 (x : Int) (n : Int) = ((x * 2 ^ n : Nat) : Int) := by
  show IntKind.u64.wrap ((x : Int) * 2 ^ (min ((n : Int).toNat) 64)) = _
  have : ((x : Int) * 2 ^ n) = ((x * 2 ^ n : Nat) : Int) := by simp
  rw [Int.toNat_natCast, Nat.min_eq_left hn, this, wu (by omega) (by omega)]
theorem tmod_nat (a b : Nat) : Int.tmod (a : Int) (b : Int) = ((a % b : Nat) : Int) := by rw [Int.tmod_eq_emod_of_nonneg (by omega)]; omega
theorem tdiv_nat (a b : Nat) : Int.tdiv (a : Int) (b : Int) = ((a / b : Nat) : Int) := by rw [Int.tdiv_eq_ediv_of_nonneg (by omega)]; omega
end Go.E

/-
  The digest, plainly.
-/
namespace Go.E
namespace Sha
abbrev M : Nat := 4294967296
def rotr (x n : Nat) : Nat := (x * 2 ^ (32 - n)) % M ||| x / 2 ^ n
def s0 (x : Nat) : Nat := rotr x 7 ^^^ rotr x 18 ^^^ x / 8
def s1 (x : Nat) : Nat := rotr x 17 ^^^ rotr x 19 ^^^ x / 1024
def S1 (x : Nat) : Nat := rotr x 6 ^^^ rotr x 11 ^^^ rotr x 25
def S0 (x : Nat) : Nat := rotr x 2 ^^^ rotr x 13 ^^^ rotr x 22
def ch (e f g : Nat) : Nat := (e &&& f) ^^^ ((4294967295 - e) &&& g)
def maj (a b c : Nat) : Nat := (a &&& b) ^^^ (a &&& c) ^^^ (b &&& c)
def K : List Nat := [
  0x428a2f98, 0x71374491, 0xb5c0fbcf, 0xe9b5dba5, 0x3956c25b, 0x59f111f1, 0x923f82a4, 0xab1c5ed5,
  0xd807aa98, 0x12835b01, 0x243185be, 0x550c7dc3, 0x72be5d74, 0x80deb1fe, 0x9bdc06a7, 0xc19bf174,
  0xe49b69c1, 0xefbe4786, 0x0fc19dc6, 0x240ca1cc, 0x2de92c6f, 0x4a7484aa, 0x5cb0a9dc, 0x76f988da,
  0x983e5152, 0xa831c66d, 0xb00327c8, 0xbf597fc7, 0xc6e00bf3, 0xd5a79147, 0x06ca6351, 0x14292967,
  0x27b70a85, 0x2e1b2138, 0x4d2c6dfc, 0x53380d13, 0x650a7354, 0x766a0abb, 0x81c2c92e, 0x92722c85,
  0xa2bfe8a1, 0xa81a664b, 0xc24b8b70, 0xc76c51a3, 0xd192e819, 0xd6990624, 0xf40e3585, 0x106aa070,
  0x19a4c116, 0x1e376c08, 0x2748774c, 0x34b0bcb5, 0x391c0cb3, 0x4ed8aa4a, 0x5b9cca4f, 0x682e6ff3,
  0x748f82ee, 0x78a5636f, 0x84c87814, 0x8cc70208, 0x90befffa, 0xa4506ceb, 0xbef9a3f7, 0xc67178f2]
def H0 : List Nat := [0x6a09e667, 0xbb67ae85, 0x3c6ef372, 0xa54ff53a, 0x510e527f, 0x9b05688c, 0x1f83d9ab, 0x5be0cd19]
/-- the t-th word of a block, by those ahead of it -/
def word (b w : List Nat) (t : Nat) : Nat :=
  if t < 16 then b.getD (4 * t) 0 * 16777216 + b.getD (4 * t + 1) 0 * 65536 + b.getD (4 * t + 2) 0 * 256 + b.getD (4 * t + 3) 0
  else (w.getD (t - 16) 0 + s0 (w.getD (t - 15) 0) + w.getD (t - 7) 0 + s1 (w.getD (t - 2) 0)) % M
def words (b : List Nat) : Nat → List Nat
  | 0 => []
  | t + 1 => words b t ++ [word b (words b t) t]
def step (k w : Nat) (v : List Nat) : List Nat :=
  let x := (v.getD 7 0 + S1 (v.getD 4 0) + ch (v.getD 4 0) (v.getD 5 0) (v.getD 6 0) + k + w) % M
  let y := (S0 (v.getD 0 0) + maj (v.getD 0 0) (v.getD 1 0) (v.getD 2 0)) % M
  [(x + y) % M, v.getD 0 0, v.getD 1 0, v.getD 2 0, (v.getD 3 0 + x) % M, v.getD 4 0, v.getD 5 0, v.getD 6 0]
def rounds (w v : List Nat) : Nat → List Nat
  | 0 => v
  | t + 1 => step (K.getD t 0) (w.getD t 0) (rounds w v t)
def add8 (h v : List Nat) : List Nat := (List.range 8).map fun i => (h.getD i 0 + v.getD i 0) % M
def block (h b : List Nat) : List Nat := add8 h (rounds (words b 64) h 64)
/-- how many zeros stand behind n bytes and the mark -/
def zeros (n : Nat) : Nat := (119 - n % 64) % 64
def be8 (n : Nat) : List Nat := (List.range 8).map fun i => n / 256 ^ (7 - i) % 256
def pad (b : List Nat) : List Nat := b ++ [128] ++ List.replicate (zeros b.length) 0 ++ be8 (8 * b.length)
def blocks (h : List Nat) : Nat → List Nat → List Nat
  | 0, _ => h
  | n + 1, p => blocks (block h (p.take 64)) n (p.drop 64)
def digest (h : List Nat) : List Nat := (List.range 32).map fun i => h.getD (i / 4) 0 / 256 ^ (3 - i % 4) % 256
def sum (b : List Nat) : List Nat := digest (blocks H0 ((pad b).length / 64) (pad b))
def point (b : List Nat) : Nat := (List.range 8).foldl (fun n i => n * 256 + (sum b).getD i 0) 0

/-- the same, in the way of one who must reckon: each number is made plain ahead of the next -/
noncomputable def natK {α : Type} (n : Nat) (k : Nat → α) : α := Nat.rec (motive := fun _ => α) (k 0) (fun m _ => k (m + 1)) n
theorem natK_eq {α : Type} (n : Nat) (k : Nat → α) : natK n k = k n := by cases n <;> rfl
noncomputable def listK {α : Type} : List Nat → (List Nat → α) → α
  | [], k => k []
  | x :: l, k => natK x fun x => listK l fun l => k (x :: l)
theorem listK_eq {α : Type} : ∀ (l : List Nat) (k : List Nat → α), listK l k = k l
  | [], _ => rfl
  | x :: l, k => by simp only [listK, natK_eq, listK_eq l]
noncomputable def wordsK {α : Type} (b : List Nat) : Nat → (List Nat → α) → α
  | 0, k => k []
  | t + 1, k => wordsK b t fun w => natK (word b w t) fun x => k (w ++ [x])
theorem wordsK_eq {α : Type} (b : List Nat) : ∀ (t : Nat) (k : List Nat → α), wordsK b t k = k (words b t)
  | 0, _ => rfl
  | t + 1, k => by simp only [wordsK, words, natK_eq, wordsK_eq b t]
noncomputable def iterK {α : Type} (f : Nat → List Nat → List Nat) (v : List Nat) : Nat → (List Nat → α) → α
  | 0, k => listK v k
  | t + 1, k => iterK f v t fun v => listK (f t v) k
def iter (f : Nat → List Nat → List Nat) (v : List Nat) : Nat → List Nat
  | 0 => v
  | t + 1 => f t (iter f v t)
theorem iterK_eq {α : Type} (f : Nat → List Nat → List Nat) (v : List Nat) : ∀ (t : Nat) (k : List Nat → α), iterK f v t k = k (iter f v t)
  | 0, k => by simp only [iterK, iter, listK_eq]
  | t + 1, k => by simp only [iterK, iter, listK_eq, iterK_eq f v t]
theorem iter_rounds (w v : List Nat) : ∀ t, iter (fun t v => step (K.getD t 0) (w.getD t 0) v) v t = rounds w v t
  | 0 => rfl
  | t + 1 => by rw [iter, iter_rounds w v t]; rfl
noncomputable def roundsK {α : Type} (w v : List Nat) (t : Nat) (k : List Nat → α) : α := iterK (fun t v => step (K.getD t 0) (w.getD t 0) v) v t k
theorem roundsK_eq {α : Type} (w v : List Nat) (t : Nat) (k : List Nat → α) : roundsK w v t k = k (rounds w v t) := by
  rw [roundsK, iterK_eq, iter_rounds]
noncomputable def blockK {α : Type} (h b : List Nat) (k : List Nat → α) : α := listK b fun b => wordsK b 64 fun w => listK w fun w => roundsK w h 64 fun v => listK (add8 h v) k
theorem blockK_eq {α : Type} (h b : List Nat) (k : List Nat → α) : blockK h b k = k (block h b) := by
  rw [blockK, listK_eq, wordsK_eq, listK_eq, roundsK_eq, listK_eq, block]
noncomputable def blocksK {α : Type} (h : List Nat) : Nat → List Nat → (List Nat → α) → α
  | 0, _, k => k h
  | n + 1, p, k => blockK h (p.take 64) fun h' => listK (p.drop 64) fun p' => blocksK h' n p' k
theorem blocksK_eq {α : Type} : ∀ (n : Nat) (h p : List Nat) (k : List Nat → α), blocksK h n p k = k (blocks h n p)
  | 0, _, _, _ => rfl
  | n + 1, h, p, k => by simp only [blocksK, blocks, blockK_eq, listK_eq, blocksK_eq n]
noncomputable def sumK (b : List Nat) : List Nat := listK (pad b) fun p => blocksK H0 (p.length / 64) p fun h => listK (digest h) fun d => d
theorem sumK_eq (b : List Nat) : sumK b = sum b := by simp only [sumK, listK_eq, blocksK_eq, sum]
end Sha
end Go.E

/-
  Contracts of operations that make slices.
-/
namespace Go.E
section
variable {P : Program} {T : Tab}

def CV.cs : CV → List Value
  | .v x => [x]
  | .a c => LB.cells c
theorem CV.cs_val {x : CV} (h : x.ok) : x.val.cells = x.cs.toArray := by
  cases x with
  | v z => exact cells_one h
  | a c => rfl

theorem TOk.slice {t e : TypeId} {i : TI} (h : TOk P t i) (hk : i.k = .slice e) : P.underlying t = some (.slice e) := by
  obtain ⟨d, h1, h2⟩ := h.desc
  rw [hk] at h2
  cases d <;> simp [TK.of] at h2
  rw [h1, h2]

def fl (args : List CV) : List Value := (args.map CV.cs).flatten

theorem fill_dense {size : Nat} : ∀ (args : List CV) (k : Nat) (cells : Array Value), (∀ x ∈ args, x.ok) → (∀ x ∈ args, x.cs.length = size) → (k + args.length) * size ≤ cells.size →
    Instr.fill (fun i => some (i * size, size)) cells ((List.range' k args.length).zip (args.map CV.val)) = some (cells.toList.take (k * size) ++ (fl args ++ cells.toList.drop ((k + args.length) * size))).toArray
  | [], k, cells, _, _, _ => by simp [Instr.fill, fl]
  | x :: r, k, cells, h1, h2, h3 => by
    have hx := h1 x (by simp)
    have hl := h2 x (by simp)
    have hcv := CV.cs_val hx
    simp only [List.length_cons] at h3
    have h3' : k * size + size ≤ cells.size := by
      have : (k + (r.length + 1)) * size = k * size + size + r.length * size := by simp [Nat.add_mul]; omega
      omega
    simp only [List.length_cons, List.range'_succ, List.map_cons, List.zip_cons_cons]
    rw [fill_step (off := k * size) (size := size) rfl (by rw [hcv]; simpa using hl) (by rw [hcv]; simp [hl]; exact h3')]
    rw [laid_cells _ _ hcv _ _ (by rw [hl]; exact h3')]
    rw [fill_dense r (k + 1) _ (fun y hy => h1 y (by simp [hy])) (fun y hy => h2 y (by simp [hy])) (by simp [hl]; simp [Nat.add_mul] at h3 ⊢; omega)]
    congr 2
    have e1 : (k + 1) * size = k * size + size := by rw [Nat.add_mul, Nat.one_mul]
    have e2 : k + 1 + r.length = k + (r.length + 1) := by omega
    have ht : (List.take (k * size) cells.toList).length = k * size := by simp; omega
    simp only [fl, List.map_cons, List.flatten_cons, e1, e2]
    rw [List.take_append, ht, List.take_append, hl]
    rw [List.drop_append, ht, List.drop_append, hl]
    have d1 : List.take (k * size + size) (List.take (k * size) cells.toList) = List.take (k * size) cells.toList := by rw [List.take_take]; congr 1; omega
    have d2 : List.drop ((k + (r.length + 1)) * size) (List.take (k * size) cells.toList) = [] := by
      apply List.drop_eq_nil_of_le; rw [ht]; simp [Nat.add_mul]
    have d3 : k * size + size - k * size = size := by omega
    have d4 : List.take size x.cs = x.cs := by rw [← hl]; exact List.take_length
    have hge : k * size + size ≤ (k + (r.length + 1)) * size := by simp [Nat.add_mul]
    have d5 : List.drop ((k + (r.length + 1)) * size - k * size) x.cs = [] := by apply List.drop_eq_nil_of_le; rw [hl]; omega
    rw [d1, d2, d3, d4, d5, Nat.sub_self, List.take_zero, List.append_nil, List.nil_append, List.nil_append, List.drop_drop]
    have d6 : k * size + size + ((k + (r.length + 1)) * size - k * size - size) = (k + (r.length + 1)) * size := by omega
    rw [d6]
    simp [List.append_assoc]

/-- a slice literal all of whose parts are told, in order -/
theorem buildSlice_spec (hT : TabOk P T) {t e : TypeId} {ti ei : TI} (ht : T t = some ti) (hk : ti.k = .slice e) (he : T e = some ei) {n : Nat} {ix : List Nat} (hix : ix = List.range' 0 n) {args : List CV} (hn : args.length = n)
    (hsz : ∀ x ∈ args, x.cs.length = ei.size) (hb : n * ei.size ≤ 16777216) (hp : 0 < n * ei.size) {m : Mem} :
    PrimSpec P (.buildSlice t n ix) args m fun r m' => ∃ b, m b = none ∧ r = [.v (.slice (some ⟨b, 0, none⟩) n n)] ∧ m' = m.set b (.cells (fl args).toArray e) := by
  intro hok ty W hW
  obtain ⟨j, hj, hjs, _, z, hz, hzc⟩ := (hT e ei he).inf
  refine ⟨[.v (.slice (some ⟨W.heap.size, 0, none⟩) n n)], m.set W.heap.size (.cells (fl args).toArray e), W.alloc (.cells (fl args).toArray e), ?_, ?_, ⟨W.heap.size, hW.none (Nat.le_refl _), rfl, rfl⟩, (After.refl hW).alloc _⟩
  · subst hix
    simp only [Prim.run, resVal]
    subst hn
    refine run_buildSlice W t e _ _ _ j z ((hT t ti ht).slice hk) hj hz (by rw [hjs]; omega) (by rw [hjs]; omega) ?_
    rw [hjs]
    have := fill_dense args 0 ((Array.range (args.length * ei.size)).map (z.cells[· % z.cells.size]!)) hok hsz (by simp)
    simp only [CV.val]
    rw [this]
    congr 2
    simp
  · intro x hx
    simp at hx; subst hx; rfl
end
end Go.E

/-
  Slices that are owned: append; make; what lies in them; copies.
-/
namespace Go.E
section
variable {P : Program} {T : Tab}

/-- A slice's cells lie in memory that is known. -/
def Lies (m : Mem) (size : Nat) (v : Value) (l : List Value) : Prop :=
  (∃ c, v = .slice none 0 c ∧ l = []) ∨ ∃ b o c n arr t fr, v = .slice (some ⟨b, o, none⟩) n c ∧ m b = some (.cells arr t fr) ∧ l.length = n * size ∧ n ≤ c ∧ (∀ j u, l[j]? = some u → arr[o + j]? = some u) ∧ (∀ u ∈ l, u.oneCell' = true)
/-- A slice whose whole row is known, and may be written. -/
def Own (m : Mem) (e : TypeId) (size : Nat) (v : Value) (l : List Value) : Prop :=
  (v = .slice none 0 0 ∧ l = []) ∨ ∃ b o c n arr, v = .slice (some ⟨b, o, none⟩) n c ∧ m b = some (.cells arr e (0, 0)) ∧ l.length = n * size ∧ n ≤ c ∧ o + c * size ≤ arr.size ∧ (∀ j u, l[j]? = some u → arr[o + j]? = some u) ∧ (∀ u ∈ l, u.oneCell' = true)
theorem Own.lies {m : Mem} {e : TypeId} {size : Nat} {v : Value} {l : List Value} (h : Own m e size v l) : Lies m size v l := by
  rcases h with ⟨rfl, rfl⟩ | ⟨b, o, c, n, arr, rfl, h1, h2, h5, _, h3, h4⟩
  · exact .inl ⟨0, rfl, rfl⟩
  · exact .inr ⟨b, o, c, n, arr, e, (0, 0), rfl, h1, h2, h5, h3, h4⟩
theorem Lies.sub {m m' : Mem} {size : Nat} {v : Value} {l : List Value} (h : Lies m size v l) (hs : Sub m m') : Lies m' size v l := by
  rcases h with h | ⟨b, o, c, n, arr, t, fr, rfl, h1, h2⟩
  · exact .inl h
  · exact .inr ⟨b, o, c, n, arr, t, fr, rfl, hs _ _ h1, h2⟩
theorem Own.sub {m m' : Mem} {e : TypeId} {size : Nat} {v : Value} {l : List Value} (h : Own m e size v l) (hs : Sub m m') : Own m' e size v l := by
  rcases h with h | ⟨b, o, c, n, arr, rfl, h1, h2⟩
  · exact .inl h
  · exact .inr ⟨b, o, c, n, arr, rfl, hs _ _ h1, h2⟩
/-- the block of a slice -/
def blkV : Value → Option Nat
  | .slice (some a) _ _ => some a.block
  | _ => none
theorem Lies.keep {m m' : Mem} {size : Nat} {v : Value} {l : List Value} (h : Lies m size v l) (hs : ∀ b, blkV v = some b → m' b = m b) : Lies m' size v l := by
  rcases h with h | ⟨b, o, c, n, arr, t, fr, rfl, h1, h2⟩
  · exact .inl h
  · exact .inr ⟨b, o, c, n, arr, t, fr, rfl, by rw [hs b rfl]; exact h1, h2⟩
theorem Own.keep {m m' : Mem} {e : TypeId} {size : Nat} {v : Value} {l : List Value} (h : Own m e size v l) (hs : ∀ b, blkV v = some b → m' b = m b) : Own m' e size v l := by
  rcases h with h | ⟨b, o, c, n, arr, rfl, h1, h2⟩
  · exact .inl h
  · exact .inr ⟨b, o, c, n, arr, rfl, by rw [hs b rfl]; exact h1, h2⟩
/-- how many -/
def lenV : Value → Nat
  | .slice _ n _ => n
  | .string s => s.size
  | _ => 0
theorem Lies.one {m : Mem} {size : Nat} {v : Value} {l : List Value} (h : Lies m size v l) : v.oneCell' = true := by
  rcases h with ⟨c, rfl, _⟩ | ⟨b, o, c, n, arr, t, fr, rfl, _⟩ <;> rfl
theorem Lies.cellsOne {m : Mem} {size : Nat} {v : Value} {l : List Value} (h : Lies m size v l) : ∀ u ∈ l, u.oneCell' = true := by
  rcases h with ⟨c, rfl, rfl⟩ | ⟨b, o, c, n, arr, t, fr, rfl, _, _, _, _, h1⟩
  · simp
  · exact h1
theorem Lies.len {m : Mem} {size : Nat} {v : Value} {l : List Value} (h : Lies m size v l) : l.length = lenV v * size := by
  rcases h with ⟨c, rfl, rfl⟩ | ⟨b, o, c, n, arr, t, fr, rfl, _, h1, _⟩
  · simp [lenV]
  · exact h1

/-- What a second argument of append gives: a slice that lies there, or a string's bytes. -/
def Gives (m : Mem) (size : Nat) (k : TK) (x : Value) (news : List Value) : Prop :=
  (∃ e, k = .slice e ∧ (Lies m size x news ∨ (news = [] ∧ ∃ a, x = .slice (some a) 0 0))) ∨ (k = .str ∧ size = 1 ∧ ∃ s, x = .string s ∧ news = byteCells s)

theorem Gives.src (hT : TabOk P T) {tx : TypeId} {xi : TI} (hx : T tx = some xi) {m : Mem} {size : Nat} {x : Value} {news : List Value} (h : Gives m size xi.k x news) {W : World} (hW : Over m W) : Src P size tx x (lenV x) news W := by
  obtain ⟨d, h1, h2⟩ := (hT tx xi hx).desc
  rcases h with ⟨e, hk, hl⟩ | ⟨hk, rfl, s, rfl, rfl⟩
  · rw [hk] at h2
    have hd := slice_desc h2
    subst hd
    rcases hl with (⟨c, rfl, rfl⟩ | ⟨b, o, c, n, arr, t, fr, rfl, g1, g2, _, g3, g4⟩) | ⟨rfl, a, rfl⟩
    rotate_left 2
    · exact Src.ofSlice W h1 a 0 0 [] (by simp) (by simp) (by simp)
    · exact Src.ofNil W h1 c
    · refine Src.ofSlice W h1 _ n c news g2 (fun j u hu => ?_) g4
      rw [add_none, cell_at (hW _ _ g1)]
      exact g3 j u hu
  · rw [hk] at h2
    have hd := str_desc h2
    subst hd
    exact Src.ofString W h1 s

theorem growBy_le (k : Nat) : ∀ (r c : Nat), c ≤ k → Builtin.growBy k r c ≤ 2 * k + 768
  | 0, c, h => by simp only [Builtin.growBy]; omega
  | r + 1, c, h => by
    simp only [Builtin.growBy]
    split
    · omega
    · by_cases h2 : c + (c + 768) / 4 ≤ k
      · exact growBy_le k r _ h2
      · cases r with
        | zero => simp only [Builtin.growBy]; omega
        | succ r => simp only [Builtin.growBy]; rw [if_pos (by omega)]; omega
theorem nextcap_le {need cap : Nat} (h : cap < need) : Builtin.nextslicecap need cap ≤ 2 * need + 768 := by
  unfold Builtin.nextslicecap
  split
  · omega
  · split
    · omega
    · exact growBy_le need 4 cap (by omega)

theorem drew_eq (W : World) : W.drew = { W with drawn := W.drawn + 1 } := rfl
theorem zeroCells_size (z : Array Value) (n : Nat) : (Builtin.zeroCells z n).size = n * z.size := by simp [Builtin.zeroCells]

theorem getElem?_app_left {α : Type} {l r : List α} {j : Nat} {u : α} (h : l[j]? = some u) : (l ++ r)[j]? = some u := by
  rw [List.getElem?_append_left (List.getElem?_eq_some_iff.1 h).1]; exact h

/-- what an append leaves: v' is the slice behind it -/
structure Apd (m : Mem) (e : TypeId) (size : Nat) (v : Value) (l : List Value) (k : Nat) (v' : Value) (m' : Mem) : Prop where
  own : Own m' e size v' l
  keep : ∀ b o, m b = some o → blkV v ≠ some b → m' b = some o
  new : ∀ b, blkV v' = some b → blkV v = some b ∨ m b = none
  len : lenV v' = lenV v + k
/-- append onto a slice that is owned -/
theorem append_spec (hT : TabOk P T) {t e tx : TypeId} {ti ei xi : TI} (ht : T t = some ti) (hk : ti.k = .slice e) (he : T e = some ei) (hx : T tx = some xi) (hz : (LB.cells ei.zero).length = ei.size) {v x : Value} {l news : List Value} {m : Mem}
    (hv : Own m e ei.size v l) (hg : Gives m ei.size xi.k x news) (hbig : (2 * (lenV v + lenV x) + 768) * ei.bytes ≤ 281474976710656) (hb1 : lenV v + lenV x ≤ 9223372036854775807) :
    PrimSpec P (.builtin .append [t, tx]) [.v v, .v x] m fun r m' => ∃ v', r = [.v v'] ∧ Apd m e ei.size v (l ++ news) (lenV x) v' m' := by
  intro _ ty W hW
  obtain ⟨j, hj, hjs, hjb, z, hjz, hzc⟩ := (hT e ei he).inf
  have hsl := (hT t ti ht).slice hk
  have src := hg.src hT hx hW
  have hzsz : z.cells.size = ei.size := by rw [hzc]; simpa using hz
  have hlies := hv.lies
  -- the arm that grows
  have grow : ∀ (base : Option Addr) (n c : Nat), v = .slice base n c → c < n + lenV x → (Builtin.firstCells ei.size n (.slice base n c)).run P W.drew = .ok l.toArray W.drew → l.length = n * ei.size → (∀ u ∈ l, u.oneCell' = true) →
      ∃ r m' W', (Prim.run (.builtin .append [t, tx]) ty ([CV.v v, CV.v x].map CV.val)).run P W = .ok (resVal r) W' ∧ (∀ x ∈ r, x.ok) ∧
        (∃ v', r = [.v v'] ∧ Apd m e ei.size v (l ++ news) (lenV x) v' m') ∧ After m W m' W' := by
    rintro base n c rfl hlt hold hln hone
    have hbig' : (2 * (n + lenV x) + 768) * ei.bytes ≤ 281474976710656 := hbig
    have hb1' : n + lenV x ≤ 9223372036854775807 := hb1
    have hrun := run_append_grow_src W t tx ty e j z hsl hj hjz base n c l (by rw [hjs]; exact hold) x (lenV x) news (by rw [hjs]; exact src) hlt (by omega)
      (by rw [hjb]; exact Nat.le_trans (Nat.mul_le_mul_right _ (nextcap_le hlt)) hbig')
    have hcap := grownCap_ge W (n + lenV x) c e
    generalize hC : grownCap W (n + lenV x) c e = C at hrun hcap
    refine ⟨[.v (.slice (some ⟨W.heap.size, 0, none⟩) (n + lenV x) C)], m.set W.heap.size (.cells ((l ++ news).toArray ++ Builtin.zeroCells z.cells (C - (n + lenV x))) e), _, ?_, ?_, ⟨_, rfl, ?_, ?_, ?_, rfl⟩, (After.refl hW).drew.alloc _⟩
    · exact hrun
    · intro y hy; simp at hy; subst hy; rfl
    · refine .inr ⟨W.heap.size, 0, C, n + lenV x, _, rfl, Mem.set_same .., ?_, hcap, ?_, ?_, ?_⟩
      · rw [List.length_append, hln, src.newsLen, Nat.add_mul]
      · have e1 : (C - (n + lenV x)) * ei.size + (n + lenV x) * ei.size = C * ei.size := by rw [← Nat.add_mul]; congr 1; omega
        have e2 : (l ++ news).length = (n + lenV x) * ei.size := by rw [List.length_append, hln, src.newsLen, Nat.add_mul]
        simp only [Array.size_append, List.size_toArray, zeroCells_size, hzsz, e2]
        omega
      · intro i u hu
        rw [Nat.zero_add]
        rw [Array.getElem?_append_left (by simpa using (List.getElem?_eq_some_iff.1 hu).1)]
        simpa using hu
      · intro u hu
        rcases List.mem_append.1 hu with h | h
        · exact hone u h
        · exact src.one u h
    · intro b o hb _
      exact Mem.sub_set _ (hW.none (Nat.le_refl _)) b o hb
    · intro b hb
      simp only [blkV, Option.some.injEq] at hb
      subst hb
      exact .inr (hW.none (Nat.le_refl _))
  have len : ∀ w', (Builtin.lenOf x).run P w' = .ok (lenV x) w' := src.len
  rcases hv with ⟨rfl, rfl⟩ | ⟨b, o, c, n, arr, rfl, g1, g2, g3, g4, g5, g6⟩
  · by_cases h0 : lenV x = 0
    · -- nothing onto nothing
      have hn0 : news = [] := by
        have := src.newsLen; rw [h0, Nat.zero_mul] at this; exact List.length_eq_zero_iff.1 this
      subst hn0
      refine ⟨[.v (.slice none 0 0)], m, W, ?_, ?_, ⟨_, rfl, .inl ⟨rfl, rfl⟩, fun b o h _ => h, fun b hb => by simp [blkV] at hb, by rw [h0]; rfl⟩, After.refl hW⟩
      · have hc : (Builtin.firstCells ei.size 0 x).run P W = .ok #[] W := by have := src.cells; rw [h0] at this; exact this
        have len0 : ∀ w', (Builtin.lenOf x).run P w' = .ok 0 w' := by rw [← h0]; exact len
        rcases src.kind with ⟨e', hk'⟩ | hk' <;>
          simp [Prim.run, CV.val, resVal, Builtin.append_, run_underlying hsl, run_underlying hk', sizeOf, typeInfo, hj, len0, hjs, hc]
      · intro y hy; simp at hy; subst hy; rfl
    · exact grow none 0 0 rfl (by omega) (by simp [Builtin.firstCells]) (by simp) (by simp)
  · by_cases hroom : n + lenV x ≤ c
    · have hW1 := hW _ _ g1
      have hnl := src.newsLen
      have hle : o + n * ei.size + news.length ≤ arr.size := by
        have : n * ei.size + lenV x * ei.size ≤ c * ei.size := by rw [← Nat.add_mul]; exact Nat.mul_le_mul_right _ hroom
        omega
      have hst := run_storeCells_gen (P := P) b (o + n * ei.size) e (0, 0) news 0 arr W hW1 (by simpa using hle) src.one (by intro j _ h; omega)
      simp only [Nat.add_zero] at hst
      generalize hA : (arr.toList.take (o + n * ei.size) ++ (news ++ arr.toList.drop (o + n * ei.size + news.length))).toArray = A at hst
      have hAs : A.size = arr.size := by rw [← hA]; simp; omega
      have hAat : ∀ i, i < o + n * ei.size → A[i]? = arr[i]? := by
        intro i hi
        rw [← hA]
        simp only [List.getElem?_toArray]
        rw [List.getElem?_append_left (by simp; omega), List.getElem?_take, if_pos hi]
        simp
      have hAnew : ∀ i u, news[i]? = some u → A[o + n * ei.size + i]? = some u := by
        intro i u hu
        have hi := (List.getElem?_eq_some_iff.1 hu).1
        rw [← hA]
        simp only [List.getElem?_toArray]
        have hl1 : (arr.toList.take (o + n * ei.size)).length = o + n * ei.size := by simp; omega
        rw [List.getElem?_append_right (by omega), hl1, Nat.add_sub_cancel_left, List.getElem?_append_left hi]
        exact hu
      refine ⟨[.v (.slice (some ⟨b, o, none⟩) (n + lenV x) c)], m.set b (.cells A e (0, 0)), W.setRow b A, ?_, ?_, ⟨_, rfl, .inr ⟨b, o, c, n + lenV x, A, rfl, Mem.set_same .., ?_, hroom, by rw [hAs]; exact g4, ?_, ?_⟩, ?_, fun b' hb' => .inl hb', rfl⟩, (After.refl hW).setRow g1 A⟩
      · have hc := src.cells
        rcases src.kind with ⟨e', hk'⟩ | hk' <;>
          simp [Prim.run, CV.val, resVal, Builtin.append_, run_underlying hsl, run_underlying hk', sizeOf, typeInfo, hj, len, hjs, hroom, hc, add_none, hst]
      · intro y hy; simp at hy; subst hy; rfl
      · rw [List.length_append, g2, hnl, Nat.add_mul]
      · intro i u hu
        by_cases hi : i < l.length
        · rw [List.getElem?_append_left hi] at hu
          rw [hAat _ (by omega)]
          exact g5 i u hu
        · rw [List.getElem?_append_right (by omega)] at hu
          have := hAnew _ _ hu
          rw [show o + i = o + n * ei.size + (i - l.length) by omega]
          exact this
      · intro u hu
        rcases List.mem_append.1 hu with h | h
        · exact g6 u h
        · exact src.one u h
      · intro b' o' hb' hne
        rw [Mem.set_ne _ _ (fun e => hne (by rw [e]; rfl))]
        exact hb'
    · refine grow (some ⟨b, o, none⟩) n c rfl (by omega) ?_ g2 g6
      refine run_firstCells_some W.drew ei.size n _ n c l g2 (fun i u hu => ?_)
      rw [add_none]
      have hW1 : W.drew.heap[b]? = some (.cells arr e (0, 0)) := hW _ _ g1
      rw [cell_at hW1]
      exact g5 i u hu
#print axioms append_spec
end
end Go.E
