/-
  Code: what is to be shown of it; loops; a function's body; and that this serves.
-/
import Derived.Test.YtdhojpepdgdblaaE12b
import Derived.ScopeJumps
namespace Go.E

/-- the same value, in two ways of writing it -/
def Alike (x y : SV) : Prop := x = y ∨ (x = .c (.v (.bool true)) ∧ y = .tt) ∨ (x = .c (.v (.bool false)) ∧ y = .ff)
/-- s1 knows less than s: slots are forgotten, blocks of the call's own that came last, memory that is known. -/
def Le (s s1 : St) : Prop := (∀ i, s1.fr i = .any ∨ (Alike (s1.fr i) (s.fr i) ∧ (s.fr i).under s1.L.length)) ∧ (∃ rest, s.L = s1.L ++ rest) ∧ Sub s1.m s.m ∧ s1.x = []

/-- a frame out of what is known of it -/
def frOf : List (Nat × SV) → Nat → SV
  | [], _ => .any
  | (j, x) :: r, i => bif Nat.beq i j then x else frOf r i
def underB (n : Nat) : SV → Bool
  | .p h _ => Nat.blt h n
  | .q h _ _ => Nat.blt h n
  | .sl h _ _ _ _ => Nat.blt h n
  | _ => true
theorem underB_spec {n : Nat} {x : SV} (h : underB n x = true) : x.under n := by
  cases x <;> simp only [underB] at h <;> simp only [SV.under] <;> exact blt_lt.1 h
def allUnder (n : Nat) : List (Nat × SV) → Bool
  | [] => true
  | x :: r => underB n x.2 && allUnder n r

/-! ### is y the wanted x? step by step -/
def addrK : Option Addr → Option Addr → Prop → Prop
  | some ⟨b, o, none⟩, some ⟨b', o', none⟩, K => b = b' ∧ o = o' ∧ K
  | none, none, K => K
  | x, y, K => x = y ∧ K
def valK (y x : Value) (K : Prop) : Prop :=
  match y with
  | .int k a => match x with
    | .int k' b => bif kEq k k' then a = b ∧ K else False
    | _ => False
  | .bool a => match x with
    | .bool b => a = b ∧ K
    | _ => False
  | .string a => match x with
    | .string b => a = b ∧ K
    | _ => False
  | .pointer a => match x with
    | .pointer b => addrK a b K
    | _ => False
  | .slice a n c => match x with
    | .slice a' n' c' => addrK a a' (n = n' ∧ c = c' ∧ K)
    | _ => False
  | .map a => match x with
    | .map b => a = b ∧ K
    | _ => False
  | y => y = x ∧ K
def segK (y x : Seg) (K : Prop) : Prop :=
  match y with
  | .one y => match x with
    | .one x => valK y x K
    | _ => False
  | .ints k n l => match x with
    | .ints k' n' l' => bif kEq k k' && Nat.beq n n' then l = l' ∧ K else False
    | _ => False
  | .vals n l => match x with
    | .vals n' l' => bif Nat.beq n n' then l = l' ∧ K else False
    | _ => False
def lbK : LB → LB → Prop → Prop
  | [], [], K => K
  | y :: r, x :: r', K => segK y x (lbK r r' K)
  | _, _, _ => False
def slotK (y x : SV) (K : Prop) : Prop :=
  match x with
  | .p h o => match y with
    | .p h' o' => bif Nat.beq h' h && Nat.beq o' o then K else False
    | _ => False
  | .q h o d => match y with
    | .q h' o' d' => bif Nat.beq h' h && Nat.beq o' o then d' = d ∧ K else False
    | _ => False
  | .sl h o d n c => match y with
    | .sl h' o' d' n' c' => bif Nat.beq h' h && Nat.beq o' o then d' = d ∧ n' = n ∧ c' = c ∧ K else False
    | _ => False
  | .c (.a c) => match y with
    | .c (.a d) => lbK d c K
    | _ => False
  | .c (.v v) => match y with
    | .c (.v z) => valK z v K
    | .tt => match v with
      | .bool b => true = b ∧ K
      | _ => False
    | .ff => match v with
      | .bool b => false = b ∧ K
      | _ => False
    | _ => False
  | .tt => match y with
    | .tt => K
    | _ => False
  | .ff => match y with
    | .ff => K
    | _ => False
  | .un => match y with
    | .un => K
    | _ => False
  | .t l => match y with
    | .t l' => l' = l ∧ K
    | _ => False
  | .any => K
def slotsK : List (Nat × SV) → (Nat → SV) → Prop → Prop
  | [], _, K => K
  | (j, x) :: r, fr, K => slotK (fr j) x (slotsK r fr K)
def locsK : Loc → Loc → Prop → Prop
  | _, [], K => K
  | (t, c) :: r, (t', c') :: r', K => bif Nat.beq t t' then lbK c c' (locsK r r' K) else False
  | [], _ :: _, _ => False
def LeK (s : St) (fr : List (Nat × SV)) (L : Loc) (m : Mem) : Prop := bif allUnder L.length fr then slotsK fr s.fr (locsK s.L L (Sub m s.m)) else False

theorem addrK_spec {y x : Option Addr} {K : Prop} (h : addrK y x K) : y = x ∧ K := by
  unfold addrK at h
  split at h
  · obtain ⟨rfl, rfl, h⟩ := h; exact ⟨rfl, h⟩
  · exact ⟨rfl, h⟩
  · exact h
theorem valK_spec {y x : Value} {K : Prop} (h : valK y x K) : y = x ∧ K := by
  unfold valK at h
  split at h
  · rename_i k a
    split at h
    · rename_i k' b
      cases hk : kEq k k' with
      | false => simp [hk] at h
      | true => have := kEq_eq hk; subst this; simp only [hk, cond_true] at h; exact ⟨by rw [h.1], h.2⟩
    · exact h.elim
  · split at h
    · exact ⟨by rw [h.1], h.2⟩
    · exact h.elim
  · split at h
    · exact ⟨by rw [h.1], h.2⟩
    · exact h.elim
  · split at h
    · have := addrK_spec h; exact ⟨by rw [this.1], this.2⟩
    · exact h.elim
  · split at h
    · obtain ⟨h1, h2, h3, h4⟩ := addrK_spec h; exact ⟨by rw [h1, h2, h3], h4⟩
    · exact h.elim
  · split at h
    · exact ⟨by rw [h.1], h.2⟩
    · exact h.elim
  · exact h
theorem segK_spec {y x : Seg} {K : Prop} (h : segK y x K) : y = x ∧ K := by
  unfold segK at h
  split at h
  · split at h
    · have := valK_spec h; exact ⟨by rw [this.1], this.2⟩
    · exact h.elim
  · rename_i k n l
    split at h
    · rename_i k' n' l'
      cases hk : (kEq k k' && Nat.beq n n') with
      | false => simp [hk] at h
      | true =>
        simp only [hk, cond_true] at h
        simp only [Bool.and_eq_true] at hk
        have e1 := kEq_eq hk.1; have e2 := Nat.eq_of_beq_eq_true hk.2
        subst e1; subst e2
        exact ⟨by rw [h.1], h.2⟩
    · exact h.elim
  · rename_i n l
    split at h
    · rename_i n' l'
      cases hk : Nat.beq n n' with
      | false => simp [hk] at h
      | true =>
        simp only [hk, cond_true] at h
        have e2 := Nat.eq_of_beq_eq_true hk
        subst e2
        exact ⟨by rw [h.1], h.2⟩
    · exact h.elim
theorem lbK_spec : ∀ {y x : LB} {K : Prop}, lbK y x K → y = x ∧ K
  | [], [], _, h => ⟨rfl, h⟩
  | y :: r, x :: r', K, h => by
    obtain ⟨h1, h2⟩ := segK_spec h
    obtain ⟨h3, h4⟩ := lbK_spec h2
    exact ⟨by rw [h1, h3], h4⟩
  | [], _ :: _, _, h => h.elim
  | _ :: _, [], _, h => h.elim
theorem slotK_spec {y x : SV} {K : Prop} (h : slotK y x K) : (x = .any ∨ Alike x y) ∧ K := by
  unfold slotK at h
  split at h
  · rename_i hh o
    split at h
    · rename_i h' o'
      cases hk : (Nat.beq h' hh && Nat.beq o' o) with
      | false => simp [hk] at h
      | true =>
        simp only [hk, cond_true] at h
        simp only [Bool.and_eq_true] at hk
        have e1 := Nat.eq_of_beq_eq_true hk.1; have e2 := Nat.eq_of_beq_eq_true hk.2
        subst e1; subst e2
        exact ⟨.inr (.inl rfl), h⟩
    · exact h.elim
  · rename_i hh o d
    split at h
    · rename_i h' o' d'
      cases hk : (Nat.beq h' hh && Nat.beq o' o) with
      | false => simp [hk] at h
      | true =>
        simp only [hk, cond_true] at h
        simp only [Bool.and_eq_true] at hk
        have e1 := Nat.eq_of_beq_eq_true hk.1; have e2 := Nat.eq_of_beq_eq_true hk.2
        subst e1; subst e2
        exact ⟨.inr (.inl (by rw [h.1])), h.2⟩
    · exact h.elim
  · rename_i hh o d n c
    split at h
    · rename_i h' o' d' n' c'
      cases hk : (Nat.beq h' hh && Nat.beq o' o) with
      | false => simp [hk] at h
      | true =>
        simp only [hk, cond_true] at h
        simp only [Bool.and_eq_true] at hk
        have e1 := Nat.eq_of_beq_eq_true hk.1; have e2 := Nat.eq_of_beq_eq_true hk.2
        subst e1; subst e2
        obtain ⟨rfl, rfl, rfl, h⟩ := h
        exact ⟨.inr (.inl rfl), h⟩
    · exact h.elim
  · split at h
    · have := lbK_spec h; exact ⟨.inr (.inl (by rw [this.1])), this.2⟩
    · exact h.elim
  · split at h
    · have := valK_spec h; exact ⟨.inr (.inl (by rw [this.1])), this.2⟩
    · split at h
      · exact ⟨.inr (.inr (.inl ⟨by rw [← h.1], rfl⟩)), h.2⟩
      · exact h.elim
    · split at h
      · exact ⟨.inr (.inr (.inr ⟨by rw [← h.1], rfl⟩)), h.2⟩
      · exact h.elim
    · exact h.elim
  · split at h
    · exact ⟨.inr (.inl rfl), h⟩
    · exact h.elim
  · split at h
    · exact ⟨.inr (.inl rfl), h⟩
    · exact h.elim
  · split at h
    · exact ⟨.inr (.inl rfl), h⟩
    · exact h.elim
  · split at h
    · exact ⟨.inr (.inl (by rw [h.1])), h.2⟩
    · exact h.elim
  · exact ⟨.inl rfl, h⟩
theorem Alike.under {x y : SV} (h : Alike x y) {n : Nat} (hu : x.under n) : y.under n := by
  rcases h with rfl | ⟨rfl, rfl⟩ | ⟨rfl, rfl⟩
  · exact hu
  · trivial
  · trivial
theorem slotsK_spec : ∀ {l : List (Nat × SV)} {fr : Nat → SV} {K : Prop} {n : Nat}, slotsK l fr K → allUnder n l = true → (∀ i, frOf l i = .any ∨ (Alike (frOf l i) (fr i) ∧ (fr i).under n)) ∧ K
  | [], _, _, _, h, _ => ⟨fun _ => .inl rfl, h⟩
  | (j, x) :: r, fr, K, n, h, hu => by
    simp only [allUnder, Bool.and_eq_true] at hu
    obtain ⟨h1, h2⟩ := slotK_spec h
    obtain ⟨h3, h4⟩ := slotsK_spec h2 hu.2
    refine ⟨fun i => ?_, h4⟩
    simp only [frOf]
    cases hb : Nat.beq i j with
    | true =>
      have := Nat.eq_of_beq_eq_true hb; subst this
      rcases h1 with h1 | h1
      · exact .inl h1
      · exact .inr ⟨h1, h1.under (underB_spec hu.1)⟩
    | false => exact h3 i
theorem locsK_spec : ∀ {y x : Loc} {K : Prop}, locsK y x K → (∃ rest, y = x ++ rest) ∧ K
  | y, [], _, h => ⟨⟨y, rfl⟩, by simpa [locsK] using h⟩
  | (t, c) :: r, (t', c') :: r', K, h => by
    simp only [locsK] at h
    cases hb : Nat.beq t t' with
    | false => simp [hb] at h
    | true =>
      simp only [hb, cond_true] at h
      have := Nat.eq_of_beq_eq_true hb; subst this
      obtain ⟨rfl, h2⟩ := lbK_spec h
      obtain ⟨⟨rest, h3⟩, h4⟩ := locsK_spec h2
      exact ⟨⟨rest, by rw [h3]; rfl⟩, h4⟩
  | [], _ :: _, _, h => h.elim
theorem LeK.le {s : St} {fr : List (Nat × SV)} {L : Loc} {m : Mem} (h : LeK s fr L m) : Le s ⟨frOf fr, L, m, []⟩ := by
  unfold LeK at h
  cases hb : allUnder L.length fr with
  | false => simp [hb] at h
  | true =>
    simp only [hb, cond_true] at h
    obtain ⟨h1, h2⟩ := slotsK_spec h hb
    obtain ⟨h3, h4⟩ := locsK_spec h2
    exact ⟨h1, h3, h4, rfl⟩

/-- A LOOP: what its head knows, by i; what i must be; a measure that falls. -/
inductive XLoop (X : (Exit → St → Prop) → St → Prop) (Q : Exit → St → Prop) (s : St) : Prop
  | mk {ι : Type} (μ : ι → Nat) (Inv : ι → Prop) (fr : ι → List (Nat × SV)) (L : ι → Loc) (m : ι → Mem) (i0 : ι) (h0 : Inv i0) (hk : LeK s (fr i0) (L i0) (m i0))
    (step : ∀ i, Inv i → X (fun e s' => match e with
      | .normal => ∃ j, Inv j ∧ μ j < μ i ∧ LeK s' (fr j) (L j) (m j)
      | e => Q e s') ⟨frOf (fr i), L i, m i, []⟩)

def setc (s : St) (c : Operand) (x : SV) : St :=
  match c with
  | .tmp t => ⟨putF s.fr (some t) x, s.L, s.m, s.x⟩
  | _ => s

/-- where the run halts, so that what is known may be said anew -/
inductive XAt (X : St → Prop) : St → Prop
  | at {s : St} (h : X s) : XAt X s
  | via {s : St} (fr : List (Nat × SV)) (L : Loc) (m : Mem) (hk : LeK s fr L m) (h : XAt X ⟨frOf fr, L, m, []⟩) : XAt X s

def regX (c : Cfg) (id : Nat) (ops : Array Oper) (draw : Bool) (K : St → Prop) (s : St) : Prop :=
  match draw with
  | false => xops c ops.toList ops.toList K ⟨s.fr, s.L, s.m, []⟩
  | true => bif fresh s ops.toList then xord c ops.toList (c.ord id).ms s (c.ord id).od K ⟨s.fr, s.L, s.m, []⟩ else False
def xwpG (c : Cfg) (sc : Code → (Exit → St → Prop) → St → Prop) : Code → (Exit → St → Prop) → St → Prop
  | .skip, Q, s => Q .normal s
  | .seq x y, Q, s => xwpG c sc x (fun e s' => match e with
    | .normal => xwpG c sc y Q s'
    | e => Q e s') s
  | .region id ops draw, Q, s => match c.cut id with
    | false => regX c id ops draw (Q .normal) s
    | true => XAt (regX c id ops draw (Q .normal)) s
  | .cond o x y, Q, s => match ev s o with
    | .tt => xwpG c sc x Q s
    | .ff => xwpG c sc y Q s
    | .c (.v (.bool b)) => (b = true → xwpG c sc x Q (setc s o .tt)) ∧ (b = false → xwpG c sc y Q (setc s o .ff))
    | _ => False
  | .block id body, Q, s => xwpG c sc body (fun e s' => match e with
    | .exit j => bif Nat.beq j id then Q .normal s' else Q (.exit j) s'
    | e => Q e s') s
  | .exit id, Q, s => Q (.exit id) s
  | .ret, Q, s => Q .ret s
  | .label _, Q, s => Q .normal s
  | .goto l, Q, s => Q (.goto l) s
  | .loop body, Q, s => XLoop (xwpG c sc body) Q s
  | .scope body, Q, s => sc body Q s
  | _, _, _ => False
def QJ (l : Nat) (J : St → Prop) (Q : Exit → St → Prop) : Exit → St → Prop
  | .goto l', s => bif Nat.beq l' l then J s else False
  | e, s => Q e s
/-- A SCOPE with jumps to one label: what is known at each jump, by i; a measure that falls -/
inductive XScope (X : Code → (Exit → St → Prop) → St → Prop) (b : Code) (Q : Exit → St → Prop) (s : St) : Prop
  | mk (l : Nat) (rest : Code) (hf : findLabel b l = some rest) {ι : Type} (μ : ι → Nat) (Inv : ι → Prop) (fr : ι → List (Nat × SV)) (L : ι → Loc) (m : ι → Mem)
    (first : X b (QJ l (fun s' => ∃ j, Inv j ∧ LeK s' (fr j) (L j) (m j)) Q) s)
    (pass : ∀ i, Inv i → X rest (QJ l (fun s' => ∃ j, Inv j ∧ μ j < μ i ∧ LeK s' (fr j) (L j) (m j)) Q) ⟨frOf (fr i), L i, m i, []⟩)
def xwp0 (c : Cfg) : Code → (Exit → St → Prop) → St → Prop := xwpG c fun _ _ _ => False
def xwp (c : Cfg) : Code → (Exit → St → Prop) → St → Prop := xwpG c (XScope (xwp0 c))

theorem fresh_x {s : St} {x : List Nat} : ∀ {l : List Oper}, fresh ⟨s.fr, s.L, s.m, x⟩ l = fresh s l
  | [] => rfl
  | o :: l => by simp only [fresh, fresh_x (l := l)]
theorem ldOk_x {s : St} {x : List Nat} {ms : List Nat} {i : Nat} {y : SV} : ∀ {l : List (Nat × Ks)}, ldOk ⟨s.fr, s.L, s.m, x⟩ ms i y l = ldOk s ms i y l
  | [] => rfl
  | (_, .but _) :: l => by simp only [ldOk, ldOk_x (l := l)]
  | (_, .all) :: l => by simp only [ldOk, ldOk_x (l := l)]
  | (_, .none) :: l => by simp only [ldOk, ldOk_x (l := l)]
  | (_, .new) :: l => by simp only [ldOk, ldOk_x (l := l)]
theorem xord_x {c : Cfg} {ops : List Oper} {ms : List Nat} {s0 : St} {x : List Nat} : ∀ {t : OT} {K : St → Prop} {s : St}, xord c ops ms ⟨s0.fr, s0.L, s0.m, x⟩ t K s = xord c ops ms s0 t K s
  | .nil, _, _ => rfl
  | .or a b, K, s => by simp only [xord, xord_x (t := a), xord_x (t := b)]
  | .op i k r, K, s => by
    have e1 : kpOf ⟨s0.fr, s0.L, s0.m, x⟩ k = kpOf s0 k := by cases k <;> rfl
    have e2 : ∀ o, loadOk c.T ⟨s0.fr, s0.L, s0.m, x⟩ ms i o s r.els = loadOk c.T s0 ms i o s r.els := by intro o; simp only [loadOk, ldOk_x]
    have e3 : xord c ops ms ⟨s0.fr, s0.L, s0.m, x⟩ r K = xord c ops ms s0 r K := funext fun s => xord_x (t := r)
    simp only [xord, e1, e2, e3]

def dstB (n : Nat) : Option Nat → Bool
  | some d => Nat.blt d n
  | none => true
/-- the slots lie in the frame, the orders serve -/
def codeOk (c : Cfg) (n : Nat) : Code → Bool
  | .seq x y => codeOk c n x && codeOk c n y
  | .region id ops draw => ops.toList.all (fun o => dstB n o.dst) && (!draw || ordOk c.T ops (c.ord id))
  | .cond _ x y => codeOk c n x && codeOk c n y
  | .block _ b => codeOk c n b
  | .loop b => codeOk c n b
  | .scope b => codeOk c n b
  | _ => true

section
variable {c : Cfg} {nt : Nat} {m0 : Mem} {W0 : World} {ρ : List Nat} {s : St} {a : Act} {W : World}

theorem conc_take {x : SV} {k : Nat} (h : x.under k) : conc (ρ.take k) x = conc ρ x := by
  have hg : ∀ i, i < k → (ρ.take k).getD i 0 = ρ.getD i 0 := fun i hi => by
    simp only [List.getD_eq_getElem?_getD, List.getElem?_take, hi, if_true]
  cases x <;> simp only [SV.under] at h <;> simp only [conc] <;> try rw [hg _ h]

theorem Rel.le (hr : Rel nt m0 W0 ρ s a W) {s1 : St} (h : Le s s1) : Rel nt m0 W0 (ρ.take s1.L.length) s1 a W := by
  obtain ⟨h1, ⟨rest, h2⟩, h3, h4⟩ := h
  have hlen : s1.L.length ≤ ρ.length := by rw [hr.len, h2]; simp
  have htl : (ρ.take s1.L.length).length = s1.L.length := by rw [List.length_take]; omega
  refine ⟨hr.defers, hr.size, fun i => ?_, htl, ?_, ?_, hr.after.forget h3, by rw [h4]; simp⟩
  · rcases h1 i with h | ⟨h, hu⟩
    · exact .inl h
    · rcases hr.slots i with g | ⟨g1, g2, g3⟩
      · rcases h with h | ⟨_, h⟩ | ⟨_, h⟩
        · exact .inl (h.trans g)
        · rw [g] at h; cases h
        · rw [g] at h; cases h
      · refine .inr ?_
        rcases h with h | ⟨h, h'⟩ | ⟨h, h'⟩
        · rw [h, conc_take hu, htl]
          exact ⟨g1, g2, hu⟩
        · rw [h, g1, h']; exact ⟨rfl, rfl, trivial⟩
        · rw [h, g1, h']; exact ⟨rfl, rfl, trivial⟩
  · intro i t cc hi
    have hlt : i < s1.L.length := (List.getElem?_eq_some_iff.1 hi).1
    have hg : (ρ.take s1.L.length).getD i 0 = ρ.getD i 0 := by simp only [List.getD_eq_getElem?_getD, List.getElem?_take, hlt, if_true]
    rw [hg]
    obtain ⟨k1, k2, k3, k4⟩ := hr.locs i t cc (by rw [h2, List.getElem?_append_left hlt]; exact hi)
    refine ⟨k1, k2, ?_, k4⟩
    cases hx : s1.m (ρ.getD i 0) with
    | none => rfl
    | some o => have := h3 _ _ hx; rw [k3] at this; cases this
  · exact hr.nodup.sublist (List.take_sublist _ _)

theorem XAt.use {X : St → Prop} {s : St} (h : XAt X s) : ∀ {ρ : List Nat}, Rel nt m0 W0 ρ s a W → ∃ s' ρ', X s' ∧ Rel nt m0 W0 ρ' s' a W := by
  induction h with
  | «at» h => exact fun hr => ⟨_, _, h, hr⟩
  | via fr L m hk _ ih => exact fun hr => ih (hr.le hk.le)
/-- what is known of where code leads, as a post of the model's -/
def QPost (nt : Nat) (m0 : Mem) (W0 : World) (Q : Exit → St → Prop) : Exit → Act → World → Prop := fun e a W => (∀ ch, e ≠ .panic ch) ∧ ∃ s ρ, Q e s ∧ Rel nt m0 W0 ρ s a W

theorem QPost.noPanic {Q : Exit → St → Prop} : ∀ ch a d v w, QPost nt m0 W0 Q (.panic ch) (a.put d v) w → QPost nt m0 W0 Q (.panic ch) a w :=
  fun ch _ _ _ _ h => absurd rfl (h.1 ch)


theorem Rel.setc (hr : Rel nt m0 W0 ρ s a W) {o : Operand} {b : Bool} (h : ev s o = .c (.v (.bool b))) : Rel nt m0 W0 ρ (setc s o (if b then .tt else .ff)) a W := by
  cases o with
  | tmp t => exact hr.decide h
  | _ => exact hr

theorem wp_loop_n {P : Program} {Q : Exit → Act → World → Prop} {b : Code} (I : Nat → Act → World → Prop) {n : Nat} (h0 : I n a W)
    (round : ∀ n a W, I n a W → b.wp P (Exit.then (fun a' W' => ∃ k, k < n ∧ I k a' W') Q) a W) : (Code.loop b).wp P Q a W := by
  intro f k cs
  have key : ∀ n a W, I n a W → ∃ e a' W', Q e a' W' ∧ Arrives P (lone (f.at a (.code b :: .inLoop b :: k)) cs W) f k cs e a' W' := by
    intro n
    induction n using Nat.strongRecOn with
    | _ n ih =>
      intro a W hI
      obtain ⟨e, a₁, w₁, hq, harr⟩ := round n a W hI f (.inLoop b :: k) cs
      cases e with
      | normal =>
        obtain ⟨n', hlt, hI₁⟩ := hq
        obtain ⟨e₂, a₂, w₂, hq₂, harr₂⟩ := ih n' hlt a₁ w₁ hI₁
        exact ⟨e₂, a₂, w₂, hq₂, .of_steps (Steps.trans harr (.one step_inLoop)) harr₂⟩
      | exit id => exact ⟨_, a₁, w₁, hq, .pass (x := .inLoop b) rfl (fun _ _ => .inl (by simp)) harr⟩
      | goto l => exact ⟨_, a₁, w₁, hq, .pass (x := .inLoop b) rfl (fun _ _ => .inl (by simp)) harr⟩
      | ret => exact ⟨_, a₁, w₁, hq, .pass (x := .inLoop b) rfl (fun _ _ => .inl (by simp)) harr⟩
      | panic ch => exact ⟨_, a₁, w₁, hq, .pass (x := .inLoop b) rfl (fun _ _ => .inl (by simp)) harr⟩
      | outgrown => exact ⟨_, a₁, w₁, hq, .pass (x := .inLoop b) rfl (fun _ _ => .inl (by simp)) harr⟩
  obtain ⟨e, a', w', hq, harr⟩ := key n a W h0
  exact ⟨e, a', w', hq, .of_steps (.one step_loop) harr⟩

theorem dst_of {n : Nat} {ops : Array Oper} (h : ops.toList.all (fun o => dstB n o.dst) = true) : ∀ o ∈ ops.toList, dstIn o.dst n := by
  intro o ho i hi
  have := List.all_eq_true.1 h o ho
  rw [hi] at this
  exact blt_lt.1 this

theorem xwpG_spec (hT : TabOk c.P c.T) (hm : c.P.follows .mixedOrders = true) {sc : Code → (Exit → St → Prop) → St → Prop}
    (hsc : ∀ b, codeOk c nt b = true → ∀ (Q : Exit → St → Prop) (s : St) (ρ : List Nat) (a : Act) (W : World), sc b Q s → Rel nt m0 W0 ρ s a W → (Code.scope b).wp c.P (QPost nt m0 W0 Q) a W) :
    ∀ (code : Code), codeOk c nt code = true → ∀ (Q : Exit → St → Prop) (s : St) (ρ : List Nat) (a : Act) (W : World), xwpG c sc code Q s → Rel nt m0 W0 ρ s a W → code.wp c.P (QPost nt m0 W0 Q) a W := by
  intro code
  induction code with
  | skip => intro _ Q s ρ a W h hr; exact wp_skip ⟨by simp, s, ρ, h, hr⟩
  | label l => intro _ Q s ρ a W h hr; exact wp_label ⟨by simp, s, ρ, h, hr⟩
  | exit id => intro _ Q s ρ a W h hr; exact wp_exit ⟨by simp, s, ρ, h, hr⟩
  | goto l => intro _ Q s ρ a W h hr; exact wp_goto ⟨by simp, s, ρ, h, hr⟩
  | ret => intro _ Q s ρ a W h hr; exact wp_ret ⟨by simp, s, ρ, h, hr⟩
  | refuse why => intro _ Q s ρ a W h hr; exact h.elim
  | rangeFunc f ps x y _ _ => intro _ Q s ρ a W h hr; exact h.elim
  | scope b _ => intro hok Q s ρ a W h hr; exact hsc b hok Q s ρ a W h hr
  | seq x y ihx ihy =>
    intro hok Q s ρ a W h hr
    simp only [codeOk, Bool.and_eq_true] at hok
    refine wp_seq (wp_mono (ihx hok.1 _ s ρ a W h hr) fun e a' W' hq => ?_)
    obtain ⟨hnp, s', ρ', hk, hr'⟩ := hq
    cases e with
    | normal => exact ihy hok.2 Q s' ρ' a' W' hk hr'
    | _ => exact ⟨hnp, s', ρ', hk, hr'⟩
  | block id b ih =>
    intro hok Q s ρ a W h hr
    refine wp_block (wp_mono (ih hok _ s ρ a W h hr) fun e a' W' hq => ?_)
    obtain ⟨hnp, s', ρ', hk, hr'⟩ := hq
    cases e with
    | exit j =>
      simp only [Exit.inBlock]
      cases hb : Nat.beq j id with
      | true =>
        rw [if_pos (Nat.eq_of_beq_eq_true hb)]
        simp only [hb, cond_true] at hk
        exact ⟨by simp, s', ρ', hk, hr'⟩
      | false =>
        have hne : j ≠ id := fun e => by subst e; rw [Nat.beq_refl] at hb; cases hb
        rw [if_neg hne]
        simp only [hb, cond_false] at hk
        exact ⟨by simp, s', ρ', hk, hr'⟩
    | _ => exact ⟨hnp, s', ρ', hk, hr'⟩
  | cond o x y ihx ihy =>
    intro hok Q s ρ a W h hr
    simp only [codeOk, Bool.and_eq_true] at hok
    simp only [xwpG] at h
    have hf := hr.fits o
    split at h
    · rename_i e
      rw [e] at hf
      exact wp_cond_true (hf.eq (by simp)) (ihx hok.1 Q s ρ a W h hr)
    · rename_i e
      rw [e] at hf
      exact wp_cond_false (hf.eq (by simp)) (ihy hok.2 Q s ρ a W h hr)
    · rename_i b e
      rw [e] at hf
      have hs := hr.setc e
      cases b with
      | true => exact wp_cond_true (hf.eq (by simp)) (ihx hok.1 Q _ ρ a W (h.1 rfl) hs)
      | false => exact wp_cond_false (hf.eq (by simp)) (ihy hok.2 Q _ ρ a W (h.2 rfl) hs)
    · exact h.elim
  | region id ops draw =>
    intro hok Q s ρ a W h hr
    simp only [codeOk, Bool.and_eq_true] at hok
    have key : ∀ (s : St) (ρ : List Nat), regX c id ops draw (Q .normal) s → Rel nt m0 W0 ρ s a W → (Code.region id ops draw).wp c.P (QPost nt m0 W0 Q) a W := by
      intro s ρ h hr
      unfold regX at h
      cases draw with
      | false => exact region_plain hT (dst_of hok.1) (fun s ρ a W hk hr' => ⟨by simp, s, ρ, hk, hr'⟩) hr.clear h
      | true =>
        simp only at h
        cases hfr : fresh s ops.toList with
        | false => simp [hfr] at h
        | true =>
          simp only [hfr, cond_true] at h
          exact region_drawn (s := ⟨s.fr, s.L, s.m, []⟩) hT hm (dst_of hok.1) (fun s ρ a W hk hr' => ⟨by simp, s, ρ, hk, hr'⟩) QPost.noPanic (c.ord id) (by simpa using hok.2) (fresh_x ▸ hfr) hr.clear (xord_x ▸ h)
    simp only [xwpG] at h
    cases hc : c.cut id with
    | false => simp only [hc] at h; exact key s ρ h hr
    | true =>
      simp only [hc] at h
      obtain ⟨s', ρ', h', hr'⟩ := h.use hr
      exact key s' ρ' h' hr'
  | loop b ih =>
    intro hok Q s ρ a W h hr
    obtain ⟨μ, Inv, fr, L, m, i0, h0, hle, hround⟩ := h
    refine wp_loop_n (fun n a W => ∃ i ρ, Inv i ∧ μ i = n ∧ Rel nt m0 W0 ρ ⟨frOf (fr i), L i, m i, []⟩ a W) (n := μ i0) ⟨i0, _, h0, rfl, hr.le hle.le⟩ ?_
    rintro n a W ⟨i, ρ, hi, rfl, hr⟩
    refine wp_mono (ih hok _ _ ρ a W (hround i hi) hr) fun e a' W' hq => ?_
    obtain ⟨hnp, s', ρ', hk, hr'⟩ := hq
    cases e with
    | normal =>
      obtain ⟨j, hj, hlt, hle⟩ := hk
      exact ⟨μ j, hlt, j, _, hj, rfl, hr'.le hle.le⟩
    | _ => exact ⟨hnp, s', ρ', hk, hr'⟩
theorem codeOk_label {l : Nat} : ∀ {b rest : Code}, codeOk c nt b = true → findLabel b l = some rest → codeOk c nt rest = true := by
  intro b
  induction b with
  | seq x y ihx ihy =>
    intro rest h hf
    simp only [codeOk, Bool.and_eq_true] at h
    simp only [findLabel] at hf
    cases hx : findLabel x l with
    | some r => rw [hx] at hf; cases hf; simp only [codeOk, Bool.and_eq_true]; exact ⟨ihx h.1 hx, h.2⟩
    | none => rw [hx] at hf; exact ihy h.2 hf
  | label l' => intro rest h hf; simp only [findLabel] at hf; split at hf <;> cases hf; rfl
  | _ => intro rest h hf; simp [findLabel] at hf
theorem wp_scope_n {P : Program} {Q : Exit → Act → World → Prop} {b rest : Code} (l : Nat) (J : Nat → Act → World → Prop) (hf : findLabel b l = some rest)
    (first : b.wp P (Exit.jump l (fun a' W' => ∃ k, J k a' W') Q) a W)
    (pass : ∀ n a W, J n a W → rest.wp P (Exit.jump l (fun a' W' => ∃ k, k < n ∧ J k a' W') Q) a W) : (Code.scope b).wp P Q a W := by
  intro f k cs
  have hg : gotoIn l (.inScope b :: k) = some (.code rest :: .inScope b :: k) := by simp [gotoIn, hf]
  have key : ∀ n a W, J n a W → ∃ e a' W', Q e a' W' ∧ Arrives P (lone (f.at a (.code rest :: .inScope b :: k)) cs W) f k cs e a' W' := by
    intro n
    induction n using Nat.strongRecOn with
    | _ n ih =>
      intro a W hJ
      obtain ⟨e, a₁, w₁, hq, harr⟩ := pass n a W hJ f (.inScope b :: k) cs
      cases e with
      | normal => exact ⟨.normal, a₁, w₁, hq, Steps.trans harr (.one step_inScope)⟩
      | exit id => exact ⟨.exit id, a₁, w₁, hq, fun k' hk => harr k' (by simp [exitTo, hk])⟩
      | goto l' =>
        obtain ⟨rfl, n', hlt, hJ'⟩ := hq
        obtain ⟨e₂, a₂, w₂, hq₂, harr₂⟩ := ih n' hlt a₁ w₁ hJ'
        exact ⟨e₂, a₂, w₂, hq₂, .of_steps (harr _ hg) harr₂⟩
      | ret => exact ⟨_, a₁, w₁, hq, harr⟩
      | panic ch => exact ⟨_, a₁, w₁, hq, harr⟩
      | outgrown => exact ⟨_, a₁, w₁, hq, harr⟩
  obtain ⟨e, a₁, w₁, hq, harr⟩ := first f (.inScope b :: k) cs
  cases e with
  | normal => exact ⟨.normal, a₁, w₁, hq, .head step_scope (Steps.trans harr (.one step_inScope))⟩
  | exit id => exact ⟨.exit id, a₁, w₁, hq, fun k' hk => .head step_scope (harr k' (by simp [exitTo, hk]))⟩
  | goto l' =>
    obtain ⟨rfl, n', hJ'⟩ := hq
    obtain ⟨e₂, a₂, w₂, hq₂, harr₂⟩ := key n' a₁ w₁ hJ'
    exact ⟨e₂, a₂, w₂, hq₂, .of_steps (.head step_scope (harr _ hg)) harr₂⟩
  | ret => exact ⟨_, a₁, w₁, hq, .of_steps (.one step_scope) harr⟩
  | panic ch => exact ⟨_, a₁, w₁, hq, .of_steps (.one step_scope) harr⟩
  | outgrown => exact ⟨_, a₁, w₁, hq, .of_steps (.one step_scope) harr⟩
theorem xwp0_spec (hT : TabOk c.P c.T) (hm : c.P.follows .mixedOrders = true) : ∀ (code : Code), codeOk c nt code = true → ∀ (Q : Exit → St → Prop) (s : St) (ρ : List Nat) (a : Act) (W : World), xwp0 c code Q s → Rel nt m0 W0 ρ s a W → code.wp c.P (QPost nt m0 W0 Q) a W :=
  xwpG_spec hT hm (fun _ _ _ _ _ _ _ h _ => h.elim)
theorem QPost.jump {l : Nat} {J : St → Prop} {Q : Exit → St → Prop} {J' : Act → World → Prop} (hJ : ∀ s ρ a W, J s → Rel nt m0 W0 ρ s a W → J' a W) : ∀ e a W, QPost nt m0 W0 (QJ l J Q) e a W → Exit.jump l J' (QPost nt m0 W0 Q) e a W := by
  rintro e a W ⟨hnp, s, ρ, hk, hr⟩
  cases e with
  | goto l' =>
    simp only [QJ] at hk
    cases hb : Nat.beq l' l with
    | true => simp only [hb, cond_true] at hk; exact ⟨Nat.eq_of_beq_eq_true hb, hJ s ρ a W hk hr⟩
    | false => simp [hb] at hk
  | _ => exact ⟨hnp, s, ρ, hk, hr⟩
theorem xwp_spec (hT : TabOk c.P c.T) (hm : c.P.follows .mixedOrders = true) : ∀ (code : Code), codeOk c nt code = true → ∀ (Q : Exit → St → Prop) (s : St) (ρ : List Nat) (a : Act) (W : World), xwp c code Q s → Rel nt m0 W0 ρ s a W → code.wp c.P (QPost nt m0 W0 Q) a W := by
  refine xwpG_spec hT hm fun b hok Q s ρ a W h hr => ?_
  obtain ⟨l, rest, hf, μ, Inv, fr, L, m, first, pass⟩ := h
  refine wp_scope_n l (fun n a W => ∃ i ρ, Inv i ∧ μ i = n ∧ Rel nt m0 W0 ρ ⟨frOf (fr i), L i, m i, []⟩ a W) hf ?_ ?_
  · refine wp_mono (xwp0_spec hT hm b hok _ s ρ a W first hr) (QPost.jump ?_)
    rintro s ρ a W ⟨j, hj, hk⟩ hr
    exact ⟨μ j, j, _, hj, rfl, hr.le hk.le⟩
  · rintro n a W ⟨i, ρ, hi, rfl, hr⟩
    refine wp_mono (xwp0_spec hT hm rest (codeOk_label hok hf) _ _ ρ a W (pass i hi) hr) (QPost.jump ?_)
    rintro s ρ a W ⟨j, hj, hlt, hk⟩ hr
    exact ⟨μ j, hlt, j, _, hj, rfl, hr.le hk.le⟩
#print axioms xwp_spec
end

/-! ### a function -/
def initF (args : List CV) : Nat → SV := fun i => match nth args i with
  | some x => .c x
  | none => .any
def xres1 (T : Tab) (s : St) (r : ResultVar) (K : CV → Prop) : Prop :=
  match r with
  | .tmp t => match s.fr t with
    | .c x => K x
    | .tt => K (.v (.bool true))
    | .ff => K (.v (.bool false))
    | _ => False
  | .cell t ty => fLoad T s ty (s.fr t) fun sv _ => match sv with
    | .c x => K x
    | _ => False
def xres (T : Tab) (s : St) : List ResultVar → (List CV → Prop) → Prop
  | [], K => K []
  | r :: rs, K => xres1 T s r fun x => xres T s rs fun l => K (x :: l)
def QRet (T : Tab) (rs : List ResultVar) (R : List CV → Mem → Prop) : Exit → St → Prop
  | .ret, s => xres T s rs fun r => R r s.m
  | .normal, s => xres T s rs fun r => R r s.m
  | _, _ => False

section
variable {c : Cfg} {nt : Nat} {m0 : Mem} {W0 : World} {ρ : List Nat} {s : St} {a : Act} {W : World} {P : Program} {T : Tab}

def resOne (tmps : Array Value) : ResultVar → Sem Value
  | .tmp t => pure (tmps.getD t undef)
  | .cell p t => do loadVar t (← asAddr (tmps.getD p undef))
theorem xres1_spec (hT : TabOk P T) (hr : Rel nt m0 W0 ρ s a W) {r : ResultVar} {K : CV → Prop} (h : xres1 T s r K) :
    ∃ x, K x ∧ x.ok ∧ (resOne a.tmps r).run P W = .ok x.val W := by
  cases r with
  | tmp t =>
    simp only [xres1] at h
    have hf := hr.fits (.tmp t)
    simp only [ev, Act.eval] at hf
    split at h
    · rename_i x e
      rw [e] at hf
      exact ⟨x, h, (hf.okay (by simp)).1, by simp only [resOne, Sem.run_pure]; rw [hf.eq (by simp)]; rfl⟩
    · rename_i e
      rw [e] at hf
      exact ⟨_, h, rfl, by simp only [resOne, Sem.run_pure]; rw [hf.eq (by simp)]; rfl⟩
    · rename_i e
      rw [e] at hf
      exact ⟨_, h, rfl, by simp only [resOne, Sem.run_pure]; rw [hf.eq (by simp)]; rfl⟩
    · exact h.elim
  | cell t ty =>
    simp only [xres1] at h
    obtain ⟨sv, bs, v, _, h1, h2, h3, _, _, _, h4⟩ := fLoad_spec (xo := .tmp t) hT hr (hr.fits (.tmp t)) h
    split at h1
    · rename_i x
      refine ⟨x, h1, (h2.okay (by simp)).1, ?_⟩
      have := h4 { dst := none, op := .load ty (.tmp t), type := 0, pos := "", after := #[], guard := none } rfl W (fun _ _ => rfl)
      rw [h2.eq (by simp)] at this
      simp only [execOp, Act.eval, Instr.loadAt, Sem.run_bind] at this
      simp only [resOne, Sem.run_bind]
      cases hv : a.tmps.getD t undef with
      | pointer p =>
        cases p with
        | some ad =>
          simp only [hv, Instr.sureAddr, Sem.run_pure, Result.andThen_ok] at this
          simp only [asAddr, Sem.run_pure, Result.andThen_ok]
          cases hl : (loadVar ty ad).run P W with
          | ok z w => rw [hl] at this; simp at this; rw [this.1, this.2]; rfl
          | halt z w => rw [hl] at this; simp at this
        | none => simp [hv, Instr.sureAddr, stuck, Sem.run] at this
      | _ => simp [hv, Instr.sureAddr, stuck, Sem.run] at this
    · exact h1.elim

theorem xres_spec (hT : TabOk P T) (hr : Rel nt m0 W0 ρ s a W) : ∀ {rs : List ResultVar} {K : List CV → Prop}, xres T s rs K →
    ∃ l, K l ∧ (∀ x ∈ l, x.ok) ∧ (rs.mapM (resOne a.tmps)).run P W = .ok (l.map CV.val) W
  | [], K, h => ⟨[], h, by simp, by simp⟩
  | r :: rs, K, h => by
    obtain ⟨x, h1, h2, h3⟩ := xres1_spec hT hr h
    obtain ⟨l, g1, g2, g3⟩ := xres_spec hT hr h1
    refine ⟨x :: l, g1, by simpa using ⟨h2, g2⟩, ?_⟩
    rw [List.mapM_cons, Sem.run_bind, h3]
    simp only [Result.andThen_ok, Sem.run_bind, g3, Sem.run_pure, List.map_cons]

theorem results_spec (hT : TabOk P T) (hr : Rel nt m0 W0 ρ s a W) {fn : Func} {K : List CV → Prop} (h : xres T s fn.results.toList K) :
    ∃ l, K l ∧ (∀ x ∈ l, x.ok) ∧ (results fn a.tmps).run P W = .ok (resVal l) W := by
  obtain ⟨l, h1, h2, h3⟩ := xres_spec hT hr h
  refine ⟨l, h1, h2, ?_⟩
  have e : results fn a.tmps = (do
      let vs ← fn.results.mapM (resOne a.tmps)
      pure (if h : vs.size = 1 then vs[0] else .tuple vs)) := by
    unfold results
    congr 1
  rw [e, Sem.run_bind, Array.mapM_eq_mapM_toList]
  simp only [map_eq_pure_bind, Sem.run_bind, h3, Result.andThen_ok, Sem.run_pure]
  match l with
  | [x] => simp [resVal]
  | [] => simp [resVal]
  | x :: y :: r => simp [resVal]

theorem Spec.of_body {f : FuncId} {fn : Func} {code : Code} {args : List CV} {m : Mem} {R : List CV → Mem → Prop} (hf : c.P.funcs[f]? = some fn) (hb : fn.body = some code) (hn : (fn.name == "runtime.NumGoroutine") = false)
    (hT : TabOk c.P c.T) (hm : c.P.follows .mixedOrders = true) (hok : codeOk c fn.ntmps code = true) (hlen : Nat.ble args.length fn.ntmps = true)
    (h : xwp c code (QRet c.T fn.results.toList R) ⟨initF args, [], m, []⟩) : Spec c.P f args m R := by
  refine ⟨fun args w => ?_, fun hargs W hW => ?_⟩
  · have hn' : ¬ fn.name = "runtime.NumGoroutine" := by simpa using hn
    simp [callFunc, hf, hb, hn']
  · have hle := ble_le.1 hlen
    refine calls_of_wp hf hb ?_
    have hr : Rel fn.ntmps m W [] ⟨initF args, [], m, []⟩ { tmps := (args.map CV.val).toArray ++ Array.replicate (fn.ntmps - (args.map CV.val).toArray.size) undef, defers := [] } W := by
      refine ⟨rfl, by simp; omega, fun i => ?_, rfl, by simp, by simp, After.refl hW, by simp⟩
      simp only [initF]
      cases hx : nth args i with
      | none => exact .inl rfl
      | some x =>
        refine .inr ⟨?_, hargs x (by rw [nth_eq] at hx; exact List.mem_of_getElem? hx), trivial⟩
        rw [nth_eq] at hx
        have hlt := (List.getElem?_eq_some_iff.1 hx).1
        rw [Array.getElem?_append_left (by simpa using hlt)]
        simp [hx, conc]
    refine wp_mono (xwp_spec hT hm code hok _ _ _ _ _ h hr) fun e a' W' hq => ?_
    obtain ⟨hnp, s', ρ', hk, hr'⟩ := hq
    cases e with
    | ret =>
      obtain ⟨l, h1, h2, h3⟩ := results_spec hT hr' hk
      exact ⟨hr'.defers, _, h3, l, _, rfl, h2, h1, hr'.after⟩
    | normal =>
      obtain ⟨l, h1, h2, h3⟩ := results_spec hT hr' hk
      exact ⟨hr'.defers, _, h3, l, _, rfl, h2, h1, hr'.after⟩
    | panic ch => exact absurd rfl (hnp ch)
    | _ => exact hk.elim
#print axioms Spec.of_body
end
end Go.E
