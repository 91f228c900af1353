/-
  Operations that only reckon and read: what they yield.
-/
import Derived.Test.YtkapdbbjgpofnaaE4
namespace Go.E

abbrev iv (k : IntKind) (n : Int) : SV := .c (.v (.int k n))
abbrev bv (b : Bool) : SV := .c (.v (.bool b))

def bitsOf (op : BinOp) (k : IntKind) (a b : Int) : Int :=
  match op with
  | .and => k.wrap ((BitVec.ofInt k.bits a &&& BitVec.ofInt k.bits b).toNat : Int)
  | .or => k.wrap ((BitVec.ofInt k.bits a ||| BitVec.ofInt k.bits b).toNat : Int)
  | .xor => k.wrap ((BitVec.ofInt k.bits a ^^^ BitVec.ofInt k.bits b).toNat : Int)
  | _ => k.wrap ((BitVec.ofInt k.bits a &&& ~~~ (BitVec.ofInt k.bits b)).toNat : Int)
def shlOf (k : IntKind) (a b : Int) : Int := k.wrap (a * 2 ^ (min b.toNat k.bits))
def shrOf (k : IntKind) (a b : Int) : Int := a.fdiv (2 ^ (min b.toNat k.bits))

/-- a constant number, not negative; above 0 -/
def isNat : Operand → Bool
  | .const (.int _ (.ofNat _)) => true
  | _ => false
def isPos : Operand → Bool
  | .const (.int _ (.ofNat (_ + 1))) => true
  | _ => false

def iBin (op : BinOp) (y : Operand) (k k' : IntKind) (a b : Int) (K : SV → Prop) : Prop :=
  match op with
  | .shl => bif isNat y then K (iv k (shlOf k a b)) else (0 ≤ b ∧ K (iv k (shlOf k a b)))
  | .shr => bif isNat y then K (iv k (shrOf k a b)) else (0 ≤ b ∧ K (iv k (shrOf k a b)))
  | .add => bif kEq k k' then K (iv k (k.wrap (a + b))) else False
  | .sub => bif kEq k k' then K (iv k (k.wrap (a - b))) else False
  | .mul => bif kEq k k' then K (iv k (k.wrap (a * b))) else False
  | .quo => bif kEq k k' then (bif isPos y then K (iv k (k.wrap (a.tdiv b))) else (b ≠ 0 ∧ K (iv k (k.wrap (a.tdiv b))))) else False
  | .rem => bif kEq k k' then (bif isPos y then K (iv k (a.tmod b)) else (b ≠ 0 ∧ K (iv k (a.tmod b)))) else False
  | .and => bif kEq k k' then K (iv k (bitsOf .and k a b)) else False
  | .or => bif kEq k k' then K (iv k (bitsOf .or k a b)) else False
  | .xor => bif kEq k k' then K (iv k (bitsOf .xor k a b)) else False
  | .andNot => bif kEq k k' then K (iv k (bitsOf .andNot k a b)) else False
  | .eql => bif kEq k k' then K (bv (a == b)) else False
  | .neq => bif kEq k k' then K (bv (a != b)) else False
  | .lss => bif kEq k k' then K (bv (decide (a < b))) else False
  | .leq => bif kEq k k' then K (bv (decide (a ≤ b))) else False
  | .gtr => bif kEq k k' then K (bv (decide (b < a))) else False
  | .geq => bif kEq k k' then K (bv (decide (b ≤ a))) else False

theorem isNat_spec {P : Program} {y : Operand} {a : Act} {k : IntKind} {b : Int} (h : isNat y = true) (he : a.eval y = .int k b) : 0 ≤ b := by
  unfold isNat at h
  split at h
  · simp only [Act.eval, Value.int.injEq] at he; rw [← he.2]; exact Int.natCast_nonneg _
  · simp at h
theorem isPos_spec {P : Program} {y : Operand} {a : Act} {k : IntKind} {b : Int} (h : isPos y = true) (he : a.eval y = .int k b) : b ≠ 0 := by
  unfold isPos at h
  split at h
  · simp only [Act.eval, Value.int.injEq] at he; rw [← he.2]; exact Int.natCast_ne_zero.2 (Nat.succ_ne_zero _)
  · simp at h

/-- what a run of 'binOp' over numbers says -/
theorem iBin_spec {P : Program} {op : BinOp} {y : Operand} {act : Act} {k k' : IntKind} {a b : Int} {K : SV → Prop} (he : act.eval y = .int k' b) (h : iBin op y k k' a b K) :
    ∃ z, K (.c (.v z)) ∧ (z.oneCell' = true) ∧ ∀ t w, (binOp op t (.int k a) (.int k' b)).run P w = .ok z w := by
  cases op <;> simp only [iBin] at h
  case shl =>
    have h' : 0 ≤ b ∧ K (iv k (shlOf k a b)) := by
      cases hn : isNat y with
      | true => simp only [hn, cond_true] at h; exact ⟨isNat_spec (P := P) hn he, h⟩
      | false => simpa [hn] using h
    refine ⟨_, h'.2, rfl, fun t w => ?_⟩
    simp [binOp, Op.shift, shlOf, Int.not_lt.2 h'.1]
  case shr =>
    have h' : 0 ≤ b ∧ K (iv k (shrOf k a b)) := by
      cases hn : isNat y with
      | true => simp only [hn, cond_true] at h; exact ⟨isNat_spec (P := P) hn he, h⟩
      | false => simpa [hn] using h
    refine ⟨_, h'.2, rfl, fun t w => ?_⟩
    simp [binOp, Op.shift, shrOf, Int.not_lt.2 h'.1]
  case quo =>
    cases hk : kEq k k' with
    | false => simp [hk] at h
    | true =>
      have := kEq_eq hk; subst this
      simp only [hk, cond_true] at h
      have h' : b ≠ 0 ∧ K (iv k (k.wrap (a.tdiv b))) := by
        cases hn : isPos y with
        | true => simp only [hn, cond_true] at h; exact ⟨isPos_spec (P := P) hn he, h⟩
        | false => simpa [hn] using h
      exact ⟨_, h'.2, rfl, fun t w => by simp [binOp, Op.intDiv, h'.1]⟩
  case rem =>
    cases hk : kEq k k' with
    | false => simp [hk] at h
    | true =>
      have := kEq_eq hk; subst this
      simp only [hk, cond_true] at h
      have h' : b ≠ 0 ∧ K (iv k (a.tmod b)) := by
        cases hn : isPos y with
        | true => simp only [hn, cond_true] at h; exact ⟨isPos_spec (P := P) hn he, h⟩
        | false => simpa [hn] using h
      exact ⟨_, h'.2, rfl, fun t w => by simp [binOp, Op.intDiv, h'.1]⟩
  all_goals
    cases hk : kEq k k' with
    | false => simp [hk] at h
    | true =>
      have := kEq_eq hk; subst this
      simp only [hk, cond_true] at h
      exact ⟨_, h, rfl, fun t w => by simp [binOp, Op.intArith, Op.intBits, bitsOf, Op.intCmp]⟩

def SV.toV : SV → Option Value
  | .c (.v x) => some x
  | .tt => some (.bool true)
  | .ff => some (.bool false)
  | _ => none

/-- equal? of values of one kind that are no numbers -/
def vEq : TK → Value → Value → (Bool → Prop) → Prop
  | .bool, .bool a, .bool b, K => K (a == b)
  | .ptr _, .pointer (some _), .pointer none, K => K false
  | .ptr _, .pointer none, .pointer (some _), K => K false
  | .ptr _, .pointer none, .pointer none, K => K true
  | .slice _, .slice (some _) _ _, .slice none _ _, K => K false
  | .slice _, .slice none _ _, .slice (some _) _ _, K => K false
  | .slice _, .slice none _ _, .slice none _ _, K => K true
  | .map _ _, .map (some _), .map none, K => K false
  | .map _ _, .map none, .map none, K => K true
  | _, _, _, _ => False

def sBin (op : BinOp) (a b : ByteArray) (K : SV → Prop) : Prop :=
  match op with
  | .eql => K (bv (a.toList == b.toList))
  | .neq => K (bv !(a.toList == b.toList))
  | .lss => K (bv (Op.bytesLess a.toList b.toList))
  | .leq => K (bv (Op.bytesLess a.toList b.toList || a.toList == b.toList))
  | .gtr => K (bv !(Op.bytesLess a.toList b.toList || a.toList == b.toList))
  | .geq => K (bv !(Op.bytesLess a.toList b.toList))
  | .add => a.size + b.size ≤ 9223372036854775807 ∧ K (.c (.v (.string (a ++ b))))
  | _ => False

def fBin (T : Tab) (op : BinOp) (t : TypeId) (yo : Operand) (x y : SV) (K : SV → Prop) : Prop :=
  match x, y with
  | .c (.v (.int k a)), .c (.v (.int k' b)) => iBin op yo k k' a b K
  | .c (.v (.string a)), .c (.v (.string b)) => sBin op a b K
  | .c (.a c), .c (.a d) => match T t with
    | some i => bif i.eq && (kindLB i.zero c && kindLB i.zero d) then (match op with
      | .eql => K (bv (eqLB c d))
      | .neq => K (bv !(eqLB c d))
      | _ => False) else False
    | none => False
  | x, y => match x.toV, y.toV with
    | some x, some y => match T t with
      | some i => match op with
        | .eql => vEq i.k x y fun r => K (bv r)
        | .neq => vEq i.k x y fun r => K (bv !r)
        | _ => False
      | none => False
    | _, _ => False

def fUn (op : UnOp) (x : SV) (K : SV → Prop) : Prop :=
  match op, x with
  | .neg, .c (.v (.int k n)) => K (iv k (k.wrap (0 - n)))
  | .xor, .c (.v (.int k n)) => K (iv k (bitsOf .xor k (if k.signed then -1 else k.max) n))
  | .not, .tt => K .ff
  | .not, .ff => K .tt
  | .not, .c (.v (.bool b)) => K (bv !b)
  | _, _ => False

def mcell (m : Mem) (b off : Nat) : Option Value :=
  match m b with
  | some (.cells c _ _) => c[off]?
  | _ => none
def MRange (m : Mem) (b off : Nat) (l : List Value) : Prop :=
  ∃ arr t fr, m b = some (.cells arr t fr) ∧ ∀ j v, l[j]? = some v → arr[off + j]? = some v

def fLoad (T : Tab) (s : St) (t : TypeId) (x : SV) (K : SV → List Nat → Prop) : Prop :=
  match T t with
  | none => False
  | some i => match x with
    | .p h off => match nth s.L h with
      | none => False
      | some (_, c) => match i.k.agg with
        | true => match LB.sub c off i.size with
          | some d => K (.c (.a d)) []
          | none => False
        | false => match LB.get c off with
          | some y => K (.c (.v y)) []
          | none => False
    | .q h off d => match nth s.L h with
      | none => False
      | some (_, c) => match i.k.agg with
        | true => LB.dsub c off d i.size fun e => K (.c (.a e)) []
        | false => LB.dget c off d fun y => K (.c (.v y)) []
    | .c (.v (.pointer (some ⟨b, off, none⟩))) => match i.k.agg with
      | true => ∃ c : LB, LB.ok c ∧ LB.size c = i.size ∧ MRange s.m b off (LB.cells c) ∧ K (.c (.a c)) [b]
      | false => ∃ y, mcell s.m b off = some y ∧ (y.oneCell' = true) ∧ K (.c (.v y)) [b]
    | _ => False

def fNil (x : SV) (K : SV → Prop) : Prop :=
  match x with
  | .p h o => K (.p h o)
  | .q h o d => K (.q h o d)
  | .c (.v (.pointer (some a))) => K (.c (.v (.pointer (some a))))
  | .c (.v (.func (.func f) u w)) => K (.c (.v (.func (.func f) u w)))
  | _ => False

def fConv (T : Tab) (src dst : TypeId) (x : SV) (K : SV → Prop) : Prop :=
  match T src, T dst with
  | some _, some d => match d.k, x with
    | .int k, .c (.v (.int _ n)) => K (iv k (k.wrap n))
    | .str, .c (.v (.string a)) => K (.c (.v (.string a)))
    | _, _ => False
  | _, _ => False

/-- the text that bytes make -/
def strOf (ns : List Int) : ByteArray := ns.foldl (fun r n => r.push (UInt8.ofNat n.toNat)) ByteArray.empty
/-- is it the conversion of bytes into a text? it reads -/
def strConv (T : Tab) (src dst : TypeId) : Bool :=
  match T src, T dst with
  | some i, some j => match i.k, j.k with
    | .slice e, .str => match T e with
      | some ei => match ei.k with
        | .int .u8 => true
        | _ => false
      | none => false
    | _, _ => false
  | _, _ => false
def fStr (L : List (TypeId × LB)) (m : Mem) (x : SV) (K : SV → List Nat → Prop) : Prop :=
  match x with
  | .c (.v (.slice none _ _)) => K (.c (.v (.string ByteArray.empty))) []
  | .c (.v (.slice (some ⟨b, o, none⟩) n _)) => ∃ ns : List Int, ns.length = n ∧ MRange m b o (ns.map (Value.int .u8)) ∧ K (.c (.v (.string (strOf ns)))) [b]
  | .sl h off d n _ => match nth L h with
    | none => False
    | some (_, c) => ∃ ns : List Int, ns.length = n ∧ (∀ j v, (ns.map (Value.int .u8))[j]? = some v → (LB.cells c)[off + d + j]? = some v) ∧ K (.c (.v (.string (strOf ns)))) []
  | _ => False

def fField (T : Tab) (t : TypeId) (x : SV) (f : Nat) (K : SV → Prop) : Prop :=
  match T t with
  | some i => match i.k, x with
    | .struct fs, .c (.a c) => match nth fs f with
      | some (off, ft) => match T ft with
        | some fi => match fi.k.agg with
          | true => match LB.sub c off fi.size with
            | some d => K (.c (.a d))
            | none => False
          | false => match LB.get c off with
            | some y => K (.c (.v y))
            | none => False
        | none => False
      | none => False
    | _, _ => False
  | none => False

def fFieldAddr (T : Tab) (t : TypeId) (x : SV) (f : Nat) (K : SV → Prop) : Prop :=
  match T t with
  | some i => match i.k with
    | .struct fs => match nth fs f with
      | some (off, ft) => match T ft with
        | some fi => bif Nat.blt 0 fi.size then (match x with
          | .p h o => K (.p h (o + off))
          | .q h o d => K (.q h o (d + off))
          | .c (.v (.pointer (some ⟨b, o, none⟩))) => K (.c (.v (.pointer (some ⟨b, o + off, none⟩))))
          | _ => False) else False
        | none => False
      | none => False
    | _ => False
  | none => False

def times (i : Int) : Nat → Nat
  | 1 => i.toNat
  | n => i.toNat * n
theorem times_eq (i : Int) (n : Nat) : times i n = i.toNat * n := by
  unfold times; split <;> simp_all

/-- a constant index below n, times the elements' size -/
def constIx : Operand → Nat → Nat → Option Nat
  | .const (.int _ (.ofNat j)), n, z => bif Nat.blt j n then some (j * z) else none
  | _, _, _ => none

def fIndexAddr (T : Tab) (t : TypeId) (io : Operand) (x i : SV) (K : SV → Prop) : Prop :=
  match T t with
  | none => False
  | some ti => match ti.k with
    | .array n e => match T e with
      | none => False
      | some ei => match x with
        | .p h o => match constIx io n ei.size with
          | some j => K (.p h (o + j))
          | none => match i with
            | .c (.v (.int _ j)) => (0 ≤ j ∧ j < n) ∧ K (.q h o (times j ei.size))
            | _ => False
        | .q h o d => match i with
          | .c (.v (.int _ j)) => (0 ≤ j ∧ j < n) ∧ K (.q h o (d + times j ei.size))
          | _ => False
        | .c (.v (.pointer (some ⟨b, o, none⟩))) => match i with
          | .c (.v (.int _ j)) => (0 ≤ j ∧ j < n) ∧ K (.c (.v (.pointer (some ⟨b, o + times j ei.size, none⟩))))
          | _ => False
        | _ => False
    | .slice e => match T e with
      | none => False
      | some ei => match x, i with
        | .c (.v (.slice (some ⟨b, o, none⟩) len _)), .c (.v (.int _ j)) => (0 ≤ j ∧ j < len) ∧ K (.c (.v (.pointer (some ⟨b, o + times j ei.size, none⟩))))
        | .sl h o d len _, .c (.v (.int _ j)) => (0 ≤ j ∧ j < len) ∧ K (.q h o (d + times j ei.size))
        | _, _ => False
    | _ => False

def fIndex (T : Tab) (t : TypeId) (io : Operand) (x i : SV) (K : SV → Prop) : Prop :=
  match T t with
  | none => False
  | some ti => match ti.k, x with
    | .array n e, .c (.a c) => match T e with
      | none => False
      | some ei => match constIx io n ei.size with
        | some j => match ei.k.agg with
          | true => match LB.sub c j ei.size with
            | some d => K (.c (.a d))
            | none => False
          | false => match LB.get c j with
            | some y => K (.c (.v y))
            | none => False
        | none => match i with
          | .c (.v (.int _ j)) => (0 ≤ j ∧ j < n) ∧ (match ei.k.agg with
            | true => LB.dsub c 0 (times j ei.size) ei.size fun d => K (.c (.a d))
            | false => LB.dget c 0 (times j ei.size) fun y => K (.c (.v y)))
          | _ => False
    | .str, .c (.v (.string a)) => match i with
      | .c (.v (.int _ j)) => (0 ≤ j ∧ j < a.size) ∧ K (iv .u8 ((a.data.toList.getD j.toNat 0).toNat : Int))
      | _ => False
    | _, _ => False

def fBuiltin (T : Tab) (b : Builtin) (ats : List TypeId) (args : List SV) (K : SV → Prop) : Prop :=
  match b, args with
  | .min, [.c (.v (.int k x)), .c (.v (.int _ y))] => K (iv k (min x y))
  | .max, [.c (.v (.int k x)), .c (.v (.int _ y))] => K (iv k (max x y))
  | .len, [x] => match ats with
    | [t] => match T t with
      | some i => match i.k, x with
        | .slice _, .c (.v (.slice _ n _)) => K (iv .i64 n)
        | .slice _, .sl _ _ _ n _ => K (iv .i64 n)
        | .str, .c (.v (.string a)) => K (iv .i64 a.size)
        | _, _ => False
      | none => False
    | _ => False
  | _, _ => False

/-- the parts of a literal, laid one by one -/
def bld (s : St) (place : Nat → Option (Nat × Nat)) : LB → List (Nat × Operand) → Option LB
  | c, [] => some c
  | c, (j, x) :: r => match place j with
    | none => none
    | some (off, size) => match ev s x with
      | .c (.v y) => bif Nat.beq size 1 then (match LB.set c off y with | some d => bld s place d r | none => none) else none
      | .tt => bif Nat.beq size 1 then (match LB.set c off (.bool true) with | some d => bld s place d r | none => none) else none
      | .ff => bif Nat.beq size 1 then (match LB.set c off (.bool false) with | some d => bld s place d r | none => none) else none
      | .c (.a v) => bif Nat.beq size (LB.size v) then (match LB.putW c off v with | some d => bld s place d r | none => none) else none
      | _ => none

def placeOf (T : Tab) : TK → Nat → Option (Nat × Nat)
  | .struct fs, j => match nth fs j with
    | some (off, ft) => match T ft with
      | some fi => some (off, fi.size)
      | none => none
    | none => none
  | .array _ e, j => match T e with
    | some ei => some (j * ei.size, ei.size)
    | none => none
  | _, _ => none

def known (T : Tab) : List (Nat × TypeId) → Bool
  | [] => true
  | x :: r => match T x.2 with
    | some _ => known T r
    | none => false
def knownK (T : Tab) : TK → Bool
  | .struct fs => known T fs
  | .array _ e => match T e with
    | some _ => true
    | none => false
  | _ => true

def fBuild (T : Tab) (s : St) (t : TypeId) (parts : List (Nat × Operand)) (K : SV → Prop) : Prop :=
  match T t with
  | some i => match i.k.agg with
    | true => bif knownK T i.k then (match bld s (placeOf T i.k) i.zero parts with
      | some c => K (.c (.a c))
      | none => False) else False
    | false => False
  | none => False

/-- bounds of a slice expression: from, to, and the greatest -/
def bound (x : Option SV) (dflt : Nat) (most : Nat) (K : Nat → Prop) : Prop :=
  match x with
  | none => K dflt
  | some (.c (.v (.int _ j))) => (0 ≤ j ∧ j ≤ most) ∧ K j.toNat
  | _ => False
def hiOk : Option SV → Option SV → Bool
  | none, some _ => false
  | _, _ => true
def fSlice (T : Tab) (t : TypeId) (x : SV) (lo hi mx : Option SV) (K : SV → Prop) : Prop :=
  bif hiOk hi mx then (match T t with
  | none => False
  | some ti => match ti.k, x with
    | .slice e, .c (.v (.slice (some ⟨b, o, none⟩) len cap)) => match T e with
      | none => False
      | some ei => bound mx cap cap fun m => bound hi len m fun h => bound lo 0 h fun l =>
        ∀ o', (m ≠ l → o' = o + l * ei.size) → (m = l → o' = o) → K (.c (.v (.slice (some ⟨b, o', none⟩) (h - l) (m - l))))
    | .slice e, .c (.v (.slice none len cap)) => match T e with
      | none => False
      | some _ => bound mx cap cap fun m => bound hi len m fun h => bound lo 0 h fun l => K (.c (.v (.slice none (h - l) (m - l))))
    | .array n e, .p hd o => match T e with
      | none => False
      | some ei => bound mx n n fun m => bound hi n m fun h => bound lo 0 h fun l =>
        ∀ d, (m ≠ l → d = l * ei.size) → (m = l → d = 0) → K (.sl hd o d (h - l) (m - l))
    | .array n e, .c (.v (.pointer (some ⟨b, o, none⟩))) => match T e with
      | none => False
      | some ei => bound mx n n fun m => bound hi n m fun h => bound lo 0 h fun l =>
        ∀ o', (m ≠ l → o' = o + l * ei.size) → (m = l → o' = o) → K (.c (.v (.slice (some ⟨b, o', none⟩) (h - l) (m - l))))
    | .str, .c (.v (.string a)) => match mx with
      | none => bound hi a.size a.size fun h => bound lo 0 h fun l => K (.c (.v (.string (a.extract l h))))
      | some _ => False
    | _, _ => False) else False

def fval (T : Tab) (s : St) (op : Op) (K : SV → List Nat → Prop) : Prop :=
  match op with
  | .move x => K (ev s x) []
  | .pick c x y => match ev s c with
    | .tt => K (ev s x) []
    | .ff => K (ev s y) []
    | .c (.v (.bool b)) => (b = true → K (ev s x) []) ∧ (b = false → K (ev s y) [])
    | _ => False
  | .assign x => K (ev s x) []
  | .load t x => fLoad T s t (ev s x) K
  | .nilCheck x => fNil (ev s x) fun y => K y []
  | .binOp op t x y _ => fBin T op t y (ev s x) (ev s y) fun z => K z []
  | .unOp op _ x => fUn op (ev s x) fun z => K z []
  | .convert src dst x => match strConv T src dst with
    | true => fStr s.L s.m (ev s x) K
    | false => fConv T src dst (ev s x) fun z => K z []
  | .field t x f => fField T t (ev s x) f fun z => K z []
  | .fieldAddr t x f => fFieldAddr T t (ev s x) f fun z => K z []
  | .indexAddr t x i => fIndexAddr T t i (ev s x) (ev s i) fun z => K z []
  | .index t x i => fIndex T t i (ev s x) (ev s i) fun z => K z []
  | .extract x j => match ev s x with
    | .t l => match nth l j with
      | some y => K (.c y) []
      | none => False
    | _ => False
  | .build t parts => fBuild T s t parts.toList fun z => K z []
  | .slice t x lo hi mx => fSlice T t (ev s x) (lo.map (ev s)) (hi.map (ev s)) (mx.map (ev s)) fun z => K z []
  | .call ⟨.builtin b, args, ats⟩ => fBuiltin T b ats.toList (args.toList.map (ev s)) fun z => K z []
  | _ => False
end Go.E
