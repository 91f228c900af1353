/-
  E19, E20, E21, E22, SnL, E23, E25, E26, Sn0, Sn1
-/
import Derived.Test.YtgjlajcebcmbaaaGreatDoorSnapLivesZ5
import Derived.Laws.CopyRow
import Derived.Lib.AppendZerosOnto
import Derived.Lib.ConvBytes
import Derived.Lib.AtoiAll
import Derived.Lib.ItoaNum
import Derived.Lib.Repeat
import Derived.Lib.Strings
/-
  The run anew, so that what is carried along stays small: frames as lists, each part laid out before it is carried on.
-/
namespace Go.E

abbrev Fl := List (Nat × SV)
abbrev KY := Fl → Loc → Mem → List Nat → Prop
abbrev toSt (fl : Fl) (L : Loc) (m : Mem) (x : List Nat) : St := ⟨frOf fl, L, m, x⟩

def fSV (y : SV) (K : SV → Prop) : Prop :=
  match y with
  | .c x => K (.c x)
  | .t l => K (.t l)
  | .p h o => K (.p h o)
  | .q h o d => K (.q h o d)
  | .sl h o d n c => K (.sl h o d n c)
  | .tt => K .tt
  | .ff => K .ff
  | .un => K .un
  | .any => K .any
theorem fSV_spec {y : SV} {K : SV → Prop} (h : fSV y K) : K y := by cases y <;> exact h
def fList {α : Type} : List α → (List α → Prop) → Prop
  | [], K => K []
  | a :: r, K => fList r fun r' => K (a :: r')
theorem fList_spec {α : Type} : ∀ {l : List α} {K : List α → Prop}, fList l K → K l
  | [], _, h => h
  | a :: r, K, h => fList_spec (l := r) (K := fun r' => K (a :: r')) h
def fFl : Fl → (Fl → Prop) → Prop
  | [], K => K []
  | (j, y) :: r, K => fSV y fun y => fFl r fun r' => K ((j, y) :: r')
theorem fFl_spec : ∀ {l : Fl} {K : Fl → Prop}, fFl l K → K l
  | [], _, h => h
  | (j, y) :: r, K, h => fFl_spec (l := r) (K := fun r' => K ((j, y) :: r')) (fSV_spec h)
def putY (d : Option Nat) (y : SV) (fl : Fl) (K : Fl → Prop) : Prop :=
  match d with
  | none => K fl
  | some d => K ((d, y) :: fl)
theorem frOf_cons (fl : Fl) (d : Nat) (y : SV) : frOf ((d, y) :: fl) = putF (frOf fl) (some d) y := funext fun _ => rfl
theorem putY_spec {d : Option Nat} {y : SV} {fl : Fl} {K : Fl → Prop} (h : putY d y fl K) : ∃ fl', K fl' ∧ frOf fl' = putF (frOf fl) d y := by
  cases d with
  | none => exact ⟨fl, h, rfl⟩
  | some d => exact ⟨_, h, frOf_cons ..⟩

def fLoadY (T : Tab) (L : Loc) (m : Mem) (t : TypeId) (x : SV) (K : SV → List Nat → Prop) : Prop :=
  match T t with
  | none => False
  | some i => match x with
    | .p h off => match nth L h with
      | none => False
      | some (_, c) => match i.k.agg with
        | true => match LB.sub c off i.size with
          | some d => K (.c (.a d)) []
          | none => False
        | false => match LB.get c off with
          | some y => K (.c (.v y)) []
          | none => False
    | .q h off d => match nth L h with
      | none => False
      | some (_, c) => match i.k.agg with
        | true => LB.dsub c off d i.size fun e => K (.c (.a e)) []
        | false => LB.dget c off d fun y => K (.c (.v y)) []
    | .c (.v (.pointer (some ⟨b, off, none⟩))) => match i.k.agg with
      | true => ∃ c : LB, LB.ok c ∧ LB.size c = i.size ∧ MRange m b off (LB.cells c) ∧ K (.c (.a c)) [b]
      | false => ∃ y, mcell m b off = some y ∧ (y.oneCell' = true) ∧ K (.c (.v y)) [b]
    | _ => False
theorem fLoadY_eq (T : Tab) (s : St) (t : TypeId) (x : SV) (K : SV → List Nat → Prop) : fLoadY T s.L s.m t x K = fLoad T s t x K := rfl

def fvalY (T : Tab) (fl : Fl) (L : Loc) (m : Mem) (x : List Nat) (op : Op) (K : SV → List Nat → Prop) : Prop :=
  match op with
  | .load t xo => fLoadY T L m t (ev (toSt fl L m x) xo) K
  | .convert src dst xo => match strConv T src dst with
    | true => fStr L m (ev (toSt fl L m x) xo) K
    | false => fConv T src dst (ev (toSt fl L m x) xo) fun z => K z []
  | op => fval T (toSt fl L m x) op K
theorem fvalY_eq (T : Tab) (fl : Fl) (L : Loc) (m : Mem) (x : List Nat) (op : Op) (K : SV → List Nat → Prop) : fvalY T fl L m x op K = fval T (toSt fl L m x) op K := by
  cases op <;> rfl

def nStoreY (T : Tab) (L : Loc) (m : Mem) (t : TypeId) (x y : SV) (K : Loc → Mem → Prop) : Prop :=
  match T t with
  | none => False
  | some i => match x with
    | .p h off => match nth L h with
      | none => False
      | some (t', c) => match y with
        | .c (.v z) => bif Nat.beq i.size 1 then (match LB.set c off z with | some d => K (L.set h (t', d)) m | none => False) else False
        | .tt => bif Nat.beq i.size 1 then (match LB.set c off (.bool true) with | some d => K (L.set h (t', d)) m | none => False) else False
        | .ff => bif Nat.beq i.size 1 then (match LB.set c off (.bool false) with | some d => K (L.set h (t', d)) m | none => False) else False
        | .c (.a v) => bif Nat.beq i.size (LB.size v) then (match LB.putW c off v with | some d => K (L.set h (t', d)) m | none => False) else False
        | _ => False
    | .q h off e => match nth L h with
      | none => False
      | some (t', c) => match y with
        | .c (.v z) => bif Nat.beq i.size 1 then LB.dset c off e z (fun d => K (L.set h (t', d)) m) else False
        | .tt => bif Nat.beq i.size 1 then LB.dset c off e (.bool true) (fun d => K (L.set h (t', d)) m) else False
        | .ff => bif Nat.beq i.size 1 then LB.dset c off e (.bool false) (fun d => K (L.set h (t', d)) m) else False
        | .c (.a v) => bif Nat.beq i.size (LB.size v) then LB.dput c off e v (fun d => K (L.set h (t', d)) m) else False
        | _ => False
    | .c (.v (.pointer (some ⟨b, off, none⟩))) => match y with
      | .c (.v z) => bif Nat.beq i.size 1 then (∃ arr t' fr, m b = some (.cells arr t' fr) ∧ (off < arr.size ∧ ¬ (fr.1 ≤ off ∧ off < fr.2)) ∧ K L (m.set b (.cells (arr.setIfInBounds off z) t' fr))) else False
      | .tt => bif Nat.beq i.size 1 then (∃ arr t' fr, m b = some (.cells arr t' fr) ∧ (off < arr.size ∧ ¬ (fr.1 ≤ off ∧ off < fr.2)) ∧ K L (m.set b (.cells (arr.setIfInBounds off (.bool true)) t' fr))) else False
      | .ff => bif Nat.beq i.size 1 then (∃ arr t' fr, m b = some (.cells arr t' fr) ∧ (off < arr.size ∧ ¬ (fr.1 ≤ off ∧ off < fr.2)) ∧ K L (m.set b (.cells (arr.setIfInBounds off (.bool false)) t' fr))) else False
      | .c (.a v) => bif Nat.beq i.size (LB.size v) then (∃ arr t' fr, m b = some (.cells arr t' fr) ∧ (off + LB.size v ≤ arr.size ∧ ∀ j, j < LB.size v → ¬ (fr.1 ≤ off + j ∧ off + j < fr.2)) ∧ K L (m.set b (.cells (arr.toList.take off ++ (LB.cells v ++ arr.toList.drop (off + LB.size v))).toArray t' fr))) else False
      | _ => False
    | _ => False
theorem nStoreY_eq (T : Tab) (s : St) (t : TypeId) (x y : SV) (K : Loc → Mem → Prop) : nStoreY T s.L s.m t x y K = nStore T s t x y K := rfl

def nNewY (L : Loc) (m : Mem) (x : List Nat) (t : TypeId) (c : LB) (ext : Bool) (K : SV → Loc → Mem → List Nat → Prop) : Prop :=
  match ext with
  | false => K (.p L.length 0) (L ++ [(t, c)]) m x
  | true => ∀ b, m b = none → K (.c (.v (.pointer (some ⟨b, 0, none⟩)))) L (m.set b (.cells (LB.cells c).toArray t)) x
theorem nNewY_eq (s : St) (t : TypeId) (c : LB) (ext : Bool) (K : SV → Loc → Mem → List Nat → Prop) : nNewY s.L s.m s.x t c ext K = nNew s t c ext K := rfl

def nvalY (P : Program) (T : Tab) (fl : Fl) (L : Loc) (m : Mem) (x : List Nat) (op : Op) (ext : Bool) (keep : Kp) (K : SV → Loc → Mem → List Nat → Prop) : Prop :=
  match op with
  | .alloc t => match T t with
    | some i => nNewY L m x t i.zero ext K
    | none => False
  | .box t y => match ev (toSt fl L m x) y with
    | .c (.a c) => nNewY L m x t c ext K
    | .c (.v z) => nNewY L m x t [.one z] ext K
    | .tt => nNewY L m x t [.one (.bool true)] ext K
    | .ff => nNewY L m x t [.one (.bool false)] ext K
    | _ => False
  | .store t xo y => match keep with
    | .all => False
    | .none => nStoreY T L m t (ev (toSt fl L m x) xo) (ev (toSt fl L m x) y) fun L m => K .un L m []
    | .but h => bif atHandle h (ev (toSt fl L m x) xo) then nStoreY T L m t (ev (toSt fl L m x) xo) (ev (toSt fl L m x) y) (fun L m => K .un L m x) else False
    | .new n => bif newHandle n (ev (toSt fl L m x) xo) then nStoreY T L m t (ev (toSt fl L m x) xo) (ev (toSt fl L m x) y) (fun L m => K .un L m x) else False
  | .call ⟨.value (.func f), args, _⟩ => match closed (args.toList.map (ev (toSt fl L m x))) with
    | Option.none => False
    | some cs => match keep with
      | .all => XCall P f cs m fun r m' => Kept x m m' ∧ K (resSV r) L m' x
      | .none => XCall P f cs m fun r m' => K (resSV r) L m' []
      | .but _ => False
      | .new _ => False
  | .call ⟨.value (.tmp t), args, _⟩ => match frOf fl t with
    | .c (.v (.func (.func f) first captured)) => bif allOne first.toList && allOne captured.toList then (match closed (args.toList.map (ev (toSt fl L m x))) with
      | Option.none => False
      | some cs => match keep with
        | .all => XCall P f (first.toList.map CV.v ++ cs ++ captured.toList.map CV.v) m fun r m' => Kept x m m' ∧ K (resSV r) L m' x
        | .none => XCall P f (first.toList.map CV.v ++ cs ++ captured.toList.map CV.v) m fun r m' => K (resSV r) L m' []
        | .but _ => False
        | .new _ => False) else False
    | _ => False
  | op => match primOf op with
    | Option.none => False
    | some (p, xs) => match closed (xs.map (ev (toSt fl L m x))) with
      | Option.none => False
      | some cs => match keep with
        | .all => XPrim P p cs m fun r m' => Kept x m m' ∧ K (primSV p r) L m' x
        | .none => XPrim P p cs m fun r m' => K (primSV p r) L m' []
        | .but _ => False
        | .new _ => False
theorem nvalY_eq (P : Program) (T : Tab) (fl : Fl) (L : Loc) (m : Mem) (x : List Nat) (op : Op) (ext : Bool) (keep : Kp) (K : SV → Loc → Mem → List Nat → Prop) :
    nvalY P T fl L m x op ext keep K = nval P T (toSt fl L m x) op ext keep K := by
  cases op <;> rfl

/-! ### what is carried on may be said in another way -/
theorem iBin_mono {op : BinOp} {y : Operand} {k k' : IntKind} {a b : Int} {K K' : SV → Prop} (kk : ∀ z, K z → K' z) (h : iBin op y k k' a b K) : iBin op y k k' a b K' := by
  unfold iBin at h ⊢
  cases op <;> simp only at h ⊢ <;> grind
theorem vEq_mono {t : TK} {a b : Value} {K K' : Bool → Prop} (kk : ∀ z, K z → K' z) (h : vEq t a b K) : vEq t a b K' := by
  unfold vEq at h ⊢
  grind
theorem fUn_mono {op : UnOp} {x : SV} {K K' : SV → Prop} (kk : ∀ z, K z → K' z) (h : fUn op x K) : fUn op x K' := by
  unfold fUn at h ⊢
  grind
theorem fNil_mono {x : SV} {K K' : SV → Prop} (kk : ∀ z, K z → K' z) (h : fNil x K) : fNil x K' := by
  unfold fNil at h ⊢
  grind
theorem fConv_mono {T : Tab} {s d : TypeId} {x : SV} {K K' : SV → Prop} (kk : ∀ z, K z → K' z) (h : fConv T s d x K) : fConv T s d x K' := by
  unfold fConv at h ⊢
  grind
theorem fFieldAddr_mono {T : Tab} {t : TypeId} {x : SV} {f : Nat} {K K' : SV → Prop} (kk : ∀ z, K z → K' z) (h : fFieldAddr T t x f K) : fFieldAddr T t x f K' := by
  unfold fFieldAddr at h ⊢
  cases hT : T t with
  | none => simp [hT] at h
  | some i =>
    simp only [hT] at h ⊢
    cases hk : i.k <;> simp only [hk] at h ⊢
    rename_i fs
    cases hn : nth fs f with
    | none => simp [hn] at h
    | some p =>
      obtain ⟨off, ft⟩ := p
      simp only [hn] at h ⊢
      cases hf : T ft with
      | none => simp [hf] at h
      | some fi =>
        simp only [hf] at h ⊢
        cases hb : Nat.blt 0 fi.size with
        | false => simp [hb] at h
        | true =>
          simp only [hb, cond_true] at h ⊢
          split at h <;> first | exact kk _ h | exact h.elim
theorem fIndexAddr_mono {T : Tab} {t : TypeId} {io : Operand} {x i : SV} {K K' : SV → Prop} (kk : ∀ z, K z → K' z) (h : fIndexAddr T t io x i K) : fIndexAddr T t io x i K' := by
  unfold fIndexAddr at h ⊢
  (repeat' split at h) <;> first | exact h.elim | (simp only [*]; first | exact kk _ h | exact ⟨h.1, kk _ h.2⟩) | exact kk _ h | exact ⟨h.1, kk _ h.2⟩
theorem sBin_mono {op : BinOp} {a b : ByteArray} {K K' : SV → Prop} (kk : ∀ z, K z → K' z) (h : sBin op a b K) : sBin op a b K' := by
  cases op <;> first | exact kk _ h | exact ⟨h.1, kk _ h.2⟩ | exact h
theorem fField_mono {T : Tab} {t : TypeId} {x : SV} {f : Nat} {K K' : SV → Prop} (kk : ∀ z, K z → K' z) (h : fField T t x f K) : fField T t x f K' := by
  unfold fField at h ⊢
  (repeat' split at h) <;> first | exact h.elim | exact kk _ h | (simp only [*]; done) | (simp only [*]; exact kk _ h)
theorem LB.dget_mono : ∀ {c : LB} {o d : Nat} {K K' : Value → Prop} (_ : ∀ z, K z → K' z) (_ : LB.dget c o d K), LB.dget c o d K'
  | [], _, _, _, _, _, h => h
  | .one _ :: _, 0, _, _, _, _, h => h
  | .one _ :: r, o + 1, d, K, K', kk, h => LB.dget_mono (c := r) (o := o) kk h
  | .ints k n l :: r, o, d, K, K', kk, h => by
    simp only [LB.dget] at h ⊢
    cases hb : Nat.blt o n with
    | true => simp only [hb, cond_true] at h ⊢; cases o <;> exact ⟨h.1, kk _ h.2⟩
    | false => simp only [hb, cond_false] at h ⊢; exact LB.dget_mono kk h
  | .vals n l :: r, o, d, K, K', kk, h => by
    simp only [LB.dget] at h ⊢
    cases hb : Nat.blt o n with
    | true => simp only [hb, cond_true] at h ⊢; cases o <;> exact ⟨h.1, kk _ h.2⟩
    | false => simp only [hb, cond_false] at h ⊢; exact LB.dget_mono kk h
theorem LB.dsub_mono : ∀ {c : LB} {o d z : Nat} {K K' : LB → Prop} (_ : ∀ z, K z → K' z) (_ : LB.dsub c o d z K), LB.dsub c o d z K'
  | [], _, _, _, _, _, _, h => h
  | .one _ :: _, 0, _, _, _, _, _, h => h
  | .one _ :: r, o + 1, d, z, K, K', kk, h => LB.dsub_mono (c := r) (o := o) kk h
  | .ints k n l :: r, o, d, z, K, K', kk, h => by
    simp only [LB.dsub] at h ⊢
    cases hb : Nat.blt o n with
    | true => simp only [hb, cond_true] at h ⊢; cases o <;> exact ⟨h.1, kk _ h.2⟩
    | false => simp only [hb, cond_false] at h ⊢; exact LB.dsub_mono kk h
  | .vals n l :: r, o, d, z, K, K', kk, h => by
    simp only [LB.dsub] at h ⊢
    cases hb : Nat.blt o n with
    | true => simp only [hb, cond_true] at h ⊢; cases o <;> exact ⟨h.1, kk _ h.2⟩
    | false => simp only [hb, cond_false] at h ⊢; exact LB.dsub_mono kk h
theorem LB.dset_mono : ∀ {c : LB} {o d : Nat} {x : Value} {K K' : LB → Prop} (_ : ∀ z, K z → K' z) (_ : LB.dset c o d x K), LB.dset c o d x K' := by
  intro c
  induction c with
  | nil => intro o d x K K' kk h; exact h
  | cons s r ih =>
    intro o d x K K' kk h
    cases s with
    | one y =>
      cases o with
      | zero => exact h
      | succ o => exact ih (o := o) (fun z hz => kk _ hz) h
    | ints k n l =>
      unfold LB.dset at h ⊢
      grind
    | vals n l =>
      unfold LB.dset at h ⊢
      grind
theorem LB.dput_mono : ∀ {c : LB} {o d : Nat} {x : LB} {K K' : LB → Prop} (_ : ∀ z, K z → K' z) (_ : LB.dput c o d x K), LB.dput c o d x K' := by
  intro c
  induction c with
  | nil => intro o d x K K' kk h; exact h
  | cons s r ih =>
    intro o d x K K' kk h
    cases s with
    | one y =>
      cases o with
      | zero => exact h
      | succ o => exact ih (o := o) (fun z hz => kk _ hz) h
    | ints k n l =>
      unfold LB.dput at h ⊢
      grind
    | vals n l =>
      unfold LB.dput at h ⊢
      grind
theorem fLoad_mono {T : Tab} {s : St} {t : TypeId} {x : SV} {K K' : SV → List Nat → Prop} (kk : ∀ z y, K z y → K' z y) (h : fLoad T s t x K) : fLoad T s t x K' := by
  unfold fLoad at h ⊢
  (repeat' split at h) <;> first | exact h.elim | exact kk _ _ h | (simp only [*]; done) | ((try simp only [*]); first | exact kk _ _ h | exact LB.dget_mono (fun _ hz => kk _ _ hz) h | exact LB.dsub_mono (fun _ hz => kk _ _ hz) h | (obtain ⟨c, h1, h2, h3, h4⟩ := h; exact ⟨c, h1, h2, h3, kk _ _ h4⟩) | (obtain ⟨c, h1, h2, h3⟩ := h; exact ⟨c, h1, h2, kk _ _ h3⟩))
theorem fIndex_mono {T : Tab} {t : TypeId} {io : Operand} {x i : SV} {K K' : SV → Prop} (kk : ∀ z, K z → K' z) (h : fIndex T t io x i K) : fIndex T t io x i K' := by
  unfold fIndex at h ⊢
  (repeat' split at h) <;> first | exact h.elim | exact kk _ h | exact ⟨h.1, kk _ h.2⟩ | (simp only [*]; done) | ((try simp only [*]); first | exact kk _ h | exact ⟨h.1, kk _ h.2⟩ | exact ⟨h.1, LB.dsub_mono (fun _ hz => kk _ hz) h.2⟩ | exact ⟨h.1, LB.dget_mono (fun _ hz => kk _ hz) h.2⟩ | exact ⟨⟨trivial, trivial⟩, kk _ h.2⟩ | exact ⟨⟨trivial, trivial⟩, LB.dsub_mono (fun _ hz => kk _ hz) h.2⟩ | exact ⟨⟨trivial, trivial⟩, LB.dget_mono (fun _ hz => kk _ hz) h.2⟩)
theorem fBuiltin_mono {T : Tab} {b : Builtin} {ats : List TypeId} {args : List SV} {K K' : SV → Prop} (kk : ∀ z, K z → K' z) (h : fBuiltin T b ats args K) : fBuiltin T b ats args K' := by
  unfold fBuiltin at h ⊢
  (repeat' split at h) <;> first | exact h.elim | exact kk _ h | (simp only [*]; done) | (simp only [*]; exact kk _ h)
theorem fBuild_mono {T : Tab} {s : St} {t : TypeId} {parts : List (Nat × Operand)} {K K' : SV → Prop} (kk : ∀ z, K z → K' z) (h : fBuild T s t parts K) : fBuild T s t parts K' := by
  unfold fBuild at h ⊢
  cases hT : T t with
  | none => simp [hT] at h
  | some i =>
    simp only [hT] at h ⊢
    cases ha : i.k.agg with
    | false => simp [ha] at h
    | true =>
      simp only [ha] at h ⊢
      cases hk : knownK T i.k with
      | false => simp [hk] at h
      | true =>
        simp only [hk, cond_true] at h ⊢
        cases hb : bld s (placeOf T i.k) i.zero parts with
        | none => simp [hb] at h
        | some c => simp only [hb] at h ⊢; exact kk _ h
theorem bound_mono {x : Option SV} {d m : Nat} {K K' : Nat → Prop} (kk : ∀ z, K z → K' z) (h : bound x d m K) : bound x d m K' := by
  unfold bound at h ⊢
  (repeat' split at h) <;> first | exact h.elim | exact kk _ h | exact ⟨h.1, kk _ h.2⟩
theorem fSlice_mono {T : Tab} {t : TypeId} {x : SV} {lo hi mx : Option SV} {K K' : SV → Prop} (kk : ∀ z, K z → K' z) (h : fSlice T t x lo hi mx K) : fSlice T t x lo hi mx K' := by
  unfold fSlice at h ⊢
  cases ho : hiOk hi mx with
  | false => simp [ho] at h
  | true =>
    simp only [ho, cond_true] at h ⊢
    (repeat' split at h) <;> first | exact h.elim | ((try simp only [*]); first | exact bound_mono (fun _ h => bound_mono (fun _ h => bound_mono (fun _ h => fun o' h1 h2 => kk _ (h o' h1 h2)) h) h) h | exact bound_mono (fun _ h => bound_mono (fun _ h => bound_mono (fun _ h => kk _ h) h) h) h | exact bound_mono (fun _ h => bound_mono (fun _ h => kk _ h) h) h)
theorem vEqN_mono {t : TK} {yo : Operand} {a b : Value} {K K' : Bool → Prop} (kk : ∀ z, K z → K' z) (h : vEqN t yo a b K) : vEqN t yo a b K' := by
  unfold vEqN at h ⊢
  split at h
  · split at h
    · exact kk _ h
    · exact h.elim
  · exact vEq_mono kk h
theorem fBin_mono {T : Tab} {op : BinOp} {t : TypeId} {yo : Operand} {x y : SV} {K K' : SV → Prop} (kk : ∀ z, K z → K' z) (h : fBin T op t yo x y K) : fBin T op t yo x y K' := by
  unfold fBin at h ⊢
  split at h
  · exact iBin_mono kk h
  · exact sBin_mono kk h
  · rename_i c d
    cases hT : T t with
    | none => simp [hT] at h
    | some i =>
      simp only [hT] at h ⊢
      cases hb : (i.eq && (kindLB i.zero c && kindLB i.zero d)) with
      | false => simp [hb] at h
      | true =>
        simp only [hb, cond_true] at h ⊢
        split at h <;> first | exact kk _ h | exact h.elim
  · rename_i h1 h2 h3
    cases hx : x.toV with
    | none => simp [hx] at h
    | some vx =>
      cases hy : y.toV with
      | none => simp [hx, hy] at h
      | some vy =>
        simp only [hx, hy] at h ⊢
        cases hT : T t with
        | none => simp [hT] at h
        | some i =>
          simp only [hT] at h ⊢
          split at h <;> first | exact vEqN_mono (fun _ hz => kk _ hz) h | exact h.elim
theorem fval_mono {T : Tab} {s : St} {op : Op} {K K' : SV → List Nat → Prop} (kk : ∀ z y, K z y → K' z y) (h : fval T s op K) : fval T s op K' := by
  unfold fval at h ⊢
  split at h
  · exact kk _ _ h
  · split at h
    · exact kk _ _ h
    · exact kk _ _ h
    · exact ⟨fun e => kk _ _ (h.1 e), fun e => kk _ _ (h.2 e)⟩
    · exact h.elim
  · exact kk _ _ h
  · exact fLoad_mono kk h
  · exact fNil_mono (fun _ h => kk _ _ h) h
  · exact fBin_mono (fun _ h => kk _ _ h) h
  · exact fUn_mono (fun _ h => kk _ _ h) h
  · rename_i src dst x
    cases hc : strConv T src dst with
    | true =>
      simp only [hc] at h ⊢
      unfold fStr at h ⊢
      split at h
      · exact kk _ _ h
      · rcases h with ⟨h0, h⟩ | ⟨ns, h1, b, o, h2, h3, h4⟩
        · exact .inl ⟨h0, kk _ _ h⟩
        · exact .inr ⟨ns, h1, b, o, h2, h3, kk _ _ h4⟩
      · split at h
        · exact h.elim
        · rename_i hn
          (try simp only [hn])
          obtain ⟨ns, h1, h2, h3⟩ := h; exact ⟨ns, h1, h2, kk _ _ h3⟩
      · exact h.elim
    | false =>
      simp only [hc] at h ⊢
      exact fConv_mono (fun _ h => kk _ _ h) h
  · exact fField_mono (fun _ h => kk _ _ h) h
  · exact fFieldAddr_mono (fun _ h => kk _ _ h) h
  · exact fIndexAddr_mono (fun _ h => kk _ _ h) h
  · exact fIndex_mono (fun _ h => kk _ _ h) h
  · rename_i x j
    cases hx : ev s x with
    | t l =>
      simp only [hx] at h ⊢
      cases hn : nth l j with
      | none => simp [hn] at h
      | some y => simp only [hn] at h ⊢; exact kk _ _ h
    | _ => simp [hx] at h
  · exact fBuild_mono (fun _ h => kk _ _ h) h
  · exact fSlice_mono (fun _ h => kk _ _ h) h
  · exact fBuiltin_mono (fun _ h => kk _ _ h) h
  · exact h.elim
theorem nNew_mono {s : St} {t : TypeId} {c : LB} {ext : Bool} {K K' : SV → Loc → Mem → List Nat → Prop} (kk : ∀ a b c d, K a b c d → K' a b c d) (h : nNew s t c ext K) : nNew s t c ext K' := by
  cases ext with
  | false => exact kk _ _ _ _ h
  | true => exact fun b hb => kk _ _ _ _ (h b hb)
theorem bif_mono {b : Bool} {A B : Prop} (k : A → B) (h : bif b then A else False) : bif b then B else False := by
  cases b with
  | true => exact k h
  | false => exact h
theorem nStore_mono {T : Tab} {s : St} {t : TypeId} {x y : SV} {K K' : Loc → Mem → Prop} (kk : ∀ a b, K a b → K' a b) (h : nStore T s t x y K) : nStore T s t x y K' := by
  unfold nStore at h ⊢
  cases hT : T t with
  | none => simp [hT] at h
  | some i =>
    simp only [hT] at h ⊢
    split at h
    · rename_i hh off
      cases hn : nth s.L hh with
      | none => simp [hn] at h
      | some p =>
        obtain ⟨t', c⟩ := p
        simp only [hn] at h ⊢
        split at h <;> first | exact h.elim | (refine bif_mono (fun h => ?_) h; split at h <;> first | exact h.elim | (simp only [*]; exact kk _ _ h) | exact kk _ _ h)
    · rename_i hh off e
      cases hn : nth s.L hh with
      | none => simp [hn] at h
      | some p =>
        obtain ⟨t', c⟩ := p
        simp only [hn] at h ⊢
        split at h <;> first | exact h.elim | exact bif_mono (fun h => LB.dset_mono (fun _ h => kk _ _ h) h) h | exact bif_mono (fun h => LB.dput_mono (fun _ h => kk _ _ h) h) h
    · split at h <;> first | exact h.elim | exact bif_mono (fun ⟨a, b, c, h1, h2, h3⟩ => ⟨a, b, c, h1, h2, kk _ _ h3⟩) h
    · exact h.elim
theorem XCall.mono {P : Program} {f : FuncId} {args : List CV} {m : Mem} {K K' : List CV → Mem → Prop} (k : ∀ r m', K r m' → K' r m') (h : XCall P f args m K) : XCall P f args m K' := by
  rcases h with ⟨R, h1, h2⟩ | ⟨R, h1, h2⟩
  · exact .mk R h1 fun r m' hr => k r m' (h2 r m' hr)
  · exact .ext R h1 fun r m' hr => k r m' (h2 r m' hr)
theorem XPrim.mono {P : Program} {p : Prim} {args : List CV} {m : Mem} {K K' : List CV → Mem → Prop} (k : ∀ r m', K r m' → K' r m') (h : XPrim P p args m K) : XPrim P p args m K' := by
  obtain ⟨R, h1, h2⟩ := h; exact ⟨R, h1, fun r m' hr => k r m' (h2 r m' hr)⟩
theorem nval_mono {P : Program} {T : Tab} {s : St} {op : Op} {ext : Bool} {keep : Kp} {K K' : SV → Loc → Mem → List Nat → Prop} (kk : ∀ a b c d, K a b c d → K' a b c d) (h : nval P T s op ext keep K) : nval P T s op ext keep K' := by
  unfold nval at h ⊢
  split at h
  · rename_i t
    cases hT : T t with
    | none => simp [hT] at h
    | some i => simp only [hT] at h ⊢; exact nNew_mono kk h
  · rename_i t y
    split at h <;> first | exact h.elim | exact nNew_mono kk h | (simp only [*]; exact nNew_mono kk h)
  · cases keep with
    | all => exact h
    | none => exact nStore_mono (fun _ _ h => kk _ _ _ _ h) h
    | but hh => exact bif_mono (fun h => nStore_mono (fun _ _ h => kk _ _ _ _ h) h) h
    | new hh => exact bif_mono (fun h => nStore_mono (fun _ _ h => kk _ _ _ _ h) h) h
  · rename_i f args _
    try simp only at h ⊢
    cases hc : closed (args.toList.map (ev s)) with
    | none => simp [hc] at h
    | some cs =>
      simp only [hc] at h ⊢
      cases keep with
      | all => exact XCall.mono (fun _ _ h => ⟨h.1, kk _ _ _ _ h.2⟩) h
      | none => exact XCall.mono (fun _ _ h => kk _ _ _ _ h) h
      | but hh => exact h
      | new hh => exact h
  · rename_i t args _
    try simp only at h ⊢
    split at h
    · rename_i f first captured hf
      (try simp only [hf])
      refine bif_mono (fun h => ?_) h
      cases hc : closed (args.toList.map (ev s)) with
      | none => simp [hc] at h
      | some cs =>
        simp only [hc] at h ⊢
        cases keep with
        | all => exact XCall.mono (fun _ _ h => ⟨h.1, kk _ _ _ _ h.2⟩) h
        | none => exact XCall.mono (fun _ _ h => kk _ _ _ _ h) h
        | but hh => exact h
        | new hh => exact h
    · exact h.elim
  · cases hp : primOf op with
    | none => simp [hp] at h
    | some q =>
      obtain ⟨p, xs⟩ := q
      simp only [hp] at h ⊢
      cases hc : closed (xs.map (ev s)) with
      | none => simp [hc] at h
      | some cs =>
        simp only [hc] at h ⊢
        cases keep with
        | all => exact XPrim.mono (fun _ _ h => ⟨h.1, kk _ _ _ _ h.2⟩) h
        | none => exact XPrim.mono (fun _ _ h => kk _ _ _ _ h) h
        | but hh => exact h
        | new hh => exact h

/-! ### operations -/
def xactY (c : Cfg) (o : Oper) (keep : Kp) (K : KY) : KY := fun fl L m x =>
  match floaty c.T o.op with
  | true => fvalY c.T fl L m x o.op fun sv bs => fSV sv fun sv => fList (bs ++ x) fun x' => putY o.dst sv fl fun fl' => K fl' L m x'
  | false => nvalY c.P c.T fl L m x o.op (escOf c o.dst) keep fun sv L' m' x' => fSV sv fun sv => fList L' fun L' => putY o.dst sv fl fun fl' => K fl' L' m' x'

/-- what is said of lists says so of states -/
def OfY (K : KY) : St → Prop := fun s => ∃ fl L m x, s = toSt fl L m x ∧ K fl L m x
theorem OfY.mk {K : KY} {fl : Fl} {L : Loc} {m : Mem} {x : List Nat} (h : K fl L m x) : OfY K (toSt fl L m x) := ⟨fl, L, m, x, rfl, h⟩
theorem OfY.put {K : KY} {fl : Fl} {L : Loc} {m : Mem} {x : List Nat} {d : Option Nat} {y : SV} (h : putY d y fl fun fl' => K fl' L m x) : OfY K ⟨putF (frOf fl) d y, L, m, x⟩ := by
  obtain ⟨fl', h1, h2⟩ := putY_spec h
  exact ⟨fl', L, m, x, by rw [← h2], h1⟩

theorem xactY_spec {c : Cfg} {o : Oper} {keep : Kp} {K : KY} {K' : St → Prop} (hk : ∀ s, OfY K s → K' s) {fl : Fl} {L : Loc} {m : Mem} {x : List Nat} (h : xactY c o keep K fl L m x) : xact c o keep (toSt fl L m x) K' := by
  unfold xactY at h
  unfold xact
  cases hf : floaty c.T o.op with
  | true =>
    simp only [hf] at h ⊢
    rw [fvalY_eq] at h
    refine fval_mono (fun sv bs h => ?_) h
    exact hk _ (OfY.put (fList_spec (fSV_spec h)))
  | false =>
    simp only [hf] at h ⊢
    rw [nvalY_eq] at h
    refine nval_mono (fun sv L' m' x' h => ?_) h
    exact hk _ (OfY.put (fList_spec (fSV_spec h)))

def xopY (c : Cfg) (ops : List Oper) (o : Oper) (keep : Kp) (K : KY) : KY := fun fl L m x =>
  match o.guard with
  | none => xactY c o keep K fl L m x
  | some (j, w) => match gslot ops j with
    | none => False
    | some d => match frOf fl d with
      | .tt => bif w then xactY c o keep K fl L m x else putY o.dst .un fl fun fl' => K fl' L m x
      | .ff => bif w then (putY o.dst .un fl fun fl' => K fl' L m x) else xactY c o keep K fl L m x
      | .un => putY o.dst .un fl fun fl' => K fl' L m x
      | .c (.v (.bool b)) =>
        (b = true → bif w then xactY c o keep K ((d, .tt) :: fl) L m x else putY o.dst .un ((d, .tt) :: fl) fun fl' => K fl' L m x) ∧
        (b = false → bif w then (putY o.dst .un ((d, .ff) :: fl) fun fl' => K fl' L m x) else xactY c o keep K ((d, .ff) :: fl) L m x)
      | _ => False
theorem xopY_spec {c : Cfg} {ops : List Oper} {o : Oper} {keep : Kp} {K : KY} {K' : St → Prop} (hk : ∀ s, OfY K s → K' s) {fl : Fl} {L : Loc} {m : Mem} {x : List Nat} (h : xopY c ops o keep K fl L m x) : xop c ops o keep (toSt fl L m x) K' := by
  unfold xopY at h
  unfold xop
  cases hg : o.guard with
  | none => simp only [hg] at h ⊢; exact xactY_spec hk h
  | some p =>
    obtain ⟨j, w⟩ := p
    simp only [hg] at h ⊢
    cases hs : gslot ops j with
    | none => simp [hs] at h
    | some d =>
      simp only [hs] at h ⊢
      split at h
      · rename_i e
        simp only [e]
        cases w with
        | true => exact xactY_spec hk h
        | false => exact hk _ (OfY.put h)
      · rename_i e
        simp only [e]
        cases w with
        | true => exact hk _ (OfY.put h)
        | false => exact xactY_spec hk h
      · rename_i e
        simp only [e]
        exact hk _ (OfY.put h)
      · rename_i b e
        simp only [e]
        refine ⟨fun eb => ?_, fun eb => ?_⟩
        · have h := h.1 eb
          rw [← frOf_cons]
          cases w with
          | true => exact xactY_spec hk h
          | false => exact hk _ (OfY.put h)
        · have h := h.2 eb
          rw [← frOf_cons]
          cases w with
          | true => exact hk _ (OfY.put h)
          | false => exact xactY_spec hk h
      · exact h.elim
def wOp (c : Cfg) (ops : List Oper) (o : Oper) (_ : List Oper) (ih : KY) : KY := fun fl L m x =>
  match yieldOf (frOf fl) o with
  | some (l, args) => match closed (args.map (ev (toSt fl L m x))) with
    | none => False
    | some cs => XYield c.P l cs m fun r' m' => fSV (resSV r') fun sv => putY o.dst sv fl fun fl' => ih fl' L m' []
  | none => xopY c ops o .none ih fl L m x
/-- by the recursor itself, so that what is carried along looks the same to the kernel -/
noncomputable def xopsY (c : Cfg) (ops l : List Oper) (K : KY) : KY := List.rec (motive := fun _ => KY) K (wOp c ops) l
theorem xopsY_cons (c : Cfg) (ops : List Oper) (o : Oper) (r : List Oper) (K : KY) (fl : Fl) (L : Loc) (m : Mem) (x : List Nat) : xopsY c ops (o :: r) K fl L m x = (match yieldOf (frOf fl) o with
  | some (l, args) => match closed (args.map (ev (toSt fl L m x))) with
    | none => False
    | some cs => XYield c.P l cs m fun r' m' => fSV (resSV r') fun sv => putY o.dst sv fl fun fl' => xopsY c ops r K fl' L m' []
  | none => xopY c ops o .none (xopsY c ops r K) fl L m x) := rfl
theorem xopsY_spec {c : Cfg} {ops : List Oper} {K : KY} {K' : St → Prop} (hk : ∀ s, OfY K s → K' s) : ∀ {l : List Oper} {fl : Fl} {L : Loc} {m : Mem} {x : List Nat}, xopsY c ops l K fl L m x → xops c ops l K' (toSt fl L m x)
  | [], _, _, _, _, h => hk _ (OfY.mk h)
  | o :: r, fl, L, m, x, h => by
    rw [xopsY_cons] at h
    simp only [xops]
    cases hy : yieldOf (frOf fl) o with
    | none =>
      simp only [hy] at h ⊢
      exact xopY_spec (K := xopsY c ops r K) (fun s ⟨_, _, _, _, e, h⟩ => by subst e; exact xopsY_spec hk (l := r) h) h
    | some q =>
      obtain ⟨l, args⟩ := q
      simp only [hy] at h ⊢
      cases hc : closed (args.map (ev (toSt fl L m x))) with
      | none => simp [hc] at h
      | some cs =>
        simp only [hc] at h ⊢
        obtain ⟨R, h1, h2⟩ := h
        refine ⟨R, h1, fun r' m' hr => ?_⟩
        obtain ⟨fl', g1, g2⟩ := putY_spec (fSV_spec (h2 r' m' hr))
        have := xopsY_spec hk (l := r) g1
        rw [toSt, g2] at this
        exact this
def wOrd (c : Cfg) (ops : List Oper) (ms : List Nat) (s0 : St) (i : Nat) (k : Ks) (r : OT) (ih : KY) : KY := fun fl L m x =>
  match nth ops i with
    | some o => bif loadOk c.T s0 ms i o (toSt fl L m x) r.els then xopY c ops o (kpOf s0 k) ih fl L m x else False
    | none => False
def wOr (_ _ : OT) (a b : KY) : KY := fun fl L m x => a fl L m x ∧ b fl L m x
noncomputable def xordY (c : Cfg) (ops : List Oper) (ms : List Nat) (s0 : St) (t : OT) (K : KY) : KY := OT.rec (motive := fun _ => KY) K (wOrd c ops ms s0) wOr t
theorem xordY_op (c : Cfg) (ops : List Oper) (ms : List Nat) (s0 : St) (i : Nat) (k : Ks) (r : OT) (K : KY) (fl : Fl) (L : Loc) (m : Mem) (x : List Nat) : xordY c ops ms s0 (.op i k r) K fl L m x = (match nth ops i with
    | some o => bif loadOk c.T s0 ms i o (toSt fl L m x) r.els then xopY c ops o (kpOf s0 k) (xordY c ops ms s0 r K) fl L m x else False
    | none => False) := rfl
theorem xordY_spec {c : Cfg} {ops : List Oper} {ms : List Nat} {s0 : St} {K : KY} {K' : St → Prop} (hk : ∀ s, OfY K s → K' s) : ∀ {t : OT} {fl : Fl} {L : Loc} {m : Mem} {x : List Nat}, xordY c ops ms s0 t K fl L m x → xord c ops ms s0 t K' (toSt fl L m x)
  | .nil, _, _, _, _, h => hk _ (OfY.mk h)
  | .or a b, _, _, _, _, h => ⟨xordY_spec hk (t := a) h.1, xordY_spec hk (t := b) h.2⟩
  | .op i k r, fl, L, m, x, h => by
    rw [xordY_op] at h
    simp only [xord]
    cases hn : nth ops i with
    | none => simp [hn] at h
    | some o =>
      simp only [hn] at h ⊢
      cases hl : loadOk c.T s0 ms i o (toSt fl L m x) r.els with
      | false => simp [hl] at h
      | true =>
        simp only [hl, cond_true] at h ⊢
        exact xopY_spec (K := xordY c ops ms s0 r K) (fun s ⟨_, _, _, _, e, h⟩ => by subst e; exact xordY_spec hk (t := r) h) h

/-! ### is it the wanted one? by equations -/
def segY (y x : Seg) (K : Prop) : Prop :=
  match y with
  | .one y => match x with
    | .one x => y = x ∧ K
    | _ => False
  | .ints k n l => match x with
    | .ints k' n' l' => bif kEq k k' && Nat.beq n n' then l = l' ∧ K else False
    | _ => False
  | .vals n l => match x with
    | .vals n' l' => bif Nat.beq n n' then l = l' ∧ K else False
    | _ => False
def lbY : LB → LB → Prop → Prop
  | [], [], K => K
  | y :: r, x :: r', K => segY y x (lbY r r' K)
  | _, _, _ => False
def slotY (y x : SV) (K : Prop) : Prop :=
  match x with
  | .c (.a c) => match y with
    | .c (.a d) => lbY d c K
    | _ => False
  | .c (.v v) => match y with
    | .c (.v z) => z = v ∧ K
    | .tt => Value.bool true = v ∧ K
    | .ff => Value.bool false = v ∧ K
    | _ => False
  | x => slotK y x K
def slotsY : Fl → Fl → Prop → Prop
  | [], _, K => K
  | (j, x) :: r, fl, K => slotY (frOf fl j) x (slotsY r fl K)
def locsY : Loc → Loc → Prop → Prop
  | _, [], K => K
  | (t, c) :: r, (t', c') :: r', K => bif Nat.beq t t' then lbY c c' (locsY r r' K) else False
  | [], _ :: _, _ => False
def LeY (fl : Fl) (L : Loc) (fr : Fl) (L1 : Loc) : Prop := bif allUnder L1.length fr then slotsY fr fl (locsY L L1 True) else False
theorem addrK_refl {a : Option Addr} {K : Prop} (h : K) : addrK a a K := by
  cases a with
  | none => exact h
  | some ad =>
    obtain ⟨b, o, sp⟩ := ad
    cases sp with
    | none => exact ⟨rfl, rfl, h⟩
    | some s => exact ⟨rfl, h⟩
theorem valK_refl {v : Value} {K : Prop} (h : K) : valK v v K := by
  cases v <;> simp only [valK, kEq_self, cond_true] <;> first | exact ⟨rfl, h⟩ | exact ⟨trivial, h⟩ | exact addrK_refl h | exact addrK_refl ⟨rfl, rfl, h⟩ | exact addrK_refl ⟨trivial, trivial, h⟩
theorem segY_k {y x : Seg} {K K' : Prop} (k : K → K') (h : segY y x K) : segK y x K' := by
  unfold segY at h
  unfold segK
  split at h
  · split at h
    · obtain ⟨rfl, h⟩ := h; exact valK_refl (k h)
    · exact h.elim
  · split at h
    · exact bif_mono (fun h => ⟨h.1, k h.2⟩) h
    · exact h.elim
  · split at h
    · exact bif_mono (fun h => ⟨h.1, k h.2⟩) h
    · exact h.elim
theorem lbY_k : ∀ {y x : LB} {K K' : Prop} (_ : K → K') (_ : lbY y x K), lbK y x K'
  | [], [], _, _, k, h => k h
  | y :: r, x :: r', _, _, k, h => segY_k (fun h => lbY_k k h) h
  | [], _ :: _, _, _, _, h => h.elim
  | _ :: _, [], _, _, _, h => h.elim
theorem slotK_mono {y x : SV} {K K' : Prop} (k : K → K') (hx : ∀ c, x ≠ .c c) (h : slotK y x K) : slotK y x K' := by
  cases x with
  | c z => exact absurd rfl (hx z)
  | p hh o => cases y <;> first | exact h.elim | exact bif_mono k h
  | q hh o d => cases y <;> first | exact h.elim | exact bif_mono (fun h => ⟨h.1, k h.2⟩) h
  | sl hh o d n c => cases y <;> first | exact h.elim | exact bif_mono (fun h => ⟨h.1, h.2.1, h.2.2.1, k h.2.2.2⟩) h
  | t l => cases y <;> first | exact h.elim | exact ⟨h.1, k h.2⟩
  | tt => cases y <;> first | exact h.elim | exact k h
  | ff => cases y <;> first | exact h.elim | exact k h
  | un => cases y <;> first | exact h.elim | exact k h
  | any => exact k h
theorem slotY_k {y x : SV} {K K' : Prop} (k : K → K') (h : slotY y x K) : slotK y x K' := by
  cases x with
  | c z =>
    cases z with
    | a c => cases y with
      | c w => cases w with
        | a d => exact lbY_k k h
        | v _ => exact h.elim
      | _ => exact h.elim
    | v v => cases y with
      | c w => cases w with
        | a d => exact h.elim
        | v z => obtain ⟨rfl, h⟩ := h; exact valK_refl (k h)
      | tt => obtain ⟨rfl, h⟩ := h; exact ⟨rfl, k h⟩
      | ff => obtain ⟨rfl, h⟩ := h; exact ⟨rfl, k h⟩
      | _ => exact h.elim
  | _ => exact slotK_mono k (by intro c; simp) h
theorem slotsY_k : ∀ {fr fl : Fl} {K K' : Prop} (_ : K → K') (_ : slotsY fr fl K), slotsK fr (frOf fl) K'
  | [], _, _, _, k, h => k h
  | (j, x) :: r, fl, _, _, k, h => slotY_k (fun h => slotsY_k (fr := r) k h) h
theorem locsY_k : ∀ {L L1 : Loc} {K K' : Prop} (_ : K → K') (_ : locsY L L1 K), locsK L L1 K'
  | [], [], _, _, k, h => k h
  | _ :: _, [], _, _, k, h => k h
  | (t, c) :: r, (t', c') :: r', _, _, k, h => bif_mono (fun h => lbY_k (fun h => locsY_k k h) h) h
  | [], _ :: _, _, _, _, h => h.elim
theorem LeY.k {fl : Fl} {L : Loc} {fr : Fl} {L1 : Loc} {m : Mem} {x : List Nat} (h : LeY fl L fr L1) : LeK (toSt fl L m x) fr L1 m :=
  bif_mono (fun h => slotsY_k (fun h => locsY_k (fun _ => Sub.refl _) h) h) h

/-! ### code -/
/-- A LOOP: what its head knows, by i and the memory; what these must be; a measure that falls. -/
inductive XLoopY (X : (Exit → KY) → KY) (Q : Exit → KY) (fl : Fl) (L : Loc) (m : Mem) : Prop
  | mk {ι : Type} (μ : ι → Nat) (Inv : ι → Mem → Prop) (fr : ι → Fl) (Lo : ι → Loc) (i0 : ι) (h0 : Inv i0 m) (hk : LeY fl L (fr i0) (Lo i0))
    (step : ∀ i m, Inv i m → fFl (fr i) fun fl => fList (Lo i) fun L => X (fun e fl' L' m' x' => match e with
      | .normal => ∃ j, Inv j m' ∧ μ j < μ i ∧ LeY fl' L' (fr j) (Lo j)
      | e => Q e fl' L' m' x') fl L m [])
def setY (o : Operand) (y : SV) (fl : Fl) (K : Fl → Prop) : Prop :=
  match o with
  | .tmp t => K ((t, y) :: fl)
  | _ => K fl
theorem setY_spec {o : Operand} {y : SV} {fl : Fl} {K : Fl → Prop} (h : setY o y fl K) (L : Loc) (m : Mem) (x : List Nat) : ∃ fl', K fl' ∧ toSt fl' L m x = setc (toSt fl L m x) o y := by
  cases o <;> first | exact ⟨fl, h, rfl⟩ | exact ⟨_, h, by simp only [setc, toSt, frOf_cons]⟩
abbrev CQ := (Exit → KY) → KY
def wSkip : CQ := fun Q => Q .normal
def regY (c : Cfg) (id : Nat) (ops : Array Oper) (draw : Bool) (K : KY) : Fl → Loc → Mem → Prop := fun fl L m => match draw with
  | false => xopsY c ops.toList ops.toList K fl L m []
  | true => bif fresh (toSt fl L m []) ops.toList then xordY c ops.toList (c.ord id).ms (toSt fl L m []) (c.ord id).od K fl L m [] else False
/-- where the run halts, so that what is known may be said anew -/
inductive XAtY (X : Fl → Loc → Mem → Prop) : Fl → Loc → Mem → Prop
  | at {fl : Fl} {L : Loc} {m : Mem} (h : X fl L m) : XAtY X fl L m
  | via {fl : Fl} {L : Loc} {m : Mem} (fl1 : Fl) (L1 : Loc) (hk : LeY fl L fl1 L1) (h : XAtY X fl1 L1 m) : XAtY X fl L m
def wRegion (c : Cfg) (id : Nat) (ops : Array Oper) (draw : Bool) : CQ := fun Q fl L m _ => match c.cut id with
  | false => regY c id ops draw (Q .normal) fl L m
  | true => XAtY (regY c id ops draw (Q .normal)) fl L m
def wSeq (_ _ : Code) (x y : CQ) : CQ := fun Q => x (fun e => match e with
  | .normal => y Q
  | e => Q e)
def wCond (o : Operand) (_ _ : Code) (a b : CQ) : CQ := fun Q fl L m x => match ev (toSt fl L m x) o with
  | .tt => a Q fl L m x
  | .ff => b Q fl L m x
  | .c (.v (.bool bb)) => (bb = true → setY o .tt fl fun fl => a Q fl L m x) ∧ (bb = false → setY o .ff fl fun fl => b Q fl L m x)
  | _ => False
def wBlock (id : Nat) (_ : Code) (b : CQ) : CQ := fun Q => b (fun e => match e with
  | .exit j => bif Nat.beq j id then Q .normal else Q (.exit j)
  | e => Q e)
def wLoop (_ : Code) (b : CQ) : CQ := fun Q fl L m _ => XLoopY b Q fl L m
abbrev RY := Operand → Array Tmp → Code → Code → CQ
def wRange (rf : RY) (g : Operand) (ps : Array Tmp) (x y : Code) (_ _ : CQ) : CQ := rf g ps x y
def wExit (id : Nat) : CQ := fun Q => Q (.exit id)
def wScope (sc : Code → CQ) (b : Code) (_ : CQ) : CQ := sc b
def wLabel (_ : Nat) : CQ := fun Q => Q .normal
def wGoto (l : Nat) : CQ := fun Q => Q (.goto l)
def wRet : CQ := fun Q => Q .ret
def wRefuse (_ : String) : CQ := fun _ _ _ _ _ => False
noncomputable def xwpYG (c : Cfg) (sc : Code → CQ) (rf : RY) (code : Code) : CQ := Code.rec (motive := fun _ => CQ) wSkip (wRegion c) wSeq wCond wBlock wLoop (wRange rf) wExit (wScope sc) wLabel wGoto wRet wRefuse code
def QJY (l : Nat) (J : KY) (Q : Exit → KY) : Exit → KY
  | .goto l' => fun fl L m x => bif Nat.beq l' l then J fl L m x else False
  | e => Q e
/-- A SCOPE with jumps to one label -/
inductive XScopeY (X : Code → CQ) (b : Code) (Q : Exit → KY) (fl : Fl) (L : Loc) (m : Mem) (x : List Nat) : Prop
  | mk (l : Nat) (rest : Code) (hf : findLabel b l = some rest) {ι : Type} (μ : ι → Nat) (Inv : ι → Mem → Prop) (fr : ι → Fl) (Lo : ι → Loc)
    (first : X b (QJY l (fun fl' L' m' x' => ∃ j, Inv j m' ∧ LeY fl' L' (fr j) (Lo j)) Q) fl L m x)
    (pass : ∀ i m, Inv i m → fFl (fr i) fun fl => fList (Lo i) fun L => X rest (QJY l (fun fl' L' m' x' => ∃ j, Inv j m' ∧ μ j < μ i ∧ LeY fl' L' (fr j) (Lo j)) Q) fl L m [])
def putAllY : Fl → List Tmp → List CV → Fl
  | fl, p :: ps, x :: xs => putAllY ((p, .c x) :: fl) ps xs
  | fl, _, _ => fl
theorem frOf_putAllY : ∀ (ps : List Tmp) (xs : List CV) (fl : Fl), frOf (putAllY fl ps xs) = putAll (frOf fl) ps xs
  | [], xs, fl => by cases xs <;> rfl
  | p :: ps, [], fl => rfl
  | p :: ps, x :: xs, fl => by
    simp only [putAllY, putAll]
    rw [frOf_putAllY ps xs, frOf_cons]
def asgY (X : Code → CQ) (body : Code) (J : Mem → Prop) : Exit → KY
  | .normal => fun fl L m _ => match L with
    | [] => X body (fun e => match e with
      | .normal => fun _ _ m _ => J m
      | _ => fun _ _ _ _ => False) fl [] m []
    | _ :: _ => False
  | _ => fun _ _ _ _ => False
/-- A RANGE OVER A FUNCTION: what memory is known between two rounds, by i; what may come next -/
inductive XRangeY (P : Program) (X : Code → CQ) (g : Operand) (ps : Array Tmp) (asg body : Code) (Q : Exit → KY) (fl : Fl) (L : Loc) (m : Mem) : Prop
  | mk (gf : FuncId) (captured : Array Value) (hg : ev (toSt fl L m []) g = .c (.v (.func (.func gf) #[] captured))) (hcap : allOne captured.toList = true) (hL : L = [])
    {ι : Type} (Inv : ι → Mem → Prop) (i0 : ι) (h0 : Inv i0 m) (El : ι → List CV → ι → Prop) (hEl : ∀ i x j, El i x j → x.length = ps.size)
    (round : ∀ i x j m, Inv i m → El i x j → fFl (putAllY fl ps.toList x) fun fl => X asg (asgY X body (Inv j)) fl [] m [])
    (Fin : Mem → Prop)
    (iter : ∀ (l : Nat) (o : Obj), m l = none → (∀ i x j m, Inv i m → El i x j → m l = none → YSpec P l x (m.set l o) fun r m' => r = [.v (.bool true)] ∧ ∃ m1, Inv j m1 ∧ m1 l = none ∧ m' = m1.set l o) →
      Spec P gf (.v (.func (.yield l) #[] #[]) :: captured.toList.map CV.v) (m.set l o) fun r m' => ∃ m1, Fin m1 ∧ m1 l = none ∧ m' = m1.set l o)
    (rest : ∀ m1, Fin m1 → Q .normal fl [] m1 [])
noncomputable def xwpY0 (c : Cfg) (code : Code) : CQ := xwpYG c (fun _ _ _ _ _ _ => False) (fun _ _ _ _ _ _ _ _ _ => False) code
noncomputable def xwpY (c : Cfg) (code : Code) : CQ := xwpYG c (fun b => XScopeY (xwpY0 c) b) (fun g ps x y Q fl L m _ => XRangeY c.P (xwpY0 c) g ps x y Q fl L m) code
section
variable {sc : Code → CQ} {rf : RY}
theorem xwpY_seq (c : Cfg) (x y : Code) (Q : Exit → KY) : xwpYG c sc rf (.seq x y) Q = xwpYG c sc rf x (fun e => match e with
  | .normal => xwpYG c sc rf y Q
  | e => Q e) := rfl
theorem xwpY_block (c : Cfg) (id : Nat) (b : Code) (Q : Exit → KY) : xwpYG c sc rf (.block id b) Q = xwpYG c sc rf b (fun e => match e with
  | .exit j => bif Nat.beq j id then Q .normal else Q (.exit j)
  | e => Q e) := rfl
theorem xwpY_cond (c : Cfg) (o : Operand) (a b : Code) (Q : Exit → KY) (fl : Fl) (L : Loc) (m : Mem) (x : List Nat) : xwpYG c sc rf (.cond o a b) Q fl L m x = (match ev (toSt fl L m x) o with
  | .tt => xwpYG c sc rf a Q fl L m x
  | .ff => xwpYG c sc rf b Q fl L m x
  | .c (.v (.bool bb)) => (bb = true → setY o .tt fl fun fl => xwpYG c sc rf a Q fl L m x) ∧ (bb = false → setY o .ff fl fun fl => xwpYG c sc rf b Q fl L m x)
  | _ => False) := rfl
theorem xwpY_region (c : Cfg) (id : Nat) (ops : Array Oper) (draw : Bool) (Q : Exit → KY) (fl : Fl) (L : Loc) (m : Mem) (x : List Nat) : xwpYG c sc rf (.region id ops draw) Q fl L m x = (match c.cut id with
  | false => regY c id ops draw (Q .normal) fl L m
  | true => XAtY (regY c id ops draw (Q .normal)) fl L m) := rfl
theorem xwpY_loop (c : Cfg) (b : Code) (Q : Exit → KY) (fl : Fl) (L : Loc) (m : Mem) (x : List Nat) : xwpYG c sc rf (.loop b) Q fl L m x = XLoopY (xwpYG c sc rf b) Q fl L m := rfl
end
theorem regY_spec {c : Cfg} {id : Nat} {ops : Array Oper} {draw : Bool} {K : KY} {K' : St → Prop} (hk : ∀ s, OfY K s → K' s) {fl : Fl} {L : Loc} {m : Mem} {x : List Nat} (h : regY c id ops draw K fl L m) : regX c id ops draw K' (toSt fl L m x) := by
  unfold regY at h
  unfold regX
  cases draw with
  | false => exact xopsY_spec hk h
  | true =>
    simp only at h ⊢
    cases hf : fresh (toSt fl L m []) ops.toList with
    | false => simp [hf] at h
    | true =>
      have hf' : fresh (toSt fl L m x) ops.toList = true := by rw [← fresh_x (x := [])]; exact hf
      simp only [hf, hf', cond_true] at h ⊢
      rw [← xord_x (x := [])]
      exact xordY_spec hk h
theorem XAtY.spec {c : Cfg} {id : Nat} {ops : Array Oper} {draw : Bool} {K : KY} {K' : St → Prop} (hk : ∀ s, OfY K s → K' s) {fl : Fl} {L : Loc} {m : Mem} (h : XAtY (regY c id ops draw K) fl L m) : ∀ {x : List Nat}, XAt (regX c id ops draw K') (toSt fl L m x) := by
  induction h with
  | «at» h => exact .at (regY_spec hk h)
  | via fl1 L1 hl _ ih => exact .via _ _ _ hl.k ih

theorem xwpYG_spec {c : Cfg} {sc : Code → CQ} {sc' : Code → (Exit → St → Prop) → St → Prop} {rf : RY} {rf' : RF} (hsc : ∀ (b : Code) {Q : Exit → KY} {Q' : Exit → St → Prop} (_ : ∀ e s, OfY (Q e) s → Q' e s) {fl : Fl} {L : Loc} {m : Mem} {x : List Nat}, sc b Q fl L m x → sc' b Q' (toSt fl L m x))
    (hrf : ∀ g ps x y {Q : Exit → KY} {Q' : Exit → St → Prop} (_ : ∀ e s, OfY (Q e) s → Q' e s) {fl : Fl} {L : Loc} {m : Mem} {xx : List Nat}, rf g ps x y Q fl L m xx → rf' g ps x y Q' (toSt fl L m xx)) :
    ∀ (code : Code) {Q : Exit → KY} {Q' : Exit → St → Prop} (_ : ∀ e s, OfY (Q e) s → Q' e s) {fl : Fl} {L : Loc} {m : Mem} {x : List Nat}, xwpYG c sc rf code Q fl L m x → xwpG c sc' rf' code Q' (toSt fl L m x) := by
  intro code
  induction code with
  | skip => intro Q Q' hq fl L m x h; exact hq _ _ (OfY.mk h)
  | label l => intro Q Q' hq fl L m x h; exact hq _ _ (OfY.mk h)
  | exit id => intro Q Q' hq fl L m x h; exact hq _ _ (OfY.mk h)
  | goto l => intro Q Q' hq fl L m x h; exact hq _ _ (OfY.mk h)
  | ret => intro Q Q' hq fl L m x h; exact hq _ _ (OfY.mk h)
  | refuse why => intro Q Q' hq fl L m x h; exact h.elim
  | rangeFunc f ps x y _ _ => intro Q Q' hq fl L m xx h; exact hrf f ps x y hq h
  | scope b _ => intro Q Q' hq fl L m x h; exact hsc b hq h
  | seq x y ihx ihy =>
    intro Q Q' hq fl L m xx h
    rw [xwpY_seq] at h
    refine ihx (fun e s ⟨fl, L, m, x, e', h⟩ => ?_) h
    subst e'
    cases e <;> first | exact ihy hq h | exact hq _ _ (OfY.mk h)
  | block id b ih =>
    intro Q Q' hq fl L m xx h
    rw [xwpY_block] at h
    refine ih (fun e s ⟨fl, L, m, x, e', h⟩ => ?_) h
    subst e'
    cases e with
    | exit j =>
      simp only at h ⊢
      cases hb : Nat.beq j id with
      | true => simp only [hb, cond_true] at h ⊢; exact hq _ _ (OfY.mk h)
      | false => simp only [hb, cond_false] at h ⊢; exact hq _ _ (OfY.mk h)
    | _ => exact hq _ _ (OfY.mk h)
  | cond o a b iha ihb =>
    intro Q Q' hq fl L m x h
    rw [xwpY_cond] at h
    simp only [xwpG]
    split at h
    · rename_i e; simp only [e]; exact iha hq h
    · rename_i e; simp only [e]; exact ihb hq h
    · rename_i bb e
      simp only [e]
      refine ⟨fun eb => ?_, fun eb => ?_⟩
      · obtain ⟨fl', h1, h2⟩ := setY_spec (h.1 eb) L m x
        rw [← h2]; exact iha hq h1
      · obtain ⟨fl', h1, h2⟩ := setY_spec (h.2 eb) L m x
        rw [← h2]; exact ihb hq h1
    · exact h.elim
  | region id ops draw =>
    intro Q Q' hq fl L m x h
    rw [xwpY_region] at h
    simp only [xwpG]
    cases hc : c.cut id with
    | false => simp only [hc] at h ⊢; exact regY_spec (hq .normal) h
    | true => simp only [hc] at h ⊢; exact h.spec (hq .normal)
  | loop b ih =>
    intro Q Q' hq fl L m x h
    rw [xwpY_loop] at h
    obtain ⟨μ, Inv, fr, Lo, i0, h0, hk, step⟩ := h
    refine XLoop.mk (ι := _ × Mem) (fun i => μ i.1) (fun i => Inv i.1 i.2) (fun i => fr i.1) (fun i => Lo i.1) (fun i => i.2) (i0, m) h0 hk.k ?_
    rintro ⟨i, m1⟩ hi
    have hs := fFl_spec (step i m1 hi)
    have hs := fList_spec (l := Lo i) hs
    refine ih (fun e s ⟨fl, L, m, x, e', h⟩ => ?_) hs
    subst e'
    cases e with
    | normal =>
      obtain ⟨j, h1, h2, h3⟩ := h
      exact ⟨(j, m), h1, h2, h3.k⟩
    | _ => exact hq _ _ (OfY.mk h)
theorem xwpY0_spec {c : Cfg} (code : Code) {Q : Exit → KY} {Q' : Exit → St → Prop} (hq : ∀ e s, OfY (Q e) s → Q' e s) {fl : Fl} {L : Loc} {m : Mem} {x : List Nat} (h : xwpY0 c code Q fl L m x) : xwp0 c code Q' (toSt fl L m x) :=
  xwpYG_spec (fun _ _ _ _ _ _ _ _ h => h.elim) (fun _ _ _ _ _ _ _ _ _ _ _ h => h.elim) code hq h
theorem QJY.spec {l : Nat} {J : KY} {J' : St → Prop} {Q : Exit → KY} {Q' : Exit → St → Prop} (hq : ∀ e s, OfY (Q e) s → Q' e s) (hj : ∀ s, OfY J s → J' s) : ∀ e s, OfY (QJY l J Q e) s → QJ l J' Q' e s := by
  rintro e s ⟨fl, L, m, x, e', h⟩
  subst e'
  cases e with
  | goto l' =>
    simp only [QJY] at h
    simp only [QJ]
    cases hb : Nat.beq l' l with
    | true => simp only [hb, cond_true] at h ⊢; exact hj _ (OfY.mk h)
    | false => simp [hb] at h
  | _ => exact hq _ _ (OfY.mk h)
theorem xwpY_spec {c : Cfg} (code : Code) {Q : Exit → KY} {Q' : Exit → St → Prop} (hq : ∀ e s, OfY (Q e) s → Q' e s) {fl : Fl} {L : Loc} {m : Mem} {x : List Nat} (h : xwpY c code Q fl L m x) : xwp c code Q' (toSt fl L m x) := by
  refine xwpYG_spec (fun b Q Q' hq fl L m x h => ?_) (fun g ps asg body Q Q' hq fl L m x h => ?_) code hq h
  · obtain ⟨l, rest, hf, μ, Inv, fr, Lo, first, pass⟩ := h
    refine XScope.mk l rest hf (ι := _ × Mem) (fun i => μ i.1) (fun i => Inv i.1 i.2) (fun i => fr i.1) (fun i => Lo i.1) (fun i => i.2) ?_ ?_
    · refine xwpY0_spec b (QJY.spec hq ?_) first
      rintro s ⟨fl, L, m, x, e', j, h1, h2⟩
      subst e'
      exact ⟨(j, m), h1, h2.k⟩
    · rintro ⟨i, m1⟩ hi
      have hs := fFl_spec (pass i m1 hi)
      have hs := fList_spec (l := Lo i) hs
      refine xwpY0_spec rest (QJY.spec hq ?_) hs
      rintro s ⟨fl, L, m, x, e', j, h1, h2, h3⟩
      subst e'
      exact ⟨(j, m), h1, h2, h3.k⟩
  · obtain ⟨gf, captured, hg, hcap, hL, Inv, i0, h0, El, hEl, round, Fin, iter, rest⟩ := h
    refine XRange.mk gf captured hg hcap hL Inv i0 h0 El hEl (fun i y j m hi hy => ?_) Fin iter (fun m1 hF => hq _ _ (OfY.mk (rest m1 hF)))
    have hs := fFl_spec (round i y j m hi hy)
    have e : (⟨putAll (toSt fl L m x).fr ps.toList y, [], m, []⟩ : St) = toSt (putAllY fl ps.toList y) [] m [] := by
      show (⟨putAll (frOf fl) ps.toList y, [], m, []⟩ : St) = ⟨frOf (putAllY fl ps.toList y), [], m, []⟩
      rw [frOf_putAllY]
    rw [e]
    refine xwpY0_spec asg (fun e s ⟨fl, L, m, x, e', h⟩ => ?_) hs
    subst e'
    cases e with
    | normal =>
      cases L with
      | cons _ _ => exact h.elim
      | nil =>
        refine xwpY0_spec body (fun e s ⟨fl, L, m, x, e', h⟩ => ?_) h
        subst e'
        cases e <;> exact h
    | _ => exact h.elim
/-- the rest of a code, from a region on -/
def restAt (id : Nat) : Code → Code
  | .seq x y => match restAt id x with
    | .skip => restAt id y
    | r => .seq r y
  | .region i o d => bif Nat.beq i id then .region i o d else .skip
  | _ => .skip

/-! ### a function -/
def initFrom : Nat → List CV → Fl
  | _, [] => []
  | k, x :: r => (k, .c x) :: initFrom (k + 1) r
theorem initFrom_at : ∀ (args : List CV) (k i : Nat), frOf (initFrom k args) (k + i) = (match nth args i with | some x => .c x | none => .any)
  | [], k, i => rfl
  | x :: r, k, 0 => by simp [initFrom, frOf, nth, Nat.beq_refl]
  | x :: r, k, i + 1 => by
    have hne : Nat.beq (k + (i + 1)) k = false := by
      cases hb : Nat.beq (k + (i + 1)) k with
      | false => rfl
      | true => have := Nat.eq_of_beq_eq_true hb; omega
    have := initFrom_at r (k + 1) i
    simp only [initFrom, frOf, nth, hne, cond_false]
    rw [show k + (i + 1) = k + 1 + i by omega]
    exact this
theorem initF_eq (args : List CV) : initF args = frOf (initFrom 0 args) := by
  funext i
  have := initFrom_at args 0 i
  rw [Nat.zero_add] at this
  rw [this]; rfl
def QRetY (T : Tab) (rs : List ResultVar) (R : List CV → Mem → Prop) : Exit → KY
  | .ret => fun fl L m x => xres T (toSt fl L m x) rs fun r => R r m
  | .normal => fun fl L m x => xres T (toSt fl L m x) rs fun r => R r m
  | _ => fun _ _ _ _ => False
/-- the way from the run anew to the run -/
theorem goY {c : Cfg} {code : Code} {T : Tab} {rs : List ResultVar} {R : List CV → Mem → Prop} {args : List CV} {m : Mem} (h : fFl (initFrom 0 args) fun fl => xwpY c code (QRetY T rs R) fl [] m []) : xwp c code (QRet T rs R) ⟨initF args, [], m, []⟩ := by
  rw [initF_eq]
  refine xwpY_spec code (fun e s ⟨fl, L, m, x, e', h⟩ => ?_) (fFl_spec h)
  subst e'
  cases e <;> first | exact h | exact h.elim
end Go.E

/-
  Memory in parts: what is known, cut into parts that have no block in common; a call that knows one part leaves the others alone.
-/
namespace Go.E

def joinM (a b : Mem) : Mem := fun x => match a x with
  | some o => some o
  | none => b x
def emp : Mem := fun _ => none
def allM : List Mem → Mem
  | [] => emp
  | a :: r => joinM a (allM r)
/-- no block in common -/
def Dj (a b : Mem) : Prop := ∀ x, a x = none ∨ b x = none
theorem Dj.symm {a b : Mem} (h : Dj a b) : Dj b a := fun x => (h x).symm
/-- m holds these parts, no block of which is of two -/
def Split (m : Mem) (l : List Mem) : Prop := Sub (allM l) m ∧ l.Pairwise Dj

theorem allM_some : ∀ {l : List Mem} {x : Nat} {o : Obj}, allM l x = some o → ∃ a ∈ l, a x = some o
  | [], _, _, h => by cases h
  | a :: r, x, o, h => by
    simp only [allM, joinM] at h
    split at h
    · rename_i u hu; cases h; exact ⟨a, by simp, hu⟩
    · obtain ⟨b, hb, hx⟩ := allM_some h
      exact ⟨b, by simp [hb], hx⟩
theorem allM_of : ∀ {l : List Mem}, l.Pairwise Dj → ∀ {a : Mem}, a ∈ l → ∀ {x : Nat} {o : Obj}, a x = some o → allM l x = some o
  | [], _, a, ha, _, _, _ => by cases ha
  | b :: r, hp, a, ha, x, o, hx => by
    rw [List.pairwise_cons] at hp
    simp only [allM, joinM]
    rcases List.mem_cons.1 ha with rfl | ha
    · rw [hx]
    · have : b x = none := by
        rcases hp.1 a ha x with h | h
        · exact h
        · rw [hx] at h; cases h
      rw [this]
      exact allM_of hp.2 ha hx
theorem allM_none : ∀ {l : List Mem} {x : Nat}, allM l x = none ↔ ∀ a ∈ l, a x = none
  | [], x => by simp [allM, emp]
  | a :: r, x => by
    simp only [allM, joinM, List.mem_cons, forall_eq_or_imp]
    cases h : a x with
    | none => simp [allM_none (l := r)]
    | some o => simp
theorem allM_perm {l l' : List Mem} (hp : l.Pairwise Dj) (h : l.Perm l') : allM l = allM l' := by
  have hp' : l'.Pairwise Dj := h.pairwise hp (fun h => h.symm)
  funext x
  cases hx : allM l x with
  | none =>
    symm
    rw [allM_none] at hx ⊢
    exact fun a ha => hx a (h.mem_iff.2 ha)
  | some o =>
    obtain ⟨a, ha, hax⟩ := allM_some hx
    exact (allM_of hp' (h.mem_iff.1 ha) hax).symm
theorem Split.perm {m : Mem} {l l' : List Mem} (h : Split m l) (hp : l.Perm l') : Split m l' :=
  ⟨by rw [← allM_perm h.2 hp]; exact h.1, hp.pairwise h.2 (fun h => h.symm)⟩
theorem Split.one (m : Mem) : Split m [m] := ⟨fun x o h => by obtain ⟨a, ha, hx⟩ := allM_some h; rw [List.mem_singleton.1 ha] at hx; exact hx, by simp⟩
theorem Split.sub {m : Mem} {l : List Mem} (h : Split m l) {a : Mem} (ha : a ∈ l) : Sub a m := fun _ _ hx => h.1 _ _ (allM_of h.2 ha hx)
theorem Split.get {m : Mem} {l : List Mem} (h : Split m l) {a : Mem} (ha : a ∈ l) {x : Nat} {o : Obj} (hx : a x = some o) : m x = some o := h.sub ha _ _ hx
theorem Split.none {m : Mem} {l : List Mem} (h : Split m l) {x : Nat} (hx : m x = .none) : ∀ a ∈ l, a x = .none := fun a ha => by
  cases hax : a x with
  | none => rfl
  | some o => have := h.get ha hax; rw [hx] at this; cases this
theorem Split.drop {m a : Mem} {l : List Mem} (h : Split m (a :: l)) : Split m l := by
  have hp := List.pairwise_cons.1 h.2
  refine ⟨fun x o hx => ?_, hp.2⟩
  obtain ⟨b, hb, hbx⟩ := allM_some hx
  exact h.get (by simp [hb]) hbx
/-- a part that is nothing -/
theorem Split.addEmp {m : Mem} {l : List Mem} (h : Split m l) : Split m (emp :: l) := ⟨h.1, by rw [List.pairwise_cons]; exact ⟨fun _ _ _ => .inl rfl, h.2⟩⟩
/-- two parts, taken as one; one, taken as two -/
theorem joinM_emp (a : Mem) : joinM a emp = a := by funext x; simp only [joinM, emp]; cases a x <;> rfl
theorem joinM_assoc (a b c : Mem) : joinM (joinM a b) c = joinM a (joinM b c) := by funext x; simp only [joinM]; cases a x <;> simp
theorem joinM_none {a b : Mem} {x : Nat} : joinM a b x = none ↔ a x = none ∧ b x = none := by simp only [joinM]; cases a x <;> simp
theorem Split.pair {m a b : Mem} {l : List Mem} (h : Split m (a :: b :: l)) : Split m (joinM a b :: l) := by
  obtain ⟨h1, h2⟩ := h
  simp only [List.pairwise_cons, List.mem_cons, forall_eq_or_imp] at h2
  refine ⟨by simp only [allM] at h1 ⊢; rw [joinM_assoc]; exact h1, ?_⟩
  rw [List.pairwise_cons]
  refine ⟨fun c hc x => ?_, h2.2.2⟩
  rw [joinM_none]
  rcases h2.1.2 c hc x with h' | h'
  · rcases h2.2.1 c hc x with h'' | h''
    · exact .inl ⟨h', h''⟩
    · exact .inr h''
  · exact .inr h'
theorem Split.unpair {m a b : Mem} {l : List Mem} (h : Split m (joinM a b :: l)) (hd : Dj a b) : Split m (a :: b :: l) := by
  obtain ⟨h1, h2⟩ := h
  rw [List.pairwise_cons] at h2
  refine ⟨by simp only [allM] at h1 ⊢; rw [← joinM_assoc]; exact h1, ?_⟩
  simp only [List.pairwise_cons, List.mem_cons, forall_eq_or_imp]
  refine ⟨⟨hd, fun c hc x => ?_⟩, fun c hc x => ?_, h2.2⟩
  · rcases h2.1 c hc x with h' | h'
    · exact .inl (joinM_none.1 h').1
    · exact .inr h'
  · rcases h2.1 c hc x with h' | h'
    · exact .inl (joinM_none.1 h').2
    · exact .inr h'
theorem Split.dj {m a b : Mem} {l : List Mem} (h : Split m (a :: b :: l)) : Dj a b := by
  have := h.2; simp only [List.pairwise_cons, List.mem_cons, forall_eq_or_imp] at this; exact this.1.1

/-- THE FRAME: who knows one part leaves the others alone -/
theorem After.frame_rule {m1 m1' m : Mem} {rest : List Mem} {W W' : World} (hs : Split m (m1 :: rest)) (hW : Over m W) (h : After m1 W m1' W') : ∃ m', Split m' (m1' :: rest) ∧ After m W m' W' := by
  have hin : ∀ a ∈ rest, ∀ x o, a x = some o → m x = some o ∧ m1 x = none ∧ x < W.heap.size := by
    intro a ha x o hx
    have h1 := hs.get (List.mem_cons_of_mem _ ha) hx
    refine ⟨h1, ?_, hW.lt h1⟩
    rcases (List.pairwise_cons.1 hs.2).1 a ha x with h' | h'
    · exact h'
    · rw [hx] at h'; cases h'
  have hp : (m1' :: rest).Pairwise Dj := by
    rw [List.pairwise_cons]
    refine ⟨fun a ha x => ?_, (List.pairwise_cons.1 hs.2).2⟩
    cases hx : a x with
    | none => exact .inr rfl
    | some o =>
      obtain ⟨_, h2, h3⟩ := hin a ha x o hx
      exact .inl (h.frame x h3 h2).1
  refine ⟨allM (m1' :: rest), ⟨Sub.refl _, hp⟩, ⟨?_, h.size, h.tape, h.os, h.output, ?_⟩⟩
  · intro x o hx
    obtain ⟨a, ha, hax⟩ := allM_some hx
    rcases List.mem_cons.1 ha with rfl | ha
    · exact h.over x o hax
    · obtain ⟨h1, h2, h3⟩ := hin a ha x o hax
      rw [(h.frame x h3 h2).2]
      exact hW x o h1
  · intro x hx hm
    have hm := hs.none hm
    have h1 := hm m1 (by simp)
    obtain ⟨k1, k2⟩ := h.frame x hx h1
    refine ⟨?_, k2⟩
    rw [allM_none]
    intro a ha
    rcases List.mem_cons.1 ha with rfl | ha
    · exact k1
    · exact hm a (by simp [ha])
theorem Over.part {m m1 : Mem} {rest : List Mem} {W : World} (hs : Split m (m1 :: rest)) (hW : Over m W) : Over m1 W := hW.sub (hs.sub (by simp))
theorem Spec.frame {P : Program} {f : FuncId} {args : List CV} {m1 m : Mem} {rest : List Mem} {R : List CV → Mem → Prop} (hs : Split m (m1 :: rest)) (h : Spec P f args m1 R) :
    Spec P f args m fun r m' => ∃ m1', R r m1' ∧ Split m' (m1' :: rest) := by
  refine ⟨h.1, fun ha W hW => (h.2 ha W (hW.part hs)).mono fun e W' ⟨r, m1', h1, h2, h3, h4⟩ => ?_⟩
  obtain ⟨m', h5, h6⟩ := h4.frame_rule hs hW
  exact ⟨r, m', h1, h2, ⟨m1', h3, h5⟩, h6⟩
theorem PrimSpec.frame {P : Program} {p : Prim} {args : List CV} {m1 m : Mem} {rest : List Mem} {R : List CV → Mem → Prop} (hs : Split m (m1 :: rest)) (h : PrimSpec P p args m1 R) :
    PrimSpec P p args m fun r m' => ∃ m1', R r m1' ∧ Split m' (m1' :: rest) := by
  intro ha ty W hW
  obtain ⟨r, m1', W', h1, h2, h3, h4⟩ := h ha ty W (hW.part hs)
  obtain ⟨m', h5, h6⟩ := h4.frame_rule hs hW
  exact ⟨r, m', W', h1, h2, ⟨m1', h3, h5⟩, h6⟩

/-! ### one block -/
def blk1 (b : Nat) (o : Obj) : Mem := fun x => if x = b then some o else none
theorem blk1_same (b : Nat) (o : Obj) : blk1 b o b = some o := by simp [blk1]
theorem blk1_some {b x : Nat} {o u : Obj} (h : blk1 b o x = some u) : x = b ∧ o = u := by
  unfold blk1 at h; split at h
  · cases h; exact ⟨by assumption, rfl⟩
  · cases h
theorem blk1_none {b x : Nat} {o : Obj} : blk1 b o x = none ↔ x ≠ b := by unfold blk1; split <;> simp_all
theorem joinM_blk1 {m : Mem} {b : Nat} {o : Obj} : joinM (blk1 b o) m = m.set b o := by
  funext x; simp only [joinM, blk1, Mem.set]; split <;> simp_all
/-- a new block is a part of its own -/
theorem Split.new {m : Mem} {l : List Mem} (h : Split m l) {b : Nat} (hb : m b = .none) (o : Obj) : Split (m.set b o) (blk1 b o :: l) := by
  refine ⟨fun x u hx => ?_, ?_⟩
  · obtain ⟨a, ha, hax⟩ := allM_some hx
    rcases List.mem_cons.1 ha with rfl | ha
    · obtain ⟨rfl, rfl⟩ := blk1_some hax; exact Mem.set_same ..
    · exact Mem.sub_set _ hb _ _ (h.get ha hax)
  rw [List.pairwise_cons]
  refine ⟨fun a ha x => ?_, h.2⟩
  by_cases e : x = b
  · subst e; exact .inr (h.none hb a ha)
  · exact .inl (blk1_none.2 e)
/-- a block of a part is written -/
theorem Split.set {m a : Mem} {l : List Mem} (h : Split m (a :: l)) {b : Nat} {o : Obj} (hb : a b = some o) (o' : Obj) : Split (m.set b o') (a.set b o' :: l) := by
  have h2 := List.pairwise_cons.1 h.2
  refine ⟨fun x u hx => ?_, ?_⟩
  · obtain ⟨c, hc, hcx⟩ := allM_some hx
    by_cases e : x = b
    · subst e
      rcases List.mem_cons.1 hc with rfl | hc
      · rw [Mem.set_same] at hcx ⊢; exact hcx
      · rcases h2.1 c hc x with h' | h'
        · rw [hb] at h'; cases h'
        · rw [hcx] at h'; cases h'
    · rw [Mem.set_ne _ _ e]
      rcases List.mem_cons.1 hc with rfl | hc
      · rw [Mem.set_ne _ _ e] at hcx; exact h.get (by simp) hcx
      · exact h.get (by simp [hc]) hcx
  · rw [List.pairwise_cons]
    refine ⟨fun c hc x => ?_, h2.2⟩
    by_cases e : x = b
    · subst e
      rcases h2.1 c hc x with h' | h'
      · rw [hb] at h'; cases h'
      · exact .inr h'
    · rw [Mem.set_ne _ _ e]; exact h2.1 c hc x
theorem blk1_set (b : Nat) (o o' : Obj) : (blk1 b o).set b o' = blk1 b o' := by funext x; simp only [blk1, Mem.set]; split <;> simp_all

/-! ### a slice that is a part of its own -/
/-- the slice's own block, all of it, and no more; nothing for a slice that is nil -/
def OwnP (p : Mem) (e : TypeId) (size : Nat) (v : Value) (l : List Value) : Prop := Own p e size v l ∧ ∀ x o, p x = some o → blkV v = some x
theorem OwnP.nil (e : TypeId) (size : Nat) : OwnP emp e size (.slice none 0 0) [] := ⟨.inl ⟨rfl, rfl⟩, fun _ _ h => by cases h⟩
section
variable {P : Program} {T : Tab}
theorem buildSlice0_spec (hT : TabOk P T) {t e : TypeId} {ti ei : TI} (ht : T t = some ti) (hk : ti.k = .slice e) (he : T e = some ei) {m : Mem} :
    PrimSpec P (.buildSlice t 0 []) [] m fun r m' => ∃ b, m b = none ∧ r = [.v (.slice (some ⟨b, 0, none⟩) 0 0)] ∧ m' = m.set b (.cells #[] e) := by
  intro hok ty W hW
  obtain ⟨j, hj, hjs, _, z, hz, hzc⟩ := (hT e ei he).inf
  have hu := (hT t ti ht).slice hk
  refine ⟨[.v (.slice (some ⟨W.heap.size, 0, none⟩) 0 0)], m.set W.heap.size (.cells #[] e), W.alloc (.cells #[] e), ?_, ?_, ⟨W.heap.size, hW.none (Nat.le_refl _), rfl, rfl⟩, (After.refl hW).alloc _⟩
  · simp [Prim.run, Prim.out, Prim.tup, cond_false, resVal, CV.val, Instr.buildSlice, run_underlying hu, sizeOf, typeInfo, hj, newRow, Instr.fill]
    have e0 : Array.map (fun _ : Nat => (default : Value)) (Array.range 0) = #[] := by apply Array.ext' ; simp
    exact congrArg (fun c => W.alloc (Obj.cells c e)) e0
  · intro x hx
    simp at hx; subst hx; rfl
/-- append onto a slice that is a part of its own, of what lies in another -/
theorem append_part (hT : TabOk P T) {t e tx : TypeId} {ti ei xi : TI} (ht : T t = some ti) (hk : ti.k = .slice e) (he : T e = some ei) (hx : T tx = some xi) (hz : (LB.cells ei.zero).length = ei.size) {v x : Value} {l news : List Value} {m p : Mem} {rest : List Mem}
    (hs : Split m (p :: rest)) (hv : OwnP p e ei.size v l) (hg : Gives m ei.size xi.k x news) (hbig : (2 * (lenV v + lenV x) + 768) * ei.bytes ≤ 281474976710656) (hb1 : lenV v + lenV x ≤ 9223372036854775807) :
    PrimSpec P (.builtin .append [t, tx]) [.v v, .v x] m fun r m' => ∃ v' p', r = [.v v'] ∧ Split m' (p' :: rest) ∧ OwnP p' e ei.size v' (l ++ news) ∧ lenV v' = lenV v + lenV x := by
  have hown : Own m e ei.size v l := hv.1.sub (hs.sub (by simp))
  intro ha ty W hW
  obtain ⟨r, m', W', h1, h2, ⟨v', rfl, hap⟩, h4⟩ := append_spec hT ht hk he hx hz hown hg hbig hb1 ha ty W hW
  -- the part behind it: the block of v'
  have hp := List.pairwise_cons.1 hs.2
  obtain ⟨p', hp1, hp2, hp3⟩ : ∃ p' : Mem, Own p' e ei.size v' (l ++ news) ∧ (∀ x o, p' x = some o → blkV v' = some x ∧ m' x = some o) ∧ True := by
    refine ⟨fun x => if blkV v' = some x then m' x else none, ?_, fun x o hx => ?_, trivial⟩
    · exact hap.own.keep fun b hb => by simp [hb]
    · simp only at hx
      by_cases e' : blkV v' = some x
      · rw [if_pos e'] at hx; exact ⟨e', hx⟩
      · rw [if_neg e'] at hx; cases hx
  have hdj : (p' :: rest).Pairwise Dj := by
    rw [List.pairwise_cons]
    refine ⟨fun a haa x => ?_, hp.2⟩
    cases hx : p' x with
    | none => exact .inl rfl
    | some o =>
      refine .inr ?_
      obtain ⟨q1, q2⟩ := hp2 x o hx
      rcases hap.new x q1 with h' | h'
      · -- the old block: of p
        rcases hv.1 with ⟨rfl, _⟩ | ⟨b, o', c, n, arr, rfl, hb, _⟩
        · simp [blkV] at h'
        · simp only [blkV, Option.some.injEq] at h'
          subst h'
          rcases hp.1 a haa b with h'' | h''
          · rw [hb] at h''; cases h''
          · exact h''
      · exact hs.none h' a (by simp [haa])
  refine ⟨[.v v'], allM (p' :: rest), W', h1, h2, ⟨v', p', rfl, ⟨Sub.refl _, hdj⟩, ⟨hp1, fun x o hx => (hp2 x o hx).1⟩, hap.len⟩, ?_⟩
  refine h4.forget fun x o hx => ?_
  obtain ⟨a, haa, hax⟩ := allM_some hx
  rcases List.mem_cons.1 haa with rfl | haa
  · exact (hp2 x o hax).2
  · refine hap.keep x o (hs.get (by simp [haa]) hax) fun hb => ?_
    rcases hv.1 with ⟨rfl, _⟩ | ⟨b, o', c, n, arr, rfl, hb', _⟩
    · simp [blkV] at hb
    · simp only [blkV, Option.some.injEq] at hb
      subst hb
      rcases hp.1 a haa b with h'' | h''
      · rw [hb'] at h''; cases h''
      · rw [hax] at h''; cases h''
end
end Go.E

/-
  More operations: bytes of a constant text; copies.
-/
namespace Go.E
section
variable {P : Program} {T : Tab}
theorem After.setObj {m : Mem} {W : World} (hW : Over m W) {b : Nat} {o : Obj} (hb : m b = some o) {o' : Obj} {h : Array Obj} (hs : h.size = W.heap.size) (h1 : h[b]? = some o') (h2 : ∀ x, x ≠ b → h[x]? = W.heap[x]?) :
    After m W (m.set b o') { W with heap := h } := by
  refine ⟨fun x u hx => ?_, by show W.heap.size ≤ h.size; omega, rfl, rfl, rfl, fun x hx hm => ?_⟩
  · by_cases e : x = b
    · subst e; rw [Mem.set_same] at hx; cases hx; exact h1
    · rw [Mem.set_ne _ _ e] at hx; exact (h2 x e).trans (hW x u hx)
  · have e : x ≠ b := fun e => by subst e; rw [hb] at hm; cases hm
    exact ⟨by rw [Mem.set_ne _ _ e]; exact hm, h2 x e⟩
/-- the bytes of a constant text: a row that was laid, marked -/
theorem convConst_spec (hT : TabOk P T) {t e : TypeId} {ti ei : TI} (ht : T t = some ti) (hk : ti.k = .slice e) (he : T e = some ei) (hek : ei.k = .int .u8) {m : Mem} {b n c : Nat} {C : Array Value} (hb : m b = some (.cells C e)) :
    PrimSpec P (.conv t t) [.v (.slice (some ⟨b, 0, none⟩) n c)] m fun r m' => r = [.v (.slice (some ⟨b, 0, none⟩) n c)] ∧ m' = m.set b (.cells C e (C.size, C.size + 1)) := by
  intro hok ty W hW
  have hu := (hT t ti ht).slice hk
  have hue : P.underlying e = some (.int .u8) := by
    obtain ⟨d, h1, h2⟩ := (hT e ei he).desc
    rw [hek] at h2
    cases d <;> simp [TK.of] at h2
    rw [h1, h2]
  have hWb := hW _ _ hb
  have hlt : b < W.heap.size := hW.lt hb
  have hsh : W.shape? b = some (e, C.size) := by unfold World.shape?; rw [hWb]
  refine ⟨_, _, W.freeze ⟨b, C.size, none⟩ 1, ?_, ?_, ⟨rfl, rfl⟩, ?_⟩
  · simp [Prim.run, Prim.out, Prim.tup, cond_false, resVal, CV.val, convert, run_underlying hu, run_underlying hue, markStringish, hsh]
  · intro x hx
    simp at hx; subst hx; rfl
  · unfold World.freeze
    rw [if_neg (by decide)]
    refine After.setObj hW hb (by simp) ?_ ?_
    · rw [Array.getElem?_modify]; simp [hWb]
    · intro x hx
      rw [Array.getElem?_modify]; simp [Ne.symm hx]
end
end Go.E

/-
  Memory in parts, by their places in a list: what one part's call or operation leaves of the others.
-/
namespace Go.E

theorem erase_perm {α : Type} : ∀ (l : List α) (i : Nat) (a : α), l[i]? = some a → (a :: l.eraseIdx i).Perm l
  | [], _, _, h => by simp at h
  | x :: l, 0, a, h => by simp at h; subst h; exact .refl _
  | x :: l, i + 1, a, h => by
    simp only [List.eraseIdx_cons_succ]
    exact (List.Perm.swap x a _).trans ((erase_perm l i a (by simpa using h)).cons x)
theorem set_perm {α : Type} : ∀ (l : List α) (i : Nat) (a : α), i < l.length → (l.set i a).Perm (a :: l.eraseIdx i)
  | [], _, _, h => by simp at h
  | x :: l, 0, a, h => .refl _
  | x :: l, i + 1, a, h => by
    simp only [List.eraseIdx_cons_succ, List.set_cons_succ]
    exact ((set_perm l i a (by simpa using h)).cons x).trans (List.Perm.swap a x _)
theorem Split.pick {m : Mem} {l : List Mem} (h : Split m l) {i : Nat} {a : Mem} (hi : l[i]? = some a) : Split m (a :: l.eraseIdx i) := by
  exact h.perm (erase_perm l i a hi).symm
theorem Split.unpick {m : Mem} {l : List Mem} {i : Nat} {a p : Mem} (hi : l[i]? = some p) (h : Split m (a :: l.eraseIdx i)) : Split m (l.set i a) :=
  h.perm (set_perm l i a (List.getElem?_eq_some_iff.1 hi).1).symm
theorem Split.at {m : Mem} {l : List Mem} (h : Split m l) {i : Nat} {p : Mem} (hi : l[i]? = some p) : Sub p m := h.sub (List.mem_of_getElem? hi)
theorem setGet {α : Type} {l : List α} {i : Nat} {p : α} (h : l[i]? = some p) (q : α) : (l.set i q)[i]? = some q := List.getElem?_set_self (List.getElem?_eq_some_iff.1 h).1
theorem setOther {α : Type} {l : List α} {i j : Nat} {p : α} (h : l[j]? = some p) (hij : i ≠ j) (q : α) : (l.set i q)[j]? = some p := by rw [List.getElem?_set_ne hij]; exact h
theorem setSame {α : Type} : ∀ {l : List α} {i : Nat} {p : α}, l[i]? = some p → l.set i p = l
  | [], _, _, h => by simp at h
  | x :: l, 0, p, h => by simp at h; subst h; rfl
  | x :: l, i + 1, p, h => by rw [List.set_cons_succ, setSame (by simpa using h)]
theorem Split.setAt {m : Mem} {l : List Mem} (h : Split m l) {i : Nat} {p : Mem} (hi : l[i]? = some p) {b : Nat} {o : Obj} (hb : p b = some o) (o' : Obj) : Split (m.set b o') (l.set i (p.set b o')) :=
  Split.unpick hi ((h.pick hi).set hb o')
theorem Spec.at {P : Program} {f : FuncId} {args : List CV} {m p : Mem} {l : List Mem} {i : Nat} {R : List CV → Mem → Prop} (hs : Split m l) (hi : l[i]? = some p) (h : Spec P f args p R) :
    Spec P f args m fun r m' => ∃ p', R r p' ∧ Split m' (l.set i p') :=
  (h.frame (hs.pick hi)).mono fun _ _ ⟨p', h1, h2⟩ => ⟨p', h1, Split.unpick hi h2⟩
theorem Spec.new {P : Program} {f : FuncId} {args : List CV} {m : Mem} {l : List Mem} {R : List CV → Mem → Prop} (hs : Split m l) (h : Spec P f args emp R) :
    Spec P f args m fun r m' => ∃ p, R r p ∧ Split m' (p :: l) := h.frame hs.addEmp
theorem PrimSpec.at {P : Program} {p : Prim} {args : List CV} {m q : Mem} {l : List Mem} {i : Nat} {R : List CV → Mem → Prop} (hs : Split m l) (hi : l[i]? = some q) (h : PrimSpec P p args q R) :
    PrimSpec P p args m fun r m' => ∃ q', R r q' ∧ Split m' (l.set i q') := fun ha ty W hW =>
  let ⟨r, m', W', h1, h2, ⟨q', h3, h4⟩, h5⟩ := h.frame (hs.pick hi) ha ty W hW
  ⟨r, m', W', h1, h2, ⟨q', h3, Split.unpick hi h4⟩, h5⟩
theorem PrimSpec.mono {P : Program} {p : Prim} {args : List CV} {m : Mem} {R R' : List CV → Mem → Prop} (h : PrimSpec P p args m R) (k : ∀ r m', R r m' → R' r m') : PrimSpec P p args m R' := fun ha ty W hW =>
  let ⟨r, m', W', h1, h2, h3, h4⟩ := h ha ty W hW
  ⟨r, m', W', h1, h2, k _ _ h3, h4⟩
/-- what is behind it knows more parts -/
theorem Split.under {m m' : Mem} {a l : List Mem} (h : Split m' (a ++ [m])) (hs : Split m l) : Split m' (a ++ l) := by
  obtain ⟨h1, h2⟩ := h
  rw [List.pairwise_append] at h2
  refine ⟨fun x o hx => ?_, ?_⟩
  · obtain ⟨c, hc, hcx⟩ := allM_some hx
    rcases List.mem_append.1 hc with hc | hc
    · exact h1 _ _ (allM_of (List.pairwise_append.2 h2) (by simp [hc]) hcx)
    · exact h1 _ _ (allM_of (List.pairwise_append.2 h2) (a := m) (by simp) (hs.get hc hcx))
  · rw [List.pairwise_append]
    refine ⟨h2.1, hs.2, fun x hx y hy z => ?_⟩
    rcases h2.2.2 x hx m (by simp) z with h' | h'
    · exact .inl h'
    · exact .inr (hs.none h' y hy)
/-- a part may be left out; a part is read -/
theorem Split.take {m : Mem} {l : List Mem} (h : Split m l) {i : Nat} {p : Mem} (hi : l[i]? = some p) : Split m [p] :=
  ⟨fun x o hx => by
    obtain ⟨a, ha, hax⟩ := allM_some hx
    rw [List.mem_singleton.1 ha] at hax
    exact h.at hi _ _ hax, by simp⟩
theorem Split.flat {m q : Mem} {l ls : List Mem} {i : Nat} (hs : Split m l) (hi : l[i]? = some q) (h : Split q ls) : Split m (ls ++ l.eraseIdx i) := by
  have hp := hs.pick hi
  have hd := List.pairwise_cons.1 hp.2
  refine ⟨fun x o hx => ?_, ?_⟩
  · obtain ⟨c, hc, hcx⟩ := allM_some hx
    rcases List.mem_append.1 hc with hc | hc
    · exact hs.at hi _ _ (h.get hc hcx)
    · exact hp.get (by simp [hc]) hcx
  · rw [List.pairwise_append]
    refine ⟨h.2, hd.2, fun a ha b hb x => ?_⟩
    rcases hd.1 b hb x with h' | h'
    · exact .inl (h.none h' a ha)
    · exact .inr h'
theorem Split.erase {m : Mem} {l : List Mem} (h : Split m l) (i : Nat) : Split m (l.eraseIdx i) := by
  by_cases hi : i < l.length
  · exact (h.pick (i := i) (List.getElem?_eq_getElem hi)).drop
  · rw [List.eraseIdx_of_length_le (by omega)]; exact h
section
variable {P : Program} {T : Tab}
/-- append onto a slice of the part i -/
theorem append_at (hT : TabOk P T) {t e tx : TypeId} {ti ei xi : TI} (ht : T t = some ti) (hk : ti.k = .slice e) (he : T e = some ei) (hx : T tx = some xi) (hz : (LB.cells ei.zero).length = ei.size) {v x : Value} {c news : List Value} {m p : Mem} {l : List Mem} {i : Nat}
    (hs : Split m l) (hi : l[i]? = some p) (hv : Own p e ei.size v c) (hg : Gives m ei.size xi.k x news) (hbig : (2 * (lenV v + lenV x) + 768) * ei.bytes ≤ 281474976710656) (hb1 : lenV v + lenV x ≤ 9223372036854775807) :
    PrimSpec P (.builtin .append [t, tx]) [.v v, .v x] m fun r m' => ∃ v' p', r = [.v v'] ∧ Split m' (l.set i p') ∧ Apd p e ei.size v (c ++ news) (lenV x) v' p' := by
  have hown : Own m e ei.size v c := hv.sub (hs.at hi)
  intro ha ty W hW
  obtain ⟨r, m', W', h1, h2, ⟨v', rfl, hap⟩, h4⟩ := append_spec hT ht hk he hx hz hown hg hbig hb1 ha ty W hW
  have hs' := hs.pick hi
  have hp := List.pairwise_cons.1 hs'.2
  have hvb : ∀ b, blkV v = some b → ∃ o, p b = some o := by
    intro b hb
    rcases hv with ⟨rfl, _⟩ | ⟨b', o', c, n, arr, rfl, hb', _⟩
    · simp [blkV] at hb
    · simp only [blkV, Option.some.injEq] at hb; subst hb; exact ⟨_, hb'⟩
  let p' : Mem := fun x => if blkV v' = some x then m' x else if blkV v = some x then none else p x
  have hp' : ∀ x o, p' x = some o → m' x = some o ∧ (blkV v' = some x ∨ p x = some o) := by
    intro x o hx
    simp only [p'] at hx
    by_cases e1 : blkV v' = some x
    · rw [if_pos e1] at hx; exact ⟨hx, .inl e1⟩
    · rw [if_neg e1] at hx
      by_cases e2 : blkV v = some x
      · rw [if_pos e2] at hx; cases hx
      · rw [if_neg e2] at hx
        exact ⟨hap.keep x o (hs.at hi _ _ hx) e2, .inr hx⟩
  have hdj : (p' :: l.eraseIdx i).Pairwise Dj := by
    rw [List.pairwise_cons]
    refine ⟨fun a haa x => ?_, hp.2⟩
    cases hx : p' x with
    | none => exact .inl rfl
    | some o =>
      refine .inr ?_
      obtain ⟨_, q | q⟩ := hp' x o hx
      · rcases hap.new x q with h' | h'
        · obtain ⟨u, hu⟩ := hvb x h'
          rcases hp.1 a haa x with h'' | h''
          · rw [hu] at h''; cases h''
          · exact h''
        · exact hs'.none h' a (by simp [haa])
      · rcases hp.1 a haa x with h'' | h''
        · rw [q] at h''; cases h''
        · exact h''
  refine ⟨[.v v'], allM (p' :: l.eraseIdx i), W', h1, h2, ⟨v', p', rfl, Split.unpick hi ⟨Sub.refl _, hdj⟩, ?_, ?_, ?_, hap.len⟩, ?_⟩
  · exact hap.own.keep fun b hb => by simp [p', hb]
  · intro b o hb hne
    simp only [p']
    by_cases e1 : blkV v' = some b
    · rw [if_pos e1]; exact hap.keep b o (hs.at hi _ _ hb) hne
    · rw [if_neg e1, if_neg hne]; exact hb
  · intro b hb
    rcases hap.new b hb with h' | h'
    · exact .inl h'
    · exact .inr (hs'.none h' p (by simp))
  · refine h4.forget fun x o hx => ?_
    obtain ⟨a, haa, hax⟩ := allM_some hx
    rcases List.mem_cons.1 haa with rfl | haa
    · exact (hp' x o hax).1
    · refine hap.keep x o (hs'.get (by simp [haa]) hax) fun hb => ?_
      obtain ⟨u, hu⟩ := hvb x hb
      rcases hp.1 a haa x with h'' | h''
      · rw [hu] at h''; cases h''
      · rw [hax] at h''; cases h''
end
/-! ### bytes -/
def bc (l : List Int) : List Value := l.map (Value.int .u8)
theorem bc_append (a b : List Int) : bc (a ++ b) = bc a ++ bc b := by simp [bc]
theorem bc_length (a : List Int) : (bc a).length = a.length := by simp [bc]
theorem bc_inj {a b : List Int} (h : bc a = bc b) : a = b := by
  have := congrArg (List.map (fun v => match v with | Value.int _ n => n | _ => 0)) h
  simpa [bc, Function.comp_def] using this
theorem bc_one {a : List Int} : ∀ u ∈ bc a, u.oneCell' = true := by
  intro u hu; simp only [bc, List.mem_map] at hu; obtain ⟨a, _, rfl⟩ := hu; rfl
theorem bc_at {a : List Int} {j : Nat} {u : Value} (h : (bc a)[j]? = some u) : ∃ n, a[j]? = some n ∧ u = .int .u8 n := by
  simp only [bc, List.getElem?_map, Option.map_eq_some_iff] at h
  obtain ⟨n, h1, rfl⟩ := h; exact ⟨n, h1, rfl⟩
/-- bytes that lie somewhere -/
def Lb (m : Mem) (v : Value) (l : List Int) : Prop := Lies m 1 v (bc l)
theorem Lb.len {m : Mem} {v : Value} {l : List Int} (h : Lb m v l) : lenV v = l.length := by have := Lies.len h; rw [bc_length] at this; omega
theorem Lb.sub {m m' : Mem} {v : Value} {l : List Int} (h : Lb m v l) (hs : Sub m m') : Lb m' v l := Lies.sub h hs
theorem Lb.nil (m : Mem) (c : Nat) : Lb m (.slice none 0 c) [] := .inl ⟨c, rfl, rfl⟩
theorem Lb.one {m : Mem} {v : Value} {l : List Int} (h : Lb m v l) : v.oneCell' = true := Lies.one h
theorem Lb.cases {m : Mem} {v : Value} {l : List Int} (h : Lb m v l) : (∃ c, v = .slice none 0 c ∧ l = []) ∨ ∃ b o c arr t fr, v = .slice (some ⟨b, o, none⟩) l.length c ∧ m b = some (.cells arr t fr) ∧ l.length ≤ c ∧ (∀ j n, l[j]? = some n → arr[o + j]? = some (.int .u8 n)) := by
  rcases h with ⟨c, rfl, h⟩ | ⟨b, o, c, n, arr, t, fr, rfl, h1, h2, h3, h4, h5⟩
  · exact .inl ⟨c, rfl, by simpa [bc] using h⟩
  · rw [bc_length, Nat.mul_one] at h2
    subst h2
    exact .inr ⟨b, o, c, arr, t, fr, rfl, h1, h3, fun j n hj => h4 j _ (by simp [bc, hj])⟩
theorem Lb.shape {m : Mem} {v : Value} {l : List Int} (h : Lb m v l) : ∃ a c, v = .slice a l.length c := by
  rcases h.cases with ⟨c, rfl, rfl⟩ | ⟨b, o, c, arr, t, fr, rfl, _⟩ <;> exact ⟨_, _, rfl⟩
theorem Lb.real {m : Mem} {v : Value} {l : List Int} (h : Lb m v l) (hl : l ≠ []) : ∃ b o c, v = .slice (some ⟨b, o, none⟩) l.length c := by
  rcases h.cases with ⟨c, rfl, rfl⟩ | ⟨b, o, c, arr, t, fr, rfl, _⟩
  · exact absurd rfl hl
  · exact ⟨_, _, _, rfl⟩
theorem Lb.mk {m : Mem} {l : List Int} {b o c n : Nat} {arr : Array Value} {t : TypeId} {fr : Nat × Nat} (h1 : m b = some (.cells arr t fr)) (hn : l.length = n) (h2 : n ≤ c) (h3 : ∀ j n, l[j]? = some n → arr[o + j]? = some (.int .u8 n)) : Lb m (.slice (some ⟨b, o, none⟩) n c) l :=
  .inr ⟨b, o, c, n, arr, t, fr, rfl, h1, by rw [bc_length, hn, Nat.mul_one], h2, fun j u hu => by obtain ⟨n, h4, rfl⟩ := bc_at hu; exact h3 j n h4, bc_one⟩
/-- the text that they make -/
theorem Lb.range {m : Mem} {b o c n : Nat} {l : List Int} (h : Lb m (.slice (some ⟨b, o, none⟩) n c) l) : MRange m b o (l.map (Value.int .u8)) := by
  rcases h with ⟨c', h, _⟩ | ⟨b', o', c', n', arr, t, fr, h, h1, h2, h3, h4, h5⟩
  · cases h
  · cases h; exact ⟨arr, t, fr, h1, h4⟩
theorem mcell_of {m : Mem} {b off : Nat} {arr : Array Value} {t : TypeId} {fr : Nat × Nat} {v : Value} (h : m b = some (.cells arr t fr)) (hv : arr[off]? = some v) : mcell m b off = some v := by simp only [mcell, h]; exact hv
theorem mcell_sub {m m' : Mem} {b o : Nat} {v : Value} (h : mcell m b o = some v) (hs : Sub m m') : mcell m' b o = some v := by
  unfold mcell at h ⊢
  cases hb : m b with
  | none => simp [hb] at h
  | some u => rw [hb] at h; rw [hs _ _ hb]; exact h
theorem mid_at {A c B : List Value} {off j : Nat} {u : Value} (hA : A.length = off) (hu : c[j]? = some u) : (A ++ (c ++ B)).toArray[off + j]? = some u := by
  have := (List.getElem?_eq_some_iff.1 hu).1
  rw [List.getElem?_toArray, ← hA, List.getElem?_append_right (by omega), Nat.add_sub_cancel_left, List.getElem?_append_left this]
  exact hu
theorem MRange.sub {m m' : Mem} {b o : Nat} {l : List Value} (h : MRange m b o l) (hs : Sub m m') : MRange m' b o l := by
  obtain ⟨arr, t, fr, h1, h2⟩ := h
  exact ⟨arr, t, fr, hs _ _ h1, h2⟩
theorem MRange.mid (A B : LB) {c : LB} {m : Mem} {b off : Nat} {t : TypeId} {fr : Nat × Nat} (h : m b = some (.cells (LB.cells (A ++ (c ++ B))).toArray t fr)) (hA : (LB.cells A).length = off) : MRange m b off (LB.cells c) :=
  ⟨_, _, _, h, fun j u hu => by rw [LB.cells_append, LB.cells_append]; exact mid_at hA hu⟩
theorem Lb.blkf {m : Mem} {b n : Nat} {l : List Int} {t : TypeId} {fr : Nat × Nat} (h : m b = some (.cells (bc l).toArray t fr)) (hn : l.length = n) : Lb m (.slice (some ⟨b, 0, none⟩) n n) l :=
  Lb.mk h hn (Nat.le_refl _) fun j n hj => by simp [bc, hj]
theorem Lb.ofRange {m : Mem} {b o n c k : Nat} {l : List Int} (h : MRange m b o (LB.cells [.ints .u8 k l])) (hn : l.length = n) (hc : n ≤ c) : Lb m (.slice (some ⟨b, o, none⟩) n c) l := by
  obtain ⟨arr, t, fr, h1, h2⟩ := h
  exact Lb.mk h1 hn hc fun j u hu => h2 j _ (by simp [LB.cells, Seg.cells, hu])
/-- bytes that lie somewhere; or none, wherever -/
def La (m : Mem) (v : Value) (l : List Int) : Prop := Lb m v l ∨ (l = [] ∧ ∃ a, v = .slice (some a) 0 0)
theorem Lb.la {m : Mem} {v : Value} {l : List Int} (h : Lb m v l) : La m v l := .inl h
theorem La.sub {m m' : Mem} {v : Value} {l : List Int} (h : La m v l) (hs : Sub m m') : La m' v l := h.imp (·.sub hs) id
theorem La.shape {m : Mem} {v : Value} {l : List Int} (h : La m v l) : ∃ a c, v = .slice a l.length c := by
  rcases h with h | ⟨rfl, a, rfl⟩
  · exact h.shape
  · exact ⟨_, _, rfl⟩
theorem La.len {m : Mem} {v : Value} {l : List Int} (h : La m v l) : lenV v = l.length := by obtain ⟨a, c, rfl⟩ := h.shape; rfl
theorem La.one {m : Mem} {v : Value} {l : List Int} (h : La m v l) : v.oneCell' = true := by obtain ⟨a, c, rfl⟩ := h.shape; rfl
theorem La.gives {m : Mem} {v : Value} {l : List Int} {e : TypeId} (h : La m v l) : Gives m 1 (.slice e) v (bc l) := .inl ⟨e, rfl, h.imp id fun ⟨h1, h2⟩ => ⟨by rw [h1]; rfl, h2⟩⟩
theorem La.lb {m : Mem} {v : Value} {l : List Int} (h : La m v l) (hl : l ≠ []) : Lb m v l := h.elim id fun h => absurd h.1 hl
/-! ### texts -/
def by8 (l : List Int) : List UInt8 := l.map fun n => UInt8.ofNat n.toNat
theorem strOf_acc : ∀ (l : List Int) (r : ByteArray), (l.foldl (fun r n => r.push (UInt8.ofNat n.toNat)) r).data.toList = r.data.toList ++ by8 l
  | [], r => by simp [by8]
  | x :: l, r => by
    simp only [List.foldl_cons]
    rw [strOf_acc l]
    simp [by8, ByteArray.push]
theorem strOf_data (l : List Int) : (strOf l).data.toList = by8 l := by
  rw [strOf, strOf_acc]; rfl
theorem strOf_list (l : List Int) : (strOf l).toList = by8 l := by rw [ByteArray.toList_eq, strOf_data]
theorem by8_inj : ∀ {a b : List Int}, (∀ x ∈ a, 0 ≤ x ∧ x < 256) → (∀ x ∈ b, 0 ≤ x ∧ x < 256) → by8 a = by8 b → a = b
  | [], [], _, _, _ => rfl
  | [], _ :: _, _, _, h => by simp [by8] at h
  | _ :: _, [], _, _, h => by simp [by8] at h
  | x :: a, y :: b, ha, hb, h => by
    simp only [by8, List.map_cons, List.cons.injEq] at h
    have hx := ha x (by simp)
    have hy := hb y (by simp)
    have e := congrArg UInt8.toNat h.1
    rw [UInt8.toNat_ofNat', UInt8.toNat_ofNat'] at e
    have := by8_inj (fun z hz => ha z (by simp [hz])) (fun z hz => hb z (by simp [hz])) h.2
    rw [this, show x = y by omega]
theorem lit_list (l : List UInt8) : (⟨l.toArray⟩ : ByteArray).toList = l := by rw [ByteArray.toList_eq]
abbrev ptrV (b : Nat) : CV := .v (.pointer (some ⟨b, 0, none⟩))
abbrev nilP : CV := .v (.pointer none)
end Go.E

/-
  The library's contracts for numbers and texts, of memory that is owned: strconv.Itoa, strconv.Atoi, strings.Repeat, strings.CutPrefix.
-/
namespace Go.E.YtgjlajcebcmbaaaGreatDoor
open Go.Proofs Go.RowKit
set_option maxRecDepth 100000
theorem after_below {m : Mem} {W W' : World} (hW : Over m W) (h : Below W.heap.size W W') : After m W m W' := by
  refine ⟨fun b o hb => ?_, h.size, h.tape, h.os, h.output, fun b hb hm => ⟨hm, h.block b hb⟩⟩
  rw [h.block b (hW.lt hb)]; exact hW b o hb
theorem after_grow {m : Mem} {W : World} (hW : Over m W) (k : Nat) (os : Array Obj) : After m W m (Sort.grow (W.drewN k) os) := by
  have e : ∀ b, b < W.heap.size → (Sort.grow (W.drewN k) os).heap[b]? = W.heap[b]? := fun b hb => by
    show (W.heap ++ os)[b]? = _
    rw [Array.getElem?_append_left hb]
  refine ⟨fun b o hb => ?_, ?_, rfl, rfl, rfl, fun b hb hm => ⟨hm, e b hb⟩⟩
  · rw [e b (hW.lt hb)]; exact hW b o hb
  · show W.heap.size ≤ (W.heap ++ os).size
    rw [Array.size_append]; omega
theorem after_same {m : Mem} {W W' : World} (hW : Over m W) (h : W' = W) : After m W m W' := by subst h; exact After.refl hW
theorem enters_fn {f : FuncId} {fn : Func} (h1 : Tryz.prog.funcs[f]? = some fn) (h2 : (fn.name == "runtime.NumGoroutine") = false) (h3 : fn.body.isSome = true) : Enters Tryz.prog f := fun args w => by
  obtain ⟨c, h3⟩ := Option.isSome_iff_exists.1 h3
  have hn' : ¬ fn.name = "runtime.NumGoroutine" := by simpa using h2
  simp [callFunc, h1, h3, hn']
/-- the package variables that the library reads -/
structure Glob (m : Mem) : Prop where
  syn : ∃ tp p T fr, m 0 = some (.cells #[.iface tp p] T fr)
  rng : ∃ tp p T fr, m 1 = some (.cells #[.iface tp p] T fr)
  tab : ∃ T fr, m 2 = some (.cells (Lib.pow10Tab.map fun z => Value.int .u64 z).toArray T fr)
theorem Glob.sub {m m' : Mem} (h : Glob m) (hs : Sub m m') : Glob m' := by
  obtain ⟨⟨a, b, c, d, h1⟩, ⟨a', b', c', d', h2⟩, ⟨e, f, h3⟩⟩ := h
  exact ⟨⟨a, b, c, d, hs _ _ h1⟩, ⟨a', b', c', d', hs _ _ h2⟩, ⟨e, f, hs _ _ h3⟩⟩
theorem gSyn : Tryz.prog.globalNamed "strconv.ErrSyntax" = some 0 := by kernel_rfl
theorem gRng : Tryz.prog.globalNamed "strconv.ErrRange" = some 1 := by kernel_rfl
theorem gTab : Tryz.prog.globalNamed "internal/strconv.uint64pow10" = some 2 := by kernel_rfl
theorem varOf {m : Mem} {W : World} (hW : Over m W) {name : String} {g : Nat} {cs : Array Value} {T : TypeId} {fr : Nat × Nat} (hg : Tryz.prog.globalNamed name = some g) (h : m g = some (.cells cs T fr)) : W.var? Tryz.prog name = some cs := by
  unfold World.var?
  rw [hg]
  simp only [Option.bind_some, hW _ _ h]
theorem itoa_spec {m : Mem} (hg : Glob m) {n : Int} (h0 : -9223372036854775808 ≤ n) (h1 : n ≤ 9223372036854775807) : Ret Tryz.prog 30 [.v (.int .i64 n)] m [.v (.string ⟨(Lib.itoa n).toArray⟩)] := by
  obtain ⟨T, fr, ht⟩ := hg.tab
  refine ⟨enters_fn Tryz.func30 (by kernel_rfl) (by kernel_rfl), fun _ W hW => ?_⟩
  exact (Tryz.strconv_Itoa n h0 h1 W (varOf hW gTab ht)).mono fun e W' ⟨h2, k, os, h3⟩ => ⟨[.v (.string ⟨(Lib.itoa n).toArray⟩)], m, h2, by intro x hx; simp at hx; subst hx; rfl, ⟨rfl, rfl⟩, by subst h3; exact after_grow hW k os⟩
theorem repeat_spec {m : Mem} {s : ByteArray} {c : Nat} (h : s.size * c ≤ 1000000) (hc : c ≤ 1000000) : Ret Tryz.prog 31 [.v (.string s), .v (.int .i64 c)] m [.v (.string ⟨(Lib.repeatL s.data.toList c).toArray⟩)] := by
  refine ⟨enters_fn Tryz.func31 (by kernel_rfl) (by kernel_rfl), fun _ W hW => ?_⟩
  exact (Tryz.strings_Repeat s c W (by omega) (by omega)).mono fun e W' ⟨h2, h3⟩ => ⟨[.v (.string ⟨(Lib.repeatL s.data.toList c).toArray⟩)], m, h2, by intro x hx; simp at hx; subst hx; rfl, ⟨rfl, rfl⟩, after_below hW h3⟩
theorem cutPrefix_spec {m : Mem} {s p : ByteArray} : Ret Tryz.prog 32 [.v (.string s), .v (.string p)] m [.v (.string ⟨(Lib.trimPrefix s.data.toList p.data.toList).toArray⟩), .v (.bool (Lib.hasPrefix s.data.toList p.data.toList))] := by
  refine ⟨enters_fn Tryz.func32 (by kernel_rfl) (by kernel_rfl), fun _ W hW => ?_⟩
  exact (Tryz.strings_CutPrefix s p W).mono fun e W' ⟨h2, h3⟩ => ⟨[.v (.string ⟨(Lib.trimPrefix s.data.toList p.data.toList).toArray⟩), .v (.bool (Lib.hasPrefix s.data.toList p.data.toList))], m, h2, by intro x hx; simp at hx; rcases hx with rfl | rfl <;> rfl, ⟨rfl, rfl⟩, after_same hW h3⟩
/-- how Atoi ends -/
def AtoiR (s : ByteArray) (r : List CV) : Prop := match Lib.atoiAll s.data.toList with
  | .ok v => r = [.v (.int .i64 v), .v .nilIface]
  | _ => ∃ n te pe, r = [.v (.int .i64 n), .v (.iface te pe)]
theorem atoi_spec {m : Mem} (hg : Glob m) {s : ByteArray} (hs : s.size ≤ 1000000) : Spec Tryz.prog 33 [.v (.string s)] m fun r m' => AtoiR s r ∧ m' = m := by
  obtain ⟨tp, p, T, fr, h1⟩ := hg.syn
  obtain ⟨tp', p', T', fr', h2⟩ := hg.rng
  refine ⟨enters_fn Tryz.func33 (by kernel_rfl) (by kernel_rfl), fun _ W hW => ?_⟩
  unfold AtoiR
  cases h : Lib.atoiAll s.data.toList with
  | ok v =>
    refine (Tryz.strconv_Atoi_ok s (by omega) v h W).mono fun e W' ⟨e1, e2⟩ => ⟨[.v (.int .i64 v), .v .nilIface], m, e1, by intro x hx; simp at hx; rcases hx with rfl | rfl <;> rfl, ⟨rfl, rfl⟩, ?_⟩
    rcases e2 with rfl | ⟨t, rfl⟩
    · exact After.refl hW
    · exact after_below hW (Lib.bytesWorld_below _ _ _)
  | range =>
    refine (Tryz.strconv_Atoi_range_var s (by omega) h tp' p' W (varOf hW gRng h2)).mono fun e W' ⟨N, e1, _, _, e2⟩ => ⟨[.v (.int .i64 _), .v (.iface _ (.pointer (some ⟨N, 0, none⟩)))], m, e1, by intro x hx; simp at hx; rcases hx with rfl | rfl <;> rfl, ⟨⟨_, _, _, rfl⟩, rfl⟩, after_below hW e2⟩
  | _ =>
    refine (Tryz.strconv_Atoi_syntax_var s (by omega) h tp p W (varOf hW gSyn h1)).mono fun e W' ⟨N, e1, _, _, e2⟩ => ⟨[.v (.int .i64 0), .v (.iface _ (.pointer (some ⟨N, 0, none⟩)))], m, e1, by intro x hx; simp at hx; rcases hx with rfl | rfl <;> rfl, ⟨⟨_, _, _, rfl⟩, rfl⟩, after_below hW e2⟩
end Go.E.YtgjlajcebcmbaaaGreatDoor

/-
  More operations: copy.
-/
namespace Go.E
section
variable {P : Program} {T : Tab}
theorem Mem.set_same_eq {m : Mem} {b : Nat} {o : Obj} (h : m b = some o) : m.set b o = m := by
  funext x; by_cases e : x = b
  · subst e; rw [Mem.set_same, h]
  · rw [Mem.set_ne _ _ e]
/-- copy of cells that are one each -/
theorem copy1_spec (hT : TabOk P T) {t e tx : TypeId} {ti ei : TI} (ht : T t = some ti) (hk : ti.k = .slice e) (he : T e = some ei) (hz : ei.size = 1) {m : Mem} {b o n c : Nat} {arr : Array Value} {te : TypeId} (hb : m b = some (.cells arr te)) (hfit : o + n ≤ arr.size)
    {x : Value} {news : List Value} (hx : Lies m 1 x news) :
    PrimSpec P (.builtin .copy [t, tx]) [.v (.slice (some ⟨b, o, none⟩) n c), .v x] m fun r m' => r = [.v (.int .i64 ((min news.length n : Nat) : Int))] ∧ m' = m.set b (.cells (arr.toList.take o ++ news.take n ++ arr.toList.drop (o + (news.take n).length)).toArray te) := by
  intro hok ty W hW
  obtain ⟨j, hj, hjs, _⟩ := (hT e ei he).inf
  have hu := (hT t ti ht).slice hk
  have hWb := hW _ _ hb
  rcases hx with ⟨c', rfl, rfl⟩ | ⟨b', o', c', n', arr', t', fr', rfl, h1, h2, h3, h4, h5⟩
  · refine ⟨_, _, W, ?_, ?_, ⟨rfl, rfl⟩, ?_⟩
    · simp [Prim.run, Prim.out, Prim.tup, cond_false, CV.val, resVal, Builtin.copy_, run_underlying hu, Builtin.lenOf, Builtin.firstCells, sizeOf, typeInfo, hj, storeCells]
      rfl
    · intro y hy; simp at hy; subst hy; rfl
    · simp only [List.take_nil, List.append_nil, List.length_nil, Nat.add_zero, List.take_append_drop, Array.toArray_toList]
      rw [Mem.set_same_eq hb]
      exact After.refl hW
  · have hln : n' = news.length := by omega
    subst hln
    have hr := run_copy_row (P := P) W t tx ty e b o n c ⟨b', o', none⟩ news.length c' arr te (news.take n) hu (by rw [hj]; simp [hjs, hz]) hWb (by simp [Nat.min_comm]) (fun j v hv => by
      rw [add_none, cell_at (hW _ _ h1)]
      refine h4 j v ?_
      have hl := (List.getElem?_eq_some_iff.1 hv).1
      simp only [List.length_take] at hl
      rw [List.getElem?_take, if_pos (by omega)] at hv
      exact hv) (by simp; omega) (fun v hv => h5 v (List.mem_of_mem_take hv))
    refine ⟨_, _, _, ?_, ?_, ⟨rfl, rfl⟩, (After.refl hW).setRow hb _⟩
    · simp only [Prim.run, Prim.out, Prim.tup, cond_false, List.map_cons, List.map_nil, CV.val, resVal]
      refine hr.trans ?_
      simp only [List.length_take, Nat.min_comm]
      rfl
    · intro y hy; simp at hy; subst hy; rfl
end
end Go.E

/-
  More operations: how much room there is; new room.
-/
namespace Go.E
section
variable {P : Program} {T : Tab}
theorem cap_spec (hT : TabOk P T) {t e : TypeId} {ti : TI} (ht : T t = some ti) (hk : ti.k = .slice e) {m : Mem} {a : Option Addr} {n c : Nat} :
    PrimSpec P (.builtin .cap [t]) [.v (.slice a n c)] m fun r m' => r = [.v (.int .i64 c)] ∧ m = m' := by
  intro _ ty W hW
  refine ⟨[.v (.int .i64 c)], m, W, ?_, ?_, ⟨rfl, rfl⟩, After.refl hW⟩
  · simp [Prim.run, Prim.out, Prim.tup, cond_false, CV.val, resVal, Builtin.cap_, run_underlying ((hT t ti ht).slice hk)]; rfl
  · intro x hx; simp at hx; subst hx; rfl
theorem makeFunc_spec {f : FuncId} {n : Nat} {cs : List Value} {m : Mem} (hone : ∀ x ∈ cs, x.oneCell' = true) :
    PrimSpec P (.makeFunc (.func f) n) (cs.map CV.v) m fun r m' => r = [.v (.func (.func f) (cs.take n).toArray (cs.drop n).toArray)] ∧ m = m' := by
  intro _ ty W hW
  refine ⟨[.v (.func (.func f) (cs.take n).toArray (cs.drop n).toArray)], m, W, ?_, ?_, ⟨rfl, rfl⟩, After.refl hW⟩
  · simp [Prim.run, Prim.out, Prim.tup, cond_false, CV.val, resVal, Instr.makeFunc, List.map_map, Function.comp_def]
  · intro x hx; simp at hx; subst hx; rfl
theorem int_desc {d : TypeDesc} {k : IntKind} (h : TK.of d = .int k) : d = .int k := by
  cases d <;> simp [TK.of] at h; subst h; rfl
/-- append of k zeros, where there is no room for them: a new row -/
theorem appendZeros_spec (hT : TabOk P T) {t e tn : TypeId} {ti ei ni : TI} {kn : IntKind} (ht : T t = some ti) (hk : ti.k = .slice e) (he : T e = some ei) (hn : T tn = some ni) (hkn : ni.k = .int kn) (hpos : 0 < ei.size) {m : Mem} {v : Value} {a : Option Addr} {n c k : Nat} {l : List Value}
    (hv : v = .slice a n c) (hl : Lies m ei.size v l) (h0 : 0 < k) (hg : c < n + k) (hb : (2 * (n + k) + 768) * ei.bytes ≤ 281474976710656) (hb1 : n + k ≤ 9223372036854775807) :
    PrimSpec P (.builtin .append [t, tn]) [.v v, .v (.int .i64 k)] m fun r m' => ∃ b C, m b = none ∧ n + k ≤ C ∧ r = [.v (.slice (some ⟨b, 0, none⟩) (n + k) C)] ∧
      m' = m.set b (.cells (l.toArray ++ Builtin.zeroCells (LB.cells ei.zero).toArray k ++ Builtin.zeroCells (LB.cells ei.zero).toArray (C - (n + k))) e) := by
  intro _ ty W hW
  subst hv
  obtain ⟨j, hj, hjs, hjb, z, hjz, hzc⟩ := (hT e ei he).inf
  have hsl := (hT t ti ht).slice hk
  obtain ⟨d, h1, h2⟩ := (hT tn ni hn).desc
  rw [hkn] at h2
  have hd := int_desc h2
  subst hd
  have hold : (Builtin.firstCells j.size n (.slice a n c)).run P W.drew = .ok l.toArray W.drew := by
    rw [hjs]
    rcases hl with ⟨c', e', rfl⟩ | ⟨b, o, c', n', arr, t', fr, e', g1, g2, _, g3, g4⟩
    · cases e'; simp [Builtin.firstCells]
    · cases e'
      refine run_firstCells_some W.drew ei.size n _ n c l g2 (fun i u hu => ?_)
      rw [add_none]
      have hW1 : W.drew.heap[b]? = some (.cells arr t' fr) := hW _ _ g1
      rw [cell_at hW1]
      exact g3 i u hu
  have hbk : k * ei.bytes ≤ 281474976710656 := Nat.le_trans (Nat.mul_le_mul_right _ (by omega)) hb
  have hrun := Lib.run_append_grow_zeros W t tn ty e j z .i64 kn hsl h1 hj hjz a n c l hold k h0 (by omega) hg (by omega) (by rw [hjb]; exact hbk) (by rw [hjb]; exact Nat.le_trans (Nat.mul_le_mul_right _ (nextcap_le hg)) hb)
  have hcap := grownCap_ge W (n + k) c e
  generalize grownCap W (n + k) c e = C at hrun hcap
  rw [hzc] at hrun
  exact ⟨[.v (.slice (some ⟨W.heap.size, 0, none⟩) (n + k) C)], _, _, hrun, (by intro y hy; simp at hy; subst hy; rfl), ⟨W.heap.size, C, hW.none (Nat.le_refl _), hcap, rfl, rfl⟩, (After.refl hW).drew.alloc _⟩
end
end Go.E

/-
  More operations: the bytes of a text that is no constant.
-/
namespace Go.E
/-- the bytes of a text, as numbers -/
def chs (s : ByteArray) : List Nat := s.data.toList.map UInt8.toNat
theorem chs_len (s : ByteArray) : (chs s).length = s.size := by simp [chs]
theorem chs_lt (s : ByteArray) : ∀ x ∈ chs s, x < 256 := by
  intro x hx
  simp only [chs, List.mem_map] at hx
  obtain ⟨a, _, rfl⟩ := hx
  exact a.toNat_lt
section
variable {P : Program} {T : Tab}
theorem convStr_spec (hT : TabOk P T) {t t' e : TypeId} {ti' ti ei : TI} (ht' : T t' = some ti') (ht : T t = some ti) (hk : ti.k = .slice e) (he : T e = some ei) (hek : ei.k = .int .u8) {m : Mem} {s : ByteArray} :
    PrimSpec P (.conv t' t) [.v (.string s)] m fun r m' => ∃ b c o, m b = none ∧ r = [.v (.slice (some ⟨b, 0, none⟩) s.size c)] ∧ m' = m.set b o ∧ Lb m' (.slice (some ⟨b, 0, none⟩) s.size c) ((chs s).map fun (n : Nat) => (n : Int)) := by
  intro hok ty W hW
  have hu := (hT t ti ht).slice hk
  have hue : P.underlying e = some (.int .u8) := by
    obtain ⟨d, h1, h2⟩ := (hT e ei he).desc
    rw [hek] at h2
    cases d <;> simp [TK.of] at h2
    rw [h1, h2]
  obtain ⟨d', hs, _⟩ := (hT t' ti' ht').desc
  have hr := Lib.run_convert_string_bytes (P := P) W t' t e s hs hu hue
  have hsz := Lib.bytesWorld_size W e s
  refine ⟨_, m.set W.heap.size (.cells (Lib.bytesCells W e s) e ((Lib.bytesCells W e s).size, (Lib.bytesCells W e s).size + 1)), Lib.bytesWorld W e s, ?_, ?_, ⟨W.heap.size, grownCap W s.size 0 e, _, hW.none (Nat.le_refl _), rfl, rfl, ?_⟩, ?_⟩
  · simpa [Prim.run, Prim.out, Prim.tup, cond_false, resVal, CV.val] using hr
  · intro x hx
    simp at hx; subst hx; rfl
  · have hcap := grownCap_ge W s.size 0 e
    refine Lb.mk (Mem.set_same ..) (by simp [chs]) hcap (fun j n hj => ?_)
    rw [List.getElem?_map] at hj
    obtain ⟨x, hx, rfl⟩ := Option.map_eq_some_iff.1 hj
    simp only [chs, List.getElem?_map] at hx
    obtain ⟨y, hy, rfl⟩ := Option.map_eq_some_iff.1 hx
    have hl := (List.getElem?_eq_some_iff.1 hy).1
    rw [Nat.zero_add, Lib.bytesCells, Array.getElem?_append_left (by simpa using hl), Array.getElem?_map]
    rw [← Array.getElem?_toList, hy]; rfl
  · refine ⟨?_, by rw [hsz]; omega, rfl, rfl, rfl, ?_⟩
    · intro x u hx
      by_cases ex : x = W.heap.size
      · subst ex; rw [Mem.set_same] at hx; cases hx; exact Lib.bytesWorld_at_new W e s
      · rw [Mem.set_ne _ _ ex] at hx
        rw [Lib.bytesWorld_at_old W e s x (hW.lt hx)]; exact hW _ _ hx
    · intro x hx hm
      exact ⟨by rw [Mem.set_ne _ _ (by omega)]; exact hm, Lib.bytesWorld_at_old W e s x hx⟩
end
end Go.E

/-
  Names of snapshots, plainly: six digits behind a prefix.
-/
namespace Go.E.Sn
open Go.Lib
def dg (k : Nat) : UInt8 := UInt8.ofNat (48 + k % 10)
/-- the last k digits of a number -/
def dgs : Nat → Nat → List UInt8
  | 0, _ => []
  | k + 1, n => dgs k (n / 10) ++ [dg n]
def pre : List UInt8 := [115, 110, 97, 112, 45]
def nm (n : Nat) : ByteArray := ⟨(pre ++ dgs 6 n).toArray⟩
theorem dgs_len : ∀ k n, (dgs k n).length = k
  | 0, _ => rfl
  | k + 1, n => by rw [dgs, List.length_append, dgs_len k]; rfl
theorem repL_snoc (c : Nat) : repeatL [48] (c + 1) = repeatL [48] c ++ [48] := by
  induction c with
  | zero => rfl
  | succ c ih =>
    rw [repeatL]
    conv => rhs; rw [repeatL]
    rw [List.append_assoc, ← ih]
theorem repL_len (c : Nat) : (repeatL [48] c).length = c := by rw [repeatL_length]; simp
theorem dgs_zero : ∀ k, dgs k 0 = repeatL [48] k
  | 0 => rfl
  | k + 1 => by
    rw [dgs, Nat.zero_div, dgs_zero k, repL_snoc]
    rfl
theorem dec_len_pos (u : Nat) : 1 ≤ (decDigits u).length := by
  rw [decDigits]
  split <;> simp
/-- the digits, with noughts ahead of them -/
theorem dec_pad : ∀ (k n : Nat), n < 10 ^ (k + 1) → (decDigits n).length ≤ k + 1 ∧ repeatL [48] (k + 1 - (decDigits n).length) ++ decDigits n = dgs (k + 1) n
  | k, n, h => by
    by_cases h10 : n < 10
    · have e : decDigits n = [UInt8.ofNat (48 + n)] := by rw [decDigits, dif_pos h10]
      rw [e]
      refine ⟨by simp, ?_⟩
      rw [dgs, show n / 10 = 0 by omega, dgs_zero, dg, Nat.mod_eq_of_lt h10]
      rfl
    · have e : decDigits n = decDigits (n / 10) ++ [UInt8.ofNat (48 + n % 10)] := by rw [decDigits, dif_neg h10]
      cases k with
      | zero => simp at h; omega
      | succ k =>
        have hk : n / 10 < 10 ^ (k + 1) := by rw [Nat.pow_succ] at h; omega
        obtain ⟨h1, h2⟩ := dec_pad k (n / 10) hk
        rw [e, List.length_append]
        refine ⟨by simp only [List.length_cons, List.length_nil]; omega, ?_⟩
        rw [dgs, ← h2, show k + 1 + 1 - ((decDigits (n / 10)).length + [UInt8.ofNat (48 + n % 10)].length) = k + 1 - (decDigits (n / 10)).length by simp only [List.length_cons, List.length_nil]; omega, List.append_assoc]
        rfl
theorem itoa_pad {n : Nat} (h : n < 1000000) : (itoa (n : Int)).length ≤ 6 ∧ repeatL [48] (6 - (itoa (n : Int)).length) ++ itoa (n : Int) = dgs 6 n := by
  have e : itoa (n : Int) = decDigits n := by rw [itoa, if_neg (by omega)]; rfl
  rw [e]
  exact dec_pad 5 n h
theorem dg_nat (k : Nat) : (dg k).toNat = 48 + k % 10 := by
  rw [dg, UInt8.toNat_ofNat']
  omega
theorem parse_snoc : ∀ (l : List UInt8) (acc : Nat) (c : UInt8) (u : Nat), parseUint10 acc l = .ok u → u < 100000000000 → 48 ≤ c.toNat ∧ c.toNat ≤ 57 → parseUint10 acc (l ++ [c]) = .ok (u * 10 + (c.toNat - 48))
  | [], acc, c, u, h, hu, hc => by
    simp only [parseUint10] at h
    injection h with h
    subst h
    rw [List.nil_append, parseUint10, if_pos hc, if_neg (by omega), if_neg (by omega), parseUint10]
  | x :: l, acc, c, u, h, hu, hc => by
    rw [List.cons_append, parseUint10]
    rw [parseUint10] at h
    split at h
    · rename_i h1
      rw [if_pos h1]
      split at h
      · cases h
      · rename_i h2
        rw [if_neg h2]
        split at h
        · cases h
        · rename_i h3
          rw [if_neg h3]
          exact parse_snoc l _ c u h hu hc
    · cases h
theorem parse_dgs : ∀ (k n : Nat), k ≤ 10 → parseUint10 0 (dgs k n) = .ok (n % 10 ^ k)
  | 0, n, _ => by rw [dgs, parseUint10, Nat.pow_zero, Nat.mod_one]
  | k + 1, n, hk => by
    have ih := parse_dgs k (n / 10) (by omega)
    have hp : 10 ^ k ≤ 10 ^ 10 := Nat.pow_le_pow_right (by decide) (by omega)
    have hlt : n / 10 % 10 ^ k < 10 ^ k := Nat.mod_lt _ (Nat.pow_pos (by decide))
    have hd := dg_nat n
    have h := parse_snoc _ 0 (dg n) _ ih (by omega) (by omega)
    rw [dgs, h]
    congr 1
    rw [hd, show 10 ^ (k + 1) = 10 * 10 ^ k by rw [Nat.pow_succ]; omega, Nat.mod_mul]
    omega
theorem atoi_dgs {n : Nat} (h : n < 1000000) : atoiAll (dgs 6 n) = .ok (n : Int) := by
  have hp := parse_dgs 6 n (by omega)
  rw [Nat.mod_eq_of_lt (by omega)] at hp
  obtain ⟨c, r, e, hc⟩ : ∃ c r, dgs 6 n = c :: r ∧ (48 ≤ c.toNat ∧ c.toNat ≤ 57) := by
    refine ⟨dg (n / 10 / 10 / 10 / 10 / 10), [dg (n / 10 / 10 / 10 / 10), dg (n / 10 / 10 / 10), dg (n / 10 / 10), dg (n / 10), dg n], rfl, ?_⟩
    rw [dg_nat]; omega
  rw [e] at hp ⊢
  have e2 : parseMag (if c.toNat = 43 ∨ c.toNat = 45 then r else c :: r) = .ok n := by
    rw [if_neg (by omega), parseMag, if_neg (by simp), hp]
  rw [atoiAll]
  simp only [e2]
  rw [if_neg (by omega), if_neg (by omega), if_neg (by omega)]
theorem dgs_inj : ∀ {k a b : Nat}, a < 10 ^ k → b < 10 ^ k → dgs k a = dgs k b → a = b
  | 0, a, b, ha, hb, _ => by simp at ha hb; omega
  | k + 1, a, b, ha, hb, h => by
    rw [dgs, dgs] at h
    obtain ⟨h1, h2⟩ := List.append_inj h (by rw [dgs_len, dgs_len])
    have h3 := dgs_inj (k := k) (by rw [Nat.pow_succ] at ha; omega) (by rw [Nat.pow_succ] at hb; omega) h1
    have h4 : dg a = dg b := by simpa using h2
    have h5 := congrArg UInt8.toNat h4
    rw [dg_nat, dg_nat] at h5
    omega
theorem dgs_cons : ∀ (k n : Nat), dgs (k + 1) n = dg (n / 10 ^ k) :: dgs k n
  | 0, n => by simp [dgs]
  | k + 1, n => by
    have ih := dgs_cons k (n / 10)
    rw [dgs, ih]
    conv => rhs; rw [dgs]
    rw [Nat.div_div_eq_div_mul, show 10 * 10 ^ k = 10 ^ (k + 1) by rw [Nat.pow_succ]; omega]
    rfl
/-- the number that digits spell -/
def val (l : List Nat) : Nat := l.foldl (fun a c => 10 * a + (c - 48)) 0
theorem val_snoc (l : List Nat) (c : Nat) : val (l ++ [c]) = 10 * val l + (c - 48) := by simp [val]
theorem val_lt : ∀ (l : List Nat), (∀ c ∈ l, 48 ≤ c ∧ c ≤ 57) → val l < 10 ^ l.length := fun l => by
  induction h : l.length generalizing l with
  | zero => intro _; rw [List.eq_nil_of_length_eq_zero h]; decide
  | succ n ih =>
    intro hd
    rcases List.eq_nil_or_concat l with rfl | ⟨L, c, rfl⟩
    · simp at h
    · rw [List.concat_eq_append] at h hd ⊢
      have h1 := ih L (by simpa using h) fun x hx => hd x (by simp [hx])
      have h2 := hd c (by simp)
      rw [val_snoc, Nat.pow_succ]
      omega
theorem val_dgs : ∀ (n : Nat) (l : List UInt8), l.length = n → (∀ c ∈ l, 48 ≤ c.toNat ∧ c.toNat ≤ 57) → dgs n (val (l.map UInt8.toNat)) = l ∧ val (l.map UInt8.toNat) < 10 ^ n
  | 0, l, hl, _ => by
    have : l = [] := List.eq_nil_of_length_eq_zero hl
    subst this
    exact ⟨rfl, by decide⟩
  | n + 1, l, hl, h => by
    rcases List.eq_nil_or_concat l with rfl | ⟨L, c, rfl⟩
    · simp at hl
    · rw [List.concat_eq_append] at hl h ⊢
      obtain ⟨h1, h2⟩ := val_dgs n L (by simpa using hl) fun x hx => h x (by simp [hx])
      have hc := h c (by simp)
      rw [List.map_append, List.map_singleton, val_snoc]
      generalize val (L.map UInt8.toNat) = v at h1 h2
      refine ⟨?_, by rw [Nat.pow_succ]; omega⟩
      rw [dgs, show (10 * v + (c.toNat - 48)) / 10 = v by omega, h1]
      congr 2
      refine UInt8.toNat_inj.1 ?_
      rw [dg_nat]
      omega
end Go.E.Sn

/-
  Names of snapshots, and their numbers.
-/
namespace Go.E.YtgjlajcebcmbaaaGreatDoor
open Go.Proofs
set_option maxRecDepth 100000
theorem mkB_append (a b : List UInt8) : (⟨a.toArray⟩ : ByteArray) ++ ⟨b.toArray⟩ = ⟨(a ++ b).toArray⟩ := by
  have h : ((⟨a.toArray⟩ : ByteArray) ++ ⟨b.toArray⟩).data = (⟨(a ++ b).toArray⟩ : ByteArray).data := by
    rw [ByteArray.data_append]; simp
  exact ByteArray.ext h
theorem mkB_size (a : List UInt8) : (⟨a.toArray⟩ : ByteArray).size = a.length := by
  show a.toArray.size = _
  simp
def isNum (n : Int) : Bool := decide (1 ≤ n) && decide (n ≤ 999999)
theorem isNumber_spec {m : Mem} {n : Int} : Ret Tryz.prog 29 [i64 n] m [boolV (isNum n)] := by
  unfold isNum
  refine en29 rfl (goY ?_)
  conv => whnf
  repeat' (first | (refine ⟨fun h => ?_, fun h => ?_⟩ <;> conv => whnf) | fail)
  · rw [of_decide_eq_true (p := 1 ≤ n) (by assumption) |> fun h => (decide_eq_true h : decide (1 ≤ n) = true), Bool.true_and]
    exact ⟨rfl, rfl⟩
  · rw [h, Bool.false_and]
    exact ⟨rfl, rfl⟩
theorem name_bad {m : Mem} {n : Int} (h : isNum n = false) : Ret Tryz.prog 8 [i64 n] m [.v (.string ByteArray.empty), i64 1] := by
  refine en8 rfl (goY ?_)
  conv => whnf
  first | refine xretk (isNumber_spec) ?_ | refine xret (isNumber_spec) ?_
  conv => whnf
  rw [h]
  refine ⟨fun _ => ?_, fun h => absurd h (by first | decide | simp)⟩
  conv => whnf
  exact ⟨rfl, rfl⟩
theorem name_ok {m : Mem} (hg : Glob m) {n : Nat} (h1 : 1 ≤ n) (h2 : n ≤ 999999) : Ret Tryz.prog 8 [i64 n] m [.v (.string (Sn.nm n)), i64 0] := by
  have hi : isNum (n : Int) = true := by simp [isNum]; omega
  obtain ⟨p1, p2⟩ := Sn.itoa_pad (n := n) (by omega)
  refine en8 rfl (goY ?_)
  conv => whnf
  first | refine xretk (isNumber_spec) ?_ | refine xret (isNumber_spec) ?_
  conv => whnf
  rw [hi]
  refine ⟨fun h => absurd h (by first | decide | simp), fun _ => ?_⟩
  conv => whnf
  first | refine xretk (itoa_spec hg (by omega) (by omega)) ?_ | refine xret (itoa_spec hg (by omega) (by omega)) ?_
  conv => whnf
  have es : ((⟨(Lib.itoa (n : Int)).toArray⟩ : ByteArray).size : Int) = ((Lib.itoa (n : Int)).length : Int) := rfl
  have ew : IntKind.i64.wrap (6 - ((⟨(Lib.itoa (n : Int)).toArray⟩ : ByteArray).size : Int)) = ((6 - (Lib.itoa (n : Int)).length : Nat) : Int) := by rw [es, wi (by omega) (by omega)]; omega
  rw [ew]
  first | refine xretk (repeat_spec (s := ⟨#[48]⟩) (c := 6 - (Lib.itoa (n : Int)).length) (by rw [show (⟨#[48]⟩ : ByteArray).size = 1 from rfl]; omega) (by omega)) ?_ | refine xret (repeat_spec (s := ⟨#[48]⟩) (c := 6 - (Lib.itoa (n : Int)).length) (by rw [show (⟨#[48]⟩ : ByteArray).size = 1 from rfl]; omega) (by omega)) ?_
  conv => whnf
  have er : Lib.repeatL (⟨#[48]⟩ : ByteArray).data.toList (6 - (Lib.itoa (n : Int)).length) = Lib.repeatL [48] (6 - (Lib.itoa (n : Int)).length) := rfl
  have hz := Sn.repL_len (6 - (Lib.itoa (n : Int)).length)
  rw [er]
  generalize Lib.repeatL [48] (6 - (Lib.itoa (n : Int)).length) = Z at p2 hz
  generalize Lib.itoa (n : Int) = D at p1 p2 hz
  refine ⟨by rw [mkB_size Z, show (⟨#[115, 110, 97, 112, 45]⟩ : ByteArray).size = 5 from rfl]; omega, ?_⟩
  conv => whnf
  have e1 : (⟨#[115, 110, 97, 112, 45]⟩ : ByteArray) = ⟨Sn.pre.toArray⟩ := rfl
  rw [e1, mkB_append]
  refine ⟨by rw [mkB_size, mkB_size, List.length_append, show Sn.pre.length = 5 from rfl]; omega, ?_⟩
  conv => whnf
  refine ⟨?_, rfl⟩
  rw [mkB_append, Sn.nm, ← p2, List.append_assoc]
/-- the number of a name -/
noncomputable def numOf (s : ByteArray) : Option Nat := open Classical in if h : ∃ n : Nat, 1 ≤ n ∧ n ≤ 999999 ∧ Sn.nm n = s then some (Classical.choose h) else none
theorem nm_inj {a b : Nat} (ha : a ≤ 999999) (hb : b ≤ 999999) (h : Sn.nm a = Sn.nm b) : a = b := by
  have h1 : Sn.pre ++ Sn.dgs 6 a = Sn.pre ++ Sn.dgs 6 b := by
    have := congrArg (fun s : ByteArray => s.data.toList) h
    simpa [Sn.nm] using this
  exact Sn.dgs_inj (k := 6) (by omega) (by omega) (List.append_cancel_left h1)
theorem numOf_nm {n : Nat} (h1 : 1 ≤ n) (h2 : n ≤ 999999) : numOf (Sn.nm n) = some n := by
  have h : ∃ k : Nat, 1 ≤ k ∧ k ≤ 999999 ∧ Sn.nm k = Sn.nm n := ⟨n, h1, h2, rfl⟩
  unfold numOf
  rw [dif_pos h]
  obtain ⟨_, g2, g3⟩ := Classical.choose_spec h
  rw [nm_inj g2 h2 g3]
theorem numOf_some {s : ByteArray} {n : Nat} (h : numOf s = some n) : 1 ≤ n ∧ n ≤ 999999 ∧ Sn.nm n = s := by
  unfold numOf at h
  split at h
  · rename_i h1
    cases h
    exact Classical.choose_spec h1
  · cases h
theorem numOf_none {s : ByteArray} (h : ∀ n : Nat, 1 ≤ n → n ≤ 999999 → Sn.nm n ≠ s) : numOf s = none := by
  cases e : numOf s with
  | none => rfl
  | some n =>
    obtain ⟨h1, h2, h3⟩ := numOf_some e
    exact absurd h3 (h n h1 h2)
noncomputable abbrev numR (s : ByteArray) : List CV := [i64 ((numOf s).getD 0 : Nat), boolV (numOf s).isSome]
theorem trim_len (a b : List UInt8) : (Lib.trimPrefix a b).length ≤ a.length := by
  unfold Lib.trimPrefix
  split
  · rw [List.length_drop]; omega
  · exact Nat.le_refl _
theorem number_spec {m : Mem} (hg : Glob m) {s : ByteArray} (hs : s.size ≤ 1000000) : Ret Tryz.prog 9 [.v (.string s)] m (numR s) := by
  have key : ∀ n : Nat, 1 ≤ n → n ≤ 999999 → Sn.nm n = s → Lib.hasPrefix s.data.toList Sn.pre = true ∧ Lib.atoiAll (Lib.trimPrefix s.data.toList Sn.pre) = .ok (n : Int) := fun n h1 h2 h3 => by
    have e : s.data.toList = Sn.pre ++ Sn.dgs 6 n := by rw [← h3]; simp [Sn.nm]
    have hp : Lib.hasPrefix s.data.toList Sn.pre = true := by rw [e]; simp [Lib.hasPrefix]
    refine ⟨hp, ?_⟩
    rw [Lib.trimPrefix, if_pos hp, e, List.drop_left]
    exact Sn.atoi_dgs (by omega)
  refine en9 rfl (goY ?_)
  conv => whnf
  first | refine xretk (cutPrefix_spec) ?_ | refine xret (cutPrefix_spec) ?_
  conv => whnf
  have ep : (⟨#[115, 110, 97, 112, 45]⟩ : ByteArray).data.toList = Sn.pre := rfl
  rw [ep]
  have hl : (Lib.trimPrefix s.data.toList Sn.pre).length ≤ 1000000 := Nat.le_trans (trim_len _ _) (by simpa using hs)
  have hT : (⟨(Lib.trimPrefix s.data.toList Sn.pre).toArray⟩ : ByteArray).data.toList = Lib.trimPrefix s.data.toList Sn.pre := by simp
  have no : Lib.hasPrefix s.data.toList Sn.pre = false → numOf s = none := fun h => numOf_none fun n h1 h2 h3 => by have := (key n h1 h2 h3).1; rw [h] at this; cases this
  cases ha : Lib.atoiAll (Lib.trimPrefix s.data.toList Sn.pre) with
  | ok v =>
    have hv := Lib.atoiAll_bounds ha
    refine xcall (atoi_spec hg (s := ⟨(Lib.trimPrefix s.data.toList Sn.pre).toArray⟩) (by rw [mkB_size]; exact hl)) ?_
    rintro _ m' ⟨hr, rfl⟩
    conv => whnf
    unfold AtoiR at hr
    rw [hT, ha] at hr
    subst hr
    conv => whnf
    refine ⟨fun h1 => ?_, fun h1 => ?_⟩
    · conv => whnf
      rw [numR, no (by simpa using h1)]
      exact ⟨rfl, rfl⟩
    refine ⟨fun h => absurd h (by first | decide | simp), fun _ => ?_⟩
    conv => whnf
    have same : ∀ n : Nat, 1 ≤ n → n ≤ 999999 → Sn.nm n = s → v = n := fun n h1 h2 h3 => by
      have := (key n h1 h2 h3).2
      rw [ha] at this
      injection this
    cases hi : isNum v with
    | false =>
      first | refine xretk (name_bad hi) ?_ | refine xret (name_bad hi) ?_
      conv => whnf
      refine ⟨fun _ => ?_, fun h => absurd h (by first | decide | simp)⟩
      conv => whnf
      rw [numR, numOf_none fun n h1 h2 h3 => by
        have := same n h1 h2 h3
        rw [this] at hi
        have h4 : isNum (n : Int) = true := by simp [isNum]; omega
        rw [h4] at hi; cases hi]
      exact ⟨rfl, rfl⟩
    | true =>
      have hi' : 1 ≤ v ∧ v ≤ 999999 := by simpa [isNum] using hi
      obtain ⟨n, rfl⟩ : ∃ n : Nat, v = n := ⟨v.toNat, by omega⟩
      first | refine xretk (name_ok hg (n := n) (by omega) (by omega)) ?_ | refine xret (name_ok hg (n := n) (by omega) (by omega)) ?_
      conv => whnf
      refine ⟨fun h => absurd h (by first | decide | simp), fun _ => ?_⟩
      conv => whnf
      refine ⟨fun h2 => ?_, fun h2 => ?_⟩
      · conv => whnf
        have hne : Sn.nm n ≠ s := fun e => by rw [e] at h2; simp at h2
        rw [numR, numOf_none fun k h3 h4 h5 => by
          have := same k h3 h4 h5
          exact hne (by rw [show n = k by omega]; exact h5)]
        exact ⟨rfl, rfl⟩
      · have he : Sn.nm n = s := by
          rw [strEq] at h2
          have : decide (Sn.nm n = s) = true := by simpa using h2
          exact of_decide_eq_true this
        conv => whnf
        rw [numR, ← he, numOf_nm (by omega) (by omega)]
        exact ⟨rfl, rfl⟩
  | range =>
    refine xcall (atoi_spec hg (s := ⟨(Lib.trimPrefix s.data.toList Sn.pre).toArray⟩) (by rw [mkB_size]; exact hl)) ?_
    rintro _ m' ⟨hr, rfl⟩
    conv => whnf
    unfold AtoiR at hr
    rw [hT, ha] at hr
    obtain ⟨n, te, pe, rfl⟩ := hr
    have hno : numOf s = none := numOf_none fun n h1 h2 h3 => by have := (key n h1 h2 h3).2; rw [ha] at this; cases this
    conv => whnf
    rw [numR, hno]
    refine ⟨fun h1 => ?_, fun h1 => ?_⟩
    · conv => whnf
      exact ⟨rfl, rfl⟩
    refine ⟨fun _ => ?_, fun h => absurd h (by first | decide | simp)⟩
    conv => whnf
    exact ⟨rfl, rfl⟩
  | _ =>
    refine xcall (atoi_spec hg (s := ⟨(Lib.trimPrefix s.data.toList Sn.pre).toArray⟩) (by rw [mkB_size]; exact hl)) ?_
    rintro _ m' ⟨hr, rfl⟩
    conv => whnf
    unfold AtoiR at hr
    rw [hT, ha] at hr
    obtain ⟨n, te, pe, rfl⟩ := hr
    have hno : numOf s = none := numOf_none fun n h1 h2 h3 => by have := (key n h1 h2 h3).2; rw [ha] at this; cases this
    conv => whnf
    rw [numR, hno]
    refine ⟨fun h1 => ?_, fun h1 => ?_⟩
    · conv => whnf
      exact ⟨rfl, rfl⟩
    refine ⟨fun _ => ?_, fun h => absurd h (by first | decide | simp)⟩
    conv => whnf
    exact ⟨rfl, rfl⟩
end Go.E.YtgjlajcebcmbaaaGreatDoor
