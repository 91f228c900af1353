/-
  The run anew, so that what is carried along stays small: frames as lists, each part laid out before it is carried on.
-/
import Derived.Test.YtkapdbbjgpofnaaE14
namespace Go.E

abbrev Fl := List (Nat × SV)
abbrev KY := Fl → Loc → Mem → List Nat → Prop
abbrev toSt (fl : Fl) (L : Loc) (m : Mem) (x : List Nat) : St := ⟨frOf fl, L, m, x⟩

def fSV (y : SV) (K : SV → Prop) : Prop :=
  match y with
  | .c x => K (.c x)
  | .t l => K (.t l)
  | .p h o => K (.p h o)
  | .q h o d => K (.q h o d)
  | .sl h o d n c => K (.sl h o d n c)
  | .tt => K .tt
  | .ff => K .ff
  | .un => K .un
  | .any => K .any
theorem fSV_spec {y : SV} {K : SV → Prop} (h : fSV y K) : K y := by cases y <;> exact h
def fList {α : Type} : List α → (List α → Prop) → Prop
  | [], K => K []
  | a :: r, K => fList r fun r' => K (a :: r')
theorem fList_spec {α : Type} : ∀ {l : List α} {K : List α → Prop}, fList l K → K l
  | [], _, h => h
  | a :: r, K, h => fList_spec (l := r) (K := fun r' => K (a :: r')) h
def fFl : Fl → (Fl → Prop) → Prop
  | [], K => K []
  | (j, y) :: r, K => fSV y fun y => fFl r fun r' => K ((j, y) :: r')
theorem fFl_spec : ∀ {l : Fl} {K : Fl → Prop}, fFl l K → K l
  | [], _, h => h
  | (j, y) :: r, K, h => fFl_spec (l := r) (K := fun r' => K ((j, y) :: r')) (fSV_spec h)
def putY (d : Option Nat) (y : SV) (fl : Fl) (K : Fl → Prop) : Prop :=
  match d with
  | none => K fl
  | some d => K ((d, y) :: fl)
theorem frOf_cons (fl : Fl) (d : Nat) (y : SV) : frOf ((d, y) :: fl) = putF (frOf fl) (some d) y := funext fun _ => rfl
theorem putY_spec {d : Option Nat} {y : SV} {fl : Fl} {K : Fl → Prop} (h : putY d y fl K) : ∃ fl', K fl' ∧ frOf fl' = putF (frOf fl) d y := by
  cases d with
  | none => exact ⟨fl, h, rfl⟩
  | some d => exact ⟨_, h, frOf_cons ..⟩

def fLoadY (T : Tab) (L : Loc) (m : Mem) (t : TypeId) (x : SV) (K : SV → List Nat → Prop) : Prop :=
  match T t with
  | none => False
  | some i => match x with
    | .p h off => match nth L h with
      | none => False
      | some (_, c) => match i.k.agg with
        | true => match LB.sub c off i.size with
          | some d => K (.c (.a d)) []
          | none => False
        | false => match LB.get c off with
          | some y => K (.c (.v y)) []
          | none => False
    | .q h off d => match nth L h with
      | none => False
      | some (_, c) => match i.k.agg with
        | true => LB.dsub c off d i.size fun e => K (.c (.a e)) []
        | false => LB.dget c off d fun y => K (.c (.v y)) []
    | .c (.v (.pointer (some ⟨b, off, none⟩))) => match i.k.agg with
      | true => ∃ c : LB, LB.ok c ∧ LB.size c = i.size ∧ MRange m b off (LB.cells c) ∧ K (.c (.a c)) [b]
      | false => ∃ y, mcell m b off = some y ∧ (y.oneCell' = true) ∧ K (.c (.v y)) [b]
    | _ => False
theorem fLoadY_eq (T : Tab) (s : St) (t : TypeId) (x : SV) (K : SV → List Nat → Prop) : fLoadY T s.L s.m t x K = fLoad T s t x K := rfl

def fvalY (T : Tab) (fl : Fl) (L : Loc) (m : Mem) (x : List Nat) (op : Op) (K : SV → List Nat → Prop) : Prop :=
  match op with
  | .load t xo => fLoadY T L m t (ev (toSt fl L m x) xo) K
  | .convert src dst xo => match strConv T src dst with
    | true => fStr L m (ev (toSt fl L m x) xo) K
    | false => fConv T src dst (ev (toSt fl L m x) xo) fun z => K z []
  | op => fval T (toSt fl L m x) op K
theorem fvalY_eq (T : Tab) (fl : Fl) (L : Loc) (m : Mem) (x : List Nat) (op : Op) (K : SV → List Nat → Prop) : fvalY T fl L m x op K = fval T (toSt fl L m x) op K := by
  cases op <;> rfl

def nStoreY (T : Tab) (L : Loc) (m : Mem) (t : TypeId) (x y : SV) (K : Loc → Mem → Prop) : Prop :=
  match T t with
  | none => False
  | some i => match x with
    | .p h off => match nth L h with
      | none => False
      | some (t', c) => match y with
        | .c (.v z) => bif Nat.beq i.size 1 then (match LB.set c off z with | some d => K (L.set h (t', d)) m | none => False) else False
        | .tt => bif Nat.beq i.size 1 then (match LB.set c off (.bool true) with | some d => K (L.set h (t', d)) m | none => False) else False
        | .ff => bif Nat.beq i.size 1 then (match LB.set c off (.bool false) with | some d => K (L.set h (t', d)) m | none => False) else False
        | .c (.a v) => bif Nat.beq i.size (LB.size v) then (match LB.putW c off v with | some d => K (L.set h (t', d)) m | none => False) else False
        | _ => False
    | .q h off e => match nth L h with
      | none => False
      | some (t', c) => match y with
        | .c (.v z) => bif Nat.beq i.size 1 then LB.dset c off e z (fun d => K (L.set h (t', d)) m) else False
        | .tt => bif Nat.beq i.size 1 then LB.dset c off e (.bool true) (fun d => K (L.set h (t', d)) m) else False
        | .ff => bif Nat.beq i.size 1 then LB.dset c off e (.bool false) (fun d => K (L.set h (t', d)) m) else False
        | .c (.a v) => bif Nat.beq i.size (LB.size v) then LB.dput c off e v (fun d => K (L.set h (t', d)) m) else False
        | _ => False
    | .c (.v (.pointer (some ⟨b, off, none⟩))) => match y with
      | .c (.v z) => bif Nat.beq i.size 1 then (∃ arr t' fr, m b = some (.cells arr t' fr) ∧ (off < arr.size ∧ ¬ (fr.1 ≤ off ∧ off < fr.2)) ∧ K L (m.set b (.cells (arr.setIfInBounds off z) t' fr))) else False
      | .tt => bif Nat.beq i.size 1 then (∃ arr t' fr, m b = some (.cells arr t' fr) ∧ (off < arr.size ∧ ¬ (fr.1 ≤ off ∧ off < fr.2)) ∧ K L (m.set b (.cells (arr.setIfInBounds off (.bool true)) t' fr))) else False
      | .ff => bif Nat.beq i.size 1 then (∃ arr t' fr, m b = some (.cells arr t' fr) ∧ (off < arr.size ∧ ¬ (fr.1 ≤ off ∧ off < fr.2)) ∧ K L (m.set b (.cells (arr.setIfInBounds off (.bool false)) t' fr))) else False
      | .c (.a v) => bif Nat.beq i.size (LB.size v) then (∃ arr t' fr, m b = some (.cells arr t' fr) ∧ (off + LB.size v ≤ arr.size ∧ ∀ j, j < LB.size v → ¬ (fr.1 ≤ off + j ∧ off + j < fr.2)) ∧ K L (m.set b (.cells (arr.toList.take off ++ (LB.cells v ++ arr.toList.drop (off + LB.size v))).toArray t' fr))) else False
      | _ => False
    | _ => False
theorem nStoreY_eq (T : Tab) (s : St) (t : TypeId) (x y : SV) (K : Loc → Mem → Prop) : nStoreY T s.L s.m t x y K = nStore T s t x y K := rfl

def nNewY (L : Loc) (m : Mem) (x : List Nat) (t : TypeId) (c : LB) (ext : Bool) (K : SV → Loc → Mem → List Nat → Prop) : Prop :=
  match ext with
  | false => K (.p L.length 0) (L ++ [(t, c)]) m x
  | true => ∀ b, m b = none → K (.c (.v (.pointer (some ⟨b, 0, none⟩)))) L (m.set b (.cells (LB.cells c).toArray t)) x
theorem nNewY_eq (s : St) (t : TypeId) (c : LB) (ext : Bool) (K : SV → Loc → Mem → List Nat → Prop) : nNewY s.L s.m s.x t c ext K = nNew s t c ext K := rfl

def nvalY (P : Program) (T : Tab) (fl : Fl) (L : Loc) (m : Mem) (x : List Nat) (op : Op) (ext : Bool) (keep : Kp) (K : SV → Loc → Mem → List Nat → Prop) : Prop :=
  match op with
  | .alloc t => match T t with
    | some i => nNewY L m x t i.zero ext K
    | none => False
  | .box t y => match ev (toSt fl L m x) y with
    | .c (.a c) => nNewY L m x t c ext K
    | .c (.v z) => nNewY L m x t [.one z] ext K
    | .tt => nNewY L m x t [.one (.bool true)] ext K
    | .ff => nNewY L m x t [.one (.bool false)] ext K
    | _ => False
  | .store t xo y => match keep with
    | .all => False
    | .none => nStoreY T L m t (ev (toSt fl L m x) xo) (ev (toSt fl L m x) y) fun L m => K .un L m []
    | .but h => bif atHandle h (ev (toSt fl L m x) xo) then nStoreY T L m t (ev (toSt fl L m x) xo) (ev (toSt fl L m x) y) (fun L m => K .un L m x) else False
    | .new n => bif newHandle n (ev (toSt fl L m x) xo) then nStoreY T L m t (ev (toSt fl L m x) xo) (ev (toSt fl L m x) y) (fun L m => K .un L m x) else False
  | .call ⟨.value (.func f), args, _⟩ => match closed (args.toList.map (ev (toSt fl L m x))) with
    | Option.none => False
    | some cs => match keep with
      | .all => XCall P f cs m fun r m' => Kept x m m' ∧ K (resSV r) L m' x
      | .none => XCall P f cs m fun r m' => K (resSV r) L m' []
      | .but _ => False
      | .new _ => False
  | .call ⟨.value (.tmp t), args, _⟩ => match frOf fl t with
    | .c (.v (.func (.func f) first captured)) => bif allOne first.toList && allOne captured.toList then (match closed (args.toList.map (ev (toSt fl L m x))) with
      | Option.none => False
      | some cs => match keep with
        | .all => XCall P f (first.toList.map CV.v ++ cs ++ captured.toList.map CV.v) m fun r m' => Kept x m m' ∧ K (resSV r) L m' x
        | .none => XCall P f (first.toList.map CV.v ++ cs ++ captured.toList.map CV.v) m fun r m' => K (resSV r) L m' []
        | .but _ => False
        | .new _ => False) else False
    | _ => False
  | op => match primOf op with
    | Option.none => False
    | some (p, xs) => match closed (xs.map (ev (toSt fl L m x))) with
      | Option.none => False
      | some cs => match keep with
        | .all => XPrim P p cs m fun r m' => Kept x m m' ∧ K (primSV p r) L m' x
        | .none => XPrim P p cs m fun r m' => K (primSV p r) L m' []
        | .but _ => False
        | .new _ => False
theorem nvalY_eq (P : Program) (T : Tab) (fl : Fl) (L : Loc) (m : Mem) (x : List Nat) (op : Op) (ext : Bool) (keep : Kp) (K : SV → Loc → Mem → List Nat → Prop) :
    nvalY P T fl L m x op ext keep K = nval P T (toSt fl L m x) op ext keep K := by
  cases op <;> rfl

/-! ### what is carried on may be said in another way -/
theorem iBin_mono {op : BinOp} {y : Operand} {k k' : IntKind} {a b : Int} {K K' : SV → Prop} (kk : ∀ z, K z → K' z) (h : iBin op y k k' a b K) : iBin op y k k' a b K' := by
  unfold iBin at h ⊢
  cases op <;> simp only at h ⊢ <;> grind
theorem vEq_mono {t : TK} {a b : Value} {K K' : Bool → Prop} (kk : ∀ z, K z → K' z) (h : vEq t a b K) : vEq t a b K' := by
  unfold vEq at h ⊢
  grind
theorem fUn_mono {op : UnOp} {x : SV} {K K' : SV → Prop} (kk : ∀ z, K z → K' z) (h : fUn op x K) : fUn op x K' := by
  unfold fUn at h ⊢
  grind
theorem fNil_mono {x : SV} {K K' : SV → Prop} (kk : ∀ z, K z → K' z) (h : fNil x K) : fNil x K' := by
  unfold fNil at h ⊢
  grind
theorem fConv_mono {T : Tab} {s d : TypeId} {x : SV} {K K' : SV → Prop} (kk : ∀ z, K z → K' z) (h : fConv T s d x K) : fConv T s d x K' := by
  unfold fConv at h ⊢
  grind
theorem fFieldAddr_mono {T : Tab} {t : TypeId} {x : SV} {f : Nat} {K K' : SV → Prop} (kk : ∀ z, K z → K' z) (h : fFieldAddr T t x f K) : fFieldAddr T t x f K' := by
  unfold fFieldAddr at h ⊢
  cases hT : T t with
  | none => simp [hT] at h
  | some i =>
    simp only [hT] at h ⊢
    cases hk : i.k <;> simp only [hk] at h ⊢
    rename_i fs
    cases hn : nth fs f with
    | none => simp [hn] at h
    | some p =>
      obtain ⟨off, ft⟩ := p
      simp only [hn] at h ⊢
      cases hf : T ft with
      | none => simp [hf] at h
      | some fi =>
        simp only [hf] at h ⊢
        cases hb : Nat.blt 0 fi.size with
        | false => simp [hb] at h
        | true =>
          simp only [hb, cond_true] at h ⊢
          split at h <;> first | exact kk _ h | exact h.elim
theorem fIndexAddr_mono {T : Tab} {t : TypeId} {io : Operand} {x i : SV} {K K' : SV → Prop} (kk : ∀ z, K z → K' z) (h : fIndexAddr T t io x i K) : fIndexAddr T t io x i K' := by
  unfold fIndexAddr at h ⊢
  (repeat' split at h) <;> first | exact h.elim | (simp only [*]; first | exact kk _ h | exact ⟨h.1, kk _ h.2⟩) | exact kk _ h | exact ⟨h.1, kk _ h.2⟩
theorem sBin_mono {op : BinOp} {a b : ByteArray} {K K' : SV → Prop} (kk : ∀ z, K z → K' z) (h : sBin op a b K) : sBin op a b K' := by
  cases op <;> first | exact kk _ h | exact ⟨h.1, kk _ h.2⟩ | exact h
theorem fField_mono {T : Tab} {t : TypeId} {x : SV} {f : Nat} {K K' : SV → Prop} (kk : ∀ z, K z → K' z) (h : fField T t x f K) : fField T t x f K' := by
  unfold fField at h ⊢
  (repeat' split at h) <;> first | exact h.elim | exact kk _ h | (simp only [*]; done) | (simp only [*]; exact kk _ h)
theorem LB.dget_mono : ∀ {c : LB} {o d : Nat} {K K' : Value → Prop} (_ : ∀ z, K z → K' z) (_ : LB.dget c o d K), LB.dget c o d K'
  | [], _, _, _, _, _, h => h
  | .one _ :: _, 0, _, _, _, _, h => h
  | .one _ :: r, o + 1, d, K, K', kk, h => LB.dget_mono (c := r) (o := o) kk h
  | .ints k n l :: r, o, d, K, K', kk, h => by
    simp only [LB.dget] at h ⊢
    cases hb : Nat.blt o n with
    | true => simp only [hb, cond_true] at h ⊢; cases o <;> exact ⟨h.1, kk _ h.2⟩
    | false => simp only [hb, cond_false] at h ⊢; exact LB.dget_mono kk h
  | .vals n l :: r, o, d, K, K', kk, h => by
    simp only [LB.dget] at h ⊢
    cases hb : Nat.blt o n with
    | true => simp only [hb, cond_true] at h ⊢; cases o <;> exact ⟨h.1, kk _ h.2⟩
    | false => simp only [hb, cond_false] at h ⊢; exact LB.dget_mono kk h
theorem LB.dsub_mono : ∀ {c : LB} {o d z : Nat} {K K' : LB → Prop} (_ : ∀ z, K z → K' z) (_ : LB.dsub c o d z K), LB.dsub c o d z K'
  | [], _, _, _, _, _, _, h => h
  | .one _ :: _, 0, _, _, _, _, _, h => h
  | .one _ :: r, o + 1, d, z, K, K', kk, h => LB.dsub_mono (c := r) (o := o) kk h
  | .ints k n l :: r, o, d, z, K, K', kk, h => by
    simp only [LB.dsub] at h ⊢
    cases hb : Nat.blt o n with
    | true => simp only [hb, cond_true] at h ⊢; cases o <;> exact ⟨h.1, kk _ h.2⟩
    | false => simp only [hb, cond_false] at h ⊢; exact LB.dsub_mono kk h
  | .vals n l :: r, o, d, z, K, K', kk, h => by
    simp only [LB.dsub] at h ⊢
    cases hb : Nat.blt o n with
    | true => simp only [hb, cond_true] at h ⊢; cases o <;> exact ⟨h.1, kk _ h.2⟩
    | false => simp only [hb, cond_false] at h ⊢; exact LB.dsub_mono kk h
theorem LB.dset_mono : ∀ {c : LB} {o d : Nat} {x : Value} {K K' : LB → Prop} (_ : ∀ z, K z → K' z) (_ : LB.dset c o d x K), LB.dset c o d x K' := by
  intro c
  induction c with
  | nil => intro o d x K K' kk h; exact h
  | cons s r ih =>
    intro o d x K K' kk h
    cases s with
    | one y =>
      cases o with
      | zero => exact h
      | succ o => exact ih (o := o) (fun z hz => kk _ hz) h
    | ints k n l =>
      unfold LB.dset at h ⊢
      grind
    | vals n l =>
      unfold LB.dset at h ⊢
      grind
theorem LB.dput_mono : ∀ {c : LB} {o d : Nat} {x : LB} {K K' : LB → Prop} (_ : ∀ z, K z → K' z) (_ : LB.dput c o d x K), LB.dput c o d x K' := by
  intro c
  induction c with
  | nil => intro o d x K K' kk h; exact h
  | cons s r ih =>
    intro o d x K K' kk h
    cases s with
    | one y =>
      cases o with
      | zero => exact h
      | succ o => exact ih (o := o) (fun z hz => kk _ hz) h
    | ints k n l =>
      unfold LB.dput at h ⊢
      grind
    | vals n l =>
      unfold LB.dput at h ⊢
      grind
theorem fLoad_mono {T : Tab} {s : St} {t : TypeId} {x : SV} {K K' : SV → List Nat → Prop} (kk : ∀ z y, K z y → K' z y) (h : fLoad T s t x K) : fLoad T s t x K' := by
  unfold fLoad at h ⊢
  (repeat' split at h) <;> first | exact h.elim | exact kk _ _ h | (simp only [*]; done) | ((try simp only [*]); first | exact kk _ _ h | exact LB.dget_mono (fun _ hz => kk _ _ hz) h | exact LB.dsub_mono (fun _ hz => kk _ _ hz) h | (obtain ⟨c, h1, h2, h3, h4⟩ := h; exact ⟨c, h1, h2, h3, kk _ _ h4⟩) | (obtain ⟨c, h1, h2, h3⟩ := h; exact ⟨c, h1, h2, kk _ _ h3⟩))
theorem fIndex_mono {T : Tab} {t : TypeId} {io : Operand} {x i : SV} {K K' : SV → Prop} (kk : ∀ z, K z → K' z) (h : fIndex T t io x i K) : fIndex T t io x i K' := by
  unfold fIndex at h ⊢
  (repeat' split at h) <;> first | exact h.elim | exact kk _ h | exact ⟨h.1, kk _ h.2⟩ | (simp only [*]; done) | ((try simp only [*]); first | exact kk _ h | exact ⟨h.1, kk _ h.2⟩ | exact ⟨h.1, LB.dsub_mono (fun _ hz => kk _ hz) h.2⟩ | exact ⟨h.1, LB.dget_mono (fun _ hz => kk _ hz) h.2⟩ | exact ⟨⟨trivial, trivial⟩, kk _ h.2⟩ | exact ⟨⟨trivial, trivial⟩, LB.dsub_mono (fun _ hz => kk _ hz) h.2⟩ | exact ⟨⟨trivial, trivial⟩, LB.dget_mono (fun _ hz => kk _ hz) h.2⟩)
theorem fBuiltin_mono {T : Tab} {b : Builtin} {ats : List TypeId} {args : List SV} {K K' : SV → Prop} (kk : ∀ z, K z → K' z) (h : fBuiltin T b ats args K) : fBuiltin T b ats args K' := by
  unfold fBuiltin at h ⊢
  (repeat' split at h) <;> first | exact h.elim | exact kk _ h | (simp only [*]; done) | (simp only [*]; exact kk _ h)
theorem fBuild_mono {T : Tab} {s : St} {t : TypeId} {parts : List (Nat × Operand)} {K K' : SV → Prop} (kk : ∀ z, K z → K' z) (h : fBuild T s t parts K) : fBuild T s t parts K' := by
  unfold fBuild at h ⊢
  cases hT : T t with
  | none => simp [hT] at h
  | some i =>
    simp only [hT] at h ⊢
    cases ha : i.k.agg with
    | false => simp [ha] at h
    | true =>
      simp only [ha] at h ⊢
      cases hk : knownK T i.k with
      | false => simp [hk] at h
      | true =>
        simp only [hk, cond_true] at h ⊢
        cases hb : bld s (placeOf T i.k) i.zero parts with
        | none => simp [hb] at h
        | some c => simp only [hb] at h ⊢; exact kk _ h
theorem bound_mono {x : Option SV} {d m : Nat} {K K' : Nat → Prop} (kk : ∀ z, K z → K' z) (h : bound x d m K) : bound x d m K' := by
  unfold bound at h ⊢
  (repeat' split at h) <;> first | exact h.elim | exact kk _ h | exact ⟨h.1, kk _ h.2⟩
theorem fSlice_mono {T : Tab} {t : TypeId} {x : SV} {lo hi mx : Option SV} {K K' : SV → Prop} (kk : ∀ z, K z → K' z) (h : fSlice T t x lo hi mx K) : fSlice T t x lo hi mx K' := by
  unfold fSlice at h ⊢
  cases ho : hiOk hi mx with
  | false => simp [ho] at h
  | true =>
    simp only [ho, cond_true] at h ⊢
    (repeat' split at h) <;> first | exact h.elim | ((try simp only [*]); first | exact bound_mono (fun _ h => bound_mono (fun _ h => bound_mono (fun _ h => fun o' h1 h2 => kk _ (h o' h1 h2)) h) h) h | exact bound_mono (fun _ h => bound_mono (fun _ h => bound_mono (fun _ h => kk _ h) h) h) h | exact bound_mono (fun _ h => bound_mono (fun _ h => kk _ h) h) h)
theorem fBin_mono {T : Tab} {op : BinOp} {t : TypeId} {yo : Operand} {x y : SV} {K K' : SV → Prop} (kk : ∀ z, K z → K' z) (h : fBin T op t yo x y K) : fBin T op t yo x y K' := by
  unfold fBin at h ⊢
  split at h
  · exact iBin_mono kk h
  · exact sBin_mono kk h
  · rename_i c d
    cases hT : T t with
    | none => simp [hT] at h
    | some i =>
      simp only [hT] at h ⊢
      cases hb : (i.eq && (kindLB i.zero c && kindLB i.zero d)) with
      | false => simp [hb] at h
      | true =>
        simp only [hb, cond_true] at h ⊢
        split at h <;> first | exact kk _ h | exact h.elim
  · rename_i h1 h2 h3
    cases hx : x.toV with
    | none => simp [hx] at h
    | some vx =>
      cases hy : y.toV with
      | none => simp [hx, hy] at h
      | some vy =>
        simp only [hx, hy] at h ⊢
        cases hT : T t with
        | none => simp [hT] at h
        | some i =>
          simp only [hT] at h ⊢
          split at h <;> first | exact vEq_mono (fun _ hz => kk _ hz) h | exact h.elim
theorem fval_mono {T : Tab} {s : St} {op : Op} {K K' : SV → List Nat → Prop} (kk : ∀ z y, K z y → K' z y) (h : fval T s op K) : fval T s op K' := by
  unfold fval at h ⊢
  split at h
  · exact kk _ _ h
  · split at h
    · exact kk _ _ h
    · exact kk _ _ h
    · exact ⟨fun e => kk _ _ (h.1 e), fun e => kk _ _ (h.2 e)⟩
    · exact h.elim
  · exact kk _ _ h
  · exact fLoad_mono kk h
  · exact fNil_mono (fun _ h => kk _ _ h) h
  · exact fBin_mono (fun _ h => kk _ _ h) h
  · exact fUn_mono (fun _ h => kk _ _ h) h
  · rename_i src dst x
    cases hc : strConv T src dst with
    | true =>
      simp only [hc] at h ⊢
      unfold fStr at h ⊢
      split at h
      · exact kk _ _ h
      · obtain ⟨ns, h1, h2, h3⟩ := h; exact ⟨ns, h1, h2, kk _ _ h3⟩
      · split at h
        · exact h.elim
        · rename_i hn
          (try simp only [hn])
          obtain ⟨ns, h1, h2, h3⟩ := h; exact ⟨ns, h1, h2, kk _ _ h3⟩
      · exact h.elim
    | false =>
      simp only [hc] at h ⊢
      exact fConv_mono (fun _ h => kk _ _ h) h
  · exact fField_mono (fun _ h => kk _ _ h) h
  · exact fFieldAddr_mono (fun _ h => kk _ _ h) h
  · exact fIndexAddr_mono (fun _ h => kk _ _ h) h
  · exact fIndex_mono (fun _ h => kk _ _ h) h
  · rename_i x j
    cases hx : ev s x with
    | t l =>
      simp only [hx] at h ⊢
      cases hn : nth l j with
      | none => simp [hn] at h
      | some y => simp only [hn] at h ⊢; exact kk _ _ h
    | _ => simp [hx] at h
  · exact fBuild_mono (fun _ h => kk _ _ h) h
  · exact fSlice_mono (fun _ h => kk _ _ h) h
  · exact fBuiltin_mono (fun _ h => kk _ _ h) h
  · exact h.elim
theorem nNew_mono {s : St} {t : TypeId} {c : LB} {ext : Bool} {K K' : SV → Loc → Mem → List Nat → Prop} (kk : ∀ a b c d, K a b c d → K' a b c d) (h : nNew s t c ext K) : nNew s t c ext K' := by
  cases ext with
  | false => exact kk _ _ _ _ h
  | true => exact fun b hb => kk _ _ _ _ (h b hb)
theorem bif_mono {b : Bool} {A B : Prop} (k : A → B) (h : bif b then A else False) : bif b then B else False := by
  cases b with
  | true => exact k h
  | false => exact h
theorem nStore_mono {T : Tab} {s : St} {t : TypeId} {x y : SV} {K K' : Loc → Mem → Prop} (kk : ∀ a b, K a b → K' a b) (h : nStore T s t x y K) : nStore T s t x y K' := by
  unfold nStore at h ⊢
  cases hT : T t with
  | none => simp [hT] at h
  | some i =>
    simp only [hT] at h ⊢
    split at h
    · rename_i hh off
      cases hn : nth s.L hh with
      | none => simp [hn] at h
      | some p =>
        obtain ⟨t', c⟩ := p
        simp only [hn] at h ⊢
        split at h <;> first | exact h.elim | (refine bif_mono (fun h => ?_) h; split at h <;> first | exact h.elim | (simp only [*]; exact kk _ _ h) | exact kk _ _ h)
    · rename_i hh off e
      cases hn : nth s.L hh with
      | none => simp [hn] at h
      | some p =>
        obtain ⟨t', c⟩ := p
        simp only [hn] at h ⊢
        split at h <;> first | exact h.elim | exact bif_mono (fun h => LB.dset_mono (fun _ h => kk _ _ h) h) h | exact bif_mono (fun h => LB.dput_mono (fun _ h => kk _ _ h) h) h
    · split at h <;> first | exact h.elim | exact bif_mono (fun ⟨a, b, c, h1, h2, h3⟩ => ⟨a, b, c, h1, h2, kk _ _ h3⟩) h
    · exact h.elim
theorem XCall.mono {P : Program} {f : FuncId} {args : List CV} {m : Mem} {K K' : List CV → Mem → Prop} (k : ∀ r m', K r m' → K' r m') (h : XCall P f args m K) : XCall P f args m K' := by
  obtain ⟨R, h1, h2⟩ := h; exact ⟨R, h1, fun r m' hr => k r m' (h2 r m' hr)⟩
theorem XPrim.mono {P : Program} {p : Prim} {args : List CV} {m : Mem} {K K' : List CV → Mem → Prop} (k : ∀ r m', K r m' → K' r m') (h : XPrim P p args m K) : XPrim P p args m K' := by
  obtain ⟨R, h1, h2⟩ := h; exact ⟨R, h1, fun r m' hr => k r m' (h2 r m' hr)⟩
theorem nval_mono {P : Program} {T : Tab} {s : St} {op : Op} {ext : Bool} {keep : Kp} {K K' : SV → Loc → Mem → List Nat → Prop} (kk : ∀ a b c d, K a b c d → K' a b c d) (h : nval P T s op ext keep K) : nval P T s op ext keep K' := by
  unfold nval at h ⊢
  split at h
  · rename_i t
    cases hT : T t with
    | none => simp [hT] at h
    | some i => simp only [hT] at h ⊢; exact nNew_mono kk h
  · rename_i t y
    split at h <;> first | exact h.elim | exact nNew_mono kk h | (simp only [*]; exact nNew_mono kk h)
  · cases keep with
    | all => exact h
    | none => exact nStore_mono (fun _ _ h => kk _ _ _ _ h) h
    | but hh => exact bif_mono (fun h => nStore_mono (fun _ _ h => kk _ _ _ _ h) h) h
    | new hh => exact bif_mono (fun h => nStore_mono (fun _ _ h => kk _ _ _ _ h) h) h
  · rename_i f args _
    try simp only at h ⊢
    cases hc : closed (args.toList.map (ev s)) with
    | none => simp [hc] at h
    | some cs =>
      simp only [hc] at h ⊢
      cases keep with
      | all => exact XCall.mono (fun _ _ h => ⟨h.1, kk _ _ _ _ h.2⟩) h
      | none => exact XCall.mono (fun _ _ h => kk _ _ _ _ h) h
      | but hh => exact h
      | new hh => exact h
  · rename_i t args _
    try simp only at h ⊢
    split at h
    · rename_i f first captured hf
      (try simp only [hf])
      refine bif_mono (fun h => ?_) h
      cases hc : closed (args.toList.map (ev s)) with
      | none => simp [hc] at h
      | some cs =>
        simp only [hc] at h ⊢
        cases keep with
        | all => exact XCall.mono (fun _ _ h => ⟨h.1, kk _ _ _ _ h.2⟩) h
        | none => exact XCall.mono (fun _ _ h => kk _ _ _ _ h) h
        | but hh => exact h
        | new hh => exact h
    · exact h.elim
  · cases hp : primOf op with
    | none => simp [hp] at h
    | some q =>
      obtain ⟨p, xs⟩ := q
      simp only [hp] at h ⊢
      cases hc : closed (xs.map (ev s)) with
      | none => simp [hc] at h
      | some cs =>
        simp only [hc] at h ⊢
        cases keep with
        | all => exact XPrim.mono (fun _ _ h => ⟨h.1, kk _ _ _ _ h.2⟩) h
        | none => exact XPrim.mono (fun _ _ h => kk _ _ _ _ h) h
        | but hh => exact h
        | new hh => exact h

/-! ### operations -/
def xactY (c : Cfg) (o : Oper) (keep : Kp) (K : KY) : KY := fun fl L m x =>
  match floaty c.T o.op with
  | true => fvalY c.T fl L m x o.op fun sv bs => fSV sv fun sv => fList (bs ++ x) fun x' => putY o.dst sv fl fun fl' => K fl' L m x'
  | false => nvalY c.P c.T fl L m x o.op (escOf c o.dst) keep fun sv L' m' x' => fSV sv fun sv => fList L' fun L' => putY o.dst sv fl fun fl' => K fl' L' m' x'

/-- what is said of lists says so of states -/
def OfY (K : KY) : St → Prop := fun s => ∃ fl L m x, s = toSt fl L m x ∧ K fl L m x
theorem OfY.mk {K : KY} {fl : Fl} {L : Loc} {m : Mem} {x : List Nat} (h : K fl L m x) : OfY K (toSt fl L m x) := ⟨fl, L, m, x, rfl, h⟩
theorem OfY.put {K : KY} {fl : Fl} {L : Loc} {m : Mem} {x : List Nat} {d : Option Nat} {y : SV} (h : putY d y fl fun fl' => K fl' L m x) : OfY K ⟨putF (frOf fl) d y, L, m, x⟩ := by
  obtain ⟨fl', h1, h2⟩ := putY_spec h
  exact ⟨fl', L, m, x, by rw [← h2], h1⟩

theorem xactY_spec {c : Cfg} {o : Oper} {keep : Kp} {K : KY} {K' : St → Prop} (hk : ∀ s, OfY K s → K' s) {fl : Fl} {L : Loc} {m : Mem} {x : List Nat} (h : xactY c o keep K fl L m x) : xact c o keep (toSt fl L m x) K' := by
  unfold xactY at h
  unfold xact
  cases hf : floaty c.T o.op with
  | true =>
    simp only [hf] at h ⊢
    rw [fvalY_eq] at h
    refine fval_mono (fun sv bs h => ?_) h
    exact hk _ (OfY.put (fList_spec (fSV_spec h)))
  | false =>
    simp only [hf] at h ⊢
    rw [nvalY_eq] at h
    refine nval_mono (fun sv L' m' x' h => ?_) h
    exact hk _ (OfY.put (fList_spec (fSV_spec h)))

def xopY (c : Cfg) (ops : List Oper) (o : Oper) (keep : Kp) (K : KY) : KY := fun fl L m x =>
  match o.guard with
  | none => xactY c o keep K fl L m x
  | some (j, w) => match gslot ops j with
    | none => False
    | some d => match frOf fl d with
      | .tt => bif w then xactY c o keep K fl L m x else putY o.dst .un fl fun fl' => K fl' L m x
      | .ff => bif w then (putY o.dst .un fl fun fl' => K fl' L m x) else xactY c o keep K fl L m x
      | .un => putY o.dst .un fl fun fl' => K fl' L m x
      | .c (.v (.bool b)) =>
        (b = true → bif w then xactY c o keep K ((d, .tt) :: fl) L m x else putY o.dst .un ((d, .tt) :: fl) fun fl' => K fl' L m x) ∧
        (b = false → bif w then (putY o.dst .un ((d, .ff) :: fl) fun fl' => K fl' L m x) else xactY c o keep K ((d, .ff) :: fl) L m x)
      | _ => False
theorem xopY_spec {c : Cfg} {ops : List Oper} {o : Oper} {keep : Kp} {K : KY} {K' : St → Prop} (hk : ∀ s, OfY K s → K' s) {fl : Fl} {L : Loc} {m : Mem} {x : List Nat} (h : xopY c ops o keep K fl L m x) : xop c ops o keep (toSt fl L m x) K' := by
  unfold xopY at h
  unfold xop
  cases hg : o.guard with
  | none => simp only [hg] at h ⊢; exact xactY_spec hk h
  | some p =>
    obtain ⟨j, w⟩ := p
    simp only [hg] at h ⊢
    cases hs : gslot ops j with
    | none => simp [hs] at h
    | some d =>
      simp only [hs] at h ⊢
      split at h
      · rename_i e
        simp only [e]
        cases w with
        | true => exact xactY_spec hk h
        | false => exact hk _ (OfY.put h)
      · rename_i e
        simp only [e]
        cases w with
        | true => exact hk _ (OfY.put h)
        | false => exact xactY_spec hk h
      · rename_i e
        simp only [e]
        exact hk _ (OfY.put h)
      · rename_i b e
        simp only [e]
        refine ⟨fun eb => ?_, fun eb => ?_⟩
        · have h := h.1 eb
          rw [← frOf_cons]
          cases w with
          | true => exact xactY_spec hk h
          | false => exact hk _ (OfY.put h)
        · have h := h.2 eb
          rw [← frOf_cons]
          cases w with
          | true => exact hk _ (OfY.put h)
          | false => exact xactY_spec hk h
      · exact h.elim
def wOp (c : Cfg) (ops : List Oper) (o : Oper) (_ : List Oper) (ih : KY) : KY := fun fl L m x =>
  match yieldOf (frOf fl) o with
  | some (l, args) => match closed (args.map (ev (toSt fl L m x))) with
    | none => False
    | some cs => XYield c.P l cs m fun r' m' => fSV (resSV r') fun sv => putY o.dst sv fl fun fl' => ih fl' L m' []
  | none => xopY c ops o .none ih fl L m x
/-- by the recursor itself, so that what is carried along looks the same to the kernel -/
noncomputable def xopsY (c : Cfg) (ops l : List Oper) (K : KY) : KY := List.rec (motive := fun _ => KY) K (wOp c ops) l
theorem xopsY_cons (c : Cfg) (ops : List Oper) (o : Oper) (r : List Oper) (K : KY) (fl : Fl) (L : Loc) (m : Mem) (x : List Nat) : xopsY c ops (o :: r) K fl L m x = (match yieldOf (frOf fl) o with
  | some (l, args) => match closed (args.map (ev (toSt fl L m x))) with
    | none => False
    | some cs => XYield c.P l cs m fun r' m' => fSV (resSV r') fun sv => putY o.dst sv fl fun fl' => xopsY c ops r K fl' L m' []
  | none => xopY c ops o .none (xopsY c ops r K) fl L m x) := rfl
theorem xopsY_spec {c : Cfg} {ops : List Oper} {K : KY} {K' : St → Prop} (hk : ∀ s, OfY K s → K' s) : ∀ {l : List Oper} {fl : Fl} {L : Loc} {m : Mem} {x : List Nat}, xopsY c ops l K fl L m x → xops c ops l K' (toSt fl L m x)
  | [], _, _, _, _, h => hk _ (OfY.mk h)
  | o :: r, fl, L, m, x, h => by
    rw [xopsY_cons] at h
    simp only [xops]
    cases hy : yieldOf (frOf fl) o with
    | none =>
      simp only [hy] at h ⊢
      exact xopY_spec (K := xopsY c ops r K) (fun s ⟨_, _, _, _, e, h⟩ => by subst e; exact xopsY_spec hk (l := r) h) h
    | some q =>
      obtain ⟨l, args⟩ := q
      simp only [hy] at h ⊢
      cases hc : closed (args.map (ev (toSt fl L m x))) with
      | none => simp [hc] at h
      | some cs =>
        simp only [hc] at h ⊢
        obtain ⟨R, h1, h2⟩ := h
        refine ⟨R, h1, fun r' m' hr => ?_⟩
        obtain ⟨fl', g1, g2⟩ := putY_spec (fSV_spec (h2 r' m' hr))
        have := xopsY_spec hk (l := r) g1
        rw [toSt, g2] at this
        exact this
def wOrd (c : Cfg) (ops : List Oper) (ms : List Nat) (s0 : St) (i : Nat) (k : Ks) (r : OT) (ih : KY) : KY := fun fl L m x =>
  match nth ops i with
    | some o => bif loadOk c.T s0 ms i o (toSt fl L m x) r.els then xopY c ops o (kpOf s0 k) ih fl L m x else False
    | none => False
def wOr (_ _ : OT) (a b : KY) : KY := fun fl L m x => a fl L m x ∧ b fl L m x
noncomputable def xordY (c : Cfg) (ops : List Oper) (ms : List Nat) (s0 : St) (t : OT) (K : KY) : KY := OT.rec (motive := fun _ => KY) K (wOrd c ops ms s0) wOr t
theorem xordY_op (c : Cfg) (ops : List Oper) (ms : List Nat) (s0 : St) (i : Nat) (k : Ks) (r : OT) (K : KY) (fl : Fl) (L : Loc) (m : Mem) (x : List Nat) : xordY c ops ms s0 (.op i k r) K fl L m x = (match nth ops i with
    | some o => bif loadOk c.T s0 ms i o (toSt fl L m x) r.els then xopY c ops o (kpOf s0 k) (xordY c ops ms s0 r K) fl L m x else False
    | none => False) := rfl
theorem xordY_spec {c : Cfg} {ops : List Oper} {ms : List Nat} {s0 : St} {K : KY} {K' : St → Prop} (hk : ∀ s, OfY K s → K' s) : ∀ {t : OT} {fl : Fl} {L : Loc} {m : Mem} {x : List Nat}, xordY c ops ms s0 t K fl L m x → xord c ops ms s0 t K' (toSt fl L m x)
  | .nil, _, _, _, _, h => hk _ (OfY.mk h)
  | .or a b, _, _, _, _, h => ⟨xordY_spec hk (t := a) h.1, xordY_spec hk (t := b) h.2⟩
  | .op i k r, fl, L, m, x, h => by
    rw [xordY_op] at h
    simp only [xord]
    cases hn : nth ops i with
    | none => simp [hn] at h
    | some o =>
      simp only [hn] at h ⊢
      cases hl : loadOk c.T s0 ms i o (toSt fl L m x) r.els with
      | false => simp [hl] at h
      | true =>
        simp only [hl, cond_true] at h ⊢
        exact xopY_spec (K := xordY c ops ms s0 r K) (fun s ⟨_, _, _, _, e, h⟩ => by subst e; exact xordY_spec hk (t := r) h) h

/-! ### is it the wanted one? by equations -/
def segY (y x : Seg) (K : Prop) : Prop :=
  match y with
  | .one y => match x with
    | .one x => y = x ∧ K
    | _ => False
  | .ints k n l => match x with
    | .ints k' n' l' => bif kEq k k' && Nat.beq n n' then l = l' ∧ K else False
    | _ => False
  | .vals n l => match x with
    | .vals n' l' => bif Nat.beq n n' then l = l' ∧ K else False
    | _ => False
def lbY : LB → LB → Prop → Prop
  | [], [], K => K
  | y :: r, x :: r', K => segY y x (lbY r r' K)
  | _, _, _ => False
def slotY (y x : SV) (K : Prop) : Prop :=
  match x with
  | .c (.a c) => match y with
    | .c (.a d) => lbY d c K
    | _ => False
  | .c (.v v) => match y with
    | .c (.v z) => z = v ∧ K
    | .tt => Value.bool true = v ∧ K
    | .ff => Value.bool false = v ∧ K
    | _ => False
  | x => slotK y x K
def slotsY : Fl → Fl → Prop → Prop
  | [], _, K => K
  | (j, x) :: r, fl, K => slotY (frOf fl j) x (slotsY r fl K)
def locsY : Loc → Loc → Prop → Prop
  | _, [], K => K
  | (t, c) :: r, (t', c') :: r', K => bif Nat.beq t t' then lbY c c' (locsY r r' K) else False
  | [], _ :: _, _ => False
def LeY (fl : Fl) (L : Loc) (fr : Fl) (L1 : Loc) : Prop := bif allUnder L1.length fr then slotsY fr fl (locsY L L1 True) else False
theorem addrK_refl {a : Option Addr} {K : Prop} (h : K) : addrK a a K := by
  cases a with
  | none => exact h
  | some ad =>
    obtain ⟨b, o, sp⟩ := ad
    cases sp with
    | none => exact ⟨rfl, rfl, h⟩
    | some s => exact ⟨rfl, h⟩
theorem valK_refl {v : Value} {K : Prop} (h : K) : valK v v K := by
  cases v <;> simp only [valK, kEq_self, cond_true] <;> first | exact ⟨rfl, h⟩ | exact ⟨trivial, h⟩ | exact addrK_refl h | exact addrK_refl ⟨rfl, rfl, h⟩ | exact addrK_refl ⟨trivial, trivial, h⟩
theorem segY_k {y x : Seg} {K K' : Prop} (k : K → K') (h : segY y x K) : segK y x K' := by
  unfold segY at h
  unfold segK
  split at h
  · split at h
    · obtain ⟨rfl, h⟩ := h; exact valK_refl (k h)
    · exact h.elim
  · split at h
    · exact bif_mono (fun h => ⟨h.1, k h.2⟩) h
    · exact h.elim
  · split at h
    · exact bif_mono (fun h => ⟨h.1, k h.2⟩) h
    · exact h.elim
theorem lbY_k : ∀ {y x : LB} {K K' : Prop} (_ : K → K') (_ : lbY y x K), lbK y x K'
  | [], [], _, _, k, h => k h
  | y :: r, x :: r', _, _, k, h => segY_k (fun h => lbY_k k h) h
  | [], _ :: _, _, _, _, h => h.elim
  | _ :: _, [], _, _, _, h => h.elim
theorem slotK_mono {y x : SV} {K K' : Prop} (k : K → K') (hx : ∀ c, x ≠ .c c) (h : slotK y x K) : slotK y x K' := by
  cases x with
  | c z => exact absurd rfl (hx z)
  | p hh o => cases y <;> first | exact h.elim | exact bif_mono k h
  | q hh o d => cases y <;> first | exact h.elim | exact bif_mono (fun h => ⟨h.1, k h.2⟩) h
  | sl hh o d n c => cases y <;> first | exact h.elim | exact bif_mono (fun h => ⟨h.1, h.2.1, h.2.2.1, k h.2.2.2⟩) h
  | t l => cases y <;> first | exact h.elim | exact ⟨h.1, k h.2⟩
  | tt => cases y <;> first | exact h.elim | exact k h
  | ff => cases y <;> first | exact h.elim | exact k h
  | un => cases y <;> first | exact h.elim | exact k h
  | any => exact k h
theorem slotY_k {y x : SV} {K K' : Prop} (k : K → K') (h : slotY y x K) : slotK y x K' := by
  cases x with
  | c z =>
    cases z with
    | a c => cases y with
      | c w => cases w with
        | a d => exact lbY_k k h
        | v _ => exact h.elim
      | _ => exact h.elim
    | v v => cases y with
      | c w => cases w with
        | a d => exact h.elim
        | v z => obtain ⟨rfl, h⟩ := h; exact valK_refl (k h)
      | tt => obtain ⟨rfl, h⟩ := h; exact ⟨rfl, k h⟩
      | ff => obtain ⟨rfl, h⟩ := h; exact ⟨rfl, k h⟩
      | _ => exact h.elim
  | _ => exact slotK_mono k (by intro c; simp) h
theorem slotsY_k : ∀ {fr fl : Fl} {K K' : Prop} (_ : K → K') (_ : slotsY fr fl K), slotsK fr (frOf fl) K'
  | [], _, _, _, k, h => k h
  | (j, x) :: r, fl, _, _, k, h => slotY_k (fun h => slotsY_k (fr := r) k h) h
theorem locsY_k : ∀ {L L1 : Loc} {K K' : Prop} (_ : K → K') (_ : locsY L L1 K), locsK L L1 K'
  | [], [], _, _, k, h => k h
  | _ :: _, [], _, _, k, h => k h
  | (t, c) :: r, (t', c') :: r', _, _, k, h => bif_mono (fun h => lbY_k (fun h => locsY_k k h) h) h
  | [], _ :: _, _, _, _, h => h.elim
theorem LeY.k {fl : Fl} {L : Loc} {fr : Fl} {L1 : Loc} {m : Mem} {x : List Nat} (h : LeY fl L fr L1) : LeK (toSt fl L m x) fr L1 m :=
  bif_mono (fun h => slotsY_k (fun h => locsY_k (fun _ => Sub.refl _) h) h) h

/-! ### code -/
/-- A LOOP: what its head knows, by i and the memory; what these must be; a measure that falls. -/
inductive XLoopY (X : (Exit → KY) → KY) (Q : Exit → KY) (fl : Fl) (L : Loc) (m : Mem) : Prop
  | mk {ι : Type} (μ : ι → Nat) (Inv : ι → Mem → Prop) (fr : ι → Fl) (Lo : ι → Loc) (i0 : ι) (h0 : Inv i0 m) (hk : LeY fl L (fr i0) (Lo i0))
    (step : ∀ i m, Inv i m → fFl (fr i) fun fl => fList (Lo i) fun L => X (fun e fl' L' m' x' => match e with
      | .normal => ∃ j, Inv j m' ∧ μ j < μ i ∧ LeY fl' L' (fr j) (Lo j)
      | e => Q e fl' L' m' x') fl L m [])
def setY (o : Operand) (y : SV) (fl : Fl) (K : Fl → Prop) : Prop :=
  match o with
  | .tmp t => K ((t, y) :: fl)
  | _ => K fl
theorem setY_spec {o : Operand} {y : SV} {fl : Fl} {K : Fl → Prop} (h : setY o y fl K) (L : Loc) (m : Mem) (x : List Nat) : ∃ fl', K fl' ∧ toSt fl' L m x = setc (toSt fl L m x) o y := by
  cases o <;> first | exact ⟨fl, h, rfl⟩ | exact ⟨_, h, by simp only [setc, toSt, frOf_cons]⟩
abbrev CQ := (Exit → KY) → KY
def wSkip : CQ := fun Q => Q .normal
def regY (c : Cfg) (id : Nat) (ops : Array Oper) (draw : Bool) (K : KY) : Fl → Loc → Mem → Prop := fun fl L m => match draw with
  | false => xopsY c ops.toList ops.toList K fl L m []
  | true => bif fresh (toSt fl L m []) ops.toList then xordY c ops.toList (c.ord id).ms (toSt fl L m []) (c.ord id).od K fl L m [] else False
/-- where the run halts, so that what is known may be said anew -/
inductive XAtY (X : Fl → Loc → Mem → Prop) : Fl → Loc → Mem → Prop
  | at {fl : Fl} {L : Loc} {m : Mem} (h : X fl L m) : XAtY X fl L m
  | via {fl : Fl} {L : Loc} {m : Mem} (fl1 : Fl) (L1 : Loc) (hk : LeY fl L fl1 L1) (h : XAtY X fl1 L1 m) : XAtY X fl L m
def wRegion (c : Cfg) (id : Nat) (ops : Array Oper) (draw : Bool) : CQ := fun Q fl L m _ => match c.cut id with
  | false => regY c id ops draw (Q .normal) fl L m
  | true => XAtY (regY c id ops draw (Q .normal)) fl L m
def wSeq (_ _ : Code) (x y : CQ) : CQ := fun Q => x (fun e => match e with
  | .normal => y Q
  | e => Q e)
def wCond (o : Operand) (_ _ : Code) (a b : CQ) : CQ := fun Q fl L m x => match ev (toSt fl L m x) o with
  | .tt => a Q fl L m x
  | .ff => b Q fl L m x
  | .c (.v (.bool bb)) => (bb = true → setY o .tt fl fun fl => a Q fl L m x) ∧ (bb = false → setY o .ff fl fun fl => b Q fl L m x)
  | _ => False
def wBlock (id : Nat) (_ : Code) (b : CQ) : CQ := fun Q => b (fun e => match e with
  | .exit j => bif Nat.beq j id then Q .normal else Q (.exit j)
  | e => Q e)
def wLoop (_ : Code) (b : CQ) : CQ := fun Q fl L m _ => XLoopY b Q fl L m
abbrev RY := Operand → Array Tmp → Code → Code → CQ
def wRange (rf : RY) (g : Operand) (ps : Array Tmp) (x y : Code) (_ _ : CQ) : CQ := rf g ps x y
def wExit (id : Nat) : CQ := fun Q => Q (.exit id)
def wScope (sc : Code → CQ) (b : Code) (_ : CQ) : CQ := sc b
def wLabel (_ : Nat) : CQ := fun Q => Q .normal
def wGoto (l : Nat) : CQ := fun Q => Q (.goto l)
def wRet : CQ := fun Q => Q .ret
def wRefuse (_ : String) : CQ := fun _ _ _ _ _ => False
noncomputable def xwpYG (c : Cfg) (sc : Code → CQ) (rf : RY) (code : Code) : CQ := Code.rec (motive := fun _ => CQ) wSkip (wRegion c) wSeq wCond wBlock wLoop (wRange rf) wExit (wScope sc) wLabel wGoto wRet wRefuse code
def QJY (l : Nat) (J : KY) (Q : Exit → KY) : Exit → KY
  | .goto l' => fun fl L m x => bif Nat.beq l' l then J fl L m x else False
  | e => Q e
/-- A SCOPE with jumps to one label -/
inductive XScopeY (X : Code → CQ) (b : Code) (Q : Exit → KY) (fl : Fl) (L : Loc) (m : Mem) (x : List Nat) : Prop
  | mk (l : Nat) (rest : Code) (hf : findLabel b l = some rest) {ι : Type} (μ : ι → Nat) (Inv : ι → Mem → Prop) (fr : ι → Fl) (Lo : ι → Loc)
    (first : X b (QJY l (fun fl' L' m' x' => ∃ j, Inv j m' ∧ LeY fl' L' (fr j) (Lo j)) Q) fl L m x)
    (pass : ∀ i m, Inv i m → fFl (fr i) fun fl => fList (Lo i) fun L => X rest (QJY l (fun fl' L' m' x' => ∃ j, Inv j m' ∧ μ j < μ i ∧ LeY fl' L' (fr j) (Lo j)) Q) fl L m [])
def putAllY : Fl → List Tmp → List CV → Fl
  | fl, p :: ps, x :: xs => putAllY ((p, .c x) :: fl) ps xs
  | fl, _, _ => fl
theorem frOf_putAllY : ∀ (ps : List Tmp) (xs : List CV) (fl : Fl), frOf (putAllY fl ps xs) = putAll (frOf fl) ps xs
  | [], xs, fl => by cases xs <;> rfl
  | p :: ps, [], fl => rfl
  | p :: ps, x :: xs, fl => by
    simp only [putAllY, putAll]
    rw [frOf_putAllY ps xs, frOf_cons]
def asgY (X : Code → CQ) (body : Code) (J : Mem → Prop) : Exit → KY
  | .normal => fun fl L m _ => match L with
    | [] => X body (fun e => match e with
      | .normal => fun _ _ m _ => J m
      | _ => fun _ _ _ _ => False) fl [] m []
    | _ :: _ => False
  | _ => fun _ _ _ _ => False
/-- A RANGE OVER A FUNCTION: what memory is known between two rounds, by i; what may come next -/
inductive XRangeY (P : Program) (X : Code → CQ) (g : Operand) (ps : Array Tmp) (asg body : Code) (Q : Exit → KY) (fl : Fl) (L : Loc) (m : Mem) : Prop
  | mk (gf : FuncId) (captured : Array Value) (hg : ev (toSt fl L m []) g = .c (.v (.func (.func gf) #[] captured))) (hcap : allOne captured.toList = true) (hL : L = [])
    {ι : Type} (Inv : ι → Mem → Prop) (i0 : ι) (h0 : Inv i0 m) (El : ι → List CV → ι → Prop) (hEl : ∀ i x j, El i x j → x.length = ps.size)
    (round : ∀ i x j m, Inv i m → El i x j → fFl (putAllY fl ps.toList x) fun fl => X asg (asgY X body (Inv j)) fl [] m [])
    (Fin : Mem → Prop)
    (iter : ∀ (l : Nat) (o : Obj), m l = none → (∀ i x j m, Inv i m → El i x j → m l = none → YSpec P l x (m.set l o) fun r m' => r = [.v (.bool true)] ∧ ∃ m1, Inv j m1 ∧ m1 l = none ∧ m' = m1.set l o) →
      Spec P gf (.v (.func (.yield l) #[] #[]) :: captured.toList.map CV.v) (m.set l o) fun r m' => ∃ m1, Fin m1 ∧ m1 l = none ∧ m' = m1.set l o)
    (rest : ∀ m1, Fin m1 → Q .normal fl [] m1 [])
noncomputable def xwpY0 (c : Cfg) (code : Code) : CQ := xwpYG c (fun _ _ _ _ _ _ => False) (fun _ _ _ _ _ _ _ _ _ => False) code
noncomputable def xwpY (c : Cfg) (code : Code) : CQ := xwpYG c (fun b => XScopeY (xwpY0 c) b) (fun g ps x y Q fl L m _ => XRangeY c.P (xwpY0 c) g ps x y Q fl L m) code
section
variable {sc : Code → CQ} {rf : RY}
theorem xwpY_seq (c : Cfg) (x y : Code) (Q : Exit → KY) : xwpYG c sc rf (.seq x y) Q = xwpYG c sc rf x (fun e => match e with
  | .normal => xwpYG c sc rf y Q
  | e => Q e) := rfl
theorem xwpY_block (c : Cfg) (id : Nat) (b : Code) (Q : Exit → KY) : xwpYG c sc rf (.block id b) Q = xwpYG c sc rf b (fun e => match e with
  | .exit j => bif Nat.beq j id then Q .normal else Q (.exit j)
  | e => Q e) := rfl
theorem xwpY_cond (c : Cfg) (o : Operand) (a b : Code) (Q : Exit → KY) (fl : Fl) (L : Loc) (m : Mem) (x : List Nat) : xwpYG c sc rf (.cond o a b) Q fl L m x = (match ev (toSt fl L m x) o with
  | .tt => xwpYG c sc rf a Q fl L m x
  | .ff => xwpYG c sc rf b Q fl L m x
  | .c (.v (.bool bb)) => (bb = true → setY o .tt fl fun fl => xwpYG c sc rf a Q fl L m x) ∧ (bb = false → setY o .ff fl fun fl => xwpYG c sc rf b Q fl L m x)
  | _ => False) := rfl
theorem xwpY_region (c : Cfg) (id : Nat) (ops : Array Oper) (draw : Bool) (Q : Exit → KY) (fl : Fl) (L : Loc) (m : Mem) (x : List Nat) : xwpYG c sc rf (.region id ops draw) Q fl L m x = (match c.cut id with
  | false => regY c id ops draw (Q .normal) fl L m
  | true => XAtY (regY c id ops draw (Q .normal)) fl L m) := rfl
theorem xwpY_loop (c : Cfg) (b : Code) (Q : Exit → KY) (fl : Fl) (L : Loc) (m : Mem) (x : List Nat) : xwpYG c sc rf (.loop b) Q fl L m x = XLoopY (xwpYG c sc rf b) Q fl L m := rfl
end
theorem regY_spec {c : Cfg} {id : Nat} {ops : Array Oper} {draw : Bool} {K : KY} {K' : St → Prop} (hk : ∀ s, OfY K s → K' s) {fl : Fl} {L : Loc} {m : Mem} {x : List Nat} (h : regY c id ops draw K fl L m) : regX c id ops draw K' (toSt fl L m x) := by
  unfold regY at h
  unfold regX
  cases draw with
  | false => exact xopsY_spec hk h
  | true =>
    simp only at h ⊢
    cases hf : fresh (toSt fl L m []) ops.toList with
    | false => simp [hf] at h
    | true =>
      have hf' : fresh (toSt fl L m x) ops.toList = true := by rw [← fresh_x (x := [])]; exact hf
      simp only [hf, hf', cond_true] at h ⊢
      rw [← xord_x (x := [])]
      exact xordY_spec hk h
theorem XAtY.spec {c : Cfg} {id : Nat} {ops : Array Oper} {draw : Bool} {K : KY} {K' : St → Prop} (hk : ∀ s, OfY K s → K' s) {fl : Fl} {L : Loc} {m : Mem} (h : XAtY (regY c id ops draw K) fl L m) : ∀ {x : List Nat}, XAt (regX c id ops draw K') (toSt fl L m x) := by
  induction h with
  | «at» h => exact .at (regY_spec hk h)
  | via fl1 L1 hl _ ih => exact .via _ _ _ hl.k ih

theorem xwpYG_spec {c : Cfg} {sc : Code → CQ} {sc' : Code → (Exit → St → Prop) → St → Prop} {rf : RY} {rf' : RF} (hsc : ∀ (b : Code) {Q : Exit → KY} {Q' : Exit → St → Prop} (_ : ∀ e s, OfY (Q e) s → Q' e s) {fl : Fl} {L : Loc} {m : Mem} {x : List Nat}, sc b Q fl L m x → sc' b Q' (toSt fl L m x))
    (hrf : ∀ g ps x y {Q : Exit → KY} {Q' : Exit → St → Prop} (_ : ∀ e s, OfY (Q e) s → Q' e s) {fl : Fl} {L : Loc} {m : Mem} {xx : List Nat}, rf g ps x y Q fl L m xx → rf' g ps x y Q' (toSt fl L m xx)) :
    ∀ (code : Code) {Q : Exit → KY} {Q' : Exit → St → Prop} (_ : ∀ e s, OfY (Q e) s → Q' e s) {fl : Fl} {L : Loc} {m : Mem} {x : List Nat}, xwpYG c sc rf code Q fl L m x → xwpG c sc' rf' code Q' (toSt fl L m x) := by
  intro code
  induction code with
  | skip => intro Q Q' hq fl L m x h; exact hq _ _ (OfY.mk h)
  | label l => intro Q Q' hq fl L m x h; exact hq _ _ (OfY.mk h)
  | exit id => intro Q Q' hq fl L m x h; exact hq _ _ (OfY.mk h)
  | goto l => intro Q Q' hq fl L m x h; exact hq _ _ (OfY.mk h)
  | ret => intro Q Q' hq fl L m x h; exact hq _ _ (OfY.mk h)
  | refuse why => intro Q Q' hq fl L m x h; exact h.elim
  | rangeFunc f ps x y _ _ => intro Q Q' hq fl L m xx h; exact hrf f ps x y hq h
  | scope b _ => intro Q Q' hq fl L m x h; exact hsc b hq h
  | seq x y ihx ihy =>
    intro Q Q' hq fl L m xx h
    rw [xwpY_seq] at h
    refine ihx (fun e s ⟨fl, L, m, x, e', h⟩ => ?_) h
    subst e'
    cases e <;> first | exact ihy hq h | exact hq _ _ (OfY.mk h)
  | block id b ih =>
    intro Q Q' hq fl L m xx h
    rw [xwpY_block] at h
    refine ih (fun e s ⟨fl, L, m, x, e', h⟩ => ?_) h
    subst e'
    cases e with
    | exit j =>
      simp only at h ⊢
      cases hb : Nat.beq j id with
      | true => simp only [hb, cond_true] at h ⊢; exact hq _ _ (OfY.mk h)
      | false => simp only [hb, cond_false] at h ⊢; exact hq _ _ (OfY.mk h)
    | _ => exact hq _ _ (OfY.mk h)
  | cond o a b iha ihb =>
    intro Q Q' hq fl L m x h
    rw [xwpY_cond] at h
    simp only [xwpG]
    split at h
    · rename_i e; simp only [e]; exact iha hq h
    · rename_i e; simp only [e]; exact ihb hq h
    · rename_i bb e
      simp only [e]
      refine ⟨fun eb => ?_, fun eb => ?_⟩
      · obtain ⟨fl', h1, h2⟩ := setY_spec (h.1 eb) L m x
        rw [← h2]; exact iha hq h1
      · obtain ⟨fl', h1, h2⟩ := setY_spec (h.2 eb) L m x
        rw [← h2]; exact ihb hq h1
    · exact h.elim
  | region id ops draw =>
    intro Q Q' hq fl L m x h
    rw [xwpY_region] at h
    simp only [xwpG]
    cases hc : c.cut id with
    | false => simp only [hc] at h ⊢; exact regY_spec (hq .normal) h
    | true => simp only [hc] at h ⊢; exact h.spec (hq .normal)
  | loop b ih =>
    intro Q Q' hq fl L m x h
    rw [xwpY_loop] at h
    obtain ⟨μ, Inv, fr, Lo, i0, h0, hk, step⟩ := h
    refine XLoop.mk (ι := _ × Mem) (fun i => μ i.1) (fun i => Inv i.1 i.2) (fun i => fr i.1) (fun i => Lo i.1) (fun i => i.2) (i0, m) h0 hk.k ?_
    rintro ⟨i, m1⟩ hi
    have hs := fFl_spec (step i m1 hi)
    have hs := fList_spec (l := Lo i) hs
    refine ih (fun e s ⟨fl, L, m, x, e', h⟩ => ?_) hs
    subst e'
    cases e with
    | normal =>
      obtain ⟨j, h1, h2, h3⟩ := h
      exact ⟨(j, m), h1, h2, h3.k⟩
    | _ => exact hq _ _ (OfY.mk h)
theorem xwpY0_spec {c : Cfg} (code : Code) {Q : Exit → KY} {Q' : Exit → St → Prop} (hq : ∀ e s, OfY (Q e) s → Q' e s) {fl : Fl} {L : Loc} {m : Mem} {x : List Nat} (h : xwpY0 c code Q fl L m x) : xwp0 c code Q' (toSt fl L m x) :=
  xwpYG_spec (fun _ _ _ _ _ _ _ _ h => h.elim) (fun _ _ _ _ _ _ _ _ _ _ _ h => h.elim) code hq h
theorem QJY.spec {l : Nat} {J : KY} {J' : St → Prop} {Q : Exit → KY} {Q' : Exit → St → Prop} (hq : ∀ e s, OfY (Q e) s → Q' e s) (hj : ∀ s, OfY J s → J' s) : ∀ e s, OfY (QJY l J Q e) s → QJ l J' Q' e s := by
  rintro e s ⟨fl, L, m, x, e', h⟩
  subst e'
  cases e with
  | goto l' =>
    simp only [QJY] at h
    simp only [QJ]
    cases hb : Nat.beq l' l with
    | true => simp only [hb, cond_true] at h ⊢; exact hj _ (OfY.mk h)
    | false => simp [hb] at h
  | _ => exact hq _ _ (OfY.mk h)
theorem xwpY_spec {c : Cfg} (code : Code) {Q : Exit → KY} {Q' : Exit → St → Prop} (hq : ∀ e s, OfY (Q e) s → Q' e s) {fl : Fl} {L : Loc} {m : Mem} {x : List Nat} (h : xwpY c code Q fl L m x) : xwp c code Q' (toSt fl L m x) := by
  refine xwpYG_spec (fun b Q Q' hq fl L m x h => ?_) (fun g ps asg body Q Q' hq fl L m x h => ?_) code hq h
  · obtain ⟨l, rest, hf, μ, Inv, fr, Lo, first, pass⟩ := h
    refine XScope.mk l rest hf (ι := _ × Mem) (fun i => μ i.1) (fun i => Inv i.1 i.2) (fun i => fr i.1) (fun i => Lo i.1) (fun i => i.2) ?_ ?_
    · refine xwpY0_spec b (QJY.spec hq ?_) first
      rintro s ⟨fl, L, m, x, e', j, h1, h2⟩
      subst e'
      exact ⟨(j, m), h1, h2.k⟩
    · rintro ⟨i, m1⟩ hi
      have hs := fFl_spec (pass i m1 hi)
      have hs := fList_spec (l := Lo i) hs
      refine xwpY0_spec rest (QJY.spec hq ?_) hs
      rintro s ⟨fl, L, m, x, e', j, h1, h2, h3⟩
      subst e'
      exact ⟨(j, m), h1, h2, h3.k⟩
  · obtain ⟨gf, captured, hg, hcap, hL, Inv, i0, h0, El, hEl, round, Fin, iter, rest⟩ := h
    refine XRange.mk gf captured hg hcap hL Inv i0 h0 El hEl (fun i y j m hi hy => ?_) Fin iter (fun m1 hF => hq _ _ (OfY.mk (rest m1 hF)))
    have hs := fFl_spec (round i y j m hi hy)
    have e : (⟨putAll (toSt fl L m x).fr ps.toList y, [], m, []⟩ : St) = toSt (putAllY fl ps.toList y) [] m [] := by
      show (⟨putAll (frOf fl) ps.toList y, [], m, []⟩ : St) = ⟨frOf (putAllY fl ps.toList y), [], m, []⟩
      rw [frOf_putAllY]
    rw [e]
    refine xwpY0_spec asg (fun e s ⟨fl, L, m, x, e', h⟩ => ?_) hs
    subst e'
    cases e with
    | normal =>
      cases L with
      | cons _ _ => exact h.elim
      | nil =>
        refine xwpY0_spec body (fun e s ⟨fl, L, m, x, e', h⟩ => ?_) h
        subst e'
        cases e <;> exact h
    | _ => exact h.elim
/-- the rest of a code, from a region on -/
def restAt (id : Nat) : Code → Code
  | .seq x y => match restAt id x with
    | .skip => restAt id y
    | r => .seq r y
  | .region i o d => bif Nat.beq i id then .region i o d else .skip
  | _ => .skip

/-! ### a function -/
def initFrom : Nat → List CV → Fl
  | _, [] => []
  | k, x :: r => (k, .c x) :: initFrom (k + 1) r
theorem initFrom_at : ∀ (args : List CV) (k i : Nat), frOf (initFrom k args) (k + i) = (match nth args i with | some x => .c x | none => .any)
  | [], k, i => rfl
  | x :: r, k, 0 => by simp [initFrom, frOf, nth, Nat.beq_refl]
  | x :: r, k, i + 1 => by
    have hne : Nat.beq (k + (i + 1)) k = false := by
      cases hb : Nat.beq (k + (i + 1)) k with
      | false => rfl
      | true => have := Nat.eq_of_beq_eq_true hb; omega
    have := initFrom_at r (k + 1) i
    simp only [initFrom, frOf, nth, hne, cond_false]
    rw [show k + (i + 1) = k + 1 + i by omega]
    exact this
theorem initF_eq (args : List CV) : initF args = frOf (initFrom 0 args) := by
  funext i
  have := initFrom_at args 0 i
  rw [Nat.zero_add] at this
  rw [this]; rfl
def QRetY (T : Tab) (rs : List ResultVar) (R : List CV → Mem → Prop) : Exit → KY
  | .ret => fun fl L m x => xres T (toSt fl L m x) rs fun r => R r m
  | .normal => fun fl L m x => xres T (toSt fl L m x) rs fun r => R r m
  | _ => fun _ _ _ _ => False
/-- the way from the run anew to the run -/
theorem goY {c : Cfg} {code : Code} {T : Tab} {rs : List ResultVar} {R : List CV → Mem → Prop} {args : List CV} {m : Mem} (h : fFl (initFrom 0 args) fun fl => xwpY c code (QRetY T rs R) fl [] m []) : xwp c code (QRet T rs R) ⟨initF args, [], m, []⟩ := by
  rw [initF_eq]
  refine xwpY_spec code (fun e s ⟨fl, L, m, x, e', h⟩ => ?_) (fFl_spec h)
  subst e'
  cases e <;> first | exact h | exact h.elim
end Go.E
