/-
  E19, E20, E21, E22, E23, E25, E26, E27, E28, E29, CaF, WireP, WireQ, WireQ2
-/
import Derived.Test.YtcionccfgcnhoaaGreatDoorStoreRefusesZ5
import Derived.Laws.CopyRow
import Derived.Lib.AppendZerosOnto
import Derived.Lib.ConvBytes
import Derived.Laws.LoneSync
import Derived.Lib.Overlaps
namespace Go.E
abbrev Fl := List (Nat × SV)
abbrev KY := Fl → Loc → Mem → List Nat → Prop
abbrev toSt (fl : Fl) (L : Loc) (m : Mem) (x : List Nat) : St := ⟨frOf fl, L, m, x⟩
def fSV (y : SV) (K : SV → Prop) : Prop :=
  match y with
  | .c x => K (.c x)
  | .t l => K (.t l)
  | .p h o => K (.p h o)
  | .q h o d => K (.q h o d)
  | .sl h o d n c => K (.sl h o d n c)
  | .tt => K .tt
  | .ff => K .ff
  | .un => K .un
  | .any => K .any
theorem fSV_spec {y : SV} {K : SV → Prop} (h : fSV y K) : K y := by cases y <;> exact h
def fList {α : Type} : List α → (List α → Prop) → Prop
  | [], K => K []
  | a :: r, K => fList r fun r' => K (a :: r')
theorem fList_spec {α : Type} : ∀ {l : List α} {K : List α → Prop}, fList l K → K l
  | [], _, h => h
  | a :: r, K, h => fList_spec (l := r) (K := fun r' => K (a :: r')) h
def fFl : Fl → (Fl → Prop) → Prop
  | [], K => K []
  | (j, y) :: r, K => fSV y fun y => fFl r fun r' => K ((j, y) :: r')
theorem fFl_spec : ∀ {l : Fl} {K : Fl → Prop}, fFl l K → K l
  | [], _, h => h
  | (j, y) :: r, K, h => fFl_spec (l := r) (K := fun r' => K ((j, y) :: r')) (fSV_spec h)
def putY (d : Option Nat) (y : SV) (fl : Fl) (K : Fl → Prop) : Prop :=
  match d with
  | none => K fl
  | some d => K ((d, y) :: fl)
theorem frOf_cons (fl : Fl) (d : Nat) (y : SV) : frOf ((d, y) :: fl) = putF (frOf fl) (some d) y := funext fun _ => rfl
theorem putY_spec {d : Option Nat} {y : SV} {fl : Fl} {K : Fl → Prop} (h : putY d y fl K) : ∃ fl', K fl' ∧ frOf fl' = putF (frOf fl) d y := by
  cases d with
  | none => exact ⟨fl, h, rfl⟩
  | some d => exact ⟨_, h, frOf_cons ..⟩
def fLoadY (T : Tab) (L : Loc) (m : Mem) (t : TypeId) (x : SV) (K : SV → List Nat → Prop) : Prop :=
  match T t with
  | none => False
  | some i => match x with
    | .p h off => match nth L h with
      | none => False
      | some (_, c) => match i.k.agg with
        | true => match LB.sub c off i.size with
          | some d => K (.c (.a d)) []
          | none => False
        | false => match LB.get c off with
          | some y => K (.c (.v y)) []
          | none => False
    | .q h off d => match nth L h with
      | none => False
      | some (_, c) => match i.k.agg with
        | true => LB.dsub c off d i.size fun e => K (.c (.a e)) []
        | false => LB.dget c off d fun y => K (.c (.v y)) []
    | .c (.v (.pointer (some ⟨b, off, none⟩))) => match i.k.agg with
      | true => ∃ c : LB, LB.ok c ∧ LB.size c = i.size ∧ MRange m b off (LB.cells c) ∧ K (.c (.a c)) [b]
      | false => ∃ y, mcell m b off = some y ∧ (y.oneCell' = true) ∧ K (.c (.v y)) [b]
    | _ => False
def fvalY (T : Tab) (fl : Fl) (L : Loc) (m : Mem) (x : List Nat) (op : Op) (K : SV → List Nat → Prop) : Prop :=
  match op with
  | .load t xo => fLoadY T L m t (ev (toSt fl L m x) xo) K
  | .convert src dst xo => match strConv T src dst with
    | true => fStr L m (ev (toSt fl L m x) xo) K
    | false => fConv T src dst (ev (toSt fl L m x) xo) fun z => K z []
  | op => fval T (toSt fl L m x) op K
theorem fvalY_eq (T : Tab) (fl : Fl) (L : Loc) (m : Mem) (x : List Nat) (op : Op) (K : SV → List Nat → Prop) : fvalY T fl L m x op K = fval T (toSt fl L m x) op K := by
  cases op <;> rfl
def nStoreY (T : Tab) (L : Loc) (m : Mem) (t : TypeId) (x y : SV) (K : Loc → Mem → Prop) : Prop :=
  match T t with
  | none => False
  | some i => match x with
    | .p h off => match nth L h with
      | none => False
      | some (t', c) => match y with
        | .c (.v z) => bif Nat.beq i.size 1 then (match LB.set c off z with | some d => K (L.set h (t', d)) m | none => False) else False
        | .tt => bif Nat.beq i.size 1 then (match LB.set c off (.bool true) with | some d => K (L.set h (t', d)) m | none => False) else False
        | .ff => bif Nat.beq i.size 1 then (match LB.set c off (.bool false) with | some d => K (L.set h (t', d)) m | none => False) else False
        | .c (.a v) => bif Nat.beq i.size (LB.size v) then (match LB.putW c off v with | some d => K (L.set h (t', d)) m | none => False) else False
        | _ => False
    | .q h off e => match nth L h with
      | none => False
      | some (t', c) => match y with
        | .c (.v z) => bif Nat.beq i.size 1 then LB.dset c off e z (fun d => K (L.set h (t', d)) m) else False
        | .tt => bif Nat.beq i.size 1 then LB.dset c off e (.bool true) (fun d => K (L.set h (t', d)) m) else False
        | .ff => bif Nat.beq i.size 1 then LB.dset c off e (.bool false) (fun d => K (L.set h (t', d)) m) else False
        | .c (.a v) => bif Nat.beq i.size (LB.size v) then LB.dput c off e v (fun d => K (L.set h (t', d)) m) else False
        | _ => False
    | .c (.v (.pointer (some ⟨b, off, none⟩))) => match y with
      | .c (.v z) => bif Nat.beq i.size 1 then (∃ arr t' fr, m b = some (.cells arr t' fr) ∧ (off < arr.size ∧ ¬ (fr.1 ≤ off ∧ off < fr.2)) ∧ K L (m.set b (.cells (arr.setIfInBounds off z) t' fr))) else False
      | .tt => bif Nat.beq i.size 1 then (∃ arr t' fr, m b = some (.cells arr t' fr) ∧ (off < arr.size ∧ ¬ (fr.1 ≤ off ∧ off < fr.2)) ∧ K L (m.set b (.cells (arr.setIfInBounds off (.bool true)) t' fr))) else False
      | .ff => bif Nat.beq i.size 1 then (∃ arr t' fr, m b = some (.cells arr t' fr) ∧ (off < arr.size ∧ ¬ (fr.1 ≤ off ∧ off < fr.2)) ∧ K L (m.set b (.cells (arr.setIfInBounds off (.bool false)) t' fr))) else False
      | .c (.a v) => bif Nat.beq i.size (LB.size v) then (∃ arr t' fr, m b = some (.cells arr t' fr) ∧ (off + LB.size v ≤ arr.size ∧ ∀ j, j < LB.size v → ¬ (fr.1 ≤ off + j ∧ off + j < fr.2)) ∧ K L (m.set b (.cells (arr.toList.take off ++ (LB.cells v ++ arr.toList.drop (off + LB.size v))).toArray t' fr))) else False
      | _ => False
    | _ => False
def nNewY (L : Loc) (m : Mem) (x : List Nat) (t : TypeId) (c : LB) (ext : Bool) (K : SV → Loc → Mem → List Nat → Prop) : Prop :=
  match ext with
  | false => K (.p L.length 0) (L ++ [(t, c)]) m x
  | true => ∀ b, m b = none → K (.c (.v (.pointer (some ⟨b, 0, none⟩)))) L (m.set b (.cells (LB.cells c).toArray t)) x
def nvalY (P : Program) (T : Tab) (fl : Fl) (L : Loc) (m : Mem) (x : List Nat) (op : Op) (ext : Bool) (keep : Kp) (K : SV → Loc → Mem → List Nat → Prop) : Prop :=
  match op with
  | .alloc t => match T t with
    | some i => nNewY L m x t i.zero ext K
    | none => False
  | .box t y => match ev (toSt fl L m x) y with
    | .c (.a c) => nNewY L m x t c ext K
    | .c (.v z) => nNewY L m x t [.one z] ext K
    | .tt => nNewY L m x t [.one (.bool true)] ext K
    | .ff => nNewY L m x t [.one (.bool false)] ext K
    | _ => False
  | .store t xo y => match keep with
    | .all => False
    | .none => nStoreY T L m t (ev (toSt fl L m x) xo) (ev (toSt fl L m x) y) fun L m => K .un L m []
    | .but h => bif atHandle h (ev (toSt fl L m x) xo) then nStoreY T L m t (ev (toSt fl L m x) xo) (ev (toSt fl L m x) y) (fun L m => K .un L m x) else False
    | .new n => bif newHandle n (ev (toSt fl L m x) xo) then nStoreY T L m t (ev (toSt fl L m x) xo) (ev (toSt fl L m x) y) (fun L m => K .un L m x) else False
  | .call ⟨.value (.func f), args, _⟩ => match closed (args.toList.map (ev (toSt fl L m x))) with
    | Option.none => False
    | some cs => match keep with
      | .all => XCall P f cs m fun r m' => Kept x m m' ∧ K (resSV r) L m' x
      | .none => XCall P f cs m fun r m' => K (resSV r) L m' []
      | .but _ => False
      | .new _ => False
  | .call ⟨.value (.tmp t), args, _⟩ => match frOf fl t with
    | .c (.v (.func (.func f) first captured)) => bif allOne first.toList && allOne captured.toList then (match closed (args.toList.map (ev (toSt fl L m x))) with
      | Option.none => False
      | some cs => match keep with
        | .all => XCall P f (first.toList.map CV.v ++ cs ++ captured.toList.map CV.v) m fun r m' => Kept x m m' ∧ K (resSV r) L m' x
        | .none => XCall P f (first.toList.map CV.v ++ cs ++ captured.toList.map CV.v) m fun r m' => K (resSV r) L m' []
        | .but _ => False
        | .new _ => False) else False
    | _ => False
  | op => match primOf op with
    | Option.none => False
    | some (p, xs) => match closed (xs.map (ev (toSt fl L m x))) with
      | Option.none => False
      | some cs => match keep with
        | .all => XPrim P p cs m fun r m' => Kept x m m' ∧ K (primSV p r) L m' x
        | .none => XPrim P p cs m fun r m' => K (primSV p r) L m' []
        | .but _ => False
        | .new _ => False
theorem nvalY_eq (P : Program) (T : Tab) (fl : Fl) (L : Loc) (m : Mem) (x : List Nat) (op : Op) (ext : Bool) (keep : Kp) (K : SV → Loc → Mem → List Nat → Prop) :
    nvalY P T fl L m x op ext keep K = nval P T (toSt fl L m x) op ext keep K := by
  cases op <;> rfl
theorem iBin_mono {op : BinOp} {y : Operand} {k k' : IntKind} {a b : Int} {K K' : SV → Prop} (kk : ∀ z, K z → K' z) (h : iBin op y k k' a b K) : iBin op y k k' a b K' := by
  unfold iBin at h ⊢
  cases op <;> simp only at h ⊢ <;> grind
theorem vEq_mono {t : TK} {a b : Value} {K K' : Bool → Prop} (kk : ∀ z, K z → K' z) (h : vEq t a b K) : vEq t a b K' := by
  unfold vEq at h ⊢
  grind
theorem fUn_mono {op : UnOp} {x : SV} {K K' : SV → Prop} (kk : ∀ z, K z → K' z) (h : fUn op x K) : fUn op x K' := by
  unfold fUn at h ⊢
  grind
theorem fNil_mono {x : SV} {K K' : SV → Prop} (kk : ∀ z, K z → K' z) (h : fNil x K) : fNil x K' := by
  unfold fNil at h ⊢
  grind
theorem fConv_mono {T : Tab} {s d : TypeId} {x : SV} {K K' : SV → Prop} (kk : ∀ z, K z → K' z) (h : fConv T s d x K) : fConv T s d x K' := by
  unfold fConv at h ⊢
  grind
theorem fFieldAddr_mono {T : Tab} {t : TypeId} {x : SV} {f : Nat} {K K' : SV → Prop} (kk : ∀ z, K z → K' z) (h : fFieldAddr T t x f K) : fFieldAddr T t x f K' := by
  unfold fFieldAddr at h ⊢
  cases hT : T t with
  | none => simp [hT] at h
  | some i =>
    simp only [hT] at h ⊢
    cases hk : i.k <;> simp only [hk] at h ⊢
    rename_i fs
    cases hn : nth fs f with
    | none => simp [hn] at h
    | some p =>
      obtain ⟨off, ft⟩ := p
      simp only [hn] at h ⊢
      cases hf : T ft with
      | none => simp [hf] at h
      | some fi =>
        simp only [hf] at h ⊢
        cases hb : Nat.blt 0 fi.size with
        | false => simp [hb] at h
        | true =>
          simp only [hb, cond_true] at h ⊢
          split at h <;> first | exact kk _ h | exact h.elim
theorem fIndexAddr_mono {T : Tab} {t : TypeId} {io : Operand} {x i : SV} {K K' : SV → Prop} (kk : ∀ z, K z → K' z) (h : fIndexAddr T t io x i K) : fIndexAddr T t io x i K' := by
  unfold fIndexAddr at h ⊢
  (repeat' split at h) <;> first | exact h.elim | (simp only [*]; first | exact kk _ h | exact ⟨h.1, kk _ h.2⟩) | exact kk _ h | exact ⟨h.1, kk _ h.2⟩
theorem sBin_mono {op : BinOp} {a b : ByteArray} {K K' : SV → Prop} (kk : ∀ z, K z → K' z) (h : sBin op a b K) : sBin op a b K' := by
  cases op <;> first | exact kk _ h | exact ⟨h.1, kk _ h.2⟩ | exact h
theorem fField_mono {T : Tab} {t : TypeId} {x : SV} {f : Nat} {K K' : SV → Prop} (kk : ∀ z, K z → K' z) (h : fField T t x f K) : fField T t x f K' := by
  unfold fField at h ⊢
  (repeat' split at h) <;> first | exact h.elim | exact kk _ h | (simp only [*]; done) | (simp only [*]; exact kk _ h)
theorem LB.dget_mono : ∀ {c : LB} {o d : Nat} {K K' : Value → Prop} (_ : ∀ z, K z → K' z) (_ : LB.dget c o d K), LB.dget c o d K'
  | [], _, _, _, _, _, h => h
  | .one _ :: _, 0, _, _, _, _, h => h
  | .one _ :: r, o + 1, d, K, K', kk, h => LB.dget_mono (c := r) (o := o) kk h
  | .ints k n l :: r, o, d, K, K', kk, h => by
    simp only [LB.dget] at h ⊢
    cases hb : Nat.blt o n with
    | true => simp only [hb, cond_true] at h ⊢; cases o <;> exact ⟨h.1, kk _ h.2⟩
    | false => simp only [hb, cond_false] at h ⊢; exact LB.dget_mono kk h
  | .vals n l :: r, o, d, K, K', kk, h => by
    simp only [LB.dget] at h ⊢
    cases hb : Nat.blt o n with
    | true => simp only [hb, cond_true] at h ⊢; cases o <;> exact ⟨h.1, kk _ h.2⟩
    | false => simp only [hb, cond_false] at h ⊢; exact LB.dget_mono kk h
theorem LB.dsub_mono : ∀ {c : LB} {o d z : Nat} {K K' : LB → Prop} (_ : ∀ z, K z → K' z) (_ : LB.dsub c o d z K), LB.dsub c o d z K'
  | [], _, _, _, _, _, _, h => h
  | .one _ :: _, 0, _, _, _, _, _, h => h
  | .one _ :: r, o + 1, d, z, K, K', kk, h => LB.dsub_mono (c := r) (o := o) kk h
  | .ints k n l :: r, o, d, z, K, K', kk, h => by
    simp only [LB.dsub] at h ⊢
    cases hb : Nat.blt o n with
    | true => simp only [hb, cond_true] at h ⊢; cases o <;> exact ⟨h.1, kk _ h.2⟩
    | false => simp only [hb, cond_false] at h ⊢; exact LB.dsub_mono kk h
  | .vals n l :: r, o, d, z, K, K', kk, h => by
    simp only [LB.dsub] at h ⊢
    cases hb : Nat.blt o n with
    | true => simp only [hb, cond_true] at h ⊢; cases o <;> exact ⟨h.1, kk _ h.2⟩
    | false => simp only [hb, cond_false] at h ⊢; exact LB.dsub_mono kk h
theorem LB.dset_mono : ∀ {c : LB} {o d : Nat} {x : Value} {K K' : LB → Prop} (_ : ∀ z, K z → K' z) (_ : LB.dset c o d x K), LB.dset c o d x K' := by
  intro c
  induction c with
  | nil => intro o d x K K' kk h; exact h
  | cons s r ih =>
    intro o d x K K' kk h
    cases s with
    | one y =>
      cases o with
      | zero => exact h
      | succ o => exact ih (o := o) (fun z hz => kk _ hz) h
    | ints k n l =>
      unfold LB.dset at h ⊢
      grind
    | vals n l =>
      unfold LB.dset at h ⊢
      grind
theorem LB.dput_mono : ∀ {c : LB} {o d : Nat} {x : LB} {K K' : LB → Prop} (_ : ∀ z, K z → K' z) (_ : LB.dput c o d x K), LB.dput c o d x K' := by
  intro c
  induction c with
  | nil => intro o d x K K' kk h; exact h
  | cons s r ih =>
    intro o d x K K' kk h
    cases s with
    | one y =>
      cases o with
      | zero => exact h
      | succ o => exact ih (o := o) (fun z hz => kk _ hz) h
    | ints k n l =>
      unfold LB.dput at h ⊢
      grind
    | vals n l =>
      unfold LB.dput at h ⊢
      grind
theorem fLoad_mono {T : Tab} {s : St} {t : TypeId} {x : SV} {K K' : SV → List Nat → Prop} (kk : ∀ z y, K z y → K' z y) (h : fLoad T s t x K) : fLoad T s t x K' := by
  unfold fLoad at h ⊢
  (repeat' split at h) <;> first | exact h.elim | exact kk _ _ h | (simp only [*]; done) | ((try simp only [*]); first | exact kk _ _ h | exact LB.dget_mono (fun _ hz => kk _ _ hz) h | exact LB.dsub_mono (fun _ hz => kk _ _ hz) h | (obtain ⟨c, h1, h2, h3, h4⟩ := h; exact ⟨c, h1, h2, h3, kk _ _ h4⟩) | (obtain ⟨c, h1, h2, h3⟩ := h; exact ⟨c, h1, h2, kk _ _ h3⟩))
theorem fIndex_mono {T : Tab} {t : TypeId} {io : Operand} {x i : SV} {K K' : SV → Prop} (kk : ∀ z, K z → K' z) (h : fIndex T t io x i K) : fIndex T t io x i K' := by
  unfold fIndex at h ⊢
  (repeat' split at h) <;> first | exact h.elim | exact kk _ h | exact ⟨h.1, kk _ h.2⟩ | (simp only [*]; done) | ((try simp only [*]); first | exact kk _ h | exact ⟨h.1, kk _ h.2⟩ | exact ⟨h.1, LB.dsub_mono (fun _ hz => kk _ hz) h.2⟩ | exact ⟨h.1, LB.dget_mono (fun _ hz => kk _ hz) h.2⟩ | exact ⟨⟨trivial, trivial⟩, kk _ h.2⟩ | exact ⟨⟨trivial, trivial⟩, LB.dsub_mono (fun _ hz => kk _ hz) h.2⟩ | exact ⟨⟨trivial, trivial⟩, LB.dget_mono (fun _ hz => kk _ hz) h.2⟩)
theorem fBuiltin_mono {T : Tab} {b : Builtin} {ats : List TypeId} {args : List SV} {K K' : SV → Prop} (kk : ∀ z, K z → K' z) (h : fBuiltin T b ats args K) : fBuiltin T b ats args K' := by
  unfold fBuiltin at h ⊢
  (repeat' split at h) <;> first | exact h.elim | exact kk _ h | (simp only [*]; done) | (simp only [*]; exact kk _ h)
theorem fBuild_mono {T : Tab} {s : St} {t : TypeId} {parts : List (Nat × Operand)} {K K' : SV → Prop} (kk : ∀ z, K z → K' z) (h : fBuild T s t parts K) : fBuild T s t parts K' := by
  unfold fBuild at h ⊢
  cases hT : T t with
  | none => simp [hT] at h
  | some i =>
    simp only [hT] at h ⊢
    cases ha : i.k.agg with
    | false => simp [ha] at h
    | true =>
      simp only [ha] at h ⊢
      cases hk : knownK T i.k with
      | false => simp [hk] at h
      | true =>
        simp only [hk, cond_true] at h ⊢
        cases hb : bld s (placeOf T i.k) i.zero parts with
        | none => simp [hb] at h
        | some c => simp only [hb] at h ⊢; exact kk _ h
theorem bound_mono {x : Option SV} {d m : Nat} {K K' : Nat → Prop} (kk : ∀ z, K z → K' z) (h : bound x d m K) : bound x d m K' := by
  unfold bound at h ⊢
  (repeat' split at h) <;> first | exact h.elim | exact kk _ h | exact ⟨h.1, kk _ h.2⟩
theorem fSlice_mono {T : Tab} {t : TypeId} {x : SV} {lo hi mx : Option SV} {K K' : SV → Prop} (kk : ∀ z, K z → K' z) (h : fSlice T t x lo hi mx K) : fSlice T t x lo hi mx K' := by
  unfold fSlice at h ⊢
  cases ho : hiOk hi mx with
  | false => simp [ho] at h
  | true =>
    simp only [ho, cond_true] at h ⊢
    (repeat' split at h) <;> first | exact h.elim | ((try simp only [*]); first | exact bound_mono (fun _ h => bound_mono (fun _ h => bound_mono (fun _ h => fun o' h1 h2 => kk _ (h o' h1 h2)) h) h) h | exact bound_mono (fun _ h => bound_mono (fun _ h => bound_mono (fun _ h => kk _ h) h) h) h | exact bound_mono (fun _ h => bound_mono (fun _ h => kk _ h) h) h)
theorem vEqN_mono {t : TK} {yo : Operand} {a b : Value} {K K' : Bool → Prop} (kk : ∀ z, K z → K' z) (h : vEqN t yo a b K) : vEqN t yo a b K' := by
  unfold vEqN at h ⊢
  split at h
  · split at h
    · exact kk _ h
    · exact h.elim
  · exact vEq_mono kk h
theorem fBin_mono {T : Tab} {op : BinOp} {t : TypeId} {yo : Operand} {x y : SV} {K K' : SV → Prop} (kk : ∀ z, K z → K' z) (h : fBin T op t yo x y K) : fBin T op t yo x y K' := by
  unfold fBin at h ⊢
  split at h
  · exact iBin_mono kk h
  · exact sBin_mono kk h
  · rename_i c d
    cases hT : T t with
    | none => simp [hT] at h
    | some i =>
      simp only [hT] at h ⊢
      cases hb : (i.eq && (kindLB i.zero c && kindLB i.zero d)) with
      | false => simp [hb] at h
      | true =>
        simp only [hb, cond_true] at h ⊢
        split at h <;> first | exact kk _ h | exact h.elim
  · rename_i h1 h2 h3
    cases hx : x.toV with
    | none => simp [hx] at h
    | some vx =>
      cases hy : y.toV with
      | none => simp [hx, hy] at h
      | some vy =>
        simp only [hx, hy] at h ⊢
        cases hT : T t with
        | none => simp [hT] at h
        | some i =>
          simp only [hT] at h ⊢
          split at h <;> first | exact vEqN_mono (fun _ hz => kk _ hz) h | exact h.elim
theorem fval_mono {T : Tab} {s : St} {op : Op} {K K' : SV → List Nat → Prop} (kk : ∀ z y, K z y → K' z y) (h : fval T s op K) : fval T s op K' := by
  unfold fval at h ⊢
  split at h
  · exact kk _ _ h
  · split at h
    · exact kk _ _ h
    · exact kk _ _ h
    · exact ⟨fun e => kk _ _ (h.1 e), fun e => kk _ _ (h.2 e)⟩
    · exact h.elim
  · exact kk _ _ h
  · exact fLoad_mono kk h
  · exact fNil_mono (fun _ h => kk _ _ h) h
  · exact fBin_mono (fun _ h => kk _ _ h) h
  · exact fUn_mono (fun _ h => kk _ _ h) h
  · rename_i src dst x
    cases hc : strConv T src dst with
    | true =>
      simp only [hc] at h ⊢
      unfold fStr at h ⊢
      split at h
      · exact kk _ _ h
      · rcases h with ⟨h0, h⟩ | ⟨ns, h1, b, o, h2, h3, h4⟩
        · exact .inl ⟨h0, kk _ _ h⟩
        · exact .inr ⟨ns, h1, b, o, h2, h3, kk _ _ h4⟩
      · split at h
        · exact h.elim
        · rename_i hn
          (try simp only [hn])
          obtain ⟨ns, h1, h2, h3⟩ := h; exact ⟨ns, h1, h2, kk _ _ h3⟩
      · exact h.elim
    | false =>
      simp only [hc] at h ⊢
      exact fConv_mono (fun _ h => kk _ _ h) h
  · exact fField_mono (fun _ h => kk _ _ h) h
  · exact fFieldAddr_mono (fun _ h => kk _ _ h) h
  · exact fIndexAddr_mono (fun _ h => kk _ _ h) h
  · exact fIndex_mono (fun _ h => kk _ _ h) h
  · rename_i x j
    cases hx : ev s x with
    | t l =>
      simp only [hx] at h ⊢
      cases hn : nth l j with
      | none => simp [hn] at h
      | some y => simp only [hn] at h ⊢; exact kk _ _ h
    | _ => simp [hx] at h
  · exact fBuild_mono (fun _ h => kk _ _ h) h
  · exact fSlice_mono (fun _ h => kk _ _ h) h
  · exact fBuiltin_mono (fun _ h => kk _ _ h) h
  · exact h.elim
theorem nNew_mono {s : St} {t : TypeId} {c : LB} {ext : Bool} {K K' : SV → Loc → Mem → List Nat → Prop} (kk : ∀ a b c d, K a b c d → K' a b c d) (h : nNew s t c ext K) : nNew s t c ext K' := by
  cases ext with
  | false => exact kk _ _ _ _ h
  | true => exact fun b hb => kk _ _ _ _ (h b hb)
theorem bif_mono {b : Bool} {A B : Prop} (k : A → B) (h : bif b then A else False) : bif b then B else False := by
  cases b with
  | true => exact k h
  | false => exact h
theorem nStore_mono {T : Tab} {s : St} {t : TypeId} {x y : SV} {K K' : Loc → Mem → Prop} (kk : ∀ a b, K a b → K' a b) (h : nStore T s t x y K) : nStore T s t x y K' := by
  unfold nStore at h ⊢
  cases hT : T t with
  | none => simp [hT] at h
  | some i =>
    simp only [hT] at h ⊢
    split at h
    · rename_i hh off
      cases hn : nth s.L hh with
      | none => simp [hn] at h
      | some p =>
        obtain ⟨t', c⟩ := p
        simp only [hn] at h ⊢
        split at h <;> first | exact h.elim | (refine bif_mono (fun h => ?_) h; split at h <;> first | exact h.elim | (simp only [*]; exact kk _ _ h) | exact kk _ _ h)
    · rename_i hh off e
      cases hn : nth s.L hh with
      | none => simp [hn] at h
      | some p =>
        obtain ⟨t', c⟩ := p
        simp only [hn] at h ⊢
        split at h <;> first | exact h.elim | exact bif_mono (fun h => LB.dset_mono (fun _ h => kk _ _ h) h) h | exact bif_mono (fun h => LB.dput_mono (fun _ h => kk _ _ h) h) h
    · split at h <;> first | exact h.elim | exact bif_mono (fun ⟨a, b, c, h1, h2, h3⟩ => ⟨a, b, c, h1, h2, kk _ _ h3⟩) h
    · exact h.elim
theorem XCall.mono {P : Program} {f : FuncId} {args : List CV} {m : Mem} {K K' : List CV → Mem → Prop} (k : ∀ r m', K r m' → K' r m') (h : XCall P f args m K) : XCall P f args m K' := by
  rcases h with ⟨R, h1, h2⟩ | ⟨R, h1, h2⟩
  · exact .mk R h1 fun r m' hr => k r m' (h2 r m' hr)
  · exact .ext R h1 fun r m' hr => k r m' (h2 r m' hr)
theorem XPrim.mono {P : Program} {p : Prim} {args : List CV} {m : Mem} {K K' : List CV → Mem → Prop} (k : ∀ r m', K r m' → K' r m') (h : XPrim P p args m K) : XPrim P p args m K' := by
  obtain ⟨R, h1, h2⟩ := h; exact ⟨R, h1, fun r m' hr => k r m' (h2 r m' hr)⟩
theorem nval_mono {P : Program} {T : Tab} {s : St} {op : Op} {ext : Bool} {keep : Kp} {K K' : SV → Loc → Mem → List Nat → Prop} (kk : ∀ a b c d, K a b c d → K' a b c d) (h : nval P T s op ext keep K) : nval P T s op ext keep K' := by
  unfold nval at h ⊢
  split at h
  · rename_i t
    cases hT : T t with
    | none => simp [hT] at h
    | some i => simp only [hT] at h ⊢; exact nNew_mono kk h
  · rename_i t y
    split at h <;> first | exact h.elim | exact nNew_mono kk h | (simp only [*]; exact nNew_mono kk h)
  · cases keep with
    | all => exact h
    | none => exact nStore_mono (fun _ _ h => kk _ _ _ _ h) h
    | but hh => exact bif_mono (fun h => nStore_mono (fun _ _ h => kk _ _ _ _ h) h) h
    | new hh => exact bif_mono (fun h => nStore_mono (fun _ _ h => kk _ _ _ _ h) h) h
  · rename_i f args _
    try simp only at h ⊢
    cases hc : closed (args.toList.map (ev s)) with
    | none => simp [hc] at h
    | some cs =>
      simp only [hc] at h ⊢
      cases keep with
      | all => exact XCall.mono (fun _ _ h => ⟨h.1, kk _ _ _ _ h.2⟩) h
      | none => exact XCall.mono (fun _ _ h => kk _ _ _ _ h) h
      | but hh => exact h
      | new hh => exact h
  · rename_i t args _
    try simp only at h ⊢
    split at h
    · rename_i f first captured hf
      (try simp only [hf])
      refine bif_mono (fun h => ?_) h
      cases hc : closed (args.toList.map (ev s)) with
      | none => simp [hc] at h
      | some cs =>
        simp only [hc] at h ⊢
        cases keep with
        | all => exact XCall.mono (fun _ _ h => ⟨h.1, kk _ _ _ _ h.2⟩) h
        | none => exact XCall.mono (fun _ _ h => kk _ _ _ _ h) h
        | but hh => exact h
        | new hh => exact h
    · exact h.elim
  · cases hp : primOf op with
    | none => simp [hp] at h
    | some q =>
      obtain ⟨p, xs⟩ := q
      simp only [hp] at h ⊢
      cases hc : closed (xs.map (ev s)) with
      | none => simp [hc] at h
      | some cs =>
        simp only [hc] at h ⊢
        cases keep with
        | all => exact XPrim.mono (fun _ _ h => ⟨h.1, kk _ _ _ _ h.2⟩) h
        | none => exact XPrim.mono (fun _ _ h => kk _ _ _ _ h) h
        | but hh => exact h
        | new hh => exact h
def xactY (c : Cfg) (o : Oper) (keep : Kp) (K : KY) : KY := fun fl L m x =>
  match floaty c.T o.op with
  | true => fvalY c.T fl L m x o.op fun sv bs => fSV sv fun sv => fList (bs ++ x) fun x' => putY o.dst sv fl fun fl' => K fl' L m x'
  | false => nvalY c.P c.T fl L m x o.op (escOf c o.dst) keep fun sv L' m' x' => fSV sv fun sv => fList L' fun L' => putY o.dst sv fl fun fl' => K fl' L' m' x'
def OfY (K : KY) : St → Prop := fun s => ∃ fl L m x, s = toSt fl L m x ∧ K fl L m x
theorem OfY.mk {K : KY} {fl : Fl} {L : Loc} {m : Mem} {x : List Nat} (h : K fl L m x) : OfY K (toSt fl L m x) := ⟨fl, L, m, x, rfl, h⟩
theorem OfY.put {K : KY} {fl : Fl} {L : Loc} {m : Mem} {x : List Nat} {d : Option Nat} {y : SV} (h : putY d y fl fun fl' => K fl' L m x) : OfY K ⟨putF (frOf fl) d y, L, m, x⟩ := by
  obtain ⟨fl', h1, h2⟩ := putY_spec h
  exact ⟨fl', L, m, x, by rw [← h2], h1⟩
theorem xactY_spec {c : Cfg} {o : Oper} {keep : Kp} {K : KY} {K' : St → Prop} (hk : ∀ s, OfY K s → K' s) {fl : Fl} {L : Loc} {m : Mem} {x : List Nat} (h : xactY c o keep K fl L m x) : xact c o keep (toSt fl L m x) K' := by
  unfold xactY at h
  unfold xact
  cases hf : floaty c.T o.op with
  | true =>
    simp only [hf] at h ⊢
    rw [fvalY_eq] at h
    refine fval_mono (fun sv bs h => ?_) h
    exact hk _ (OfY.put (fList_spec (fSV_spec h)))
  | false =>
    simp only [hf] at h ⊢
    rw [nvalY_eq] at h
    refine nval_mono (fun sv L' m' x' h => ?_) h
    exact hk _ (OfY.put (fList_spec (fSV_spec h)))
def xopY (c : Cfg) (ops : List Oper) (o : Oper) (keep : Kp) (K : KY) : KY := fun fl L m x =>
  match o.guard with
  | none => xactY c o keep K fl L m x
  | some (j, w) => match gslot ops j with
    | none => False
    | some d => match frOf fl d with
      | .tt => bif w then xactY c o keep K fl L m x else putY o.dst .un fl fun fl' => K fl' L m x
      | .ff => bif w then (putY o.dst .un fl fun fl' => K fl' L m x) else xactY c o keep K fl L m x
      | .un => putY o.dst .un fl fun fl' => K fl' L m x
      | .c (.v (.bool b)) =>
        (b = true → bif w then xactY c o keep K ((d, .tt) :: fl) L m x else putY o.dst .un ((d, .tt) :: fl) fun fl' => K fl' L m x) ∧
        (b = false → bif w then (putY o.dst .un ((d, .ff) :: fl) fun fl' => K fl' L m x) else xactY c o keep K ((d, .ff) :: fl) L m x)
      | _ => False
theorem xopY_spec {c : Cfg} {ops : List Oper} {o : Oper} {keep : Kp} {K : KY} {K' : St → Prop} (hk : ∀ s, OfY K s → K' s) {fl : Fl} {L : Loc} {m : Mem} {x : List Nat} (h : xopY c ops o keep K fl L m x) : xop c ops o keep (toSt fl L m x) K' := by
  unfold xopY at h
  unfold xop
  cases hg : o.guard with
  | none => simp only [hg] at h ⊢; exact xactY_spec hk h
  | some p =>
    obtain ⟨j, w⟩ := p
    simp only [hg] at h ⊢
    cases hs : gslot ops j with
    | none => simp [hs] at h
    | some d =>
      simp only [hs] at h ⊢
      split at h
      · rename_i e
        simp only [e]
        cases w with
        | true => exact xactY_spec hk h
        | false => exact hk _ (OfY.put h)
      · rename_i e
        simp only [e]
        cases w with
        | true => exact hk _ (OfY.put h)
        | false => exact xactY_spec hk h
      · rename_i e
        simp only [e]
        exact hk _ (OfY.put h)
      · rename_i b e
        simp only [e]
        refine ⟨fun eb => ?_, fun eb => ?_⟩
        · have h := h.1 eb
          rw [← frOf_cons]
          cases w with
          | true => exact xactY_spec hk h
          | false => exact hk _ (OfY.put h)
        · have h := h.2 eb
          rw [← frOf_cons]
          cases w with
          | true => exact hk _ (OfY.put h)
          | false => exact xactY_spec hk h
      · exact h.elim
def wOp (c : Cfg) (ops : List Oper) (o : Oper) (_ : List Oper) (ih : KY) : KY := fun fl L m x =>
  match yieldOf ops (frOf fl) o with
  | some (l, args) => match closed (args.map (ev (toSt fl L m x))) with
    | none => False
    | some cs => XYield c.P l cs m fun r' m' => fSV (resSV r') fun sv => putY o.dst sv fl fun fl' => ih fl' L m' []
  | none => xopY c ops o .none ih fl L m x
noncomputable def xopsY (c : Cfg) (ops l : List Oper) (K : KY) : KY := List.rec (motive := fun _ => KY) K (wOp c ops) l
theorem xopsY_cons (c : Cfg) (ops : List Oper) (o : Oper) (r : List Oper) (K : KY) (fl : Fl) (L : Loc) (m : Mem) (x : List Nat) : xopsY c ops (o :: r) K fl L m x = (match yieldOf ops (frOf fl) o with
  | some (l, args) => match closed (args.map (ev (toSt fl L m x))) with
    | none => False
    | some cs => XYield c.P l cs m fun r' m' => fSV (resSV r') fun sv => putY o.dst sv fl fun fl' => xopsY c ops r K fl' L m' []
  | none => xopY c ops o .none (xopsY c ops r K) fl L m x) := rfl
theorem xopsY_spec {c : Cfg} {ops : List Oper} {K : KY} {K' : St → Prop} (hk : ∀ s, OfY K s → K' s) : ∀ {l : List Oper} {fl : Fl} {L : Loc} {m : Mem} {x : List Nat}, xopsY c ops l K fl L m x → xops c ops l K' (toSt fl L m x)
  | [], _, _, _, _, h => hk _ (OfY.mk h)
  | o :: r, fl, L, m, x, h => by
    rw [xopsY_cons] at h
    simp only [xops]
    cases hy : yieldOf ops (frOf fl) o with
    | none =>
      simp only [hy] at h ⊢
      exact xopY_spec (K := xopsY c ops r K) (fun s ⟨_, _, _, _, e, h⟩ => by subst e; exact xopsY_spec hk (l := r) h) h
    | some q =>
      obtain ⟨l, args⟩ := q
      simp only [hy] at h ⊢
      cases hc : closed (args.map (ev (toSt fl L m x))) with
      | none => simp [hc] at h
      | some cs =>
        simp only [hc] at h ⊢
        obtain ⟨R, h1, h2⟩ := h
        refine ⟨R, h1, fun r' m' hr => ?_⟩
        obtain ⟨fl', g1, g2⟩ := putY_spec (fSV_spec (h2 r' m' hr))
        have := xopsY_spec hk (l := r) g1
        rw [toSt, g2] at this
        exact this
def wOrd (c : Cfg) (ops : List Oper) (ms : List Nat) (s0 : St) (i : Nat) (k : Ks) (r : OT) (ih : KY) : KY := fun fl L m x =>
  match nth ops i with
    | some o => bif loadOk c.T s0 ms i o (toSt fl L m x) r.els then xopY c ops o (kpOf s0 k) ih fl L m x else False
    | none => False
def wOr (_ _ : OT) (a b : KY) : KY := fun fl L m x => a fl L m x ∧ b fl L m x
noncomputable def xordY (c : Cfg) (ops : List Oper) (ms : List Nat) (s0 : St) (t : OT) (K : KY) : KY := OT.rec (motive := fun _ => KY) K (wOrd c ops ms s0) wOr t
theorem xordY_op (c : Cfg) (ops : List Oper) (ms : List Nat) (s0 : St) (i : Nat) (k : Ks) (r : OT) (K : KY) (fl : Fl) (L : Loc) (m : Mem) (x : List Nat) : xordY c ops ms s0 (.op i k r) K fl L m x = (match nth ops i with
    | some o => bif loadOk c.T s0 ms i o (toSt fl L m x) r.els then xopY c ops o (kpOf s0 k) (xordY c ops ms s0 r K) fl L m x else False
    | none => False) := rfl
theorem xordY_spec {c : Cfg} {ops : List Oper} {ms : List Nat} {s0 : St} {K : KY} {K' : St → Prop} (hk : ∀ s, OfY K s → K' s) : ∀ {t : OT} {fl : Fl} {L : Loc} {m : Mem} {x : List Nat}, xordY c ops ms s0 t K fl L m x → xord c ops ms s0 t K' (toSt fl L m x)
  | .nil, _, _, _, _, h => hk _ (OfY.mk h)
  | .or a b, _, _, _, _, h => ⟨xordY_spec hk (t := a) h.1, xordY_spec hk (t := b) h.2⟩
  | .op i k r, fl, L, m, x, h => by
    rw [xordY_op] at h
    simp only [xord]
    cases hn : nth ops i with
    | none => simp [hn] at h
    | some o =>
      simp only [hn] at h ⊢
      cases hl : loadOk c.T s0 ms i o (toSt fl L m x) r.els with
      | false => simp [hl] at h
      | true =>
        simp only [hl, cond_true] at h ⊢
        exact xopY_spec (K := xordY c ops ms s0 r K) (fun s ⟨_, _, _, _, e, h⟩ => by subst e; exact xordY_spec hk (t := r) h) h
def segY (y x : Seg) (K : Prop) : Prop :=
  match y with
  | .one y => match x with
    | .one x => y = x ∧ K
    | _ => False
  | .ints k n l => match x with
    | .ints k' n' l' => bif kEq k k' && Nat.beq n n' then l = l' ∧ K else False
    | _ => False
  | .vals n l => match x with
    | .vals n' l' => bif Nat.beq n n' then l = l' ∧ K else False
    | _ => False
def lbY : LB → LB → Prop → Prop
  | [], [], K => K
  | y :: r, x :: r', K => segY y x (lbY r r' K)
  | _, _, _ => False
def slotY (y x : SV) (K : Prop) : Prop :=
  match x with
  | .c (.a c) => match y with
    | .c (.a d) => lbY d c K
    | _ => False
  | .c (.v v) => match y with
    | .c (.v z) => z = v ∧ K
    | .tt => Value.bool true = v ∧ K
    | .ff => Value.bool false = v ∧ K
    | _ => False
  | x => slotK y x K
def slotsY : Fl → Fl → Prop → Prop
  | [], _, K => K
  | (j, x) :: r, fl, K => slotY (frOf fl j) x (slotsY r fl K)
def locsY : Loc → Loc → Prop → Prop
  | _, [], K => K
  | (t, c) :: r, (t', c') :: r', K => bif Nat.beq t t' then lbY c c' (locsY r r' K) else False
  | [], _ :: _, _ => False
def LeY (fl : Fl) (L : Loc) (fr : Fl) (L1 : Loc) : Prop := bif allUnder L1.length fr then slotsY fr fl (locsY L L1 True) else False
theorem addrK_refl {a : Option Addr} {K : Prop} (h : K) : addrK a a K := by
  cases a with
  | none => exact h
  | some ad =>
    obtain ⟨b, o, sp⟩ := ad
    cases sp with
    | none => exact ⟨rfl, rfl, h⟩
    | some s => exact ⟨rfl, h⟩
theorem valK_refl {v : Value} {K : Prop} (h : K) : valK v v K := by
  cases v <;> simp only [valK, kEq_self, cond_true] <;> first | exact ⟨rfl, h⟩ | exact ⟨trivial, h⟩ | exact addrK_refl h | exact addrK_refl ⟨rfl, rfl, h⟩ | exact addrK_refl ⟨trivial, trivial, h⟩
theorem segY_k {y x : Seg} {K K' : Prop} (k : K → K') (h : segY y x K) : segK y x K' := by
  unfold segY at h
  unfold segK
  split at h
  · split at h
    · obtain ⟨rfl, h⟩ := h; exact valK_refl (k h)
    · exact h.elim
  · split at h
    · exact bif_mono (fun h => ⟨h.1, k h.2⟩) h
    · exact h.elim
  · split at h
    · exact bif_mono (fun h => ⟨h.1, k h.2⟩) h
    · exact h.elim
theorem lbY_k : ∀ {y x : LB} {K K' : Prop} (_ : K → K') (_ : lbY y x K), lbK y x K'
  | [], [], _, _, k, h => k h
  | y :: r, x :: r', _, _, k, h => segY_k (fun h => lbY_k k h) h
  | [], _ :: _, _, _, _, h => h.elim
  | _ :: _, [], _, _, _, h => h.elim
theorem slotK_mono {y x : SV} {K K' : Prop} (k : K → K') (hx : ∀ c, x ≠ .c c) (h : slotK y x K) : slotK y x K' := by
  cases x with
  | c z => exact absurd rfl (hx z)
  | p hh o => cases y <;> first | exact h.elim | exact bif_mono k h
  | q hh o d => cases y <;> first | exact h.elim | exact bif_mono (fun h => ⟨h.1, k h.2⟩) h
  | sl hh o d n c => cases y <;> first | exact h.elim | exact bif_mono (fun h => ⟨h.1, h.2.1, h.2.2.1, k h.2.2.2⟩) h
  | t l => cases y <;> first | exact h.elim | exact ⟨h.1, k h.2⟩
  | tt => cases y <;> first | exact h.elim | exact k h
  | ff => cases y <;> first | exact h.elim | exact k h
  | un => cases y <;> first | exact h.elim | exact k h
  | any => exact k h
theorem slotY_k {y x : SV} {K K' : Prop} (k : K → K') (h : slotY y x K) : slotK y x K' := by
  cases x with
  | c z =>
    cases z with
    | a c => cases y with
      | c w => cases w with
        | a d => exact lbY_k k h
        | v _ => exact h.elim
      | _ => exact h.elim
    | v v => cases y with
      | c w => cases w with
        | a d => exact h.elim
        | v z => obtain ⟨rfl, h⟩ := h; exact valK_refl (k h)
      | tt => obtain ⟨rfl, h⟩ := h; exact ⟨rfl, k h⟩
      | ff => obtain ⟨rfl, h⟩ := h; exact ⟨rfl, k h⟩
      | _ => exact h.elim
  | _ => exact slotK_mono k (by intro c; simp) h
theorem slotsY_k : ∀ {fr fl : Fl} {K K' : Prop} (_ : K → K') (_ : slotsY fr fl K), slotsK fr (frOf fl) K'
  | [], _, _, _, k, h => k h
  | (j, x) :: r, fl, _, _, k, h => slotY_k (fun h => slotsY_k (fr := r) k h) h
theorem locsY_k : ∀ {L L1 : Loc} {K K' : Prop} (_ : K → K') (_ : locsY L L1 K), locsK L L1 K'
  | [], [], _, _, k, h => k h
  | _ :: _, [], _, _, k, h => k h
  | (t, c) :: r, (t', c') :: r', _, _, k, h => bif_mono (fun h => lbY_k (fun h => locsY_k k h) h) h
  | [], _ :: _, _, _, _, h => h.elim
theorem LeY.k {fl : Fl} {L : Loc} {fr : Fl} {L1 : Loc} {m : Mem} {x : List Nat} (h : LeY fl L fr L1) : LeK (toSt fl L m x) fr L1 m :=
  bif_mono (fun h => slotsY_k (fun h => locsY_k (fun _ => Sub.refl _) h) h) h
inductive XLoopY (X : (Exit → KY) → KY) (Q : Exit → KY) (fl : Fl) (L : Loc) (m : Mem) : Prop
  | mk {ι : Type} (μ : ι → Nat) (Inv : ι → Mem → Prop) (fr : ι → Fl) (Lo : ι → Loc) (i0 : ι) (h0 : Inv i0 m) (hk : LeY fl L (fr i0) (Lo i0))
    (step : ∀ i m, Inv i m → fFl (fr i) fun fl => fList (Lo i) fun L => X (fun e fl' L' m' x' => match e with
      | .normal => ∃ j, Inv j m' ∧ μ j < μ i ∧ LeY fl' L' (fr j) (Lo j)
      | e => Q e fl' L' m' x') fl L m [])
def setY (o : Operand) (y : SV) (fl : Fl) (K : Fl → Prop) : Prop :=
  match o with
  | .tmp t => K ((t, y) :: fl)
  | _ => K fl
theorem setY_spec {o : Operand} {y : SV} {fl : Fl} {K : Fl → Prop} (h : setY o y fl K) (L : Loc) (m : Mem) (x : List Nat) : ∃ fl', K fl' ∧ toSt fl' L m x = setc (toSt fl L m x) o y := by
  cases o <;> first | exact ⟨fl, h, rfl⟩ | exact ⟨_, h, by simp only [setc, toSt, frOf_cons]⟩
abbrev CQ := (Exit → KY) → KY
def wSkip : CQ := fun Q => Q .normal
def regY (c : Cfg) (id : Nat) (ops : Array Oper) (draw : Bool) (K : KY) : Fl → Loc → Mem → Prop := fun fl L m => match draw with
  | false => xopsY c ops.toList ops.toList K fl L m []
  | true => bif fresh (toSt fl L m []) ops.toList then xordY c ops.toList (c.ord id).ms (toSt fl L m []) (c.ord id).od K fl L m [] else False
inductive XAtY (X : Fl → Loc → Mem → Prop) : Fl → Loc → Mem → Prop
  | at {fl : Fl} {L : Loc} {m : Mem} (h : X fl L m) : XAtY X fl L m
  | via {fl : Fl} {L : Loc} {m : Mem} (fl1 : Fl) (L1 : Loc) (hk : LeY fl L fl1 L1) (h : XAtY X fl1 L1 m) : XAtY X fl L m
def wRegion (c : Cfg) (id : Nat) (ops : Array Oper) (draw : Bool) : CQ := fun Q fl L m _ => match c.cut id with
  | false => regY c id ops draw (Q .normal) fl L m
  | true => XAtY (regY c id ops draw (Q .normal)) fl L m
def wSeq (_ _ : Code) (x y : CQ) : CQ := fun Q => x (fun e => match e with
  | .normal => y Q
  | e => Q e)
def wCond (o : Operand) (_ _ : Code) (a b : CQ) : CQ := fun Q fl L m x => match ev (toSt fl L m x) o with
  | .tt => a Q fl L m x
  | .ff => b Q fl L m x
  | .c (.v (.bool bb)) => (bb = true → setY o .tt fl fun fl => a Q fl L m x) ∧ (bb = false → setY o .ff fl fun fl => b Q fl L m x)
  | _ => False
def wBlock (id : Nat) (_ : Code) (b : CQ) : CQ := fun Q => b (fun e => match e with
  | .exit j => bif Nat.beq j id then Q .normal else Q (.exit j)
  | e => Q e)
def wLoop (_ : Code) (b : CQ) : CQ := fun Q fl L m _ => XLoopY b Q fl L m
abbrev RY := Operand → Array Tmp → Code → Code → CQ
def wRange (rf : RY) (g : Operand) (ps : Array Tmp) (x y : Code) (_ _ : CQ) : CQ := rf g ps x y
def wExit (id : Nat) : CQ := fun Q => Q (.exit id)
def wScope (sc : Code → CQ) (b : Code) (_ : CQ) : CQ := sc b
def wLabel (_ : Nat) : CQ := fun Q => Q .normal
def wGoto (l : Nat) : CQ := fun Q => Q (.goto l)
def wRet : CQ := fun Q => Q .ret
def wRefuse (_ : String) : CQ := fun _ _ _ _ _ => False
noncomputable def xwpYG (c : Cfg) (sc : Code → CQ) (rf : RY) (code : Code) : CQ := Code.rec (motive := fun _ => CQ) wSkip (wRegion c) wSeq wCond wBlock wLoop (wRange rf) wExit (wScope sc) wLabel wGoto wRet wRefuse code
def QJY (l : Nat) (J : KY) (Q : Exit → KY) : Exit → KY
  | .goto l' => fun fl L m x => bif Nat.beq l' l then J fl L m x else False
  | e => Q e
inductive XScopeY (X : Code → CQ) (b : Code) (Q : Exit → KY) (fl : Fl) (L : Loc) (m : Mem) (x : List Nat) : Prop
  | mk (l : Nat) (rest : Code) (hf : findLabel b l = some rest) {ι : Type} (μ : ι → Nat) (Inv : ι → Mem → Prop) (fr : ι → Fl) (Lo : ι → Loc)
    (first : X b (QJY l (fun fl' L' m' x' => ∃ j, Inv j m' ∧ LeY fl' L' (fr j) (Lo j)) Q) fl L m x)
    (pass : ∀ i m, Inv i m → fFl (fr i) fun fl => fList (Lo i) fun L => X rest (QJY l (fun fl' L' m' x' => ∃ j, Inv j m' ∧ μ j < μ i ∧ LeY fl' L' (fr j) (Lo j)) Q) fl L m [])
def putAllY : Fl → List Tmp → List CV → Fl
  | fl, p :: ps, x :: xs => putAllY ((p, .c x) :: fl) ps xs
  | fl, _, _ => fl
theorem frOf_putAllY : ∀ (ps : List Tmp) (xs : List CV) (fl : Fl), frOf (putAllY fl ps xs) = putAll (frOf fl) ps xs
  | [], xs, fl => by cases xs <;> rfl
  | p :: ps, [], fl => rfl
  | p :: ps, x :: xs, fl => by
    simp only [putAllY, putAll]
    rw [frOf_putAllY ps xs, frOf_cons]
def asgY (X : Code → CQ) (body : Code) (J : Mem → Prop) : Exit → KY
  | .normal => fun fl L m _ => match L with
    | [] => X body (fun e => match e with
      | .normal => fun _ _ m _ => J m
      | _ => fun _ _ _ _ => False) fl [] m []
    | _ :: _ => False
  | _ => fun _ _ _ _ => False
inductive XRangeY (P : Program) (X : Code → CQ) (g : Operand) (ps : Array Tmp) (asg body : Code) (Q : Exit → KY) (fl : Fl) (L : Loc) (m : Mem) : Prop
  | mk (gf : FuncId) (captured : Array Value) (hg : ev (toSt fl L m []) g = .c (.v (.func (.func gf) #[] captured))) (hcap : allOne captured.toList = true) (hL : L = [])
    {ι : Type} (Inv : ι → Mem → Prop) (i0 : ι) (h0 : Inv i0 m) (El : ι → List CV → ι → Prop) (hEl : ∀ i x j, El i x j → x.length = ps.size)
    (round : ∀ i x j m, Inv i m → El i x j → fFl (putAllY fl ps.toList x) fun fl => X asg (asgY X body (Inv j)) fl [] m [])
    (Fin : Mem → Prop)
    (iter : ∀ (l : Nat) (o : Obj), m l = none → (∀ i x j m, Inv i m → El i x j → m l = none → YSpec P l x (m.set l o) fun r m' => r = [.v (.bool true)] ∧ ∃ m1, Inv j m1 ∧ m1 l = none ∧ m' = m1.set l o) →
      Spec P gf (.v (.func (.yield l) #[] #[]) :: captured.toList.map CV.v) (m.set l o) fun r m' => ∃ m1, Fin m1 ∧ m1 l = none ∧ m' = m1.set l o)
    (rest : ∀ m1, Fin m1 → Q .normal fl [] m1 [])
noncomputable def xwpY0 (c : Cfg) (code : Code) : CQ := xwpYG c (fun _ _ _ _ _ _ => False) (fun _ _ _ _ _ _ _ _ _ => False) code
noncomputable def xwpY (c : Cfg) (code : Code) : CQ := xwpYG c (fun b => XScopeY (xwpY0 c) b) (fun g ps x y Q fl L m _ => XRangeY c.P (xwpY0 c) g ps x y Q fl L m) code
section
variable {sc : Code → CQ} {rf : RY}
theorem xwpY_seq (c : Cfg) (x y : Code) (Q : Exit → KY) : xwpYG c sc rf (.seq x y) Q = xwpYG c sc rf x (fun e => match e with
  | .normal => xwpYG c sc rf y Q
  | e => Q e) := rfl
theorem xwpY_block (c : Cfg) (id : Nat) (b : Code) (Q : Exit → KY) : xwpYG c sc rf (.block id b) Q = xwpYG c sc rf b (fun e => match e with
  | .exit j => bif Nat.beq j id then Q .normal else Q (.exit j)
  | e => Q e) := rfl
theorem xwpY_cond (c : Cfg) (o : Operand) (a b : Code) (Q : Exit → KY) (fl : Fl) (L : Loc) (m : Mem) (x : List Nat) : xwpYG c sc rf (.cond o a b) Q fl L m x = (match ev (toSt fl L m x) o with
  | .tt => xwpYG c sc rf a Q fl L m x
  | .ff => xwpYG c sc rf b Q fl L m x
  | .c (.v (.bool bb)) => (bb = true → setY o .tt fl fun fl => xwpYG c sc rf a Q fl L m x) ∧ (bb = false → setY o .ff fl fun fl => xwpYG c sc rf b Q fl L m x)
  | _ => False) := rfl
theorem xwpY_region (c : Cfg) (id : Nat) (ops : Array Oper) (draw : Bool) (Q : Exit → KY) (fl : Fl) (L : Loc) (m : Mem) (x : List Nat) : xwpYG c sc rf (.region id ops draw) Q fl L m x = (match c.cut id with
  | false => regY c id ops draw (Q .normal) fl L m
  | true => XAtY (regY c id ops draw (Q .normal)) fl L m) := rfl
theorem xwpY_loop (c : Cfg) (b : Code) (Q : Exit → KY) (fl : Fl) (L : Loc) (m : Mem) (x : List Nat) : xwpYG c sc rf (.loop b) Q fl L m x = XLoopY (xwpYG c sc rf b) Q fl L m := rfl
end
theorem regY_spec {c : Cfg} {id : Nat} {ops : Array Oper} {draw : Bool} {K : KY} {K' : St → Prop} (hk : ∀ s, OfY K s → K' s) {fl : Fl} {L : Loc} {m : Mem} {x : List Nat} (h : regY c id ops draw K fl L m) : regX c id ops draw K' (toSt fl L m x) := by
  unfold regY at h
  unfold regX
  cases draw with
  | false => exact xopsY_spec hk h
  | true =>
    simp only at h ⊢
    cases hf : fresh (toSt fl L m []) ops.toList with
    | false => simp [hf] at h
    | true =>
      have hf' : fresh (toSt fl L m x) ops.toList = true := by rw [← fresh_x (x := [])]; exact hf
      simp only [hf, hf', cond_true] at h ⊢
      rw [← xord_x (x := [])]
      exact xordY_spec hk h
theorem XAtY.spec {c : Cfg} {id : Nat} {ops : Array Oper} {draw : Bool} {K : KY} {K' : St → Prop} (hk : ∀ s, OfY K s → K' s) {fl : Fl} {L : Loc} {m : Mem} (h : XAtY (regY c id ops draw K) fl L m) : ∀ {x : List Nat}, XAt (regX c id ops draw K') (toSt fl L m x) := by
  induction h with
  | «at» h => exact .at (regY_spec hk h)
  | via fl1 L1 hl _ ih => exact .via _ _ _ hl.k ih
theorem xwpYG_spec {c : Cfg} {sc : Code → CQ} {sc' : Code → (Exit → St → Prop) → St → Prop} {rf : RY} {rf' : RF} (hsc : ∀ (b : Code) {Q : Exit → KY} {Q' : Exit → St → Prop} (_ : ∀ e s, OfY (Q e) s → Q' e s) {fl : Fl} {L : Loc} {m : Mem} {x : List Nat}, sc b Q fl L m x → sc' b Q' (toSt fl L m x))
    (hrf : ∀ g ps x y {Q : Exit → KY} {Q' : Exit → St → Prop} (_ : ∀ e s, OfY (Q e) s → Q' e s) {fl : Fl} {L : Loc} {m : Mem} {xx : List Nat}, rf g ps x y Q fl L m xx → rf' g ps x y Q' (toSt fl L m xx)) :
    ∀ (code : Code) {Q : Exit → KY} {Q' : Exit → St → Prop} (_ : ∀ e s, OfY (Q e) s → Q' e s) {fl : Fl} {L : Loc} {m : Mem} {x : List Nat}, xwpYG c sc rf code Q fl L m x → xwpG c sc' rf' code Q' (toSt fl L m x) := by
  intro code
  induction code with
  | skip => intro Q Q' hq fl L m x h; exact hq _ _ (OfY.mk h)
  | label l => intro Q Q' hq fl L m x h; exact hq _ _ (OfY.mk h)
  | exit id => intro Q Q' hq fl L m x h; exact hq _ _ (OfY.mk h)
  | goto l => intro Q Q' hq fl L m x h; exact hq _ _ (OfY.mk h)
  | ret => intro Q Q' hq fl L m x h; exact hq _ _ (OfY.mk h)
  | refuse why => intro Q Q' hq fl L m x h; exact h.elim
  | rangeFunc f ps x y _ _ => intro Q Q' hq fl L m xx h; exact hrf f ps x y hq h
  | scope b _ => intro Q Q' hq fl L m x h; exact hsc b hq h
  | seq x y ihx ihy =>
    intro Q Q' hq fl L m xx h
    rw [xwpY_seq] at h
    refine ihx (fun e s ⟨fl, L, m, x, e', h⟩ => ?_) h
    subst e'
    cases e <;> first | exact ihy hq h | exact hq _ _ (OfY.mk h)
  | block id b ih =>
    intro Q Q' hq fl L m xx h
    rw [xwpY_block] at h
    refine ih (fun e s ⟨fl, L, m, x, e', h⟩ => ?_) h
    subst e'
    cases e with
    | exit j =>
      simp only at h ⊢
      cases hb : Nat.beq j id with
      | true => simp only [hb, cond_true] at h ⊢; exact hq _ _ (OfY.mk h)
      | false => simp only [hb, cond_false] at h ⊢; exact hq _ _ (OfY.mk h)
    | _ => exact hq _ _ (OfY.mk h)
  | cond o a b iha ihb =>
    intro Q Q' hq fl L m x h
    rw [xwpY_cond] at h
    simp only [xwpG]
    split at h
    · rename_i e; simp only [e]; exact iha hq h
    · rename_i e; simp only [e]; exact ihb hq h
    · rename_i bb e
      simp only [e]
      refine ⟨fun eb => ?_, fun eb => ?_⟩
      · obtain ⟨fl', h1, h2⟩ := setY_spec (h.1 eb) L m x
        rw [← h2]; exact iha hq h1
      · obtain ⟨fl', h1, h2⟩ := setY_spec (h.2 eb) L m x
        rw [← h2]; exact ihb hq h1
    · exact h.elim
  | region id ops draw =>
    intro Q Q' hq fl L m x h
    rw [xwpY_region] at h
    simp only [xwpG]
    cases hc : c.cut id with
    | false => simp only [hc] at h ⊢; exact regY_spec (hq .normal) h
    | true => simp only [hc] at h ⊢; exact h.spec (hq .normal)
  | loop b ih =>
    intro Q Q' hq fl L m x h
    rw [xwpY_loop] at h
    obtain ⟨μ, Inv, fr, Lo, i0, h0, hk, step⟩ := h
    refine XLoop.mk (ι := _ × Mem) (fun i => μ i.1) (fun i => Inv i.1 i.2) (fun i => fr i.1) (fun i => Lo i.1) (fun i => i.2) (i0, m) h0 hk.k ?_
    rintro ⟨i, m1⟩ hi
    have hs := fFl_spec (step i m1 hi)
    have hs := fList_spec (l := Lo i) hs
    refine ih (fun e s ⟨fl, L, m, x, e', h⟩ => ?_) hs
    subst e'
    cases e with
    | normal =>
      obtain ⟨j, h1, h2, h3⟩ := h
      exact ⟨(j, m), h1, h2, h3.k⟩
    | _ => exact hq _ _ (OfY.mk h)
theorem xwpY0_spec {c : Cfg} (code : Code) {Q : Exit → KY} {Q' : Exit → St → Prop} (hq : ∀ e s, OfY (Q e) s → Q' e s) {fl : Fl} {L : Loc} {m : Mem} {x : List Nat} (h : xwpY0 c code Q fl L m x) : xwp0 c code Q' (toSt fl L m x) :=
  xwpYG_spec (fun _ _ _ _ _ _ _ _ h => h.elim) (fun _ _ _ _ _ _ _ _ _ _ _ h => h.elim) code hq h
theorem QJY.spec {l : Nat} {J : KY} {J' : St → Prop} {Q : Exit → KY} {Q' : Exit → St → Prop} (hq : ∀ e s, OfY (Q e) s → Q' e s) (hj : ∀ s, OfY J s → J' s) : ∀ e s, OfY (QJY l J Q e) s → QJ l J' Q' e s := by
  rintro e s ⟨fl, L, m, x, e', h⟩
  subst e'
  cases e with
  | goto l' =>
    simp only [QJY] at h
    simp only [QJ]
    cases hb : Nat.beq l' l with
    | true => simp only [hb, cond_true] at h ⊢; exact hj _ (OfY.mk h)
    | false => simp [hb] at h
  | _ => exact hq _ _ (OfY.mk h)
theorem xwpY_spec {c : Cfg} (code : Code) {Q : Exit → KY} {Q' : Exit → St → Prop} (hq : ∀ e s, OfY (Q e) s → Q' e s) {fl : Fl} {L : Loc} {m : Mem} {x : List Nat} (h : xwpY c code Q fl L m x) : xwp c code Q' (toSt fl L m x) := by
  refine xwpYG_spec (fun b Q Q' hq fl L m x h => ?_) (fun g ps asg body Q Q' hq fl L m x h => ?_) code hq h
  · obtain ⟨l, rest, hf, μ, Inv, fr, Lo, first, pass⟩ := h
    refine XScope.mk l rest hf (ι := _ × Mem) (fun i => μ i.1) (fun i => Inv i.1 i.2) (fun i => fr i.1) (fun i => Lo i.1) (fun i => i.2) ?_ ?_
    · refine xwpY0_spec b (QJY.spec hq ?_) first
      rintro s ⟨fl, L, m, x, e', j, h1, h2⟩
      subst e'
      exact ⟨(j, m), h1, h2.k⟩
    · rintro ⟨i, m1⟩ hi
      have hs := fFl_spec (pass i m1 hi)
      have hs := fList_spec (l := Lo i) hs
      refine xwpY0_spec rest (QJY.spec hq ?_) hs
      rintro s ⟨fl, L, m, x, e', j, h1, h2, h3⟩
      subst e'
      exact ⟨(j, m), h1, h2, h3.k⟩
  · obtain ⟨gf, captured, hg, hcap, hL, Inv, i0, h0, El, hEl, round, Fin, iter, rest⟩ := h
    refine XRange.mk gf captured hg hcap hL Inv i0 h0 El hEl (fun i y j m hi hy => ?_) Fin iter (fun m1 hF => hq _ _ (OfY.mk (rest m1 hF)))
    have hs := fFl_spec (round i y j m hi hy)
    have e : (⟨putAll (toSt fl L m x).fr ps.toList y, [], m, []⟩ : St) = toSt (putAllY fl ps.toList y) [] m [] := by
      show (⟨putAll (frOf fl) ps.toList y, [], m, []⟩ : St) = ⟨frOf (putAllY fl ps.toList y), [], m, []⟩
      rw [frOf_putAllY]
    rw [e]
    refine xwpY0_spec asg (fun e s ⟨fl, L, m, x, e', h⟩ => ?_) hs
    subst e'
    cases e with
    | normal =>
      cases L with
      | cons _ _ => exact h.elim
      | nil =>
        refine xwpY0_spec body (fun e s ⟨fl, L, m, x, e', h⟩ => ?_) h
        subst e'
        cases e <;> exact h
    | _ => exact h.elim
def restAt (id : Nat) : Code → Code
  | .seq x y => match restAt id x with
    | .skip => restAt id y
    | r => .seq r y
  | .region i o d => bif Nat.beq i id then .region i o d else .skip
  | _ => .skip
def initFrom : Nat → List CV → Fl
  | _, [] => []
  | k, x :: r => (k, .c x) :: initFrom (k + 1) r
theorem initFrom_at : ∀ (args : List CV) (k i : Nat), frOf (initFrom k args) (k + i) = (match nth args i with | some x => .c x | none => .any)
  | [], k, i => rfl
  | x :: r, k, 0 => by simp [initFrom, frOf, nth, Nat.beq_refl]
  | x :: r, k, i + 1 => by
    have hne : Nat.beq (k + (i + 1)) k = false := by
      cases hb : Nat.beq (k + (i + 1)) k with
      | false => rfl
      | true => have := Nat.eq_of_beq_eq_true hb; omega
    have := initFrom_at r (k + 1) i
    simp only [initFrom, frOf, nth, hne, cond_false]
    rw [show k + (i + 1) = k + 1 + i by omega]
    exact this
theorem initF_eq (args : List CV) : initF args = frOf (initFrom 0 args) := by
  funext i
  have := initFrom_at args 0 i
  rw [Nat.zero_add] at this
  rw [this]; rfl
def QRetY (T : Tab) (rs : List ResultVar) (R : List CV → Mem → Prop) : Exit → KY
  | .ret => fun fl L m x => xres T (toSt fl L m x) rs fun r => R r m
  | .normal => fun fl L m x => xres T (toSt fl L m x) rs fun r => R r m
  | _ => fun _ _ _ _ => False
theorem goY {c : Cfg} {code : Code} {T : Tab} {rs : List ResultVar} {R : List CV → Mem → Prop} {args : List CV} {m : Mem} (h : fFl (initFrom 0 args) fun fl => xwpY c code (QRetY T rs R) fl [] m []) : xwp c code (QRet T rs R) ⟨initF args, [], m, []⟩ := by
  rw [initF_eq]
  refine xwpY_spec code (fun e s ⟨fl, L, m, x, e', h⟩ => ?_) (fFl_spec h)
  subst e'
  cases e <;> first | exact h | exact h.elim
end Go.E
namespace Go.E
def joinM (a b : Mem) : Mem := fun x => match a x with
  | some o => some o
  | none => b x
def allM : List Mem → Mem
  | [] => emp
  | a :: r => joinM a (allM r)
def Dj (a b : Mem) : Prop := ∀ x, a x = none ∨ b x = none
theorem Dj.symm {a b : Mem} (h : Dj a b) : Dj b a := fun x => (h x).symm
def Split (m : Mem) (l : List Mem) : Prop := Sub (allM l) m ∧ l.Pairwise Dj
theorem allM_some : ∀ {l : List Mem} {x : Nat} {o : Obj}, allM l x = some o → ∃ a ∈ l, a x = some o
  | [], _, _, h => by cases h
  | a :: r, x, o, h => by
    simp only [allM, joinM] at h
    split at h
    · rename_i u hu; cases h; exact ⟨a, by simp, hu⟩
    · obtain ⟨b, hb, hx⟩ := allM_some h
      exact ⟨b, by simp [hb], hx⟩
theorem allM_of : ∀ {l : List Mem}, l.Pairwise Dj → ∀ {a : Mem}, a ∈ l → ∀ {x : Nat} {o : Obj}, a x = some o → allM l x = some o
  | [], _, a, ha, _, _, _ => by cases ha
  | b :: r, hp, a, ha, x, o, hx => by
    rw [List.pairwise_cons] at hp
    simp only [allM, joinM]
    rcases List.mem_cons.1 ha with rfl | ha
    · rw [hx]
    · have : b x = none := by
        rcases hp.1 a ha x with h | h
        · exact h
        · rw [hx] at h; cases h
      rw [this]
      exact allM_of hp.2 ha hx
theorem allM_none : ∀ {l : List Mem} {x : Nat}, allM l x = none ↔ ∀ a ∈ l, a x = none
  | [], x => by simp [allM, emp]
  | a :: r, x => by
    simp only [allM, joinM, List.mem_cons, forall_eq_or_imp]
    cases h : a x with
    | none => simp [allM_none (l := r)]
    | some o => simp
theorem allM_perm {l l' : List Mem} (hp : l.Pairwise Dj) (h : l.Perm l') : allM l = allM l' := by
  have hp' : l'.Pairwise Dj := h.pairwise hp (fun h => h.symm)
  funext x
  cases hx : allM l x with
  | none =>
    symm
    rw [allM_none] at hx ⊢
    exact fun a ha => hx a (h.mem_iff.2 ha)
  | some o =>
    obtain ⟨a, ha, hax⟩ := allM_some hx
    exact (allM_of hp' (h.mem_iff.1 ha) hax).symm
theorem Split.perm {m : Mem} {l l' : List Mem} (h : Split m l) (hp : l.Perm l') : Split m l' :=
  ⟨by rw [← allM_perm h.2 hp]; exact h.1, hp.pairwise h.2 (fun h => h.symm)⟩
theorem Split.one (m : Mem) : Split m [m] := ⟨fun x o h => by obtain ⟨a, ha, hx⟩ := allM_some h; rw [List.mem_singleton.1 ha] at hx; exact hx, by simp⟩
theorem Split.sub {m : Mem} {l : List Mem} (h : Split m l) {a : Mem} (ha : a ∈ l) : Sub a m := fun _ _ hx => h.1 _ _ (allM_of h.2 ha hx)
theorem Split.get {m : Mem} {l : List Mem} (h : Split m l) {a : Mem} (ha : a ∈ l) {x : Nat} {o : Obj} (hx : a x = some o) : m x = some o := h.sub ha _ _ hx
theorem Split.none {m : Mem} {l : List Mem} (h : Split m l) {x : Nat} (hx : m x = .none) : ∀ a ∈ l, a x = .none := fun a ha => by
  cases hax : a x with
  | none => rfl
  | some o => have := h.get ha hax; rw [hx] at this; cases this
theorem Split.drop {m a : Mem} {l : List Mem} (h : Split m (a :: l)) : Split m l := by
  have hp := List.pairwise_cons.1 h.2
  refine ⟨fun x o hx => ?_, hp.2⟩
  obtain ⟨b, hb, hbx⟩ := allM_some hx
  exact h.get (by simp [hb]) hbx
theorem Split.addEmp {m : Mem} {l : List Mem} (h : Split m l) : Split m (emp :: l) := ⟨h.1, by rw [List.pairwise_cons]; exact ⟨fun _ _ _ => .inl rfl, h.2⟩⟩
theorem joinM_assoc (a b c : Mem) : joinM (joinM a b) c = joinM a (joinM b c) := by funext x; simp only [joinM]; cases a x <;> simp
theorem joinM_none {a b : Mem} {x : Nat} : joinM a b x = none ↔ a x = none ∧ b x = none := by simp only [joinM]; cases a x <;> simp
theorem Split.pair {m a b : Mem} {l : List Mem} (h : Split m (a :: b :: l)) : Split m (joinM a b :: l) := by
  obtain ⟨h1, h2⟩ := h
  simp only [List.pairwise_cons, List.mem_cons, forall_eq_or_imp] at h2
  refine ⟨by simp only [allM] at h1 ⊢; rw [joinM_assoc]; exact h1, ?_⟩
  rw [List.pairwise_cons]
  refine ⟨fun c hc x => ?_, h2.2.2⟩
  rw [joinM_none]
  rcases h2.1.2 c hc x with h' | h'
  · rcases h2.2.1 c hc x with h'' | h''
    · exact .inl ⟨h', h''⟩
    · exact .inr h''
  · exact .inr h'
theorem Split.unpair {m a b : Mem} {l : List Mem} (h : Split m (joinM a b :: l)) (hd : Dj a b) : Split m (a :: b :: l) := by
  obtain ⟨h1, h2⟩ := h
  rw [List.pairwise_cons] at h2
  refine ⟨by simp only [allM] at h1 ⊢; rw [← joinM_assoc]; exact h1, ?_⟩
  simp only [List.pairwise_cons, List.mem_cons, forall_eq_or_imp]
  refine ⟨⟨hd, fun c hc x => ?_⟩, fun c hc x => ?_, h2.2⟩
  · rcases h2.1 c hc x with h' | h'
    · exact .inl (joinM_none.1 h').1
    · exact .inr h'
  · rcases h2.1 c hc x with h' | h'
    · exact .inl (joinM_none.1 h').2
    · exact .inr h'
theorem Split.dj {m a b : Mem} {l : List Mem} (h : Split m (a :: b :: l)) : Dj a b := by
  have := h.2; simp only [List.pairwise_cons, List.mem_cons, forall_eq_or_imp] at this; exact this.1.1
theorem After.frame_rule {m1 m1' m : Mem} {rest : List Mem} {W W' : World} (hs : Split m (m1 :: rest)) (hW : Over m W) (h : After m1 W m1' W') : ∃ m', Split m' (m1' :: rest) ∧ After m W m' W' := by
  have hin : ∀ a ∈ rest, ∀ x o, a x = some o → m x = some o ∧ m1 x = none ∧ x < W.heap.size := by
    intro a ha x o hx
    have h1 := hs.get (List.mem_cons_of_mem _ ha) hx
    refine ⟨h1, ?_, hW.lt h1⟩
    rcases (List.pairwise_cons.1 hs.2).1 a ha x with h' | h'
    · exact h'
    · rw [hx] at h'; cases h'
  have hp : (m1' :: rest).Pairwise Dj := by
    rw [List.pairwise_cons]
    refine ⟨fun a ha x => ?_, (List.pairwise_cons.1 hs.2).2⟩
    cases hx : a x with
    | none => exact .inr rfl
    | some o =>
      obtain ⟨_, h2, h3⟩ := hin a ha x o hx
      exact .inl (h.frame x h3 h2).1
  refine ⟨allM (m1' :: rest), ⟨Sub.refl _, hp⟩, ⟨?_, h.size, h.tape, h.os, h.output, ?_, fun s => h.drawn (s.less (Nat.le_refl _) fun b hb => hs.none hb m1 (by simp))⟩⟩
  · intro x o hx
    obtain ⟨a, ha, hax⟩ := allM_some hx
    rcases List.mem_cons.1 ha with rfl | ha
    · exact h.over x o hax
    · obtain ⟨h1, h2, h3⟩ := hin a ha x o hax
      rw [(h.frame x h3 h2).2]
      exact hW x o h1
  · intro x hx hm
    have hm := hs.none hm
    have h1 := hm m1 (by simp)
    obtain ⟨k1, k2⟩ := h.frame x hx h1
    refine ⟨?_, k2⟩
    rw [allM_none]
    intro a ha
    rcases List.mem_cons.1 ha with rfl | ha
    · exact k1
    · exact hm a (by simp [ha])
theorem Over.part {m m1 : Mem} {rest : List Mem} {W : World} (hs : Split m (m1 :: rest)) (hW : Over m W) : Over m1 W := hW.sub (hs.sub (by simp))
theorem Spec.frame {P : Program} {f : FuncId} {args : List CV} {m1 m : Mem} {rest : List Mem} {R : List CV → Mem → Prop} (hs : Split m (m1 :: rest)) (h : Spec P f args m1 R) :
    Spec P f args m fun r m' => ∃ m1', R r m1' ∧ Split m' (m1' :: rest) := by
  refine ⟨h.1, fun ha W hW => (h.2 ha W (hW.part hs)).mono fun e W' ⟨r, m1', h1, h2, h3, h4⟩ => ?_⟩
  obtain ⟨m', h5, h6⟩ := h4.frame_rule hs hW
  exact ⟨r, m', h1, h2, ⟨m1', h3, h5⟩, h6⟩
theorem PrimSpec.frame {P : Program} {p : Prim} {args : List CV} {m1 m : Mem} {rest : List Mem} {R : List CV → Mem → Prop} (hs : Split m (m1 :: rest)) (h : PrimSpec P p args m1 R) :
    PrimSpec P p args m fun r m' => ∃ m1', R r m1' ∧ Split m' (m1' :: rest) := by
  intro ha ty W hW
  obtain ⟨r, m1', W', h1, h2, h3, h4⟩ := h ha ty W (hW.part hs)
  obtain ⟨m', h5, h6⟩ := h4.frame_rule hs hW
  exact ⟨r, m', W', h1, h2, ⟨m1', h3, h5⟩, h6⟩
def blk1 (b : Nat) (o : Obj) : Mem := fun x => if x = b then some o else none
theorem blk1_same (b : Nat) (o : Obj) : blk1 b o b = some o := by simp [blk1]
theorem blk1_some {b x : Nat} {o u : Obj} (h : blk1 b o x = some u) : x = b ∧ o = u := by
  unfold blk1 at h; split at h
  · cases h; exact ⟨by assumption, rfl⟩
  · cases h
theorem blk1_none {b x : Nat} {o : Obj} : blk1 b o x = none ↔ x ≠ b := by unfold blk1; split <;> simp_all
theorem joinM_blk1 {m : Mem} {b : Nat} {o : Obj} : joinM (blk1 b o) m = m.set b o := by
  funext x; simp only [joinM, blk1, Mem.set]; split <;> simp_all
theorem Split.new {m : Mem} {l : List Mem} (h : Split m l) {b : Nat} (hb : m b = .none) (o : Obj) : Split (m.set b o) (blk1 b o :: l) := by
  refine ⟨fun x u hx => ?_, ?_⟩
  · obtain ⟨a, ha, hax⟩ := allM_some hx
    rcases List.mem_cons.1 ha with rfl | ha
    · obtain ⟨rfl, rfl⟩ := blk1_some hax; exact Mem.set_same ..
    · exact Mem.sub_set _ hb _ _ (h.get ha hax)
  rw [List.pairwise_cons]
  refine ⟨fun a ha x => ?_, h.2⟩
  by_cases e : x = b
  · subst e; exact .inr (h.none hb a ha)
  · exact .inl (blk1_none.2 e)
theorem Split.set {m a : Mem} {l : List Mem} (h : Split m (a :: l)) {b : Nat} {o : Obj} (hb : a b = some o) (o' : Obj) : Split (m.set b o') (a.set b o' :: l) := by
  have h2 := List.pairwise_cons.1 h.2
  refine ⟨fun x u hx => ?_, ?_⟩
  · obtain ⟨c, hc, hcx⟩ := allM_some hx
    by_cases e : x = b
    · subst e
      rcases List.mem_cons.1 hc with rfl | hc
      · rw [Mem.set_same] at hcx ⊢; exact hcx
      · rcases h2.1 c hc x with h' | h'
        · rw [hb] at h'; cases h'
        · rw [hcx] at h'; cases h'
    · rw [Mem.set_ne _ _ e]
      rcases List.mem_cons.1 hc with rfl | hc
      · rw [Mem.set_ne _ _ e] at hcx; exact h.get (by simp) hcx
      · exact h.get (by simp [hc]) hcx
  · rw [List.pairwise_cons]
    refine ⟨fun c hc x => ?_, h2.2⟩
    by_cases e : x = b
    · subst e
      rcases h2.1 c hc x with h' | h'
      · rw [hb] at h'; cases h'
      · exact .inr h'
    · rw [Mem.set_ne _ _ e]; exact h2.1 c hc x
theorem blk1_set (b : Nat) (o o' : Obj) : (blk1 b o).set b o' = blk1 b o' := by funext x; simp only [blk1, Mem.set]; split <;> simp_all
def OwnP (p : Mem) (e : TypeId) (size : Nat) (v : Value) (l : List Value) : Prop := Own p e size v l ∧ ∀ x o, p x = some o → blkV v = some x
theorem OwnP.nil (e : TypeId) (size : Nat) : OwnP emp e size (.slice none 0 0) [] := ⟨.inl ⟨rfl, rfl⟩, fun _ _ h => by cases h⟩
section
variable {P : Program} {T : Tab}
theorem buildSlice0_spec (hT : TabOk P T) {t e : TypeId} {ti ei : TI} (ht : T t = some ti) (hk : ti.k = .slice e) (he : T e = some ei) {m : Mem} :
    PrimSpec P (.buildSlice t 0 []) [] m fun r m' => ∃ b, m b = none ∧ r = [.v (.slice (some ⟨b, 0, none⟩) 0 0)] ∧ m' = m.set b (.cells #[] e) := by
  intro hok ty W hW
  obtain ⟨j, hj, hjs, _, z, hz, hzc⟩ := (hT e ei he).inf
  have hu := (hT t ti ht).slice hk
  refine ⟨[.v (.slice (some ⟨W.heap.size, 0, none⟩) 0 0)], m.set W.heap.size (.cells #[] e), W.alloc (.cells #[] e), ?_, ?_, ⟨W.heap.size, hW.none (Nat.le_refl _), rfl, rfl⟩, (After.refl hW).alloc _⟩
  · simp [Prim.run, Prim.out, Prim.tup, cond_false, resVal, CV.val, Instr.buildSlice, run_underlying hu, sizeOf, typeInfo, hj, newRow, Instr.fill]
    have e0 : Array.map (fun _ : Nat => (default : Value)) (Array.range 0) = #[] := by apply Array.ext' ; simp
    exact congrArg (fun c => W.alloc (Obj.cells c e)) e0
  · intro x hx
    simp at hx; subst hx; rfl
end
end Go.E
namespace Go.E
section
variable {P : Program} {T : Tab}
theorem After.setObj {m : Mem} {W : World} (hW : Over m W) {b : Nat} {o : Obj} (hb : m b = some o) {o' : Obj} {h : Array Obj} (hs : h.size = W.heap.size) (h1 : h[b]? = some o') (h2 : ∀ x, x ≠ b → h[x]? = W.heap[x]?) :
    After m W (m.set b o') { W with heap := h } := by
  refine ⟨fun x u hx => ?_, by show W.heap.size ≤ h.size; omega, rfl, rfl, rfl, fun x hx hm => ?_, fun _ => Nat.le_refl _⟩
  · by_cases e : x = b
    · subst e; rw [Mem.set_same] at hx; cases hx; exact h1
    · rw [Mem.set_ne _ _ e] at hx; exact (h2 x e).trans (hW x u hx)
  · have e : x ≠ b := fun e => by subst e; rw [hb] at hm; cases hm
    exact ⟨by rw [Mem.set_ne _ _ e]; exact hm, h2 x e⟩
end
end Go.E
namespace Go.E
theorem erase_perm {α : Type} : ∀ (l : List α) (i : Nat) (a : α), l[i]? = some a → (a :: l.eraseIdx i).Perm l
  | [], _, _, h => by simp at h
  | x :: l, 0, a, h => by simp at h; subst h; exact .refl _
  | x :: l, i + 1, a, h => by
    simp only [List.eraseIdx_cons_succ]
    exact (List.Perm.swap x a _).trans ((erase_perm l i a (by simpa using h)).cons x)
theorem set_perm {α : Type} : ∀ (l : List α) (i : Nat) (a : α), i < l.length → (l.set i a).Perm (a :: l.eraseIdx i)
  | [], _, _, h => by simp at h
  | x :: l, 0, a, h => .refl _
  | x :: l, i + 1, a, h => by
    simp only [List.eraseIdx_cons_succ, List.set_cons_succ]
    exact ((set_perm l i a (by simpa using h)).cons x).trans (List.Perm.swap a x _)
theorem Split.pick {m : Mem} {l : List Mem} (h : Split m l) {i : Nat} {a : Mem} (hi : l[i]? = some a) : Split m (a :: l.eraseIdx i) := by
  exact h.perm (erase_perm l i a hi).symm
theorem Split.unpick {m : Mem} {l : List Mem} {i : Nat} {a p : Mem} (hi : l[i]? = some p) (h : Split m (a :: l.eraseIdx i)) : Split m (l.set i a) :=
  h.perm (set_perm l i a (List.getElem?_eq_some_iff.1 hi).1).symm
theorem Split.at {m : Mem} {l : List Mem} (h : Split m l) {i : Nat} {p : Mem} (hi : l[i]? = some p) : Sub p m := h.sub (List.mem_of_getElem? hi)
theorem setGet {α : Type} {l : List α} {i : Nat} {p : α} (h : l[i]? = some p) (q : α) : (l.set i q)[i]? = some q := List.getElem?_set_self (List.getElem?_eq_some_iff.1 h).1
theorem setOther {α : Type} {l : List α} {i j : Nat} {p : α} (h : l[j]? = some p) (hij : i ≠ j) (q : α) : (l.set i q)[j]? = some p := by rw [List.getElem?_set_ne hij]; exact h
theorem Split.setAt {m : Mem} {l : List Mem} (h : Split m l) {i : Nat} {p : Mem} (hi : l[i]? = some p) {b : Nat} {o : Obj} (hb : p b = some o) (o' : Obj) : Split (m.set b o') (l.set i (p.set b o')) :=
  Split.unpick hi ((h.pick hi).set hb o')
theorem Spec.at {P : Program} {f : FuncId} {args : List CV} {m p : Mem} {l : List Mem} {i : Nat} {R : List CV → Mem → Prop} (hs : Split m l) (hi : l[i]? = some p) (h : Spec P f args p R) :
    Spec P f args m fun r m' => ∃ p', R r p' ∧ Split m' (l.set i p') :=
  (h.frame (hs.pick hi)).mono fun _ _ ⟨p', h1, h2⟩ => ⟨p', h1, Split.unpick hi h2⟩
theorem PrimSpec.at {P : Program} {p : Prim} {args : List CV} {m q : Mem} {l : List Mem} {i : Nat} {R : List CV → Mem → Prop} (hs : Split m l) (hi : l[i]? = some q) (h : PrimSpec P p args q R) :
    PrimSpec P p args m fun r m' => ∃ q', R r q' ∧ Split m' (l.set i q') := fun ha ty W hW =>
  let ⟨r, m', W', h1, h2, ⟨q', h3, h4⟩, h5⟩ := h.frame (hs.pick hi) ha ty W hW
  ⟨r, m', W', h1, h2, ⟨q', h3, Split.unpick hi h4⟩, h5⟩
theorem PrimSpec.mono {P : Program} {p : Prim} {args : List CV} {m : Mem} {R R' : List CV → Mem → Prop} (h : PrimSpec P p args m R) (k : ∀ r m', R r m' → R' r m') : PrimSpec P p args m R' := fun ha ty W hW =>
  let ⟨r, m', W', h1, h2, h3, h4⟩ := h ha ty W hW
  ⟨r, m', W', h1, h2, k _ _ h3, h4⟩
theorem Split.under {m m' : Mem} {a l : List Mem} (h : Split m' (a ++ [m])) (hs : Split m l) : Split m' (a ++ l) := by
  obtain ⟨h1, h2⟩ := h
  rw [List.pairwise_append] at h2
  refine ⟨fun x o hx => ?_, ?_⟩
  · obtain ⟨c, hc, hcx⟩ := allM_some hx
    rcases List.mem_append.1 hc with hc | hc
    · exact h1 _ _ (allM_of (List.pairwise_append.2 h2) (by simp [hc]) hcx)
    · exact h1 _ _ (allM_of (List.pairwise_append.2 h2) (a := m) (by simp) (hs.get hc hcx))
  · rw [List.pairwise_append]
    refine ⟨h2.1, hs.2, fun x hx y hy z => ?_⟩
    rcases h2.2.2 x hx m (by simp) z with h' | h'
    · exact .inl h'
    · exact .inr (hs.none h' y hy)
theorem Split.take {m : Mem} {l : List Mem} (h : Split m l) {i : Nat} {p : Mem} (hi : l[i]? = some p) : Split m [p] :=
  ⟨fun x o hx => by
    obtain ⟨a, ha, hax⟩ := allM_some hx
    rw [List.mem_singleton.1 ha] at hax
    exact h.at hi _ _ hax, by simp⟩
theorem Split.flat {m q : Mem} {l ls : List Mem} {i : Nat} (hs : Split m l) (hi : l[i]? = some q) (h : Split q ls) : Split m (ls ++ l.eraseIdx i) := by
  have hp := hs.pick hi
  have hd := List.pairwise_cons.1 hp.2
  refine ⟨fun x o hx => ?_, ?_⟩
  · obtain ⟨c, hc, hcx⟩ := allM_some hx
    rcases List.mem_append.1 hc with hc | hc
    · exact hs.at hi _ _ (h.get hc hcx)
    · exact hp.get (by simp [hc]) hcx
  · rw [List.pairwise_append]
    refine ⟨h.2, hd.2, fun a ha b hb x => ?_⟩
    rcases hd.1 b hb x with h' | h'
    · exact .inl (h.none h' a ha)
    · exact .inr h'
theorem Split.erase {m : Mem} {l : List Mem} (h : Split m l) (i : Nat) : Split m (l.eraseIdx i) := by
  by_cases hi : i < l.length
  · exact (h.pick (i := i) (List.getElem?_eq_getElem hi)).drop
  · rw [List.eraseIdx_of_length_le (by omega)]; exact h
section
variable {P : Program} {T : Tab}
theorem append_at (hT : TabOk P T) {t e tx : TypeId} {ti ei xi : TI} (ht : T t = some ti) (hk : ti.k = .slice e) (he : T e = some ei) (hx : T tx = some xi) (hz : (LB.cells ei.zero).length = ei.size) {v x : Value} {c news : List Value} {m p : Mem} {l : List Mem} {i : Nat}
    (hs : Split m l) (hi : l[i]? = some p) (hv : Own p e ei.size v c) (hg : Gives m ei.size xi.k x news) (hbig : (2 * (lenV v + lenV x) + 768) * ei.bytes ≤ 281474976710656) (hb1 : lenV v + lenV x ≤ 9223372036854775807) :
    PrimSpec P (.builtin .append [t, tx]) [.v v, .v x] m fun r m' => ∃ v' p', r = [.v v'] ∧ Split m' (l.set i p') ∧ Apd p e ei.size v (c ++ news) (lenV x) v' p' := by
  have hown : Own m e ei.size v c := hv.sub (hs.at hi)
  intro ha ty W hW
  obtain ⟨r, m', W', h1, h2, ⟨v', rfl, hap⟩, h4⟩ := append_spec hT ht hk he hx hz hown hg hbig hb1 ha ty W hW
  have hs' := hs.pick hi
  have hp := List.pairwise_cons.1 hs'.2
  have hvb : ∀ b, blkV v = some b → ∃ o, p b = some o := by
    intro b hb
    rcases hv with ⟨rfl, _⟩ | ⟨b', o', c, n, arr, rfl, hb', _⟩
    · simp [blkV] at hb
    · simp only [blkV, Option.some.injEq] at hb; subst hb; exact ⟨_, hb'⟩
  let p' : Mem := fun x => if blkV v' = some x then m' x else if blkV v = some x then none else p x
  have hp' : ∀ x o, p' x = some o → m' x = some o ∧ (blkV v' = some x ∨ p x = some o) := by
    intro x o hx
    simp only [p'] at hx
    by_cases e1 : blkV v' = some x
    · rw [if_pos e1] at hx; exact ⟨hx, .inl e1⟩
    · rw [if_neg e1] at hx
      by_cases e2 : blkV v = some x
      · rw [if_pos e2] at hx; cases hx
      · rw [if_neg e2] at hx
        exact ⟨hap.keep x o (hs.at hi _ _ hx) e2, .inr hx⟩
  have hdj : (p' :: l.eraseIdx i).Pairwise Dj := by
    rw [List.pairwise_cons]
    refine ⟨fun a haa x => ?_, hp.2⟩
    cases hx : p' x with
    | none => exact .inl rfl
    | some o =>
      refine .inr ?_
      obtain ⟨_, q | q⟩ := hp' x o hx
      · rcases hap.new x q with h' | h'
        · obtain ⟨u, hu⟩ := hvb x h'
          rcases hp.1 a haa x with h'' | h''
          · rw [hu] at h''; cases h''
          · exact h''
        · exact hs'.none h' a (by simp [haa])
      · rcases hp.1 a haa x with h'' | h''
        · rw [q] at h''; cases h''
        · exact h''
  refine ⟨[.v v'], allM (p' :: l.eraseIdx i), W', h1, h2, ⟨v', p', rfl, Split.unpick hi ⟨Sub.refl _, hdj⟩, ?_, ?_, ?_, hap.len⟩, ?_⟩
  · exact hap.own.keep fun b hb => by simp [p', hb]
  · intro b o hb hne
    simp only [p']
    by_cases e1 : blkV v' = some b
    · rw [if_pos e1]; exact hap.keep b o (hs.at hi _ _ hb) hne
    · rw [if_neg e1, if_neg hne]; exact hb
  · intro b hb
    rcases hap.new b hb with h' | h'
    · exact .inl h'
    · exact .inr (hs'.none h' p (by simp))
  · refine h4.forget fun x o hx => ?_
    obtain ⟨a, haa, hax⟩ := allM_some hx
    rcases List.mem_cons.1 haa with rfl | haa
    · exact (hp' x o hax).1
    · refine hap.keep x o (hs'.get (by simp [haa]) hax) fun hb => ?_
      obtain ⟨u, hu⟩ := hvb x hb
      rcases hp.1 a haa x with h'' | h''
      · rw [hu] at h''; cases h''
      · rw [hax] at h''; cases h''
end
def bc (l : List Int) : List Value := l.map (Value.int .u8)
theorem bc_append (a b : List Int) : bc (a ++ b) = bc a ++ bc b := by simp [bc]
theorem bc_length (a : List Int) : (bc a).length = a.length := by simp [bc]
theorem bc_one {a : List Int} : ∀ u ∈ bc a, u.oneCell' = true := by
  intro u hu; simp only [bc, List.mem_map] at hu; obtain ⟨a, _, rfl⟩ := hu; rfl
theorem bc_at {a : List Int} {j : Nat} {u : Value} (h : (bc a)[j]? = some u) : ∃ n, a[j]? = some n ∧ u = .int .u8 n := by
  simp only [bc, List.getElem?_map, Option.map_eq_some_iff] at h
  obtain ⟨n, h1, rfl⟩ := h; exact ⟨n, h1, rfl⟩
def Lb (m : Mem) (v : Value) (l : List Int) : Prop := Lies m 1 v (bc l)
theorem Lb.len {m : Mem} {v : Value} {l : List Int} (h : Lb m v l) : lenV v = l.length := by have := Lies.len h; rw [bc_length] at this; omega
theorem Lb.sub {m m' : Mem} {v : Value} {l : List Int} (h : Lb m v l) (hs : Sub m m') : Lb m' v l := Lies.sub h hs
theorem Lb.nil (m : Mem) (c : Nat) : Lb m (.slice none 0 c) [] := .inl ⟨c, rfl, rfl⟩
theorem Lb.one {m : Mem} {v : Value} {l : List Int} (h : Lb m v l) : v.oneCell' = true := Lies.one h
theorem Lb.cases {m : Mem} {v : Value} {l : List Int} (h : Lb m v l) : (∃ c, v = .slice none 0 c ∧ l = []) ∨ ∃ b o c arr t fr, v = .slice (some ⟨b, o, none⟩) l.length c ∧ m b = some (.cells arr t fr) ∧ l.length ≤ c ∧ (∀ j n, l[j]? = some n → arr[o + j]? = some (.int .u8 n)) := by
  rcases h with ⟨c, rfl, h⟩ | ⟨b, o, c, n, arr, t, fr, rfl, h1, h2, h3, h4, h5⟩
  · exact .inl ⟨c, rfl, by simpa [bc] using h⟩
  · rw [bc_length, Nat.mul_one] at h2
    subst h2
    exact .inr ⟨b, o, c, arr, t, fr, rfl, h1, h3, fun j n hj => h4 j _ (by simp [bc, hj])⟩
theorem Lb.shape {m : Mem} {v : Value} {l : List Int} (h : Lb m v l) : ∃ a c, v = .slice a l.length c := by
  rcases h.cases with ⟨c, rfl, rfl⟩ | ⟨b, o, c, arr, t, fr, rfl, _⟩ <;> exact ⟨_, _, rfl⟩
theorem Lb.real {m : Mem} {v : Value} {l : List Int} (h : Lb m v l) (hl : l ≠ []) : ∃ b o c, v = .slice (some ⟨b, o, none⟩) l.length c := by
  rcases h.cases with ⟨c, rfl, rfl⟩ | ⟨b, o, c, arr, t, fr, rfl, _⟩
  · exact absurd rfl hl
  · exact ⟨_, _, _, rfl⟩
theorem Lb.mk {m : Mem} {l : List Int} {b o c n : Nat} {arr : Array Value} {t : TypeId} {fr : Nat × Nat} (h1 : m b = some (.cells arr t fr)) (hn : l.length = n) (h2 : n ≤ c) (h3 : ∀ j n, l[j]? = some n → arr[o + j]? = some (.int .u8 n)) : Lb m (.slice (some ⟨b, o, none⟩) n c) l :=
  .inr ⟨b, o, c, n, arr, t, fr, rfl, h1, by rw [bc_length, hn, Nat.mul_one], h2, fun j u hu => by obtain ⟨n, h4, rfl⟩ := bc_at hu; exact h3 j n h4, bc_one⟩
theorem Lb.range {m : Mem} {b o c n : Nat} {l : List Int} (h : Lb m (.slice (some ⟨b, o, none⟩) n c) l) : MRange m b o (l.map (Value.int .u8)) := by
  rcases h with ⟨c', h, _⟩ | ⟨b', o', c', n', arr, t, fr, h, h1, h2, h3, h4, h5⟩
  · cases h
  · cases h; exact ⟨arr, t, fr, h1, h4⟩
theorem mcell_of {m : Mem} {b off : Nat} {arr : Array Value} {t : TypeId} {fr : Nat × Nat} {v : Value} (h : m b = some (.cells arr t fr)) (hv : arr[off]? = some v) : mcell m b off = some v := by simp only [mcell, h]; exact hv
theorem mcell_sub {m m' : Mem} {b o : Nat} {v : Value} (h : mcell m b o = some v) (hs : Sub m m') : mcell m' b o = some v := by
  unfold mcell at h ⊢
  cases hb : m b with
  | none => simp [hb] at h
  | some u => rw [hb] at h; rw [hs _ _ hb]; exact h
theorem MRange.sub {m m' : Mem} {b o : Nat} {l : List Value} (h : MRange m b o l) (hs : Sub m m') : MRange m' b o l := by
  obtain ⟨arr, t, fr, h1, h2⟩ := h
  exact ⟨arr, t, fr, hs _ _ h1, h2⟩
def La (m : Mem) (v : Value) (l : List Int) : Prop := Lb m v l ∨ (l = [] ∧ ∃ a, v = .slice (some a) 0 0)
theorem Lb.la {m : Mem} {v : Value} {l : List Int} (h : Lb m v l) : La m v l := .inl h
theorem La.sub {m m' : Mem} {v : Value} {l : List Int} (h : La m v l) (hs : Sub m m') : La m' v l := h.imp (·.sub hs) id
theorem La.shape {m : Mem} {v : Value} {l : List Int} (h : La m v l) : ∃ a c, v = .slice a l.length c := by
  rcases h with h | ⟨rfl, a, rfl⟩
  · exact h.shape
  · exact ⟨_, _, rfl⟩
theorem La.len {m : Mem} {v : Value} {l : List Int} (h : La m v l) : lenV v = l.length := by obtain ⟨a, c, rfl⟩ := h.shape; rfl
theorem La.one {m : Mem} {v : Value} {l : List Int} (h : La m v l) : v.oneCell' = true := by obtain ⟨a, c, rfl⟩ := h.shape; rfl
theorem La.gives {m : Mem} {v : Value} {l : List Int} {e : TypeId} (h : La m v l) : Gives m 1 (.slice e) v (bc l) := .inl ⟨e, rfl, h.imp id fun ⟨h1, h2⟩ => ⟨by rw [h1]; rfl, h2⟩⟩
theorem La.lb {m : Mem} {v : Value} {l : List Int} (h : La m v l) (hl : l ≠ []) : Lb m v l := h.elim id fun h => absurd h.1 hl
def by8 (l : List Int) : List UInt8 := l.map fun n => UInt8.ofNat n.toNat
theorem strOf_acc : ∀ (l : List Int) (r : ByteArray), (l.foldl (fun r n => r.push (UInt8.ofNat n.toNat)) r).data.toList = r.data.toList ++ by8 l
  | [], r => by simp [by8]
  | x :: l, r => by
    simp only [List.foldl_cons]
    rw [strOf_acc l]
    simp [by8, ByteArray.push]
theorem strOf_data (l : List Int) : (strOf l).data.toList = by8 l := by
  rw [strOf, strOf_acc]; rfl
abbrev ptrV (b : Nat) : CV := .v (.pointer (some ⟨b, 0, none⟩))
abbrev nilP : CV := .v (.pointer none)
end Go.E
namespace Go.E
section
variable {P : Program} {T : Tab}
end
end Go.E
namespace Go.E
section
variable {P : Program} {T : Tab}
theorem cap_spec (hT : TabOk P T) {t e : TypeId} {ti : TI} (ht : T t = some ti) (hk : ti.k = .slice e) {m : Mem} {a : Option Addr} {n c : Nat} :
    PrimSpec P (.builtin .cap [t]) [.v (.slice a n c)] m fun r m' => r = [.v (.int .i64 c)] ∧ m = m' := by
  intro _ ty W hW
  refine ⟨[.v (.int .i64 c)], m, W, ?_, ?_, ⟨rfl, rfl⟩, After.refl hW⟩
  · simp [Prim.run, Prim.out, Prim.tup, cond_false, CV.val, resVal, Builtin.cap_, run_underlying ((hT t ti ht).slice hk)]; rfl
  · intro x hx; simp at hx; subst hx; rfl
theorem makeFunc_spec {f : FuncId} {n : Nat} {cs : List Value} {m : Mem} (hone : ∀ x ∈ cs, x.oneCell' = true) :
    PrimSpec P (.makeFunc (.func f) n) (cs.map CV.v) m fun r m' => r = [.v (.func (.func f) (cs.take n).toArray (cs.drop n).toArray)] ∧ m = m' := by
  intro _ ty W hW
  refine ⟨[.v (.func (.func f) (cs.take n).toArray (cs.drop n).toArray)], m, W, ?_, ?_, ⟨rfl, rfl⟩, After.refl hW⟩
  · simp [Prim.run, Prim.out, Prim.tup, cond_false, CV.val, resVal, Instr.makeFunc, List.map_map, Function.comp_def]
  · intro x hx; simp at hx; subst hx; rfl
theorem int_desc {d : TypeDesc} {k : IntKind} (h : TK.of d = .int k) : d = .int k := by
  cases d <;> simp [TK.of] at h; subst h; rfl
theorem appendZeros_spec (hT : TabOk P T) {t e tn : TypeId} {ti ei ni : TI} {kn : IntKind} (ht : T t = some ti) (hk : ti.k = .slice e) (he : T e = some ei) (hn : T tn = some ni) (hkn : ni.k = .int kn) (hpos : 0 < ei.size) {m : Mem} {v : Value} {a : Option Addr} {n c k : Nat} {l : List Value}
    (hv : v = .slice a n c) (hl : Lies m ei.size v l) (h0 : 0 < k) (hg : c < n + k) (hb : (2 * (n + k) + 768) * ei.bytes ≤ 281474976710656) (hb1 : n + k ≤ 9223372036854775807) :
    PrimSpec P (.builtin .append [t, tn]) [.v v, .v (.int .i64 k)] m fun r m' => ∃ b C, m b = none ∧ n + k ≤ C ∧ r = [.v (.slice (some ⟨b, 0, none⟩) (n + k) C)] ∧
      m' = m.set b (.cells (l.toArray ++ Builtin.zeroCells (LB.cells ei.zero).toArray k ++ Builtin.zeroCells (LB.cells ei.zero).toArray (C - (n + k))) e) := by
  intro _ ty W hW
  subst hv
  obtain ⟨j, hj, hjs, hjb, z, hjz, hzc⟩ := (hT e ei he).inf
  have hsl := (hT t ti ht).slice hk
  obtain ⟨d, h1, h2⟩ := (hT tn ni hn).desc
  rw [hkn] at h2
  have hd := int_desc h2
  subst hd
  have hold : (Builtin.firstCells j.size n (.slice a n c)).run P W.drew = .ok l.toArray W.drew := by
    rw [hjs]
    rcases hl with ⟨c', e', rfl⟩ | ⟨b, o, c', n', arr, t', fr, e', g1, g2, _, g3, g4⟩
    · cases e'; simp [Builtin.firstCells]
    · cases e'
      refine run_firstCells_some W.drew ei.size n _ n c l g2 (fun i u hu => ?_)
      rw [add_none]
      have hW1 : W.drew.heap[b]? = some (.cells arr t' fr) := hW _ _ g1
      rw [cell_at hW1]
      exact g3 i u hu
  have hbk : k * ei.bytes ≤ 281474976710656 := Nat.le_trans (Nat.mul_le_mul_right _ (by omega)) hb
  have hrun := Lib.run_append_grow_zeros W t tn ty e j z .i64 kn hsl h1 hj hjz a n c l hold k h0 (by omega) hg (by omega) (by rw [hjb]; exact hbk) (by rw [hjb]; exact Nat.le_trans (Nat.mul_le_mul_right _ (nextcap_le hg)) hb)
  have hcap := grownCap_ge W (n + k) c e
  generalize grownCap W (n + k) c e = C at hrun hcap
  rw [hzc] at hrun
  exact ⟨[.v (.slice (some ⟨W.heap.size, 0, none⟩) (n + k) C)], _, _, hrun, (by intro y hy; simp at hy; subst hy; rfl), ⟨W.heap.size, C, hW.none (Nat.le_refl _), hcap, rfl, rfl⟩, (After.refl hW).drew.alloc _⟩
end
end Go.E
namespace Go.E
def chs (s : ByteArray) : List Nat := s.data.toList.map UInt8.toNat
theorem chs_len (s : ByteArray) : (chs s).length = s.size := by simp [chs]
section
variable {P : Program} {T : Tab}
theorem convStr_spec (hT : TabOk P T) {t t' e : TypeId} {ti' ti ei : TI} (ht' : T t' = some ti') (ht : T t = some ti) (hk : ti.k = .slice e) (he : T e = some ei) (hek : ei.k = .int .u8) {m : Mem} {s : ByteArray} :
    PrimSpec P (.conv t' t) [.v (.string s)] m fun r m' => ∃ b c o, m b = none ∧ r = [.v (.slice (some ⟨b, 0, none⟩) s.size c)] ∧ m' = m.set b o ∧ Lb m' (.slice (some ⟨b, 0, none⟩) s.size c) ((chs s).map fun (n : Nat) => (n : Int)) := by
  intro hok ty W hW
  have hu := (hT t ti ht).slice hk
  have hue : P.underlying e = some (.int .u8) := by
    obtain ⟨d, h1, h2⟩ := (hT e ei he).desc
    rw [hek] at h2
    cases d <;> simp [TK.of] at h2
    rw [h1, h2]
  obtain ⟨d', hs, _⟩ := (hT t' ti' ht').desc
  have hr := Lib.run_convert_string_bytes (P := P) W t' t e s hs hu hue
  have hsz := Lib.bytesWorld_size W e s
  refine ⟨_, m.set W.heap.size (.cells (Lib.bytesCells W e s) e ((Lib.bytesCells W e s).size, (Lib.bytesCells W e s).size + 1)), Lib.bytesWorld W e s, ?_, ?_, ⟨W.heap.size, grownCap W s.size 0 e, _, hW.none (Nat.le_refl _), rfl, rfl, ?_⟩, ?_⟩
  · simpa [Prim.run, Prim.out, Prim.tup, cond_false, resVal, CV.val] using hr
  · intro x hx
    simp at hx; subst hx; rfl
  · have hcap := grownCap_ge W s.size 0 e
    refine Lb.mk (Mem.set_same ..) (by simp [chs]) hcap (fun j n hj => ?_)
    rw [List.getElem?_map] at hj
    obtain ⟨x, hx, rfl⟩ := Option.map_eq_some_iff.1 hj
    simp only [chs, List.getElem?_map] at hx
    obtain ⟨y, hy, rfl⟩ := Option.map_eq_some_iff.1 hx
    have hl := (List.getElem?_eq_some_iff.1 hy).1
    rw [Nat.zero_add, Lib.bytesCells, Array.getElem?_append_left (by simpa using hl), Array.getElem?_map]
    rw [← Array.getElem?_toList, hy]; rfl
  · refine ⟨?_, by rw [hsz]; omega, rfl, rfl, rfl, ?_, fun _ => Nat.le_succ _⟩
    · intro x u hx
      by_cases ex : x = W.heap.size
      · subst ex; rw [Mem.set_same] at hx; cases hx; exact Lib.bytesWorld_at_new W e s
      · rw [Mem.set_ne _ _ ex] at hx
        rw [Lib.bytesWorld_at_old W e s x (hW.lt hx)]; exact hW _ _ hx
    · intro x hx hm
      exact ⟨by rw [Mem.set_ne _ _ (by omega)]; exact hm, Lib.bytesWorld_at_old W e s x hx⟩
end
end Go.E
namespace Go.E
section
variable {P : Program} {f : FuncId} {fn : Func}
theorem xext {args : List CV} {m : Mem} {R K : List CV → Mem → Prop} (h : ExtSpec P f args m R) (k : ∀ r m', R r m' → K r m') : XCall P f args m K := .ext R h k
theorem ext_add (hf : P.funcs[f]? = some fn) (hname : (fn.name == "runtime.NumGoroutine") = false) (hb : fn.body.isNone = true) (hn : Extern.findNext fn = none)
    (he : Extern.find fn = some (Extern.Atomic.update (Op.intArith .add) .u64 true)) {m : Mem} {b off : Nat} {x y : Int} {arr : Array Value} {t : TypeId} (hm : m b = some (.cells arr t (0, 0))) (hx : arr[off]? = some (.int .u64 x)) :
    ExtSpec P f [.v (.pointer (some ⟨b, off, none⟩)), .v (.int .u64 y)] m fun r m' => r = [.v (.int .u64 (IntKind.u64.wrap (x + y)))] ∧ m' = m.set b (.cells (arr.setIfInBounds off (.int .u64 (IntKind.u64.wrap (x + y)))) t (0, 0)) := by
  intro _ W hW
  have hg := hW _ _ hm
  have hcell : W.cell? ⟨b, off, none⟩ = some (.int .u64 x) := by rw [cell_at hg]; exact hx
  have hz : W.frozen? ⟨b, off, none⟩ = false := by simp [World.frozen?, hg]
  have hset : W.setCell ⟨b, off, none⟩ (.int .u64 (IntKind.u64.wrap (x + y))) = W.setRow b (arr.setIfInBounds off (.int .u64 (IntKind.u64.wrap (x + y)))) := setCell_eq_setRow W b off arr t (0, 0) _ hg
  have hs : (Op.intArith .add .u64 x y).run P W = .ok (.int .u64 (IntKind.u64.wrap (x + y))) W := by simp [Op.intArith]
  have hr := run_call_add hf hname hb hn .u64 he hcell hz hs
  rw [hset] at hr
  exact ⟨[.v (.int .u64 (IntKind.u64.wrap (x + y)))], _, _, hr, (by intro y hy; simp at hy; subst hy; rfl), ⟨rfl, rfl⟩, (After.refl hW).setRow hm _⟩
end
end Go.E
namespace Go.E
section
variable {P : Program} {T : Tab}
theorem copyP_spec (hT : TabOk P T) {t e tx : TypeId} {ti ei : TI} (ht : T t = some ti) (hk : ti.k = .slice e) (he : T e = some ei) {m : Mem} {b o n c b' o' n' c' : Nat} {arr arr' : Array Value} {te t' : TypeId} {fr' : Nat × Nat} (hb : m b = some (.cells arr te)) (hfit : o + min n' n * ei.size ≤ arr.size)
    {news : List Value} (hb' : m b' = some (.cells arr' t' fr')) (hlen : news.length = min n' n * ei.size) (h4 : ∀ j u, news[j]? = some u → arr'[o' + j]? = some u) (h5 : ∀ u ∈ news, u.oneCell' = true) :
    PrimSpec P (.builtin .copy [t, tx]) [.v (.slice (some ⟨b, o, none⟩) n c), .v (.slice (some ⟨b', o', none⟩) n' c')] m fun r m' => r = [.v (.int .i64 ((min n' n : Nat) : Int))] ∧ m' = m.set b (.cells (arr.toList.take o ++ (news ++ arr.toList.drop (o + news.length))).toArray te) := by
  intro hok ty W hW
  obtain ⟨j, hj, hjs, _⟩ := (hT e ei he).inf
  have hu := (hT t ti ht).slice hk
  have hWb := hW _ _ hb
  have hld := run_loadCells_list (P := P) W ⟨b', o', none⟩ news (fun j v hv => by rw [add_none, cell_at (hW _ _ hb')]; exact h4 j v hv)
  rw [hlen] at hld
  have hst := run_storeCells_at P b o te news 0 arr W hWb (by rw [hlen]; omega) h5
  refine ⟨[.v (.int .i64 ((min n' n : Nat) : Int))], _, _, ?_, ?_, ⟨rfl, rfl⟩, (After.refl hW).setRow hb _⟩
  · simp only [Prim.run, Prim.out, Prim.tup, cond_false, List.map_cons, List.map_nil, CV.val, resVal]
    have hm : Nat.min n' n = min n' n := rfl
    simp only [Nat.add_zero, List.append_assoc] at hst
    simp [Builtin.copy_, run_underlying hu, Builtin.lenOf, Builtin.firstCells, sizeOf, typeInfo, hj, hjs, hm, hld, hst]
    rfl
  · intro y hy; simp at hy; subst hy; rfl
theorem clearN_spec (hT : TabOk P T) {t e : TypeId} {ti ei : TI} (ht : T t = some ti) (hk : ti.k = .slice e) (he : T e = some ei) (hz : (LB.cells ei.zero).length = ei.size) (hone : ∀ u ∈ LB.cells ei.zero, u.oneCell' = true) {m : Mem} {b o n c : Nat} {arr : Array Value} {te : TypeId} (hb : m b = some (.cells arr te)) (hn : 0 < n) (hfit : o + n * ei.size ≤ arr.size) :
    PrimSpec P (.builtin .clear [t]) [.v (.slice (some ⟨b, o, none⟩) n c)] m fun r m' => r = [] ∧ ∃ zs, zs.length = n * ei.size ∧ (∀ u ∈ zs, u.oneCell' = true) ∧ m' = m.set b (.cells (arr.toList.take o ++ zs ++ arr.toList.drop (o + n * ei.size)).toArray te) := by
  intro hok ty W hW
  obtain ⟨j, hj, hjs, _, z, hjz, hzc⟩ := (hT e ei he).inf
  have hu := (hT t ti ht).slice hk
  have hWb := hW _ _ hb
  have hzsz : z.cells.size = ei.size := by rw [hzc]; simpa using hz
  have hzl : (Builtin.zeroCells z.cells n).toList.length = n * ei.size := by rw [Array.length_toList, zeroCells_size, hzsz]
  have hzo : ∀ u ∈ (Builtin.zeroCells z.cells n).toList, u.oneCell' = true := by
    intro u hu
    rw [Array.mem_toList_iff, Builtin.zeroCells, Array.mem_map] at hu
    obtain ⟨i, hi, rfl⟩ := hu
    have hi2 := Array.mem_range.1 hi
    have hlt : i % z.cells.size < z.cells.size := Nat.mod_lt _ (by rcases Nat.eq_zero_or_pos z.cells.size with h | h; simp [h] at hi2; exact h)
    refine hone _ ?_
    have : z.cells[i % z.cells.size]! ∈ z.cells.toList := by
      rw [Array.mem_toList_iff, getElem!_pos z.cells _ hlt]; exact Array.getElem_mem hlt
    rw [hzc] at this ⊢
    exact this
  have hst := run_storeCells_at P b o te (Builtin.zeroCells z.cells n).toList 0 arr W hWb (by rw [hzl]; omega) hzo
  simp only [Nat.add_zero] at hst
  obtain ⟨k, rfl⟩ : ∃ k, n = k + 1 := ⟨n - 1, by omega⟩
  have hzv : (zeroValue e).run P W = .ok z W := by simp [zeroValue, typeInfo, hj, hjz]
  rw [hzl] at hst
  refine ⟨[], _, _, ?_, (by intro y hy; cases hy), ⟨rfl, (Builtin.zeroCells z.cells (k + 1)).toList, hzl, hzo, rfl⟩, (After.refl hW).setRow hb _⟩
  simp only [Prim.run, Prim.out, Prim.tup, cond_false, List.map_cons, List.map_nil, CV.val, resVal]
  simp [Builtin.clear_, run_underlying hu, hzv, hst]
theorem ext_apart {f : FuncId} {fn : Func} (hT : TabOk P T) (hf : P.funcs[f]? = some fn) (hname : (fn.name == "runtime.NumGoroutine") = false) (hb : fn.body.isNone = true) (hn : Extern.findNext fn = none)
    {t tr e : TypeId} {ti ei : TI} (ht : T t = some ti) (hk : ti.k = .slice e) (he : T e = some ei) (hx : Extern.find fn = some (Extern.SlicesOverlaps.overlaps #[t, t] #[tr]))
    {m : Mem} {b b' o o' n n' c c' : Nat} {arr arr' : Array Value} {te te' : TypeId} {fr' : Nat × Nat} (h1 : m b = some (.cells arr te)) (h2 : m b' = some (.cells arr' te' fr')) (hne : b ≠ b') (hpos : arr'.size ≠ 0) :
    ExtSpec P f [.v (.slice (some ⟨b, o, none⟩) n c), .v (.slice (some ⟨b', o', none⟩) n' c')] m fun r m' => r = [.v (.bool false)] ∧ m' = m := by
  intro _ W hW
  obtain ⟨j, hj, hjs, _⟩ := (hT e ei he).inf
  have hu := (hT t ti ht).slice hk
  have g1 := hW _ _ h1
  have g2 := hW _ _ h2
  have hr := Lib.run_overlaps_apart (P := P) W t tr e hu j.size (fun w => by simp [sizeOf, typeInfo, hj]) ⟨b, o, none⟩ ⟨b', o', none⟩ n c n' c' hne te te' arr.size arr'.size
    (by unfold World.shape?; rw [g1]) (by unfold World.shape?; rw [g2]) hpos (by simp [World.frozen?, g1]) (by simp [World.frozen?, g1])
  exact ⟨[.v (.bool false)], m, W, by simp only [List.map_cons, List.map_nil, CV.val, resVal]; rw [run_callFunc_extern hf hname hb hn hx]; exact congrArg (fun r : Result Value => r.andThen fun v w' => Result.ok (Next.value v) w') hr, (by intro y hy; simp at hy; subst hy; rfl), ⟨rfl, rfl⟩, After.refl hW⟩
end
end Go.E
namespace Go.E
section
variable {α : Type} {enc : α → List Value} {s : Nat}
structure EncOk (enc : α → List Value) (s : Nat) : Prop where
  len : ∀ x, (enc x).length = s
  one : ∀ x, ∀ u ∈ enc x, u.oneCell' = true
  pos : 0 < s
theorem EncOk.flen (h : EncOk enc s) : ∀ (E : List α), (E.flatMap enc).length = E.length * s
  | [] => by simp
  | x :: E => by rw [List.flatMap_cons, List.length_append, h.len, h.flen E, List.length_cons, Nat.succ_mul]; omega
theorem EncOk.fone (h : EncOk enc s) {E : List α} : ∀ u ∈ E.flatMap enc, u.oneCell' = true := fun u hu => by
  obtain ⟨x, _, hx⟩ := List.mem_flatMap.1 hu
  exact h.one x u hx
theorem EncOk.at (h : EncOk enc s) : ∀ {E : List α} {i j : Nat} {u : Value} (hi : i < E.length), (enc E[i])[j]? = some u → (E.flatMap enc)[i * s + j]? = some u
  | x :: E, 0, j, u, _, hu => by
    have hl := (List.getElem?_eq_some_iff.1 hu).1
    rw [List.flatMap_cons, List.getElem?_append_left (by simpa using hl)]
    simpa using hu
  | x :: E, i + 1, j, u, hi, hu => by
    have ih := h.at (E := E) (i := i) (j := j) (u := u) (by simpa using hi) (by simpa using hu)
    rw [List.flatMap_cons, List.getElem?_append_right (by rw [h.len, Nat.succ_mul]; omega), h.len, Nat.succ_mul, show i * s + s + j - s = i * s + j by omega]
    exact ih
theorem EncOk.take (h : EncOk enc s) : ∀ (E : List α) (i : Nat), (E.flatMap enc).take (i * s) = (E.take i).flatMap enc
  | [], i => by simp
  | x :: E, 0 => by simp
  | x :: E, i + 1 => by
    rw [List.flatMap_cons, List.take_succ_cons, List.flatMap_cons, Nat.succ_mul, List.take_append, h.len, List.take_of_length_le (by rw [h.len]; omega), show i * s + s - s = i * s by omega, h.take E i]
theorem EncOk.count (h : EncOk enc s) {E : List α} {n : Nat} (e : (E.flatMap enc).length = n * s) : E.length = n := by
  rw [h.flen] at e
  exact Nat.eq_of_mul_eq_mul_right h.pos e
theorem EncOk.shape (h : EncOk enc s) {m : Mem} {v : Value} {E : List α} (hl : Lies m s v (E.flatMap enc)) : ∃ a c, v = .slice a E.length c := by
  rcases hl with ⟨c, rfl, e⟩ | ⟨b, o, c, n, arr, t, fr, rfl, _, e, _⟩
  · have : E.length = 0 := h.count (n := 0) (by rw [e]; simp)
    exact ⟨none, c, by rw [this]⟩
  · exact ⟨_, c, by rw [h.count e]⟩
theorem EncOk.real (h : EncOk enc s) {m : Mem} {v : Value} {E : List α} (hl : Lies m s v (E.flatMap enc)) {i : Nat} (hi : i < E.length) : ∃ b o c, v = .slice (some ⟨b, o, none⟩) E.length c ∧ ∀ j (hj : j < E.length), MRange m b (o + j * s) (enc E[j]) := by
  rcases hl with ⟨c, rfl, e⟩ | ⟨b, o, c, n, arr, t, fr, rfl, g1, e, _, g2, _⟩
  · have : E.length = 0 := h.count (n := 0) (by rw [e]; simp)
    omega
  · refine ⟨b, o, c, by rw [h.count e], fun j hj => ⟨arr, t, fr, g1, fun k u hu => ?_⟩⟩
    rw [Nat.add_assoc]
    exact g2 _ _ (h.at hj hu)
theorem EncOk.row (h : EncOk enc s) {p : Mem} {T : TypeId} {b o n c : Nat} {E : List α} (hl : Own p T s (.slice (some ⟨b, o, none⟩) n c) (E.flatMap enc)) : ∃ arr, p b = some (.cells arr T (0, 0)) ∧ E.length = n ∧ n ≤ c ∧ o + c * s ≤ arr.size ∧ (∀ j u, (E.flatMap enc)[j]? = some u → arr[o + j]? = some u) := by
  rcases hl with ⟨e, _⟩ | ⟨b', o', c', n', arr, e, h1, h2, h3, h4, h5, _⟩
  · cases e
  · cases e
    exact ⟨arr, h1, h.count h2, h3, h4, h5⟩
theorem EncOk.mk' (h : EncOk enc s) {p : Mem} {T : TypeId} {b o n c : Nat} {arr : Array Value} {E : List α} (h1 : p b = some (.cells arr T (0, 0))) (h2 : E.length = n) (h3 : n ≤ c) (h4 : o + c * s ≤ arr.size) (h5 : ∀ j u, (E.flatMap enc)[j]? = some u → arr[o + j]? = some u) : Own p T s (.slice (some ⟨b, o, none⟩) n c) (E.flatMap enc) :=
  .inr ⟨b, o, c, n, arr, rfl, h1, by rw [h.flen, h2], h3, h4, h5, h.fone⟩
theorem EncOk.cut (h : EncOk enc s) {p : Mem} {T : TypeId} {b o n c : Nat} {E : List α} (hl : Own p T s (.slice (some ⟨b, o, none⟩) n c) (E.flatMap enc)) {i : Nat} (hi : i ≤ n) : Own p T s (.slice (some ⟨b, o, none⟩) i c) ((E.take i).flatMap enc) := by
  obtain ⟨arr, h1, h2, h3, h4, h5⟩ := h.row hl
  refine h.mk' h1 (by rw [List.length_take]; omega) (by omega) h4 fun j u hu => h5 j u ?_
  rw [← h.take] at hu
  rw [List.getElem?_take] at hu
  split at hu
  · exact hu
  · cases hu
theorem EncOk.pre (h : EncOk enc s) {m : Mem} {b o n c c' : Nat} {E : List α} (hl : Lies m s (.slice (some ⟨b, o, none⟩) n c) (E.flatMap enc)) {i : Nat} (hi : i ≤ n) (hc : i ≤ c' := by omega) : Lies m s (.slice (some ⟨b, o, none⟩) i c') ((E.take i).flatMap enc) := by
  rcases hl with ⟨c', e, _⟩ | ⟨b', o2, c2, n', arr, t, fr, e, g1, g2, g3, g4, g5⟩
  · cases e
  · cases e
    refine .inr ⟨b, o, c', i, arr, t, fr, rfl, g1, by rw [h.flen, List.length_take, h.count g2, Nat.min_eq_left hi], hc, fun j u hu => g4 j u ?_, h.fone⟩
    rw [← h.take, List.getElem?_take] at hu
    split at hu
    · exact hu
    · cases hu
theorem put_cells {arr : Array Value} {cs : List Value} {a j : Nat} {u : Value} (hfit : a + cs.length ≤ arr.size) : (arr.toList.take a ++ (cs ++ arr.toList.drop (a + cs.length))).toArray[j]? = some u ↔ if j < a then arr[j]? = some u else if j < a + cs.length then cs[j - a]? = some u else arr[j]? = some u := by
  rw [List.getElem?_toArray]
  have hl : (arr.toList.take a).length = a := by rw [List.length_take, Array.length_toList]; omega
  by_cases h1 : j < a
  · rw [if_pos h1, List.getElem?_append_left (by omega), List.getElem?_take, if_pos h1, Array.getElem?_toList]
  · rw [if_neg h1, List.getElem?_append_right (by omega), hl]
    by_cases h2 : j < a + cs.length
    · rw [if_pos h2, List.getElem?_append_left (by omega)]
    · rw [if_neg h2, List.getElem?_append_right (by omega), List.getElem?_drop, Array.getElem?_toList, show a + cs.length + (j - a - cs.length) = j by omega]
theorem EncOk.set (h : EncOk enc s) {p : Mem} {T : TypeId} {b o n c : Nat} {E : List α} (hl : Own p T s (.slice (some ⟨b, o, none⟩) n c) (E.flatMap enc)) {i : Nat} (hi : i < E.length) (x : α) :
    ∃ arr, p b = some (.cells arr T (0, 0)) ∧ o + i * s + s ≤ arr.size ∧ Own (p.set b (.cells (arr.toList.take (o + i * s) ++ (enc x ++ arr.toList.drop (o + i * s + s))).toArray T (0, 0))) T s (.slice (some ⟨b, o, none⟩) n c) ((E.set i x).flatMap enc) := by
  obtain ⟨arr, h1, h2, h3, h4, h5⟩ := h.row hl
  have hmul : i * s + s ≤ c * s := by rw [← Nat.succ_mul]; exact Nat.mul_le_mul_right _ (by omega)
  refine ⟨arr, h1, by omega, h.mk' (Mem.set_same ..) (by rw [List.length_set]; omega) h3 ?_ fun j u hu => ?_⟩
  · simp only [List.size_toArray, List.length_append, List.length_take, List.length_drop, Array.length_toList, h.len]; omega
  · have hp := put_cells (arr := arr) (cs := enc x) (a := o + i * s) (j := o + j) (u := u) (by rw [h.len]; omega)
    rw [h.len] at hp
    rw [hp]
    have hjl := (List.getElem?_eq_some_iff.1 hu).1
    rw [h.flen, List.length_set] at hjl
    have hs := h.pos
    have hq : j / s < E.length := Nat.div_lt_of_lt_mul (by rw [Nat.mul_comm]; exact hjl)
    have hjd : j = j / s * s + j % s := by rw [Nat.mul_comm]; exact (Nat.div_add_mod j s).symm
    have hml := Nat.mod_lt j hs
    have key : ∀ (F : List α) (hF : j / s < F.length), (F.flatMap enc)[j]? = (enc F[j / s])[j % s]? := fun F hF => by
      cases hx : (enc F[j / s])[j % s]? with
      | none => have := List.getElem?_eq_none_iff.1 hx; rw [h.len] at this; omega
      | some w => have := h.at hF hx; rw [← hjd] at this; exact this
    rw [key _ (by rw [List.length_set]; exact hq)] at hu
    by_cases e : j / s = i
    · subst e
      rw [List.getElem_set_self] at hu
      rw [if_neg (by omega), if_pos (by omega), show o + j - (o + j / s * s) = j % s by omega]
      exact hu
    · rw [List.getElem_set_ne (Ne.symm e)] at hu
      have h5' := h5 j u (by rw [key _ hq]; exact hu)
      by_cases hlt : j / s < i
      · have : j / s * s + s ≤ i * s := by rw [← Nat.succ_mul]; exact Nat.mul_le_mul_right _ hlt
        rw [if_pos (by omega)]; exact h5'
      · have : i * s + s ≤ j / s * s := by rw [← Nat.succ_mul]; exact Nat.mul_le_mul_right _ (by omega)
        rw [if_neg (by omega), if_neg (by omega)]; exact h5'
end
theorem Split.grow {m m' : Mem} {l : List Mem} (h : Split m l) (hs : Sub m m') : Split m' l := ⟨h.1.trans hs, h.2⟩
def RowHas (arr : Array Value) (o : Nat) (l : List Value) : Prop := ∀ j u, l[j]? = some u → arr[o + j]? = some u
theorem RowHas.append {arr : Array Value} {o : Nat} {a b : List Value} (ha : RowHas arr o a) (hb : RowHas arr (o + a.length) b) : RowHas arr o (a ++ b) := fun j u hu => by
  by_cases h : j < a.length
  · rw [List.getElem?_append_left h] at hu; exact ha j u hu
  · rw [List.getElem?_append_right (by omega)] at hu
    have := hb _ _ hu
    rw [show o + a.length + (j - a.length) = o + j by omega] at this
    exact this
theorem RowHas.left {arr : Array Value} {o : Nat} {a b : List Value} (h : RowHas arr o (a ++ b)) : RowHas arr o a := fun j u hu => h j u (by rw [List.getElem?_append_left (List.getElem?_eq_some_iff.1 hu).1]; exact hu)
theorem RowHas.right {arr : Array Value} {o : Nat} {a b : List Value} (h : RowHas arr o (a ++ b)) : RowHas arr (o + a.length) b := fun j u hu => by
  rw [Nat.add_assoc]
  exact h (a.length + j) u (by rw [List.getElem?_append_right (by omega), show a.length + j - a.length = j by omega]; exact hu)
theorem RowHas.putSame {arr : Array Value} {a : Nat} {cs : List Value} (hfit : a + cs.length ≤ arr.size) : RowHas (arr.toList.take a ++ (cs ++ arr.toList.drop (a + cs.length))).toArray a cs := fun j u hu => by
  have hl := (List.getElem?_eq_some_iff.1 hu).1
  rw [put_cells hfit, if_neg (by omega), if_pos (by omega), show a + j - a = j by omega]; exact hu
theorem RowHas.putOther {arr : Array Value} {a o : Nat} {cs l : List Value} (h : RowHas arr o l) (hfit : a + cs.length ≤ arr.size) (hd : o + l.length ≤ a ∨ a + cs.length ≤ o) : RowHas (arr.toList.take a ++ (cs ++ arr.toList.drop (a + cs.length))).toArray o l := fun j u hu => by
  have hl := (List.getElem?_eq_some_iff.1 hu).1
  rw [put_cells hfit]
  rcases hd with hd | hd
  · rw [if_pos (by omega)]; exact h j u hu
  · rw [if_neg (by omega), if_neg (by omega)]; exact h j u hu
theorem put_size {arr : Array Value} {a : Nat} {cs : List Value} (hfit : a + cs.length ≤ arr.size) : (arr.toList.take a ++ (cs ++ arr.toList.drop (a + cs.length))).toArray.size = arr.size := by
  simp only [List.size_toArray, List.length_append, List.length_take, List.length_drop, Array.length_toList]; omega
theorem storeAll {mm : Mem} {b : Nat} {old : Array Value} {t : TypeId} {fr : Nat × Nat} {v : LB} (hsz : LB.size v = old.size) :
    (mm.set b (.cells old t fr)).set b (.cells (old.toList.take 0 ++ (LB.cells v ++ old.toList.drop (0 + LB.size v))).toArray t fr) = mm.set b (.cells (LB.cells v).toArray t fr) := by
  rw [Mem.set_set]
  have e : (old.toList.take 0 ++ (LB.cells v ++ old.toList.drop (0 + LB.size v))).toArray = (LB.cells v).toArray := by
    rw [List.drop_of_length_le (by rw [Array.length_toList]; omega)]; simp
  rw [e]
theorem noFr {n k : Nat} : ∀ j, j < n → ¬ (((0, 0) : Nat × Nat).1 ≤ k + j ∧ k + j < ((0, 0) : Nat × Nat).2) := fun j _ h => by simp only at h; omega
end Go.E
namespace Go.E.YtcionccfgcnhoaaGreatDoor
open Go.Proofs
set_option maxRecDepth 100000
abbrev Dt := Int × Int
abbrev En := Int × Int × Int × Int
abbrev Ct := List Int × List En
abbrev Ev := (Int × Int × Int) × Dt × List Dt
def enDot (e : En) : Dt := (e.2.1, e.2.2.1)
def encD (d : Dt) : List Value := [.int .i64 d.1, .int .u64 d.2]
def encE (e : En) : List Value := [.int .i64 e.1, .int .i64 e.2.1, .int .u64 e.2.2.1, .int .i64 e.2.2.2]
theorem encD_ok : EncOk encD 2 := ⟨fun _ => rfl, fun x u hu => by simp [encD] at hu; rcases hu with rfl | rfl <;> rfl, by decide⟩
theorem encE_ok : EncOk encE 4 := ⟨fun _ => rfl, fun x u hu => by simp [encE] at hu; rcases hu with rfl | rfl | rfl | rfl <;> rfl, by decide⟩
def okE (e : En) : Prop := I e.1 ∧ I e.2.1 ∧ U e.2.2.1 ∧ I e.2.2.2
def zeros : List Int := List.replicate 8 0
def cmpI (a b : Int) : Int := if a < b then -1 else if b < a then 1 else 0
def orI : List Int → Int
  | [] => 0
  | x :: r => if x = 0 then orI r else x
def dLess (a b : Dt) : Bool := decide (a.1 < b.1 ∨ (a.1 = b.1 ∧ a.2 < b.2))
def dOrd (a b : Dt) : Int := if dLess a b then -1 else if dLess b a then 1 else 0
def eOrd (a b : En) : Int := orI [cmpI a.1 b.1, cmpI a.2.1 b.2.1, cmpI a.2.2.1 b.2.2.1, cmpI a.2.2.2 b.2.2.2]
def eLess (a b : En) : Bool := decide (eOrd a b < 0)
theorem eLess_iff {a b : En} : eLess a b = true ↔ a.1 < b.1 ∨ (a.1 = b.1 ∧ (a.2.1 < b.2.1 ∨ (a.2.1 = b.2.1 ∧ (a.2.2.1 < b.2.2.1 ∨ (a.2.2.1 = b.2.2.1 ∧ a.2.2.2 < b.2.2.2))))) := by
  unfold eLess eOrd
  simp only [orI, cmpI, decide_eq_true_eq]
  by_cases h1 : a.1 < b.1
  · simp [h1]
  by_cases h2 : b.1 < a.1
  · simp [h1, h2]; omega
  by_cases h3 : a.2.1 < b.2.1
  · simp [h1, h2, h3]; omega
  by_cases h4 : b.2.1 < a.2.1
  · simp [h1, h2, h3, h4]; omega
  by_cases h5 : a.2.2.1 < b.2.2.1
  · simp [h1, h2, h3, h4, h5]; omega
  by_cases h6 : b.2.2.1 < a.2.2.1
  · simp [h1, h2, h3, h4, h5, h6]; omega
  by_cases h7 : a.2.2.2 < b.2.2.2
  · simp [h1, h2, h3, h4, h5, h6, h7]; omega
  by_cases h8 : b.2.2.2 < a.2.2.2
  · simp [h1, h2, h3, h4, h5, h6, h7, h8]
  · simp [h1, h2, h3, h4, h5, h6, h7, h8]
def rightD (d : Dt) : Bool := rightN d.1 d.2
def sortD (l : List Dt) : List Dt := l.mergeSort fun x y => !dLess y x
def compD : List Dt → List Dt
  | [] => []
  | [a] => [a]
  | a :: b :: r => if a = b then compD (b :: r) else a :: compD (b :: r)
def setF (l : List Dt) : List Dt := (compD (sortD (l.filter rightD))).take 2000
def hasV (v : List Int) (d : Dt) : Bool := rightD d && decide (d.2 ≤ getN v d.1)
def sortE (l : List En) : List En := l.mergeSort fun x y => !eLess y x
theorem compD_len : ∀ (l : List Dt), (compD l).length ≤ l.length
  | [] => Nat.le_refl _
  | [a] => Nat.le_refl _
  | a :: b :: r => by
    have ih := compD_len (b :: r)
    unfold compD
    split <;> simp only [List.length_cons] at * <;> omega
end Go.E.YtcionccfgcnhoaaGreatDoor
namespace Go.E
def beF : Nat → Nat → List Nat
  | 0, _ => []
  | f + 1, n => if n = 0 then [] else beF f (n / 256) ++ [n % 256]
theorem div_pow_succ (n i : Nat) : n / 256 ^ (i + 1) = n / 256 / 256 ^ i := by
  rw [Nat.pow_succ, Nat.mul_comm, Nat.div_div_eq_div_mul]
theorem beF_pos : ∀ (f n i : Nat), n < 256 ^ f → (0 < n / 256 ^ i ↔ i < (beF f n).length)
  | 0, n, i, h => by
    have : n = 0 := by simpa using h
    subst this; simp [beF]
  | f + 1, n, i, h => by
    by_cases hn : n = 0
    · subst hn; simp [beF]
    · simp only [beF, hn, if_false, List.length_append, List.length_singleton]
      cases i with
      | zero => simp; omega
      | succ i =>
        rw [div_pow_succ, beF_pos f (n / 256) i (by rw [Nat.pow_succ] at h; exact Nat.div_lt_of_lt_mul (by rw [Nat.mul_comm]; exact h))]
        omega
theorem beF_at : ∀ (f n j : Nat), j < (beF f n).length → (beF f n)[j]? = some (n / 256 ^ ((beF f n).length - 1 - j) % 256)
  | 0, n, j, h => by simp [beF] at h
  | f + 1, n, j, h => by
    by_cases hn : n = 0
    · subst hn; simp [beF] at h
    · simp only [beF, hn, if_false, List.length_append, List.length_singleton] at h ⊢
      by_cases hj : j < (beF f (n / 256)).length
      · rw [List.getElem?_append_left hj, beF_at f (n / 256) j hj]
        rw [show (beF f (n / 256)).length + 1 - 1 - j = (beF f (n / 256)).length - 1 - j + 1 by omega, div_pow_succ]
      · have : j = (beF f (n / 256)).length := by omega
        subst this
        simp
theorem beF_len : ∀ (f n : Nat), (beF f n).length ≤ f
  | 0, _ => by simp [beF]
  | f + 1, n => by
    by_cases hn : n = 0
    · subst hn; simp [beF]
    · simp only [beF, hn, if_false, List.length_append, List.length_singleton]
      have := beF_len f (n / 256); omega
theorem beF_lt : ∀ (f n : Nat), ∀ x ∈ beF f n, x < 256
  | 0, _, x, h => by simp [beF] at h
  | f + 1, n, x, h => by
    by_cases hn : n = 0
    · subst hn; simp [beF] at h
    · simp only [beF, hn, if_false, List.mem_append, List.mem_singleton] at h
      rcases h with h | h
      · exact beF_lt f _ x h
      · omega
theorem beF_val : ∀ (f n : Nat), n < 256 ^ f → (beF f n).foldl (fun a c => 256 * a + c) 0 = n
  | 0, n, h => by simp at h; subst h; simp [beF]
  | f + 1, n, h => by
    by_cases hn : n = 0
    · subst hn; simp [beF]
    · simp only [beF, hn, if_false, List.foldl_append, List.foldl_cons, List.foldl_nil]
      rw [beF_val f (n / 256) (by rw [Nat.pow_succ] at h; exact Nat.div_lt_of_lt_mul (by rw [Nat.mul_comm]; exact h))]
      omega
theorem beF_head : ∀ (f n : Nat), n < 256 ^ f → ∀ x, (beF f n)[0]? = some x → 0 < x := by
  intro f n h x hx
  have hl : 0 < (beF f n).length := (List.getElem?_eq_some_iff.1 hx).1
  rw [beF_at f n 0 hl] at hx
  have hx' : n / 256 ^ ((beF f n).length - 1 - 0) % 256 = x := by simpa using hx
  have h1 := (beF_pos f n ((beF f n).length - 1) h).2 (by omega)
  have h2 : n / 256 ^ ((beF f n).length - 1) < 256 := by
    have h3 : ¬ (0 < n / 256 ^ (beF f n).length) := fun h' => by have := (beF_pos f n _ h).1 h'; omega
    have h4 : n < 256 ^ (beF f n).length := by
      rcases Nat.lt_or_ge n (256 ^ (beF f n).length) with h' | h'
      · exact h'
      · exact absurd (Nat.div_pos h' (Nat.pow_pos (by decide))) h3
    refine Nat.div_lt_of_lt_mul ?_
    rw [← Nat.pow_succ]
    rw [show ((beF f n).length - 1).succ = (beF f n).length by omega]
    exact h4
  simp only [Nat.sub_zero] at hx'
  rw [Nat.mod_eq_of_lt h2] at hx'
  omega
def beB (n : Int) : List Int := (beF 8 n.toNat).map (fun (x : Nat) => (x : Int))
def numB (n : Int) : List Int := ((beB n).length : Int) :: beB n
def U64 (n : Int) : Prop := 0 ≤ n ∧ n < 18446744073709551616
theorem U64.lt {n : Int} (h : U64 n) : n.toNat < 256 ^ 8 := by have := h.1; have := h.2; omega
theorem beB_len (n : Int) : (beB n).length ≤ 8 := by simp only [beB, List.length_map]; exact beF_len 8 _
theorem fdiv_pow {n : Int} (h : U64 n) (i : Nat) : Int.fdiv n (2 ^ (8 * i)) = ((n.toNat / 256 ^ i : Nat) : Int) := by
  have e : (2 : Int) ^ (8 * i) = ((256 ^ i : Nat) : Int) := by
    rw [Int.pow_mul]; simp
  rw [e, Int.fdiv_eq_ediv_of_nonneg _ (Int.natCast_nonneg _)]
  have : n = (n.toNat : Int) := (Int.toNat_of_nonneg h.1).symm
  rw [this]; simp
theorem beB_at {n : Int} {j : Nat} (hj : j < (beB n).length) : (beB n)[j]? = some ((n.toNat / 256 ^ ((beB n).length - 1 - j) % 256 : Nat) : Int) := by
  simp only [beB, List.length_map] at hj ⊢
  rw [List.getElem?_map, beF_at 8 _ j hj]; rfl
theorem beB_pos {n : Int} (h : U64 n) (i : Nat) : (0 < n.toNat / 256 ^ i ↔ i < (beB n).length) := by
  simp only [beB, List.length_map]; exact beF_pos 8 _ i h.lt
theorem beB_byte (n : Int) : ∀ x ∈ beB n, 0 ≤ x ∧ x < 256 := by
  intro x hx
  simp only [beB, List.mem_map] at hx
  obtain ⟨y, hy, rfl⟩ := hx
  have := beF_lt 8 _ y hy
  omega
theorem numB_byte (n : Int) : ∀ x ∈ numB n, 0 ≤ x ∧ x < 256 := by
  intro x hx
  rcases List.mem_cons.1 hx with rfl | hx
  · have := beB_len n; omega
  · exact beB_byte n x hx
theorem numB_len (n : Int) : (numB n).length ≤ 9 := by have := beB_len n; simp only [numB, List.length_cons]; omega
def intU (n : Int) : Int := if 0 ≤ n then 2 * n else 2 * (-n - 1) + 1
def textB (b : List Int) : List Int := numB b.length ++ b
def vecB (v : List Int) : List Int := (v.map numB).flatten
end Go.E
namespace Go.E
abbrev RS := List Int × Int
def rTake (n : Nat) (s : RS) : List Int × RS :=
  if s.2 ≠ 0 then ([], s) else if s.1.length < n then ([], (s.1, 8)) else (s.1.take n, (s.1.drop n, 0))
def rMust (b : Bool) (s : RS) : RS := if s.2 = 0 ∧ b = false then (s.1, 3) else s
def beN (l : List Int) : Int := l.foldl (fun a c => 256 * a + c) 0
def hd0 (l : List Int) : Int := l.headD 0
def rNum (s : RS) : Int × RS :=
  let (h, s1) := rTake 1 s
  if h = [] then (0, s1) else
  let s2 := rMust (decide (hd0 h ≤ 8)) s1
  let (l, s3) := rTake (hd0 h).toNat s2
  let s4 := rMust (l.isEmpty || decide (0 < hd0 l)) s3
  (if s4.2 ≠ 0 then 0 else beN l, s4)
def rSmall (most : Int) (s : RS) : Int × RS :=
  let (n, s1) := rNum s
  let s2 := rMust (decide (0 ≤ most) && decide (n ≤ max most 0)) s1
  (if s2.2 ≠ 0 then 0 else n, s2)
def rInt (s : RS) : Int × RS :=
  let (n, s1) := rNum s
  let s2 := if n % 2 = 0 then rMust (decide (n / 2 ≤ 4611686018427387904)) s1 else rMust (decide (n / 2 < 4611686018427387904)) s1
  (if s2.2 ≠ 0 then 0 else if n % 2 = 1 then - (n / 2) - 1 else n / 2, s2)
def rText (most : Int) (s : RS) : List Int × RS :=
  let (k, s1) := rSmall most s
  rTake k.toNat s1
def rNums : Nat → RS → List Int × RS
  | 0, s => ([], s)
  | k + 1, s => let (l, s1) := rNums k s; let (n, s2) := rNum s1; (l ++ [n], s2)
def rVec (s : RS) : List Int × RS :=
  let (l, s1) := rNums 8 s
  (if s1.2 ≠ 0 then List.replicate 8 0 else l, s1)
def Byt (l : List Int) : Prop := ∀ x ∈ l, 0 ≤ x ∧ x < 256
theorem Byt.take {l : List Int} (h : Byt l) (n : Nat) : Byt (l.take n) := fun x hx => h x (List.mem_of_mem_take hx)
theorem Byt.drop {l : List Int} (h : Byt l) (n : Nat) : Byt (l.drop n) := fun x hx => h x (List.mem_of_mem_drop hx)
theorem Byt.nil : Byt [] := fun x hx => by cases hx
theorem Byt.append {a b : List Int} (ha : Byt a) (hb : Byt b) : Byt (a ++ b) := fun x hx => (List.mem_append.1 hx).elim (ha x) (hb x)
theorem rTake_byt {n : Nat} {s : RS} (h : Byt s.1) : Byt (rTake n s).1 ∧ Byt (rTake n s).2.1 := by
  unfold rTake; split
  · exact ⟨Byt.nil, h⟩
  · split
    · exact ⟨Byt.nil, h⟩
    · exact ⟨h.take n, h.drop n⟩
theorem rTake_len {n : Nat} {s : RS} : (rTake n s).1.length ≤ n := by
  unfold rTake; split
  · simp
  · split
    · simp
    · simp; omega
theorem rMust_fst {b : Bool} {s : RS} : (rMust b s).1 = s.1 := by unfold rMust; split <;> rfl
theorem rMust_byt {b : Bool} {s : RS} (h : Byt s.1) : Byt (rMust b s).1 := by rw [rMust_fst]; exact h
theorem beN_snoc (l : List Int) (c : Int) : beN (l ++ [c]) = 256 * beN l + c := by simp [beN]
theorem beN_acc : ∀ {l : List Int} {a : Int}, Byt l → 0 ≤ a → 0 ≤ l.foldl (fun a c => 256 * a + c) a ∧ l.foldl (fun a c => 256 * a + c) a < (a + 1) * 256 ^ l.length
  | [], a, _, h => by simp; omega
  | c :: l, a, hb, h => by
    have hc := hb c (by simp)
    have := beN_acc (l := l) (a := 256 * a + c) (fun x hx => hb x (by simp [hx])) (by omega)
    simp only [List.foldl_cons, List.length_cons]
    refine ⟨this.1, Int.lt_of_lt_of_le this.2 ?_⟩
    rw [Int.pow_succ, ← Int.mul_assoc, Int.mul_right_comm]
    exact Int.mul_le_mul_of_nonneg_right (by omega) (Int.le_of_lt (Int.pow_pos (by decide)))
theorem beN_bound {l : List Int} (h : Byt l) : 0 ≤ beN l ∧ beN l < 256 ^ l.length := by
  have := beN_acc (a := 0) h (by omega)
  simpa [beN] using this
theorem beN_U {l : List Int} (h : Byt l) (hl : l.length ≤ 8) : U64 (beN l) := by
  obtain ⟨h1, h2⟩ := beN_bound h
  refine ⟨h1, Int.lt_of_lt_of_le h2 ?_⟩
  have : (256 : Nat) ^ l.length ≤ 256 ^ 8 := Nat.pow_le_pow_right (by decide) hl
  have e : ((256 ^ l.length : Nat) : Int) = (256 : Int) ^ l.length := by simp
  omega
theorem beN_beB {n : Int} (h : U64 n) : beN (beB n) = n := by
  have h1 := beF_val 8 n.toNat h.lt
  have e : ∀ (l : List Nat) (a : Nat), (l.map (fun (x : Nat) => (x : Int))).foldl (fun a c => 256 * a + c) (a : Int) = ((l.foldl (fun a c => 256 * a + c) a : Nat) : Int) := by
    intro l
    induction l with
    | nil => intro a; rfl
    | cons x l ih => intro a; simp only [List.map_cons, List.foldl_cons]; rw [← ih]; simp
  have := e (beF 8 n.toNat) 0
  simp only [beN, beB]
  rw [show (0 : Int) = ((0 : Nat) : Int) from rfl, this, h1]
  have := h.1; omega
theorem rNum_back {n : Int} (hn : U64 n) (t : List Int) : rNum (numB n ++ t, 0) = (n, (t, 0)) := by
  have h8 := beB_len n
  have e1 : rTake 1 (numB n ++ t, 0) = ([((beB n).length : Int)], (beB n ++ t, 0)) := by
    simp [rTake, numB]
  have e2 : rTake (beB n).length (beB n ++ t, 0) = (beB n, (t, 0)) := by simp [rTake]
  have e3 : ((beB n).isEmpty || decide (0 < hd0 (beB n))) = true := by
    cases hb : beB n with
    | nil => rfl
    | cons x r =>
      have hf := beF_head 8 n.toNat hn.lt
      have : 0 < x := by
        have hx : (beB n)[0]? = some x := by rw [hb]; rfl
        simp only [beB, List.getElem?_map, Option.map_eq_some_iff] at hx
        obtain ⟨y, h1, rfl⟩ := hx
        have := hf y h1; omega
      simp [hd0, this]
  have h8' : ((beB n).length : Int) ≤ 8 := by omega
  unfold rNum
  rw [e1]
  dsimp only
  rw [if_neg (by simp)]
  have hd : hd0 [((beB n).length : Int)] = (beB n).length := rfl
  have m1 : rMust (decide (((beB n).length : Int) ≤ 8)) (beB n ++ t, 0) = (beB n ++ t, 0) := by simp [rMust, h8']
  rw [hd, m1, Int.toNat_natCast, e2]
  dsimp only
  have m2 : rMust ((beB n).isEmpty || decide (0 < hd0 (beB n))) (t, 0) = (t, 0) := by rw [e3]; simp [rMust]
  rw [m2]
  simp [beN_beB hn]
theorem rNum_cut {n : Int} {t : List Int} (k : Nat) (hk : k < (numB n).length) (ht : t = (numB n).take k) : ∃ u, rNum (t, 0) = (0, (u, 8)) := by
  subst ht
  have h8 := beB_len n
  cases k with
  | zero => exact ⟨[], by simp [rNum, rTake]⟩
  | succ k =>
    have hk' : k < (beB n).length := by simpa [numB] using hk
    have e1 : rTake 1 ((numB n).take (k + 1), 0) = ([((beB n).length : Int)], ((beB n).take k, 0)) := by simp [rTake, numB]
    have h8' : ((beB n).length : Int) ≤ 8 := by omega
    have e2 : rTake (beB n).length ((beB n).take k, 0) = ([], ((beB n).take k, 8)) := by simp [rTake]; omega
    have hd : hd0 [((beB n).length : Int)] = (beB n).length := rfl
    have m1 : rMust (decide (((beB n).length : Int) ≤ 8)) ((beB n).take k, 0) = ((beB n).take k, 0) := by simp [rMust, h8']
    refine ⟨(beB n).take k, ?_⟩
    unfold rNum
    rw [e1]
    dsimp only
    rw [if_neg (by simp), hd, m1, Int.toNat_natCast, e2]
    dsimp only
    simp [rMust]
end Go.E
namespace Go.E
theorem vecB_cons (a : Int) (v : List Int) : vecB (a :: v) = numB a ++ vecB v := by simp [vecB]
def I62 (n : Int) : Prop := -4611686018427387904 ≤ n ∧ n ≤ 4611686018427387904
theorem intU_U62 {n : Int} (h : I62 n) : U64 (intU n) := by
  have := h.1; have := h.2; unfold intU U64; split <;> omega
theorem rInt_back {n : Int} (h : I62 n) (t : List Int) : rInt (numB (intU n) ++ t, 0) = (n, (t, 0)) := by
  have h0 := h.1
  have h1 := h.2
  have e := rNum_back (intU_U62 h) t
  unfold rInt
  rw [e]
  dsimp only
  by_cases hn : 0 ≤ n
  · have e1 : intU n = 2 * n := by rw [intU, if_pos hn]
    have e2 : intU n % 2 = 0 := by omega
    have e3 : intU n / 2 = n := by omega
    rw [if_pos e2, e3]
    have : rMust (decide (n ≤ 4611686018427387904)) (t, 0) = (t, 0) := by simp [rMust, h1]
    rw [this, e2]; simp
  · have e1 : intU n = 2 * (-n - 1) + 1 := by rw [intU, if_neg hn]
    have e2 : intU n % 2 = 1 := by omega
    have e3 : intU n / 2 = -n - 1 := by omega
    rw [if_neg (show ¬ intU n % 2 = 0 by omega), e3]
    have : rMust (decide (-n - 1 < 4611686018427387904)) (t, 0) = (t, 0) := by
      have : -n - 1 < 4611686018427387904 := by omega
      simp [rMust, this]
    rw [this]; simp [e2]; omega
theorem rSmall_back {n most : Int} (hn : U64 n) (h : n ≤ most) (t : List Int) : rSmall most (numB n ++ t, 0) = (n, (t, 0)) := by
  have e := rNum_back hn t
  have h0 := hn.1
  unfold rSmall
  rw [e]
  dsimp only
  have : (decide (0 ≤ most) && decide (n ≤ max most 0)) = true := by simp; omega
  rw [this]
  simp [rMust]
theorem len_U {b : List Int} (h : b.length ≤ 1000000) : U64 (b.length : Int) := ⟨by omega, by omega⟩
theorem rText_back {b : List Int} {most : Int} (hb : b.length ≤ 1000000) (h : (b.length : Int) ≤ most) (t : List Int) : rText most (textB b ++ t, 0) = (b, (t, 0)) := by
  have e := rSmall_back (len_U hb) h (b ++ t)
  unfold rText
  rw [textB, List.append_assoc, e]
  simp [rTake]
theorem rNums_back : ∀ (k : Nat) (v t : List Int), (∀ x ∈ v, U64 x) → k ≤ v.length → rNums k (vecB v ++ t, 0) = (v.take k, (vecB (v.drop k) ++ t, 0))
  | 0, v, t, _, _ => by simp [rNums]
  | k + 1, v, t, hv, hk => by
    have ih := rNums_back k v t hv (by omega)
    have hd : v.drop k = v[k] :: v.drop (k + 1) := List.drop_eq_getElem_cons (by omega)
    unfold rNums
    rw [ih]
    dsimp only
    have e : vecB (v.drop k) ++ t = numB v[k] ++ (vecB (v.drop (k + 1)) ++ t) := by rw [hd, vecB_cons, List.append_assoc]
    rw [e, rNum_back (hv _ (by simp))]
    rw [List.take_succ_eq_append_getElem (show k < v.length by omega)]
theorem rVec_back {v : List Int} (hl : v.length = 8) (hv : ∀ x ∈ v, U64 x) (t : List Int) : rVec (vecB v ++ t, 0) = (v, (t, 0)) := by
  unfold rVec
  rw [rNums_back 8 v t hv (by omega)]
  simp [← hl, vecB]
end Go.E
