/-
  Ints, Ix, Au1, Au2, KeyR, Au3, Au4, Au5, Au6, Pk, Au7, Au8, Au9, Au10, E32, Au11, Au12
-/
import Derived.Test.YtconjimbfhpfgaaDoorAuditCutsZ6
import Derived.KernelRfl
import Derived.ChangeKeysEq
/-
  Lists of whole numbers.
-/
namespace Go.E.YtconjimbfhpfgaaDoor
open Go.Proofs
set_option maxRecDepth 100000
theorem hIs : tt.get 44 = some ⟨.slice 3, 1, 24, [.one (.slice none 0 0)], false⟩ := by rfl
theorem hI' : tt.get 3 = some ⟨.int .i64, 1, 8, [.one (.int .i64 0)], false⟩ := by rfl
abbrev ic (l : List Int) : List Value := l.map (Value.int .i64)
theorem ic_one {l : List Int} : ∀ u ∈ ic l, u.oneCell' = true := by
  intro u hu; obtain ⟨a, _, rfl⟩ := List.mem_map.1 hu; rfl
/-- numbers that lie somewhere; owned -/
def Il (m : Mem) (v : Value) (l : List Int) : Prop := Lies m 1 v (ic l)
def Io (m : Mem) (v : Value) (l : List Int) : Prop := Own m 3 1 v (ic l)
/-- numbers that lie somewhere; or none, wherever -/
def Ia (m : Mem) (v : Value) (l : List Int) : Prop := Il m v l ∨ (l = [] ∧ ∃ a, v = .slice (some a) 0 0)
theorem Il.sub {m m' : Mem} {v : Value} {l : List Int} (h : Il m v l) (hs : Sub m m') : Il m' v l := Lies.sub h hs
theorem Io.sub {m m' : Mem} {v : Value} {l : List Int} (h : Io m v l) (hs : Sub m m') : Io m' v l := Own.sub h hs
theorem Io.il {m : Mem} {v : Value} {l : List Int} (h : Io m v l) : Il m v l := Own.lies h
theorem Il.ia {m : Mem} {v : Value} {l : List Int} (h : Il m v l) : Ia m v l := .inl h
theorem Ia.sub {m m' : Mem} {v : Value} {l : List Int} (h : Ia m v l) (hs : Sub m m') : Ia m' v l := h.imp (·.sub hs) id
theorem Io.nil (m : Mem) : Io m (.slice none 0 0) [] := .inl ⟨rfl, rfl⟩
theorem Il.shape {m : Mem} {v : Value} {l : List Int} (h : Il m v l) : ∃ a c, v = .slice a l.length c := by
  rcases h with ⟨c, rfl, e⟩ | ⟨b, o, c, n, arr, t, fr, rfl, _, e, _⟩
  · have : l.length = 0 := by simpa using congrArg List.length e
    exact ⟨none, c, by rw [this]⟩
  · have : l.length = n := by simpa using e
    exact ⟨_, c, by rw [this]⟩
theorem Ia.shape {m : Mem} {v : Value} {l : List Int} (h : Ia m v l) : ∃ a c, v = .slice a l.length c := by
  rcases h with h | ⟨rfl, a, rfl⟩
  · exact h.shape
  · exact ⟨_, _, rfl⟩
theorem Ia.one {m : Mem} {v : Value} {l : List Int} (h : Ia m v l) : v.oneCell' = true := by obtain ⟨a, c, rfl⟩ := h.shape; rfl
theorem Ia.il {m : Mem} {v : Value} {l : List Int} (h : Ia m v l) (hl : l ≠ []) : Il m v l := h.elim id fun h => absurd h.1 hl
theorem Il.real {m : Mem} {v : Value} {l : List Int} (h : Il m v l) {i : Nat} (hi : i < l.length) : ∃ b o c, v = .slice (some ⟨b, o, none⟩) l.length c ∧ ∀ j (hj : j < l.length), mcell m b (o + j) = some (.int .i64 l[j]) := by
  rcases h with ⟨c, rfl, e⟩ | ⟨b, o, c, n, arr, t, fr, rfl, g1, e, _, g2, _⟩
  · have : l.length = 0 := by simpa using congrArg List.length e
    omega
  · have : l.length = n := by simpa using e
    exact ⟨b, o, c, by rw [this], fun j hj => mcell_of g1 (g2 j _ (by simp [hj]))⟩
theorem Ia.real {m : Mem} {v : Value} {l : List Int} (h : Ia m v l) {i : Nat} (hi : i < l.length) : ∃ b o c, v = .slice (some ⟨b, o, none⟩) l.length c ∧ ∀ j (hj : j < l.length), mcell m b (o + j) = some (.int .i64 l[j]) :=
  (h.il (by rintro rfl; simp at hi)).real hi
theorem Ia.lenV {m : Mem} {v : Value} {l : List Int} (h : Ia m v l) : lenV v = l.length := by obtain ⟨a, c, rfl⟩ := h.shape; rfl
theorem buildI1 {m : Mem} {x : Int} : PrimSpec Tryd.prog (.buildSlice 44 1 [0]) [.v (.int .i64 x)] m fun r m' => ∃ b, m b = none ∧ r = [.v (.slice (some ⟨b, 0, none⟩) 1 1)] ∧ m' = m.set b (.cells #[.int .i64 x] 3) :=
  buildSlice_spec (n := 1) tt_ok hIs rfl hI' rfl rfl (by simp [CV.cs]) (by simp) (by simp)
theorem Ia.gives {m : Mem} {v : Value} {l : List Int} {e : TypeId} (h : Ia m v l) : Gives m 1 (.slice e) v (ic l) := .inl ⟨e, rfl, h.imp id fun ⟨h1, h2⟩ => ⟨by rw [h1]; rfl, h2⟩⟩
/-- append of numbers onto the i-th part -/
theorem appendIat {m p : Mem} {ls : List Mem} {i : Nat} {v x : Value} {l news : List Int} (hs : Split m ls) (hi : ls[i]? = some p) (hv : Io p v l) (hg : Ia m x news) (hb : l.length + news.length ≤ 1000000000) :
    PrimSpec Tryd.prog (.builtin .append [44, 44]) [.v v, .v x] m fun r m' => ∃ v' p', r = [.v v'] ∧ Split m' (ls.set i p') ∧ Io p' v' (l ++ news) := by
  have e1 := hv.il.ia.lenV
  have e2 := hg.lenV
  refine (append_at tt_ok hIs rfl hI' hIs rfl hs hi hv hg.gives (by rw [e1, e2]; simp only; omega) (by rw [e1, e2]; omega)).mono fun r m' ⟨v', p', h1, h2, h3⟩ => ⟨v', p', h1, h2, ?_⟩
  have := h3.own
  rw [show ic l ++ ic news = ic (l ++ news) by simp [ic]] at this
  exact this
theorem Il.blk1 {m : Mem} {b : Nat} {x : Int} {t : TypeId} {fr : Nat × Nat} (h : m b = some (.cells #[.int .i64 x] t fr)) : Il m (.slice (some ⟨b, 0, none⟩) 1 1) [x] :=
  .inr ⟨b, 0, 1, 1, _, _, _, rfl, h, rfl, Nat.le_refl _, fun j u hu => by simpa [ic] using hu, by simp [ic, Value.oneCell']⟩
/-- one number more -/
theorem pushI {m p : Mem} {ls : List Mem} {b' : Nat} {x : Int} {y : Value} {l : List Int} (hs : Split m (p :: ls)) (hb : m b' = none) (hy : Io p y l) (hl : l.length ≤ 100000000) :
    PrimSpec Tryd.prog (.builtin .append [44, 44]) [.v y, .v (.slice (some ⟨b', 0, none⟩) 1 1)] (m.set b' (.cells #[.int .i64 x] 3)) fun r m' => ∃ y' p', r = [.v y'] ∧ Split m' (p' :: ls) ∧ Io p' y' (l ++ [x]) := by
  have hs1 := hs.new hb (.cells #[.int .i64 x] 3)
  refine (appendIat (i := 1) hs1 rfl hy (Il.blk1 (Mem.set_same ..)).ia (by simp; omega)).mono fun r m' ⟨v', p', h1, h2, h3⟩ => ⟨v', p', h1, h2.erase 0, h3⟩
theorem iadd1 {i : Nat} (h : i < 1000000000000) : IntKind.i64.wrap ((i : Int) + 1) = ((i + 1 : Nat) : Int) := by rw [wi (by omega) (by omega)]; omega
theorem mcell_rng {m : Mem} {b o j : Nat} {l : List Value} {y : Value} (h : MRange m b o l) (hj : l[j]? = some y) : mcell m b (o + j) = some y := by
  obtain ⟨arr, t, fr, h1, h2⟩ := h
  exact mcell_of h1 (h2 j y hj)
end Go.E.YtconjimbfhpfgaaDoor

/-
  The place of the first number of which something is true; a function value with one captured place.
-/
namespace Go.E.YtconjimbfhpfgaaDoor
open Go.Proofs
set_option maxRecDepth 100000
abbrev fn1V (F b : Nat) : CV := .v (.func (.func F) #[] #[.pointer (some ⟨b, 0, none⟩)])
def idxI (p : Int → Bool) (l : List Int) : Int := if l.any p then (l.findIdx p : Nat) else -1
theorem idxI_at {p : Int → Bool} {l : List Int} {i : Nat} (hi : i < l.length) (hall : ∀ x ∈ l.take i, p x = false) (h : p l[i] = true) : idxI p l = i := by
  unfold idxI
  rw [if_pos (List.any_eq_true.2 ⟨_, List.getElem_mem hi, h⟩)]
  congr 1
  refine (List.findIdx_eq hi).2 ⟨h, fun j hj => hall _ ?_⟩
  exact List.mem_take_iff_getElem.2 ⟨j, by omega, rfl⟩
theorem idxI_none {p : Int → Bool} {l : List Int} (hall : ∀ x ∈ l, p x = false) : idxI p l = -1 := by
  unfold idxI
  rw [if_neg]
  intro h
  obtain ⟨x, hx, h⟩ := List.any_eq_true.1 h
  rw [hall x hx] at h; cases h
theorem idxI_nonneg (p : Int → Bool) (l : List Int) : decide (0 ≤ idxI p l) = l.any p := by
  unfold idxI
  split
  · rename_i h; rw [h]; exact decide_eq_true (by omega)
  · rename_i h
    have : l.any p = false := by simpa using h
    rw [this]; exact decide_eq_false (by omega)
end Go.E.YtconjimbfhpfgaaDoor

/-
  Numbers of an audit's words, and of a desk's.
-/
namespace Go.E.YtconjimbfhpfgaaDoor
open Go.Proofs
set_option maxRecDepth 100000
def sameB (l : List UInt8) (s : ByteArray) : Bool := (⟨l.toArray⟩ : ByteArray).toList == s.toList
theorem mkB_list (l : List UInt8) : (⟨l.toArray⟩ : ByteArray).toList = l := by rw [ByteArray.toList_eq]
/-- a word's number; below 0: it is none -/
def audNum (s : ByteArray) : Int := match Lib.atoiAll s.data.toList with
  | .ok n => if n < 0 ∨ sameB (Lib.itoa n) s = false ∨ 12 < s.size then -1 else n
  | _ => -1
theorem audNum_ge (s : ByteArray) : -1 ≤ audNum s := by
  unfold audNum
  split
  · split <;> omega
  · omega
theorem audNum_le (s : ByteArray) : audNum s ≤ 9223372036854775807 := by
  unfold audNum
  split
  · rename_i n h
    have := Lib.atoiAll_bounds h
    split <;> omega
  · omega
theorem audNum_ok {s : ByteArray} {v : Int} (h : Lib.atoiAll s.data.toList = .ok v) : audNum s = if v < 0 ∨ sameB (Lib.itoa v) s = false ∨ 12 < s.size then -1 else v := by
  unfold audNum; rw [h]
theorem audNum_no {s : ByteArray} (h : ∀ v, Lib.atoiAll s.data.toList ≠ .ok v) : audNum s = -1 := by
  unfold audNum
  split
  · rename_i n e; exact absurd e (h n)
  · rfl
set_option maxHeartbeats 4000000 in
theorem audNumber_spec {m : Mem} (hg : Glob m) {s : ByteArray} (hs : s.size ≤ 1000000) : Ret Tryd.prog 22 [.v (.string s)] m [i64 (audNum s)] := by
  refine en22 rfl (goY ?_)
  conv => whnf
  cases ha : Lib.atoiAll s.data.toList with
  | ok v =>
    have hv := Lib.atoiAll_bounds ha
    have hn := audNum_ok ha
    refine xcall (atoi_spec hg (s := s) hs) ?_
    rintro _ m' ⟨hr, rfl⟩
    conv => whnf
    unfold AtoiR at hr
    rw [ha] at hr
    subst hr
    conv => whnf
    refine ⟨fun h => absurd h (by first | decide | simp), fun _ => ?_⟩
    conv => whnf
    refine ⟨fun h1 => ?_, fun h1 => ?_⟩
    · conv => whnf
      have h1' := of_decide_eq_true h1
      rw [if_pos (.inl h1')] at hn
      rw [hn]
      exact ⟨rfl, rfl⟩
    have h1' := of_decide_eq_false h1
    clear h1
    conv => whnf
    first | refine xretk (itoa_spec hg (by omega) (by omega)) ?_ | refine xret (itoa_spec hg (by omega) (by omega)) ?_
    conv => whnf
    refine ⟨fun h2 => ?_, fun h2 => ?_⟩
    · conv => whnf
      have h2' : sameB (Lib.itoa v) s = false := by rw [sameB]; simpa using h2
      rw [if_pos (.inr (.inl h2'))] at hn
      rw [hn]
      exact ⟨rfl, rfl⟩
    have h2' : sameB (Lib.itoa v) s = true := by rw [sameB]; simpa using h2
    clear h2
    conv => whnf
    refine ⟨fun h3 => ?_, fun h3 => ?_⟩
    · conv => whnf
      have h3' : 12 < s.size := by have := of_decide_eq_true h3; omega
      rw [if_pos (.inr (.inr h3'))] at hn
      rw [hn]
      exact ⟨rfl, rfl⟩
    · conv => whnf
      have h3' : ¬ 12 < s.size := by have := of_decide_eq_false h3; omega
      rw [if_neg (by simp [h1', h2', h3'])] at hn
      rw [hn]
      exact ⟨rfl, rfl⟩
  | range =>
    refine xcall (atoi_spec hg (s := s) hs) ?_
    rintro _ m' ⟨hr, rfl⟩
    conv => whnf
    unfold AtoiR at hr
    rw [ha] at hr
    obtain ⟨n, te, pe, rfl⟩ := hr
    conv => whnf
    refine ⟨fun _ => ?_, fun h => absurd h (by first | decide | simp)⟩
    conv => whnf
    rw [audNum_no (by rw [ha]; intro v h; cases h)]
    exact ⟨rfl, rfl⟩
  | _ =>
    refine xcall (atoi_spec hg (s := s) hs) ?_
    rintro _ m' ⟨hr, rfl⟩
    conv => whnf
    unfold AtoiR at hr
    rw [ha] at hr
    obtain ⟨n, te, pe, rfl⟩ := hr
    conv => whnf
    refine ⟨fun _ => ?_, fun h => absurd h (by first | decide | simp)⟩
    conv => whnf
    rw [audNum_no (by rw [ha]; intro v h; cases h)]
    exact ⟨rfl, rfl⟩
/-- a desk's number, and whether it is one -/
def dskOk (s : ByteArray) (below : Bool) : Bool := match Lib.atoiAll s.data.toList with
  | .ok n => sameB (Lib.itoa n) s && (decide (n ≤ 999999) && (decide (0 ≤ n) || (below && decide (-999999 ≤ n))))
  | _ => false
theorem dskOk_ok {s : ByteArray} {v : Int} {b : Bool} (h : Lib.atoiAll s.data.toList = .ok v) : dskOk s b = (sameB (Lib.itoa v) s && (decide (v ≤ 999999) && (decide (0 ≤ v) || (b && decide (-999999 ≤ v))))) := by
  unfold dskOk; rw [h]
theorem dskOk_no {s : ByteArray} {b : Bool} (h : ∀ v, Lib.atoiAll s.data.toList ≠ .ok v) : dskOk s b = false := by
  unfold dskOk
  split
  · rename_i n e; exact absurd e (h n)
  · rfl
set_option maxHeartbeats 4000000 in
theorem dskNumber_spec {m : Mem} (hg : Glob m) {s : ByteArray} {b : Bool} (hs : s.size ≤ 1000000) : Spec Tryd.prog 29 [.v (.string s), boolV b] m fun r m' => ∃ n, r = [i64 n, boolV (dskOk s b)] ∧ m' = m := by
  refine en29 rfl (goY ?_)
  conv => whnf
  cases ha : Lib.atoiAll s.data.toList with
  | ok v =>
    have hv := Lib.atoiAll_bounds ha
    have hn := dskOk_ok (b := b) ha
    refine xcall (atoi_spec hg (s := s) hs) ?_
    rintro _ m' ⟨hr, rfl⟩
    conv => whnf
    unfold AtoiR at hr
    rw [ha] at hr
    subst hr
    conv => whnf
    refine ⟨fun _ => ?_, fun h => absurd h (by first | decide | simp)⟩
    conv => whnf
    first | refine xretk (itoa_spec hg (by omega) (by omega)) ?_ | refine xret (itoa_spec hg (by omega) (by omega)) ?_
    conv => whnf
    have hsb : sameB (Lib.itoa v) s = ((⟨(Lib.itoa v).toArray⟩ : ByteArray).toList == s.toList) := rfl
    cases b
    all_goals
      repeat' (first | (refine ⟨fun h => ?_, fun h => ?_⟩ <;> conv => whnf) | fail)
      all_goals
        refine ⟨v, ?_, rfl⟩
        rw [hn, hsb]
        first
          | rfl
          | (simp_all; done)
          | (rcases Decidable.em (v ≤ 999999) with q1 | q1 <;> rcases Decidable.em (0 ≤ v) with q2 | q2 <;> rcases Decidable.em (-999999 ≤ v) with q3 | q3 <;> simp_all <;> omega)
  | range =>
    refine xcall (atoi_spec hg (s := s) hs) ?_
    rintro _ m' ⟨hr, rfl⟩
    conv => whnf
    unfold AtoiR at hr
    rw [ha] at hr
    obtain ⟨n, te, pe, rfl⟩ := hr
    conv => whnf
    refine ⟨fun h => absurd h (by first | decide | simp), fun _ => ?_⟩
    conv => whnf
    rw [dskOk_no (by rw [ha]; intro v h; cases h)]
    exact ⟨_, rfl, rfl⟩
  | _ =>
    refine xcall (atoi_spec hg (s := s) hs) ?_
    rintro _ m' ⟨hr, rfl⟩
    conv => whnf
    unfold AtoiR at hr
    rw [ha] at hr
    obtain ⟨n, te, pe, rfl⟩ := hr
    conv => whnf
    refine ⟨fun h => absurd h (by first | decide | simp), fun _ => ?_⟩
    conv => whnf
    rw [dskOk_no (by rw [ha]; intro v h; cases h)]
    exact ⟨_, rfl, rfl⟩
/-- words' numbers -/
def audNums (l : List ByteArray) : List Int := l.map audNum
theorem containsC_spec {m : Mem} {v : Value} {l : List Int} {x : Int} (hv : Ia m v l) (hl : l.length ≤ 100000000) : Ret Tryd.prog 23 [.v v, i64 x] m [boolV (l.contains x)] := by
  obtain ⟨a, c, rfl⟩ := hv.shape
  have key : Ret Tryd.prog 35 [.v (.slice a l.length c), i64 x] m [i64 (idxI (fun y => x == y) l)] := by
    refine en35 rfl (goY ?_)
    conv => whnf
    refine .mk (ι := Nat) (fun i => l.length - i) (fun i mm => i ≤ l.length ∧ (∀ y ∈ l.take i, (x == y) = false) ∧ mm = m) (fun i => [(0, .c (.v (.slice a l.length c))), (1, .c (i64 x)), (7, .c (i64 l.length)), (8, .c (i64 i))]) (fun _ => []) 0 ⟨by omega, by simp, rfl⟩ ?_ ?_
    · conv => whnf
      repeat (refine And.intro (by first | with_reducible rfl | exact congrArg (Value.int _) (wi (by omega) (by omega)) | exact wi (by omega) (by omega) | rfl) ?_; conv => whnf)
      first | exact trivial | exact fun _ _ h => h
    rintro i mm ⟨hi, hall, he⟩
    subst mm
    conv => whnf
    refine ⟨fun h => ?_, fun h => ?_⟩
    · have h' := of_decide_eq_true h
      have hlt : i < l.length := by omega
      obtain ⟨bl, ol, c', hh, hg⟩ := hv.real hlt
      injection hh with hh1 _ hh3
      subst hh1
      clear hh3 c'
      have hg := hg i hlt
      have hst : l.take (i + 1) = l.take i ++ [l[i]] := List.take_succ_eq_append_getElem hlt
      conv => whnf
      repeat (refine And.intro (by first | omega | (simp only [times]; omega)) ?_; conv => whnf)
      refine ⟨_, hg, rfl, ?_⟩
      conv => whnf
      refine ⟨fun h2 => ?_, fun h2 => ?_⟩
      · conv => whnf
        exact ⟨by rw [idxI_at hlt hall h2], rfl⟩
      · conv => whnf
        refine ⟨i + 1, ⟨by omega, fun y hy => ?_, rfl⟩, by omega, ?_⟩
        · rw [hst] at hy
          rcases List.mem_append.1 hy with hy | hy
          · exact hall y hy
          · rw [List.mem_singleton.1 hy]; exact h2
        · conv => whnf
          repeat (refine And.intro (by first | with_reducible rfl | (first | exact congrArg (Value.int _) (iadd1 (by omega))) | exact congrArg (Value.int _) (wi (by omega) (by omega)) | exact wi (by omega) (by omega) | rfl) ?_; conv => whnf)
          first | exact trivial | exact fun _ _ h => h
    · have h' := of_decide_eq_false h
      obtain rfl : i = l.length := by omega
      rw [List.take_length] at hall
      conv => whnf
      exact ⟨by rw [idxI_none hall], rfl⟩
  refine en23 rfl (goY ?_)
  conv => whnf
  first | refine xretk (key) ?_ | refine xret (key) ?_
  conv => whnf
  rw [List.contains_eq_any_beq, ← idxI_nonneg]
  exact ⟨rfl, rfl⟩
/-- words that lie somewhere, or none, wherever -/
def Sa (m : Mem) (v : Value) (ss : List ByteArray) : Prop := Sl m v ss ∨ (ss = [] ∧ ∃ a, v = .slice (some a) 0 0)
theorem Sa.shape {m : Mem} {v : Value} {ss : List ByteArray} (h : Sa m v ss) : ∃ a c, v = .slice a ss.length c := by
  rcases h with h | ⟨rfl, a, rfl⟩
  · exact h.shape
  · exact ⟨_, _, rfl⟩
theorem Sa.sub {m m' : Mem} {v : Value} {ss : List ByteArray} (h : Sa m v ss) (hs : Sub m m') : Sa m' v ss := h.imp (·.sub hs) id
theorem Sa.real {m : Mem} {v : Value} {ss : List ByteArray} (h : Sa m v ss) {i : Nat} (hi : i < ss.length) : ∃ b o c, v = .slice (some ⟨b, o, none⟩) ss.length c ∧ ∀ j (hj : j < ss.length), mcell m b (o + j) = some (.string ss[j]) := by
  rcases h with h | ⟨rfl, _⟩
  · exact h.real hi
  · simp at hi
set_option maxHeartbeats 4000000 in
theorem audNumbers_spec {m : Mem} (hg : Glob m) {v : Value} {ss : List ByteArray} (hv : Sa m v ss) (hl : ss.length ≤ 1000000) (hs : ∀ s ∈ ss, s.size ≤ 1000000) : Spec Tryd.prog 18 [.v v] m fun r m' => ∃ v' p, r = [.v v', boolV (!(audNums ss).contains (-1))] ∧ Split m' [p, m] ∧ Io p v' (audNums ss) := by
  obtain ⟨a, c, rfl⟩ := hv.shape
  refine en18 rfl (goY ?_)
  conv => whnf
  refine .mk (ι := Nat × Value) (fun i => ss.length - i.1) (fun ⟨i, y⟩ mm => i ≤ ss.length ∧ ∃ p', Split mm [p', m] ∧ Io p' y (audNums (ss.take i))) (fun ⟨i, y⟩ => [(4, .c (.v y)), (7, .c (.v (.slice a ss.length c))), (8, .c (i64 ss.length)), (9, .c (i64 i))]) (fun _ => []) (0, .slice none 0 0) ⟨by simp, emp, (Split.one m).addEmp, Io.nil _⟩ ?_ ?_
  · conv => whnf
    repeat (refine And.intro (by first | with_reducible rfl | exact congrArg (Value.int _) (wi (by omega) (by omega)) | exact wi (by omega) (by omega) | rfl) ?_; conv => whnf)
    first | exact trivial | exact fun _ _ h => h
  rintro ⟨i, y⟩ mm ⟨hi, p', hs', hy⟩
  conv => whnf
  refine ⟨fun h => ?_, fun h => ?_⟩
  · have hlt : i < ss.length := by have := of_decide_eq_true h; omega
    clear h
    obtain ⟨b, o, cc, e1, hel⟩ := (hv.sub (hs'.sub (a := m) (by simp))).real hlt
    injection e1 with e1 e2 e3
    subst e1
    have hln : (audNums (ss.take i)).length ≤ 1000000 := by rw [audNums, List.length_map, List.length_take]; omega
    have htk : audNums (ss.take (i + 1)) = audNums (ss.take i) ++ [audNum ss[i]] := by rw [List.take_succ_eq_append_getElem hlt, audNums, List.map_append]; rfl
    conv => whnf
    repeat (refine And.intro (by first | omega | (simp only [times]; omega)) ?_; conv => whnf)
    refine ⟨_, hel i hlt, rfl, ?_⟩
    conv => whnf
    first | refine xretk (audNumber_spec (hg.sub (hs'.sub (a := m) (by simp))) (hs _ (List.getElem_mem hlt))) ?_ | refine xret (audNumber_spec (hg.sub (hs'.sub (a := m) (by simp))) (hs _ (List.getElem_mem hlt))) ?_
    conv => whnf
    refine .mk _ (buildI1) ?_
    rintro _ _ ⟨b', hb', rfl, rfl⟩
    conv => whnf
    refine .mk _ (pushI (l := audNums (ss.take i)) hs' hb' hy (by omega)) ?_
    rintro _ m' ⟨y', p2, rfl, hs2, hy2⟩
    conv => whnf
    refine ⟨(i + 1, y'), ⟨by omega, p2, hs2, by rw [htk]; exact hy2⟩, by simp; omega, ?_⟩
    conv => whnf
    repeat (refine And.intro (by first | with_reducible rfl | (first | exact congrArg (Value.int _) (iadd1 (by omega))) | exact congrArg (Value.int _) (wi (by omega) (by omega)) | exact wi (by omega) (by omega) | rfl) ?_; conv => whnf)
    first | exact trivial | exact fun _ _ h => h
  · have h' := of_decide_eq_false h
    obtain rfl : i = ss.length := by omega
    rw [List.take_length] at hy
    conv => whnf
    first | refine xretk (containsC_spec (x := -1) (hy.il.ia.sub (hs'.sub (by simp))) (by rw [audNums, List.length_map]; omega)) ?_ | refine xret (containsC_spec (x := -1) (hy.il.ia.sub (hs'.sub (by simp))) (by rw [audNums, List.length_map]; omega)) ?_
    conv => whnf
    exact ⟨y, p', rfl, hs', hy⟩
end Go.E.YtconjimbfhpfgaaDoor

/-
  A desk's lines.
-/
namespace Go.E.YtconjimbfhpfgaaDoor
open Go.Proofs
set_option maxRecDepth 100000
/-- is a text that one? -/
def kd (s : ByteArray) (a : Array UInt8) : Bool := s.toList == (⟨a⟩ : ByteArray).toList
/-- what a verb's words are -/
def kindsF (s : ByteArray) : Option (Array UInt8) :=
  if kd s #[97, 100, 100] then some #[107, 110, 110, 113] else -- add -> knnq
  if kd s #[115, 101, 116] then some #[107, 110, 110, 113] else -- set -> knnq
  if kd s #[114, 101, 109, 111, 118, 101] then some #[107, 110, 110] else -- remove -> knn
  if kd s #[99, 108, 101, 97, 114] then some #[107, 110] else -- clear -> kn
  if kd s #[103, 101, 116] then some #[107, 110] else -- get -> kn
  if kd s #[100, 101, 108, 105, 118, 101, 114] then some #[110, 110, 110] else -- deliver -> nnn
  if kd s #[100, 114, 111, 112] then some #[110, 110, 110] else -- drop -> nnn
  if kd s #[116, 119, 105, 99, 101] then some #[110, 110, 110] else -- twice -> nnn
  if kd s #[100, 114, 97, 119] then some #[110, 110] else -- draw -> nn
  if kd s #[99, 114, 97, 115, 104] then some #[110, 110] else -- crash -> nn
  if kd s #[116, 105, 99, 107] then some #[110] else -- tick -> n
  if kd s #[115, 121, 110, 99] then some #[110] else -- sync -> n
  if kd s #[102, 108, 117, 115, 104] then some #[110] else -- flush -> n
  if kd s #[115, 110, 97, 112] then some #[110] else -- snap -> n
  if kd s #[115, 116, 101, 112] then some #[110] else -- step -> n
  if kd s #[114, 101, 115, 116, 97, 114, 116] then some #[110] else -- restart -> n
  if kd s #[115, 101, 116, 116, 108, 101] then some #[] else -- settle -> 
  if kd s #[104, 101, 97, 108] then some #[] else -- heal -> 
  if kd s #[110, 111, 119] then some #[] else -- now -> 
  if kd s #[101, 118, 101, 110] then some #[] else -- even -> 
  if kd s #[114, 105, 103, 104, 116] then some #[] else -- right -> 
  none
set_option maxHeartbeats 8000000 in
theorem kinds_spec {m : Mem} {s : ByteArray} : Ret Tryd.prog 27 [.v (.string s)] m [.v (.string ⟨(kindsF s).getD #[]⟩), boolV (kindsF s).isSome] := by
  refine en27 rfl (goY ?_)
  conv => whnf
  repeat' (first | (refine ⟨fun h => ?_, fun h => ?_⟩ <;> conv => whnf) | fail)
  all_goals
    refine ⟨?_, rfl⟩
    unfold kindsF kd
    simp only [*, if_true, if_false, Bool.false_eq_true]
    rfl
end Go.E.YtconjimbfhpfgaaDoor

/-
  Which keys may be.
-/
namespace Go.E.YtconjimbfhpfgaaDoor
open Go.Proofs
set_option maxRecDepth 100000
def isB (c : Nat) : Bool := (decide (97 ≤ c) && decide (c ≤ 122)) || (decide (48 ≤ c) && decide (c ≤ 57)) || decide (c = 45)
def keyOk (l : List Nat) : Bool := decide (0 < l.length) && decide (l.length ≤ 20) && l.all isB
theorem isByte_spec {m : Mem} {c : Nat} : Ret Tryd.prog 36 [.v (.int .u8 (c : Int))] m [boolV (isB c)] := by
  have e45 : ((c : Int) == 45) = decide (c = 45) := by by_cases h : c = 45 <;> simp [h]; omega
  refine en36 rfl (goY ?_)
  conv => whnf
  repeat' (first | (refine ⟨fun h => ?_, fun h => ?_⟩ <;> conv => whnf) | fail)
  all_goals (refine ⟨?_, rfl⟩; (try simp only [e45]); by_cases h45 : c = 45 <;> simp [isB, h45] at * <;> omega)
theorem chs_at (s : ByteArray) (i : Nat) : (s.data.toList.getD i 0).toNat = (chs s).getD i 0 := by
  simp only [chs, List.getD_eq_getElem?_getD, List.getElem?_map]
  cases s.data.toList[i]? <;> rfl
theorem right_key_spec {m : Mem} {s : ByteArray} (hs : s.size ≤ 1000000) : Ret Tryd.prog 28 [.v (.string s)] m [boolV (keyOk (chs s))] := by
  refine en28 rfl (goY ?_)
  conv => whnf
  refine .mk (ι := Nat) (fun i => s.size - i) (fun i mm => i ≤ s.size ∧ i ≤ 20 ∧ (∀ x ∈ (chs s).take i, isB x = true) ∧ mm = m) (fun i => [(0, .c (.v (.string s))), (5, .c (i64 s.size)), (6, .c (i64 i))]) (fun _ => []) 0 ⟨by omega, by omega, by simp, rfl⟩ ?_ ?_
  · conv => whnf
    repeat (refine And.intro (by first | with_reducible rfl | exact congrArg (Value.int _) (wi (by omega) (by omega)) | exact wi (by omega) (by omega) | rfl) ?_; conv => whnf)
    first | exact trivial | exact fun _ _ h => h
  rintro i mm ⟨hi, hi2, hall, he⟩
  subst mm
  conv => whnf
  refine ⟨fun h1 => ?_, fun h1 => ?_⟩
  · have h1' := of_decide_eq_true h1
    conv => whnf
    refine ⟨fun h2 => ?_, fun h2 => ?_⟩
    · conv => whnf
      have h2' := of_decide_eq_true h2
      refine ⟨?_, rfl⟩
      have : ¬ (s.size ≤ 20) := by omega
      simp [keyOk, chs_len, this]
    · have h2' := of_decide_eq_false h2
      conv => whnf
      have hlt : i < s.size := by omega
      refine ⟨⟨by omega, by omega⟩, ?_⟩
      conv => whnf
      rw [Int.toNat_natCast, chs_at]
      first | refine xretk (isByte_spec) ?_ | refine xret (isByte_spec) ?_
      conv => whnf
      have hli : i < (chs s).length := by rw [chs_len]; omega
      have hget : (chs s)[i]? = some ((chs s).getD i 0) := by simp [List.getD_eq_getElem?_getD, List.getElem?_eq_getElem hli]
      refine ⟨fun h3 => ?_, fun h3 => ?_⟩
      · conv => whnf
        refine ⟨?_, rfl⟩
        have h3' : isB ((chs s).getD i 0) = false := by simpa using h3
        have : (chs s).all isB = false := by
          rw [List.all_eq_false]
          exact ⟨_, List.mem_of_getElem? hget, by simp only [h3', Bool.false_eq_true, not_false_eq_true]⟩
        simp [keyOk, this]
      · conv => whnf
        have h3' : isB ((chs s).getD i 0) = true := by simpa using h3
        refine ⟨i + 1, ⟨by omega, by omega, ?_, rfl⟩, by omega, ?_⟩
        · intro x hx
          rw [List.take_succ_eq_append_getElem hli] at hx
          rcases List.mem_append.1 hx with hx | hx
          · exact hall x hx
          · rw [List.mem_singleton.1 hx]
            rw [List.getElem?_eq_getElem hli] at hget
            rw [Option.some.inj hget]; exact h3'
        · conv => whnf
          repeat (refine And.intro (by first | with_reducible rfl | (first | exact congrArg (Value.int _) (iadd (by omega))) | exact congrArg (Value.int _) (wi (by omega) (by omega)) | exact wi (by omega) (by omega) | rfl) ?_; conv => whnf)
          first | exact trivial | exact fun _ _ h => h
  · have h1' := of_decide_eq_false h1
    obtain rfl : i = s.size := by omega
    conv => whnf
    refine ⟨?_, rfl⟩
    have hl := chs_len s
    rw [← hl, List.take_length] at hall
    have : (chs s).all isB = true := List.all_eq_true.2 hall
    simp [keyOk, this, hl]
    omega
theorem hStr : ∃ ti, tt.get 9 = some ti := ⟨_, rfl⟩
theorem convS {m : Mem} {s : ByteArray} : PrimSpec Tryd.prog (.conv 9 80) [.v (.string s)] m fun r m' => ∃ v, r = [.v v] ∧ Sub m m' ∧ La m' v (nc (chs s)) :=
  (convStr_spec tt_ok hStr.choose_spec hBs rfl hU8 rfl).mono fun _ _ ⟨_, _, _, h0, h1, h2, h3⟩ => ⟨_, h1, by rw [h2]; exact Mem.sub_set _ h0, h3.la⟩
end Go.E.YtconjimbfhpfgaaDoor

/-
  What is a desk's line.
-/
namespace Go.E.YtconjimbfhpfgaaDoor
open Go.Proofs
set_option maxRecDepth 100000
abbrev spc : ByteArray := ⟨#[32]⟩
noncomputable abbrev wrds (s : ByteArray) : List ByteArray := words spc s
theorem wrds_pos (s : ByteArray) : 0 < (wrds s).length := (words_len (p := spc) (by decide) s).1
def wordOk (k : UInt8) (w : ByteArray) : Bool := if k = 107 then keyOk (chs w) else dskOk w (k == 113)
noncomputable def lineW (l : List ByteArray) : Bool := match l with
  | [] => false
  | v :: r => match kindsF v with
    | none => false
    | some k => decide (r.length = k.size) && (List.zipWith wordOk k.toList r).all id
def P4 (o : Option (Array UInt8)) : Prop := ∀ k, o = some k → k.size ≤ 4
theorem ite4 {c : Prop} [Decidable c] {a : Option (Array UInt8)} {x : Array UInt8} (hx : x.size ≤ 4) (ha : P4 a) : P4 (if c then some x else a) := by
  split
  · intro k h
    injection h with h
    subst h
    exact hx
  · exact ha
theorem kindsF_size {s : ByteArray} {k : Array UInt8} (h : kindsF s = some k) : k.size ≤ 4 := by
  have key : P4 (kindsF s) := by
    unfold kindsF
    iterate 21 refine ite4 (by decide) ?_
    intro k h
    cases h
  exact key k h
set_option maxHeartbeats 8000000 in
theorem deskRead_spec {m : Mem} (hg : Glob m) (hx : MaxL m) {s : ByteArray} (hs : s.size ≤ 10000) : Spec Tryd.prog 20 [.v (.string s)] m fun r m' => ∃ x k y, r = [.a [.one (.string x), .one (.string k), .one y], boolV (lineW (wrds s))] ∧ y.oneCell' = true ∧ Sub m m' := by
  refine en20 rfl (goY ?_)
  conv => whnf
  refine xcall (split_spec hx (s := s) (p := spc) (by omega) (by decide)) ?_
  rintro _ m1 ⟨v, q, rfl, hs1, hv⟩
  conv => whnf
  have hpos := wrds_pos s
  have hwz : ∀ w ∈ wrds s, w.size ≤ 10000 := fun w hw => Nat.le_trans (words_size spc _ s w hw) hs
  have hwl : (wrds s).length ≤ 10001 := Nat.le_trans (words_len (p := spc) (by decide) s).2 (by omega)
  unfold wrds at *
  generalize words spc s = ws at *
  obtain ⟨w0, r, rfl⟩ : ∃ w r, ws = w :: r := by
    cases ws with
    | nil => simp at hpos
    | cons w r => exact ⟨w, r, rfl⟩
  obtain ⟨b, o, c, rfl, hel⟩ := (hv.sl.sub (hs1.sub (a := q) (by simp))).real hpos
  have hel0 : mcell m1 b (o + 0) = some (.string w0) := hel 0 hpos
  conv => whnf
  repeat (refine And.intro (by first | omega | (simp only [times]; omega)) ?_; conv => whnf)
  refine ⟨_, hel0, rfl, ?_⟩
  conv => whnf
  first | refine xretk (kinds_spec (s := w0)) ?_ | refine xret (kinds_spec (s := w0)) ?_
  conv => whnf
  cases hk : kindsF w0 with
  | none =>
    refine ⟨fun _ => ?_, fun h => absurd h (by first | decide | simp)⟩
    conv => whnf
    have : lineW (w0 :: r) = false := by simp [lineW, hk]
    rw [this]
    exact ⟨_, _, _, rfl, rfl, hs1.sub (by simp)⟩
  | some k =>
    have hk4 := kindsF_size hk
    have ek : ((⟨k⟩ : ByteArray).size : Int) = k.size := rfl
    refine ⟨fun h => absurd h (by simp), fun _ => ?_⟩
    conv => whnf
    have ew : IntKind.i64.wrap (((⟨(some k).getD #[]⟩ : ByteArray).size : Int) + 1) = ((k.size + 1 : Nat) : Int) := by
      rw [show (((⟨(some k).getD #[]⟩ : ByteArray).size : Int)) = (k.size : Int) from rfl, wi (by omega) (by omega)]; omega
    rw [ew]
    have hrl : (w0 :: r).length = r.length + 1 := rfl
    refine ⟨fun h1 => ?_, fun h1 => ?_⟩
    · have : lineW (w0 :: r) = false := by
        have : ¬ r.length = k.size := by simp at h1; omega
        simp [lineW, hk, this]
      conv => whnf
      rw [this]
      exact ⟨_, _, _, rfl, rfl, hs1.sub (by simp)⟩
    have hl : r.length = k.size := by simp at h1; omega
    clear h1
    conv => whnf
    repeat (refine And.intro (by first | omega | (simp only [times]; omega)) ?_; conv => whnf)
    refine ⟨_, hel0, rfl, ?_⟩
    conv => whnf
    repeat (refine And.intro (by first | omega | (simp only [times]; omega)) ?_; conv => whnf)
    intro o' q1 q2
    have hr : ∀ j (hj : j < r.length), mcell m1 b (o' + j) = some (.string r[j]) := fun j hj => by
      have h1 := hel (j + 1) (by rw [hrl]; omega)
      have h2 : c ≠ 1 := by
        intro e
        rcases hv with ⟨h, _⟩ | ⟨b2, o2, c2, n2, arr, h, _, hlen, hnc, _⟩
        · cases h
        · injection h with _ h3 h4
          rw [hrl] at h3
          omega
      have h3 := q1 h2
      rw [show o' + j = o + (j + 1) by rw [h3]; simp only; omega]
      exact h1
    clear q1 q2
    conv => whnf
    refine .mk (ι := Nat × ByteArray × Value) (fun i => r.length - i.1) (fun ⟨j, key, y⟩ mi => j ≤ r.length ∧ (∀ x ∈ (List.zipWith wordOk k.toList r).take j, x = true) ∧ ∃ p' L, Split mi [p', m1] ∧ Io p' y L ∧ L.length ≤ j) (fun ⟨j, key, y⟩ => [(2, .p 0 0), (5, .c (.v (.string ⟨k⟩))), (7, .p 1 0), (36, .c (.v (.slice (some ⟨b, o', none⟩) r.length (c - 1)))), (37, .c (i64 r.length)), (38, .c (i64 j))])
      (fun ⟨j, key, y⟩ => [(49, [.one (.string ByteArray.empty), .one (.string ByteArray.empty), .one (.slice none 0 0)]), (49, [.one (.string w0), .one (.string key), .one y])]) (0, ByteArray.empty, .slice none 0 0) ⟨by omega, by simp, emp, [], (Split.one m1).addEmp, Io.nil _, by simp⟩ ?_ ?_
    · conv => whnf
      repeat (refine And.intro (by first | with_reducible rfl | exact congrArg (Value.int _) (wi (by omega) (by omega)) | exact wi (by omega) (by omega) | rfl) ?_; conv => whnf)
      first | exact trivial | exact fun _ _ h => h
    rintro ⟨j, key, y⟩ mi ⟨hj, hall, p', L, hsi, hy, hL⟩
    have hgi : Glob mi := hg.sub ((hs1.sub (a := m) (by simp)).trans (hsi.sub (a := m1) (by simp)))
    conv => whnf
    refine ⟨fun hc => ?_, fun hc => ?_⟩
    · have hlt : j < r.length := by have := of_decide_eq_true hc; omega
      clear hc
      have hrj := mcell_sub (hr j hlt) (hsi.sub (a := m1) (by simp))
      have hzl : (List.zipWith wordOk k.toList r).length = r.length := by simp [hl]
      have hz : (List.zipWith wordOk k.toList r)[j]'(by omega) = wordOk (k.toList[j]'(by simp; omega)) r[j] := List.getElem_zipWith ..
      have hwj := hwz r[j] (List.mem_cons_of_mem _ (List.getElem_mem hlt))
      have hstep : wordOk (k.toList[j]'(by simp; omega)) r[j] = true → ∀ x ∈ (List.zipWith wordOk k.toList r).take (j + 1), x = true := fun h x hx => by
        rw [List.take_succ_eq_append_getElem (by omega), hz] at hx
        rcases List.mem_append.1 hx with hx | hx
        · exact hall x hx
        · rw [List.mem_singleton.1 hx]; exact h
      have hno : wordOk (k.toList[j]'(by simp; omega)) r[j] = false → lineW (w0 :: r) = false := fun h => by
        have : (List.zipWith wordOk k.toList r).all id = false := by
          rw [List.all_eq_false]
          exact ⟨_, List.getElem_mem (l := List.zipWith wordOk k.toList r) (n := j) (by omega), by rw [hz, h]; decide⟩
        simp only [lineW, hk, this, Bool.and_false]
      have hkj : (((⟨k⟩ : ByteArray).data.toList.getD j 0)) = k.toList[j]'(by simp; omega) := by
        rw [List.getD_eq_getElem?_getD, List.getElem?_eq_getElem (by simp; omega)]; rfl
      generalize k.toList[j]'(by simp; omega) = kj at *
      generalize r[j] = w at *
      conv => whnf
      repeat (refine And.intro (by first | omega | (simp only [times]; omega)) ?_; conv => whnf)
      refine ⟨_, by simp only [times, Int.toNat_natCast, Nat.mul_one]; exact hrj, rfl, ?_⟩
      conv => whnf
      have hks : ((⟨k⟩ : ByteArray).size : Int) = k.size := rfl
      refine ⟨⟨by omega, by omega⟩, ?_⟩
      conv => whnf
      rw [Int.toNat_natCast, hkj]
      have e107 : (((kj.toNat : Int) == 107) = true) ↔ kj = 107 := by
        constructor
        · intro h
          refine UInt8.toNat_inj.1 ?_
          have h' : (kj.toNat : Int) = 107 := by simpa using h
          show kj.toNat = 107
          omega
        · rintro rfl; rfl
      refine ⟨fun h1 => ?_, fun h1 => ?_⟩
      · have h107 := e107.1 h1
        have hwk : wordOk kj w = keyOk (chs w) := by rw [wordOk, if_pos h107]
        rw [hwk] at hstep hno
        conv => whnf
        first | refine xretk (right_key_spec (by omega)) ?_ | refine xret (right_key_spec (by omega)) ?_
        conv => whnf
        cases hko : keyOk (chs w) with
        | false =>
          refine ⟨fun _ => ?_, fun h => absurd h (by first | decide | simp)⟩
          conv => whnf
          rw [hno hko]
          refine ⟨_, _, _, rfl, by first | rfl | exact hy.il.ia.one, (hs1.sub (a := m) (by simp)).trans (hsi.sub (a := m1) (by simp))⟩
        | true =>
          refine ⟨fun h => absurd h (by first | decide | simp), fun _ => ?_⟩
          conv => whnf
          refine ⟨(j + 1, w, y), ⟨by omega, hstep hko, p', L, hsi, hy, by omega⟩, by first | omega | (simp only; omega), ?_⟩
          conv => whnf
          repeat (refine And.intro (by first | with_reducible rfl | (first | exact congrArg (Value.int _) (iadd1 (by omega))) | exact congrArg (Value.int _) (wi (by omega) (by omega)) | exact wi (by omega) (by omega) | rfl) ?_; conv => whnf)
          first | exact trivial | exact fun _ _ h => h
      · have h107 : ¬ kj = 107 := fun h => by rw [e107.2 h] at h1; cases h1
        conv => whnf
        refine ⟨⟨by omega, by omega⟩, ?_⟩
        conv => whnf
        rw [Int.toNat_natCast, hkj]
        have e113 : ((kj.toNat : Int) == 113) = (kj == 113) := by
          by_cases h : kj = 113
          · subst h; rfl
          · have h2 : ¬ (kj.toNat : Int) = 113 := fun e => h (UInt8.toNat_inj.1 (by show kj.toNat = 113; omega))
            rw [beq_eq_false_iff_ne.2 h2, beq_eq_false_iff_ne.2 h]
        rw [e113]
        have hwk : wordOk kj w = dskOk w (kj == 113) := by rw [wordOk, if_neg h107]
        rw [hwk] at hstep hno
        refine xcall (dskNumber_spec (b := kj == 113) hgi (s := w) (by omega)) ?_
        rintro _ _ ⟨n, rfl, rfl⟩
        conv => whnf
        refine .mk _ (buildI1) ?_
        rintro _ _ ⟨b', hb', rfl, rfl⟩
        conv => whnf
        refine .mk _ (pushI (l := L) hsi hb' hy (by omega)) ?_
        rintro _ m' ⟨y', p2, rfl, hs2, hy2⟩
        conv => whnf
        cases hko : dskOk w (kj == 113) with
        | false =>
          refine ⟨fun _ => ?_, fun h => absurd h (by first | decide | simp)⟩
          conv => whnf
          rw [hno hko]
          refine ⟨_, _, _, rfl, by first | rfl | exact hy.il.ia.one, (hs1.sub (a := m) (by simp)).trans (hs2.sub (a := m1) (by simp))⟩
        | true =>
          refine ⟨fun h => absurd h (by first | decide | simp), fun _ => ?_⟩
          conv => whnf
          refine ⟨(j + 1, key, y'), ⟨by omega, hstep hko, p2, L ++ [n], hs2, hy2, by simp; omega⟩, by first | omega | (simp only; omega), ?_⟩
          conv => whnf
          repeat (refine And.intro (by first | with_reducible rfl | (first | exact congrArg (Value.int _) (iadd1 (by omega))) | exact congrArg (Value.int _) (wi (by omega) (by omega)) | exact wi (by omega) (by omega) | rfl) ?_; conv => whnf)
          first | exact trivial | exact fun _ _ h => h
    · have hc' := of_decide_eq_false hc
      obtain rfl : j = r.length := by omega
      clear hc
      have hzl : (List.zipWith wordOk k.toList r).length = r.length := by simp [hl]
      rw [← hzl, List.take_length] at hall
      have hyes : lineW (w0 :: r) = true := by
        have : (List.zipWith wordOk k.toList r).all id = true := List.all_eq_true.2 fun x hx => hall x hx
        simp only [lineW, hk, this, Bool.and_true, hl, decide_true]
      conv => whnf
      rw [hyes]
      refine ⟨_, _, _, rfl, by first | rfl | exact hy.il.ia.one, (hs1.sub (a := m) (by simp)).trans (hsi.sub (a := m1) (by simp))⟩
/-- is a text a line? -/
noncomputable def lineF (s : ByteArray) : Bool := lineW (wrds s) && decide (s.size ≤ 200)
theorem deskIs_spec {m : Mem} (hg : Glob m) (hx : MaxL m) {s : ByteArray} (hs : s.size ≤ 10000) : Spec Tryd.prog 14 [.v (.string s)] m fun r m' => r = [boolV (lineF s)] ∧ Sub m m' := by
  refine en14 rfl (goY ?_)
  conv => whnf
  refine xcall (deskRead_spec hg hx hs) ?_
  rintro _ m1 ⟨x, k, y, rfl, hy, hs1⟩
  conv => whnf
  unfold lineF
  cases lineW (wrds s) with
  | false =>
    refine ⟨fun h => absurd h (by first | decide | simp), fun _ => ?_⟩
    conv => whnf
    exact ⟨rfl, hs1⟩
  | true =>
    refine ⟨fun _ => ?_, fun h => absurd h (by first | decide | simp)⟩
    conv => whnf
    refine ⟨?_, hs1⟩
    congr 3
    rw [Bool.true_and]
    exact decide_eq_decide.2 (by omega)
end Go.E.YtconjimbfhpfgaaDoor

/-
  An audit's small tests.
-/
namespace Go.E.YtconjimbfhpfgaaDoor
open Go.Proofs
set_option maxRecDepth 100000
def nodeF (n : Int) : Bool := decide (1 ≤ n) && decide (n ≤ 3)
theorem isNode_spec {m : Mem} {n : Int} : Ret Tryd.prog 25 [i64 n] m [boolV (nodeF n)] := by
  unfold nodeF
  refine en25 rfl (goY ?_)
  conv => whnf
  repeat' (first | (refine ⟨fun h => ?_, fun h => ?_⟩ <;> conv => whnf) | fail)
  · rw [of_decide_eq_true (p := 1 ≤ n) (by assumption) |> fun h => (decide_eq_true h : decide (1 ≤ n) = true), Bool.true_and]
    exact ⟨rfl, rfl⟩
  · rw [h, Bool.false_and]
    exact ⟨rfl, rfl⟩
/-- does a verb's word stand for a sure end? -/
def sureF (s : ByteArray) : Bool := kd s #[115, 101, 116, 116, 108, 101] || (kd s #[104, 101, 97, 108] || (kd s #[110, 111, 119] || (kd s #[101, 118, 101, 110] || kd s #[114, 105, 103, 104, 116])))
theorem sure_spec {m : Mem} {s : ByteArray} : Ret Tryd.prog 16 [.v (.string s)] m [boolV (sureF s)] := by
  unfold sureF kd
  refine en16 rfl (goY ?_)
  conv => whnf
  repeat' (first | (refine ⟨fun h => ?_, fun h => ?_⟩ <;> conv => whnf) | fail)
  all_goals
    refine ⟨?_, rfl⟩
    simp only [*, Bool.true_or, Bool.false_or]
    try rfl
/-- are a reply's lines one error's number? -/
def errF : List ByteArray → Bool
  | [s] => decide (1 ≤ audNum s) && decide (audNum s ≤ 99)
  | _ => false
theorem isErr_spec {m : Mem} (hg : Glob m) {v : Value} {ss : List ByteArray} (hv : Sa m v ss) (hl : ss.length ≤ 1000000) (hs : ∀ s ∈ ss, s.size ≤ 1000000) : Ret Tryd.prog 17 [.v v] m [boolV (errF ss)] := by
  obtain ⟨a, c, rfl⟩ := hv.shape
  refine en17 rfl (goY ?_)
  conv => whnf
  refine ⟨fun h => ?_, fun h => ?_⟩
  · have hlen : ss.length = 1 := by simp at h; omega
    clear h
    obtain ⟨s, rfl⟩ : ∃ s, ss = [s] := by
      match ss, hlen with
      | [s], _ => exact ⟨s, rfl⟩
    obtain ⟨b, o, cc, e1, hel⟩ := hv.real (i := 0) (by simp)
    injection e1 with e1 e2 e3
    subst e1
    have hel := hel 0 (by simp)
    have hz := hs s (by simp)
    conv => whnf
    repeat (refine And.intro (by first | omega | (simp only [times]; omega)) ?_; conv => whnf)
    refine ⟨_, hel, rfl, ?_⟩
    conv => whnf
    first | refine xretk (audNumber_spec hg hz) ?_ | refine xret (audNumber_spec hg hz) ?_
    conv => whnf
    refine ⟨fun h => ?_, fun h => ?_⟩
    · conv => whnf
      repeat (refine And.intro (by first | omega | (simp only [times]; omega)) ?_; conv => whnf)
      refine ⟨_, hel, rfl, ?_⟩
      conv => whnf
      first | refine xretk (audNumber_spec hg hz) ?_ | refine xret (audNumber_spec hg hz) ?_
      conv => whnf
      refine ⟨?_, rfl⟩
      rw [errF, show decide (1 ≤ audNum s) = true from h, Bool.true_and]
      rfl
    · conv => whnf
      refine ⟨?_, rfl⟩
      rw [errF, show decide (1 ≤ audNum s) = false from h, Bool.false_and]
  · have hlen : ss.length ≠ 1 := by simp at h; omega
    conv => whnf
    refine ⟨?_, rfl⟩
    match ss, hlen with
    | [], _ => rfl
    | [s], h => exact absurd rfl h
    | _ :: _ :: _, _ => rfl
end Go.E.YtconjimbfhpfgaaDoor

/-
  An audit's rows of a whole right.
-/
namespace Go.E.YtconjimbfhpfgaaDoor
open Go.Proofs
set_option maxRecDepth 100000
theorem Sl.post {m : Mem} {b o o' n c h : Nat} {ss : List ByteArray} (hl : Sl m (.slice (some ⟨b, o, none⟩) n c) ss) (hh : h ≤ ss.length) (ho : c ≠ h → o' = o + h) : Sl m (.slice (some ⟨b, o', none⟩) (n - h) (c - h)) (ss.drop h) := by
  rcases hl with ⟨c0, e, _⟩ | ⟨b1, o1, c1, n1, arr, t, fr, e, h1, h2, h3, h4, h5⟩
  · cases e
  cases e
  have hsl : (sc ss).length = ss.length := by simp [sc]
  have hd : sc (ss.drop h) = (sc ss).drop h := by simp [sc, List.map_drop]
  refine .inr ⟨b, o', c - h, n - h, arr, t, fr, rfl, h1, by rw [hd, List.length_drop]; omega, by omega, fun j u hu => ?_, fun u hu => h5 u (by rw [hd] at hu; exact List.mem_of_mem_drop hu)⟩
  rw [hd, List.getElem?_drop] at hu
  have hlt : h + j < (sc ss).length := (List.getElem?_eq_some_iff.1 hu).1
  rw [ho (by omega), show o + h + j = o + (h + j) by omega]
  exact h4 _ _ hu
noncomputable def rowOk (w : List ByteArray) (last : Int) : Option (Int × Int) := match w with
  | [e, a, b] => if audNum a = -1 ∨ audNum b = -1 ∨ kd e #[] = false ∨ audNum a ≤ last then none else some (audNum a, audNum b)
  | _ => none
noncomputable def rowsF : List ByteArray → Int → Int → Option Int
  | [], _, t => some t
  | s :: r, last, t => match rowOk (wrds s) last with
    | none => none
    | some x => rowsF r x.1 (IntKind.i64.wrap (t + x.2))
theorem rowOk_len {w : List ByteArray} {last : Int} (h : w.length ≠ 3) : rowOk w last = none := by
  unfold rowOk
  split
  · exact absurd rfl h
  · rfl
theorem rowOk_nums {w : List ByteArray} {last : Int} (h : (audNums (w.drop 1)).contains (-1) = true) : rowOk w last = none := by
  unfold rowOk
  split
  · rename_i e a b
    simp [audNums] at h
    rw [if_pos (by rcases h with h | h <;> omega)]
  · rfl
set_option maxHeartbeats 8000000 in
theorem rows_spec {m : Mem} (hg : Glob m) (hx : MaxL m) {v : Value} {ss : List ByteArray} {n : Int} (hv : Sa m v ss) (hl : ss.length ≤ 100000) (hs : ∀ s ∈ ss, s.size ≤ 10000) : Spec Tryd.prog 26 [.v v, i64 n] m fun r m' => r = [boolV (match rowsF ss (-1) 0 with | none => false | some t => decide (t = n))] ∧ Sub m m' := by
  obtain ⟨a, c, rfl⟩ := hv.shape
  refine en26 rfl (goY ?_)
  conv => whnf
  refine .mk (ι := Nat × Int × Int) (fun i => ss.length - i.1) (fun i mm => i.1 ≤ ss.length ∧ rowsF ss (-1) 0 = rowsF (ss.drop i.1) i.2.1 i.2.2 ∧ Sub m mm) (fun i => [(1, .c (i64 n)), (5, .c (i64 i.2.1)), (6, .c (i64 i.2.2)), (12, .c (.v (.slice a ss.length c))), (13, .c (i64 ss.length)), (14, .c (i64 i.1))]) (fun _ => []) (0, -1, 0) ⟨by simp, by simp, Sub.refl _⟩ ?_ ?_
  · conv => whnf
    repeat (refine And.intro (by first | with_reducible rfl | exact congrArg (Value.int _) (wi (by omega) (by omega)) | exact wi (by omega) (by omega) | rfl) ?_; conv => whnf)
    first | exact trivial | exact fun _ _ h => h
  rintro ⟨i, last, t⟩ mm ⟨hi, hr, hm⟩
  simp only at hi hr hm
  conv => whnf
  refine ⟨fun h => ?_, fun h => ?_⟩
  · have hlt : i < ss.length := by have := of_decide_eq_true h; omega
    clear h
    obtain ⟨b, o, cc, e1, hel⟩ := (hv.sub hm).real hlt
    injection e1 with e1 e2 e3
    subst e1
    have hel := hel i hlt
    have hz := hs _ (List.getElem_mem hlt)
    rw [List.drop_eq_getElem_cons hlt, rowsF] at hr
    generalize ss[i] = s at *
    conv => whnf
    repeat (refine And.intro (by first | omega | (simp only [times]; omega)) ?_; conv => whnf)
    refine ⟨_, hel, rfl, ?_⟩
    conv => whnf
    refine xcall (split_spec (hx.sub hm) (s := s) (p := spc) (by omega) (by decide)) ?_
    rintro _ m1 ⟨w, q, rfl, hs1, hw⟩
    conv => whnf
    have hpos := wrds_pos s
    have hwz : ∀ w ∈ wrds s, w.size ≤ 10000 := fun w hw => Nat.le_trans (words_size spc _ s w hw) hz
    have hwl : (wrds s).length ≤ 10001 := Nat.le_trans (words_len (p := spc) (by decide) s).2 (by omega)
    unfold wrds at *
    generalize words spc s = ws at *
    obtain ⟨bw, ow, cw, rfl, helw⟩ := (hw.sl.sub (hs1.sub (a := q) (by simp))).real hpos
    conv => whnf
    refine ⟨by omega, ?_⟩
    intro o' ho1 ho2
    conv => whnf
    have hm1 : Sub mm m1 := hs1.sub (by simp)
    have hsw := hw.sl.sub (hs1.sub (a := q) (by simp))
    have hpost := Sl.post (o' := o') (h := 1) hsw hpos (fun h => by have := ho1 h; simpa using this)
    refine xcall (audNumbers_spec (hg.sub (hm.trans hm1)) (.inl hpost) (by rw [List.length_drop]; omega) (fun w hw => by have := hwz w (List.mem_of_mem_drop hw); omega)) ?_
    rintro _ m2 ⟨vn, pn, rfl, hs2, hvn⟩
    conv => whnf
    have hm2 : Sub m m2 := (hm.trans hm1).trans (hs2.sub (by simp))
    cases hcn : (audNums (ws.drop 1)).contains (-1) with
    | true =>
      rw [rowOk_nums hcn] at hr
      refine ⟨fun _ => ?_, fun h => absurd h (by first | decide | simp)⟩
      conv => whnf
      refine ⟨?_, hm2⟩
      rw [hr]
    | false =>
    refine ⟨fun h => absurd h (by first | decide | simp), fun _ => ?_⟩
    conv => whnf
    refine ⟨fun h => ?_, fun h => ?_⟩
    · have h3 : ws.length ≠ 3 := by simp at h; omega
      rw [rowOk_len h3] at hr
      conv => whnf
      refine ⟨?_, hm2⟩
      rw [hr]
    have h3 : ws.length = 3 := by simp at h; omega
    clear h
    obtain ⟨e, x, y, rfl⟩ : ∃ e x y, ws = [e, x, y] := by
      match ws, h3 with
      | [e, x, y], _ => exact ⟨e, x, y, rfl⟩
    have h0 := ((hs2.sub (a := m1) (by simp)) : Sub m1 m2)
    obtain ⟨_, _, _, ew, helw2⟩ := (hsw.sub h0).real (i := 0) (by simp)
    injection ew with ew1 ew2 ew3
    injection ew1 with ew1
    injection ew1 with ew1 ew4
    subst ew1 ew4
    have helw0 := helw2 0 (by simp)
    have hna : audNums ([e, x, y].drop 1) = [audNum x, audNum y] := rfl
    rw [hna] at hvn hcn
    obtain ⟨bn, on, cn, rfl, heln⟩ := (hvn.il.sub (hs2.sub (a := pn) (by simp))).real (i := 0) (by simp)
    have hn0 := heln 0 (by simp)
    have hn1 := heln 1 (by simp)
    have hx1 : ¬ audNum x = -1 ∧ ¬ audNum y = -1 := by
      simp at hcn; omega
    conv => whnf
    repeat (refine And.intro (by first | omega | (simp only [times]; omega)) ?_; conv => whnf)
    refine ⟨_, helw0, rfl, ?_⟩
    conv => whnf
    refine ⟨fun h => ?_, fun h => ?_⟩
    · have hk : kd e #[] = false := by unfold kd; simpa using h
      have hro : rowOk [e, x, y] last = none := by simp [rowOk, hk]
      rw [hro] at hr
      conv => whnf
      refine ⟨?_, hm2⟩
      rw [hr]
    have hk : kd e #[] = true := by unfold kd; simpa using h
    clear h
    conv => whnf
    refine ⟨by simp, ?_⟩
    conv => whnf
    refine ⟨_, hn0, rfl, ?_⟩
    conv => whnf
    refine ⟨fun h => ?_, fun h => ?_⟩
    · have hle : audNum x ≤ last := of_decide_eq_true h
      have hro : rowOk [e, x, y] last = none := by simp [rowOk, hle]
      rw [hro] at hr
      conv => whnf
      refine ⟨?_, hm2⟩
      rw [hr]
    have hle : ¬ audNum x ≤ last := of_decide_eq_false h
    have hro : rowOk [e, x, y] last = some (audNum x, audNum y) := by simp [rowOk, hk, hle, hx1]
    rw [hro] at hr
    clear h
    conv => whnf
    refine ⟨by simp, ?_⟩
    conv => whnf
    refine ⟨_, hn0, rfl, ?_⟩
    conv => whnf
    refine ⟨by simp, ?_⟩
    conv => whnf
    refine ⟨_, hn1, rfl, ?_⟩
    conv => whnf
    refine ⟨(i + 1, audNum x, IntKind.i64.wrap (t + audNum y)), ⟨by simp only; omega, hr, hm2⟩, by simp only; omega, ?_⟩
    conv => whnf
    repeat (refine And.intro (by first | with_reducible rfl | (first | exact congrArg (Value.int _) (iadd1 (by omega))) | exact congrArg (Value.int _) (wi (by omega) (by omega)) | exact wi (by omega) (by omega) | rfl) ?_; conv => whnf)
    first | exact trivial | exact fun _ _ h => h
  · have h' := of_decide_eq_false h
    obtain rfl : i = ss.length := by omega
    rw [List.drop_length] at hr
    conv => whnf
    refine ⟨?_, hm⟩
    rw [hr]
    rfl
end Go.E.YtconjimbfhpfgaaDoor

/-
  An audit's places are keys.
-/
namespace Go.E.YtconjimbfhpfgaaDoor
open Go.Proofs
set_option maxRecDepth 100000
def plc (x : ByteArray × Int) : Value := .agg #[.string x.1, .int .i64 x.2]
theorem plc_und : Tryd.prog.underlying 71 = some (.struct (Tryd.prog.fieldsOf 71)) := by kernel_rfl
theorem plc_held : Tryd.prog.stoodInHeld 71 = false := by kernel_rfl
theorem plc_fields : (Tryd.prog.fieldsOf 71).toList.map (fun f => (f.name, f.type, f.offset)) = [("key", 9, 0), ("node", 3, 1)] := by kernel_rfl
theorem plc_list : ∃ f1 f2, (Tryd.prog.fieldsOf 71).toList = [f1, f2] ∧ (f1.name = "key" ∧ f1.type = 9 ∧ f1.offset = 0) ∧ (f2.name = "node" ∧ f2.type = 3 ∧ f2.offset = 1) := by
  have h := plc_fields
  generalize (Tryd.prog.fieldsOf 71).toList = l at h
  have h2 : l.length = 2 := by have := congrArg List.length h; simpa using this
  match l, h2, h with
  | [f1, f2], _, h =>
    simp only [List.map_cons, List.map_nil, List.cons.injEq, Prod.mk.injEq, and_true] at h
    exact ⟨f1, f2, rfl, h.1, h.2⟩
theorem plc_eq (w : World) (a b : ByteArray × Int) : (Op.equal 71 (plc a) (plc b)).run Tryd.prog w = .ok (decide (a = b)) w := by
  obtain ⟨f1, f2, hl, ⟨n1, t1, o1⟩, ⟨n2, t2, o2⟩⟩ := plc_list
  obtain ⟨a1, a2⟩ := a
  obtain ⟨b1, b2⟩ := b
  show (Op.equalIn (9999 + 1) 71 (plc (a1, a2)) (plc (b1, b2))).run Tryd.prog w = _
  unfold plc
  rw [run_equalIn_struct w 9999 _ _ _ plc_und plc_held, hl]
  have p1 : ∀ (s : ByteArray) (n : Int), (part 9 #[.string s, .int .i64 n] 0).run Tryd.prog w = .ok (.string s) w := fun s n => run_part_plain w (by kernel_rfl) rfl
  have p2 : ∀ (s : ByteArray) (n : Int), (part 3 #[.string s, .int .i64 n] 1).run Tryd.prog w = .ok (.int .i64 n) w := fun s n => run_part_plain w (by kernel_rfl) rfl
  have e1 : (Op.equalIn 9999 9 (.string a1) (.string b1)).run Tryd.prog w = .ok (a1.toList == b1.toList) w := run_equalIn_string w 9998 _ _ _ (by kernel_rfl)
  have e2 : (Op.equalIn 9999 3 (.int .i64 a2) (.int .i64 b2)).run Tryd.prog w = .ok (a2 == b2) w := run_equalIn_int w 9998 _ _ .i64 _ _ (by kernel_rfl)
  simp only [Op.eqFields, n1, t1, o1, n2, t2, o2]
  rw [if_pos (by decide)]
  simp only [Sem.run_bind, p1, e1, Result.andThen_ok]
  have hs : (a1.toList == b1.toList) = decide (a1 = b1) := by
    rw [ByteArray.toList_eq, ByteArray.toList_eq]
    by_cases h : a1 = b1
    · subst h; simp
    · rw [decide_eq_false h]
      refine beq_false_of_ne fun e => h (by
        rcases a1 with ⟨⟨x⟩⟩; rcases b1 with ⟨⟨y⟩⟩
        simp at e
        rw [e])
  rw [hs]
  by_cases h1 : a1 = b1
  · subst h1
    rw [if_neg (by simp), if_pos (by decide)]
    simp only [Sem.run_bind, p2, e2, Result.andThen_ok]
    by_cases h2 : a2 = b2
    · subst h2; simp
    · simp [h2]
  · rw [if_pos (by simp [h1])]
    simp [h1]
theorem plc_chk' (n : Nat) (w : World) (a : ByteArray × Int) (e : Bool) : (Instr.checkKey e (n + 1 + 1) 71 (plc a)).run Tryd.prog w = .ok () w := by
  obtain ⟨f1, f2, hl, ⟨n1, t1, o1⟩, ⟨n2, t2, o2⟩⟩ := plc_list
  obtain ⟨a1, a2⟩ := a
  have p1 : (part 9 #[.string a1, .int .i64 a2] 0).run Tryd.prog w = .ok (.string a1) w := run_part_plain w (by kernel_rfl) rfl
  have p2 : (part 3 #[.string a1, .int .i64 a2] 1).run Tryd.prog w = .ok (.int .i64 a2) w := run_part_plain w (by kernel_rfl) rfl
  have c1 : (Instr.checkKey e (n + 1) 9 (.string a1)).run Tryd.prog w = .ok () w := MapKept.run_checkKey (d := .string) (by kernel_rfl) (strKey.isK a1) e n
  have c2 : (Instr.checkKey e (n + 1) 3 (.int .i64 a2)).run Tryd.prog w = .ok () w := MapKept.run_checkKey (d := .int .i64) (by kernel_rfl) ((intKey .i64).isK a2) e n
  have hu := plc_und
  generalize Tryd.prog.fieldsOf 71 = fs at hu hl
  unfold plc
  generalize n + 1 = k at *
  rw [Instr.checkKey]
  simp only [Sem.run_bind, run_underlying hu, Result.andThen_ok]
  rw [← Array.forIn_toList, hl]
  simp only [List.forIn_cons, List.forIn_nil, n1, t1, o1, n2, t2, o2]
  rw [if_pos (by decide), if_pos (by decide)]
  simp only [Sem.run_bind, p1, p2, c1, c2, Result.andThen_ok, Sem.run_pure]
theorem plc_chk (w : World) (a : ByteArray × Int) (e : Bool) : (Instr.checkKey e 10000 71 (plc a)).run Tryd.prog w = .ok () w := plc_chk' 9998 w a e
theorem plcKey : KeyS Tryd.prog plc 71 (.struct (Tryd.prog.fieldsOf 71)) :=
  ⟨fun _ _ => rfl, plc_eq, fun w a e => plc_chk w a e, fun a => by simp [plc, Instr.sameBits, bytesBeq]⟩
end Go.E.YtconjimbfhpfgaaDoor

/-
  Memory in parts: one part taken, the others as one.
-/
namespace Go.E

/-- the parts but one, taken as one -/
theorem Split.restP {m q : Mem} {l : List Mem} (h : Split m (q :: l)) : Split m [allM l, q] ∧ Split (allM l) l := by
  obtain ⟨h1, h2⟩ := h
  obtain ⟨h3, h4⟩ := List.pairwise_cons.1 h2
  refine ⟨⟨fun x o hx => ?_, ?_⟩, Sub.refl _, h4⟩
  · obtain ⟨a, ha, hx2⟩ := allM_some hx
    simp only [List.mem_cons, List.not_mem_nil, or_false] at ha
    rcases ha with rfl | rfl
    · obtain ⟨b, hb, hx3⟩ := allM_some hx2
      exact h1 _ _ (allM_of h2 (List.mem_cons_of_mem _ hb) hx3)
    · exact h1 _ _ (allM_of h2 (List.mem_cons_self ..) hx2)
  · simp only [List.pairwise_cons, List.mem_singleton, forall_eq, List.not_mem_nil, false_implies, implies_true, List.Pairwise.nil, and_true]
    intro x
    cases hq : q x with
    | none => exact .inr rfl
    | some o =>
      refine .inl (allM_none.2 fun a ha => ?_)
      rcases h3 a ha x with h' | h'
      · rw [hq] at h'; cases h'
      · exact h'
/-- one part taken, the others as one -/
theorem Split.pickP {mm p : Mem} {l : List Mem} (h : Split mm (p :: l)) : ∃ q, (∀ x ∈ l, Sub x q) ∧ Split mm [p, q] ∧ ∀ m' p', Split m' [p', q] → Split m' (p' :: l) := by
  obtain ⟨h2, h3⟩ := Split.restP h
  exact ⟨allM l, fun x hx => h3.sub hx, h2.perm (List.Perm.swap _ _ _), fun m' p' h4 => Split.under (a := [p']) h4 h3⟩
/-- beside two parts that are told of, a new one -/
theorem Split.beside {m mm q : Mem} {l : List Mem} (h : Split m [q, mm]) (hs : Split mm l) : Split m (q :: l) := Split.under (a := [q]) h hs
end Go.E

/-
  An audit's book: what it is, and the orders that it hears.
-/
namespace Go.E.YtconjimbfhpfgaaDoor
open Go.Proofs
set_option maxRecDepth 100000
/-- a place's last number, and when it was born -/
structure Dn where
  k : ByteArray × Int
  n : Int
  b : Nat
def Dn.men (d : Dn) : Men (ByteArray × Int) := ⟨d.k, .v (.int .i64 d.n), d.b⟩
def findD (k : ByteArray × Int) : List Dn → Option Int
  | [] => none
  | d :: D => if k = d.k then some d.n else findD k D
def setD (k : ByteArray × Int) (n : Int) (clock : Nat) : List Dn → List Dn
  | [] => [⟨k, n, clock⟩]
  | d :: D => if k = d.k then ⟨k, n, d.b⟩ :: D else d :: setD k n clock D
theorem findM_D (k : ByteArray × Int) : ∀ D : List Dn, findM k (D.map Dn.men) = (findD k D).map fun n => .v (.int .i64 n)
  | [] => rfl
  | d :: D => by
    have ih := findM_D k D
    unfold findM at *
    rw [List.map_cons, List.find?_cons, findD]
    by_cases h : k = d.k
    · have e : k = d.men.k := h
      rw [decide_eq_true e, if_pos h]; rfl
    · have e : ¬ k = d.men.k := h
      rw [decide_eq_false e, if_neg h]; exact ih
theorem setM_D (k : ByteArray × Int) (n : Int) (clock : Nat) : ∀ D : List Dn, setM k (.v (.int .i64 n)) clock (D.map Dn.men) = (setD k n clock D).map Dn.men
  | [] => rfl
  | d :: D => by
    rw [List.map_cons, setM, setD]
    by_cases h : k = d.k
    · have e : k = d.men.k := h
      rw [if_pos e, if_pos h]; rfl
    · have e : ¬ k = d.men.k := h
      rw [if_neg e, if_neg h, setM_D k n clock D]; rfl
/-- what a book keeps -/
structure Bk where
  heard : Int
  orders : Int
  D : List Dn
  clock : Nat
abbrev bookO (made wrong : Bool) (heard orders : Int) (bm : Nat) : Obj := .cells #[.bool made, .bool wrong, .int .i64 heard, .int .i64 orders, .map (some bm)] 36
abbrev dotsO (x : Bk) : Obj := mapO plc (x.D.map Dn.men) x.clock
structure BkO (p : Mem) (b bm : Nat) (made wrong : Bool) (x : Bk) : Prop where
  sp : Split p [blk1 b (bookO made wrong x.heard x.orders bm), blk1 bm (dotsO x)]
section
variable {p : Mem} {b bm : Nat} {made wrong : Bool} {x : Bk}
theorem BkO.book (h : BkO p b bm made wrong x) : p b = some (bookO made wrong x.heard x.orders bm) := h.sp.sub (a := blk1 b (bookO made wrong x.heard x.orders bm)) (by simp) _ _ (blk1_same ..)
theorem BkO.map (h : BkO p b bm made wrong x) : p bm = some (dotsO x) := h.sp.sub (a := blk1 bm (dotsO x)) (by simp) _ _ (blk1_same ..)
theorem BkO.setB (h : BkO p b bm made wrong x) (made' wrong' : Bool) (heard' orders' : Int) : BkO (p.set b (bookO made' wrong' heard' orders' bm)) b bm made' wrong' { x with heard := heard', orders := orders' } := by
  have hs := h.sp.set (blk1_same ..) (bookO made' wrong' heard' orders' bm)
  rw [blk1_set] at hs
  exact ⟨hs⟩
theorem BkO.setM (h : BkO p b bm made wrong x) (D' : List Dn) (clock' : Nat) : BkO (p.set bm (mapO plc (D'.map Dn.men) clock')) b bm made wrong { x with D := D', clock := clock' } := by
  have hs := (h.sp.perm (List.Perm.swap _ _ _)).set (blk1_same ..) (mapO plc (D'.map Dn.men) clock')
  rw [blk1_set] at hs
  exact ⟨hs.perm (List.Perm.swap _ _ _)⟩
end
/-- what is looked up -/
theorem plcZ : (Tryd.prog.info? 3).bind (·.zero) = some (Value.int .i64 0) := by kernel_rfl
theorem lookupD {m : Mem} {bm : Nat} {x : Bk} {k : ByteArray × Int} (hb : m bm = some (dotsO x)) :
    PrimSpec Tryd.prog (.lookup 34 false) [.v (.map (some bm)), .a [.one (.string k.1), .one (.int .i64 k.2)]] m fun r m' => r = [i64 ((findD k x.D).getD 0)] ∧ m = m' := by
  have h := lookupS_spec (P := Tryd.prog) plcKey (k := k) (kc := .a [.one (.string k.1), .one (.int .i64 k.2)]) Tryd.underlying34 plc_und (z := i64 0) plcZ rfl rfl hb (fun e he => by obtain ⟨f, _, rfl⟩ := List.mem_map.1 he; rfl)
  rw [findM_D] at h
  cases e : findD k x.D with
  | none => rw [e] at h; exact h
  | some n => rw [e] at h; exact h
def clockD (k : ByteArray × Int) (x : Bk) : Nat := if (findD k x.D).isSome then x.clock else x.clock + 1
theorem setD_spec {m : Mem} {bm : Nat} {x : Bk} {k : ByteArray × Int} {n : Int} (hb : m bm = some (dotsO x)) :
    PrimSpec Tryd.prog (.mapUpdate 34) [.v (.map (some bm)), .a [.one (.string k.1), .one (.int .i64 k.2)], i64 n] m fun r m' => m' = m.set bm (mapO plc ((setD k n x.clock x.D).map Dn.men) (clockD k x)) := by
  have h := mapSetS_spec (P := Tryd.prog) plcKey (k := k) (kc := .a [.one (.string k.1), .one (.int .i64 k.2)]) (v := i64 n) Tryd.underlying34 plc_und rfl hb
  rw [show (i64 n) = CV.v (.int .i64 n) from rfl, setM_D] at h
  have hc : clockM k x.clock (x.D.map Dn.men) = clockD k x := by
    unfold clockM clockD; rw [findM_D, Option.isSome_map]
  rw [hc] at h
  exact h
theorem sub_blk {m p : Mem} {b : Nat} {o : Obj} (h : m b = some o) : Sub (blk1 b o) m := fun x u hx => by
  obtain ⟨rfl, rfl⟩ := blk1_some hx
  exact h
def headW (ws : List ByteArray) : ByteArray := ws.headD ⟨#[]⟩
/-- what an order that was told ok does -/
def orderF (x : Bk) (ws : List ByteArray) (n : List Int) : Bool × Bk :=
  match n with
  | [a, c] => if nodeF a = false ∨ c < 1 then (false, { x with orders := IntKind.i64.wrap (x.orders + 1) })
    else if kd (headW ws) #[114, 101, 109, 111, 118, 101] = true ∨ kd (headW ws) #[99, 108, 101, 97, 114] = true then (true, { x with orders := IntKind.i64.wrap (x.orders + 1) })
    else (decide ((findD (ws.getD 1 ⟨#[]⟩, a) x.D).getD 0 < c), { x with orders := IntKind.i64.wrap (x.orders + 1), D := setD (ws.getD 1 ⟨#[]⟩, a) c x.clock x.D, clock := clockD (ws.getD 1 ⟨#[]⟩, a) x })
  | _ => (false, { x with orders := IntKind.i64.wrap (x.orders + 1) })
set_option maxHeartbeats 8000000 in
theorem order_spec {m mm p : Mem} {b bm : Nat} {made wrong : Bool} {x : Bk} {vw vn : Value} {ws : List ByteArray} {n : List Int} (hs : Split mm [p, m]) (hb : BkO p b bm made wrong x) (hw : Sa m vw ws) (hn : Ia m vn n) (hl : 2 ≤ ws.length) (hnl : n.length ≤ 100000) :
    Spec Tryd.prog 24 [ptrB b, .v vw, .v vn] mm fun r m' => ∃ p', r = [boolV (orderF x ws n).1] ∧ Split m' [p', m] ∧ BkO p' b bm made wrong (orderF x ws n).2 := by
  obtain ⟨aw, cw, rfl⟩ := hw.shape
  obtain ⟨an, cn, rfl⟩ := hn.shape
  refine en24 rfl (goY ?_)
  conv => whnf
  refine ⟨_, mcell_of (hs.get (a := p) (by simp) hb.book) rfl, rfl, ?_⟩
  conv => whnf
  refine ⟨_, _, _, hs.get (a := p) (by simp) hb.book, ⟨by simp, by simp⟩, ?_⟩
  conv => whnf
  have hb1 := hb.setB made wrong x.heard (IntKind.i64.wrap (x.orders + 1))
  generalize hM : Mem.set mm b _ = m1
  have hs1 : Split m1 [p.set b (bookO made wrong x.heard (IntKind.i64.wrap (x.orders + 1)) bm), m] := by rw [← hM]; exact hs.set hb.book _
  clear hM
  have hm1 : Sub m m1 := hs1.sub (by simp)
  generalize p.set b (bookO made wrong x.heard (IntKind.i64.wrap (x.orders + 1)) bm) = p1 at *
  refine ⟨fun h => ?_, fun h => ?_⟩
  · have h2 : ¬ n.length = 2 := by simp at h; omega
    have ho : orderF x ws n = (false, { x with orders := IntKind.i64.wrap (x.orders + 1) }) := by
      unfold orderF
      split
      · exact absurd rfl h2
      · rfl
    conv => whnf
    exact ⟨p1, by rw [ho], hs1, by rw [ho]; exact hb1⟩
  have h2 : n.length = 2 := by simp at h; omega
  clear h
  obtain ⟨a, c, rfl⟩ : ∃ a c, n = [a, c] := by
    match n, h2 with
    | [a, c], _ => exact ⟨a, c, rfl⟩
  obtain ⟨bn, on, cn', en, heln⟩ := (hn.sub hm1).real (i := 0) (by simp)
  obtain ⟨bw, ow, cw', ew, helw⟩ := (hw.sub hm1).real (i := 0) (by omega)
  injection en with en1 en2 en3
  injection ew with ew1 ew2 ew3
  subst en1 en3 ew1 ew3
  have hn0 := heln 0 (by simp)
  have hn1 := heln 1 (by simp)
  obtain ⟨w, k, r, rfl⟩ : ∃ w k r, ws = w :: k :: r := by
    match ws, hl with
    | w :: k :: r, _ => exact ⟨w, k, r, rfl⟩
  have hw0 := helw 0 (by simp)
  have hw1 := helw 1 (by simp)
  conv => whnf
  refine ⟨by simp, ?_⟩
  conv => whnf
  refine ⟨_, hn0, rfl, ?_⟩
  conv => whnf
  first | refine xretk (isNode_spec (n := a)) ?_ | refine xret (isNode_spec (n := a)) ?_
  conv => whnf
  refine ⟨fun h => ?_, fun h => ?_⟩
  · have hna : nodeF a = false := by simpa using h
    have ho : orderF x (w :: k :: r) [a, c] = (false, { x with orders := IntKind.i64.wrap (x.orders + 1) }) := by unfold orderF; simp only []; rw [if_pos (.inl hna)]
    conv => whnf
    exact ⟨p1, by rw [ho], hs1, by rw [ho]; exact hb1⟩
  have hna : nodeF a = true := by simpa using h
  clear h
  conv => whnf
  refine ⟨by simp, ?_⟩
  conv => whnf
  refine ⟨_, hn1, rfl, ?_⟩
  conv => whnf
  refine ⟨fun h => ?_, fun h => ?_⟩
  · have hc1 : c < 1 := of_decide_eq_true h
    have ho : orderF x (w :: k :: r) [a, c] = (false, { x with orders := IntKind.i64.wrap (x.orders + 1) }) := by unfold orderF; simp only []; rw [if_pos (.inr hc1)]
    conv => whnf
    exact ⟨p1, by rw [ho], hs1, by rw [ho]; exact hb1⟩
  have hc1 : ¬ c < 1 := of_decide_eq_false h
  have hcn : ¬ (nodeF a = false ∨ c < 1) := by rw [hna]; simpa using hc1
  clear h
  conv => whnf
  repeat (refine And.intro (by first | omega | (simp only [times]; omega)) ?_; conv => whnf)
  refine ⟨_, hw0, rfl, ?_⟩
  conv => whnf
  refine ⟨fun h => ?_, fun h => ?_⟩
  · have ho : orderF x (w :: k :: r) [a, c] = (true, { x with orders := IntKind.i64.wrap (x.orders + 1) }) := by unfold orderF; simp only []; rw [if_neg hcn, if_pos (.inl h)]
    conv => whnf
    exact ⟨p1, by rw [ho], hs1, by rw [ho]; exact hb1⟩
  conv => whnf
  repeat (refine And.intro (by first | omega | (simp only [times]; omega)) ?_; conv => whnf)
  refine ⟨_, hw0, rfl, ?_⟩
  conv => whnf
  refine ⟨fun h2 => ?_, fun h2 => ?_⟩
  · have ho : orderF x (w :: k :: r) [a, c] = (true, { x with orders := IntKind.i64.wrap (x.orders + 1) }) := by unfold orderF; simp only []; rw [if_neg hcn, if_pos (.inr h2)]
    conv => whnf
    exact ⟨p1, by rw [ho], hs1, by rw [ho]; exact hb1⟩
  conv => whnf
  have hB1 := hs1.get (a := p1) (by simp) hb1.book
  refine ⟨⟨by omega, by simp only [List.length_cons]; omega⟩, ?_⟩
  conv => whnf
  refine ⟨_, hw1, rfl, ?_⟩
  conv => whnf
  refine ⟨by simp, ?_⟩
  conv => whnf
  refine ⟨_, hn0, rfl, ?_⟩
  conv => whnf
  refine ⟨_, mcell_of hB1 rfl, rfl, ?_⟩
  conv => whnf
  refine .mk _ (lookupD (k := (k, a)) (hs1.get (a := p1) (by simp) hb1.map)) ?_
  rintro _ _ ⟨rfl, rfl⟩
  conv => whnf
  refine ⟨_, mcell_of hB1 rfl, rfl, ?_⟩
  conv => whnf
  refine ⟨by simp, ?_⟩
  conv => whnf
  refine ⟨_, hn1, rfl, ?_⟩
  conv => whnf
  refine .mk _ (setD_spec (k := (k, a)) (n := c) (hs1.get (a := p1) (by simp) hb1.map)) ?_
  rintro _ m2 rfl
  conv => whnf
  have hb2 := hb1.setM (setD (k, a) c x.clock x.D) (clockD (k, a) x)
  generalize hM : Mem.set m1 bm _ = m2
  have hs2 : Split m2 [p1.set bm (mapO plc ((setD (k, a) c x.clock x.D).map Dn.men) (clockD (k, a) x)), m] := by rw [← hM]; exact hs1.set hb1.map _
  clear hM
  obtain ⟨_, _, _, en, heln⟩ := (hn.sub (hs2.sub (a := m) (by simp))).real (i := 0) (by simp)
  injection en with en1 en2 en3
  injection en1 with en1
  injection en1 with en1 en4
  subst en1 en4
  have ho : orderF x (w :: k :: r) [a, c] = (decide ((findD (k, a) x.D).getD 0 < c), { x with orders := IntKind.i64.wrap (x.orders + 1), D := setD (k, a) c x.clock x.D, clock := clockD (k, a) x }) := by
    unfold orderF; simp only []; rw [if_neg hcn, if_neg (fun h' => h'.elim (fun h' => absurd h' (by unfold kd headW; simpa using h)) (fun h' => absurd h' (by unfold kd headW; simpa using h2)))]; simp only [List.getD_cons_succ, List.getD_cons_zero]
  refine ⟨by simp, ?_⟩
  conv => whnf
  refine ⟨_, heln 1 (by simp), rfl, ?_⟩
  conv => whnf
  rw [ho]
  exact ⟨_, rfl, hs2, hb2⟩
end Go.E.YtconjimbfhpfgaaDoor

/-
  What a line that was told ok does.
-/
namespace Go.E.YtconjimbfhpfgaaDoor
open Go.Proofs
set_option maxRecDepth 100000
def isOrd (v : ByteArray) : Bool := kd v #[97, 100, 100] || (kd v #[115, 101, 116] || (kd v #[114, 101, 109, 111, 118, 101] || kd v #[99, 108, 101, 97, 114]))
/-- rows of a read, with what it told -/
noncomputable def getF (n : List Int) (l : List ByteArray) : Bool := match n with
  | [a, c, t] => nodeF a && (decide (c = (l.length : Int)) && (match rowsF l (-1) 0 with | none => false | some s => decide (s = t)))
  | _ => false
/-- what other lines tell -/
def plainF (orders : Int) (v : ByteArray) (n : List Int) : Bool :=
  if kd v #[102, 108, 117, 115, 104] then decide (n.length = 1)
  else if kd v #[104, 101, 97, 108] then (match n with | [a] => decide (a ≤ 3) | _ => false)
  else if kd v #[115, 101, 116, 116, 108, 101] then (match n with | [a, c] => decide (a ≤ 100) && decide (c ≤ 1) | _ => false)
  else if kd v #[110, 111, 119] then (match n with | [_, c, d] => decide (c = orders) && decide (d ≤ 3) | _ => false)
  else if kd v #[101, 118, 101, 110] then (match n with | [a] => decide (a ≤ 1) | _ => false)
  else if kd v #[114, 105, 103, 104, 116] then (match n with | [a] => decide (a = 1) | _ => false)
  else decide (n.length = 0)
/-- what a line that was told ok does -/
noncomputable def okF (x : Bk) (ws : List ByteArray) (n : List Int) (l : List ByteArray) : Bool × Bk :=
  if isOrd (headW ws) = true then (if l.length = 0 then orderF x ws n else (false, x))
  else if kd (headW ws) #[103, 101, 116] = true then (getF n l, x)
  else if 0 < l.length then (false, x) else (plainF x.orders (headW ws) n, x)
set_option maxHeartbeats 8000000 in
theorem ok_spec {m mm p : Mem} {b bm : Nat} {made wrong : Bool} {x : Bk} {vw vn vl : Value} {ws l : List ByteArray} {n : List Int} (hg : Glob m) (hx : MaxL m) (hs : Split mm [p, m]) (hb : BkO p b bm made wrong x) (hw : Sa m vw ws) (hn : Ia m vn n) (hv : Sa m vl l) (hp : 1 ≤ ws.length) (h2 : isOrd (headW ws) = true → 2 ≤ ws.length) (hnl : n.length ≤ 100000)
    (hll : l.length ≤ 100000) (hlz : ∀ s ∈ l, s.size ≤ 10000) :
    Spec Tryd.prog 19 [ptrB b, .v vw, .v vn, .v vl] mm fun r m' => ∃ p', r = [boolV (okF x ws n l).1] ∧ Split m' [p', m] ∧ BkO p' b bm made wrong (okF x ws n l).2 := by
  obtain ⟨w, r, rfl⟩ : ∃ w r, ws = w :: r := by
    match ws, hp with
    | w :: r, _ => exact ⟨w, r, rfl⟩
  have hm0 : Sub m mm := hs.sub (by simp)
  obtain ⟨bw, ow, cw, rfl, helw⟩ := (hw.sub hm0).real (i := 0) (by simp)
  have hw0 := helw 0 (by simp)
  obtain ⟨an, cn, rfl⟩ := hn.shape
  obtain ⟨al, cl, rfl⟩ := hv.shape
  have hh : headW (w :: r) = w := rfl
  rw [hh] at h2
  have hord : isOrd w = true → okF x (w :: r) n l = if l.length = 0 then orderF x (w :: r) n else (false, x) := fun h => by unfold okF; rw [hh, if_pos h]
  refine en19 rfl (goY ?_)
  conv => whnf
  repeat (refine And.intro (by first | omega | (simp only [times]; omega)) ?_; conv => whnf)
  refine ⟨_, hw0, rfl, ?_⟩
  conv => whnf
  refine ⟨fun h0x => ?_, fun h0x => ?_⟩
  · have h0 : kd w #[97, 100, 100] = true := h0x
    have hi : isOrd w = true := by unfold isOrd; rw [h0]; simp
    conv => whnf
    refine ⟨fun h => ?_, fun h => ?_⟩
    · have hl0 : l.length = 0 := by have := of_decide_eq_true h; omega
      conv => whnf
      refine xcall (order_spec hs hb hw hn (h2 hi) hnl) ?_
      rintro _ m1 ⟨p', rfl, hs', hb'⟩
      conv => whnf
      rw [hord hi, if_pos hl0]
      exact ⟨p', rfl, hs', hb'⟩
    · have hl0 : ¬ l.length = 0 := by have := of_decide_eq_false h; omega
      conv => whnf
      rw [hord hi, if_neg hl0]
      exact ⟨p, rfl, hs, hb⟩
  have h0 : kd w #[97, 100, 100] = false := by unfold kd; simpa using h0x
  clear h0x
  conv => whnf
  refine ⟨fun h1x => ?_, fun h1x => ?_⟩
  · have h1 : kd w #[115, 101, 116] = true := h1x
    have hi : isOrd w = true := by unfold isOrd; rw [h1]; simp
    conv => whnf
    refine ⟨fun h => ?_, fun h => ?_⟩
    · have hl0 : l.length = 0 := by have := of_decide_eq_true h; omega
      conv => whnf
      refine xcall (order_spec hs hb hw hn (h2 hi) hnl) ?_
      rintro _ m1 ⟨p', rfl, hs', hb'⟩
      conv => whnf
      rw [hord hi, if_pos hl0]
      exact ⟨p', rfl, hs', hb'⟩
    · have hl0 : ¬ l.length = 0 := by have := of_decide_eq_false h; omega
      conv => whnf
      rw [hord hi, if_neg hl0]
      exact ⟨p, rfl, hs, hb⟩
  have h1 : kd w #[115, 101, 116] = false := by unfold kd; simpa using h1x
  clear h1x
  conv => whnf
  refine ⟨fun h2x => ?_, fun h2x => ?_⟩
  · have h2' : kd w #[114, 101, 109, 111, 118, 101] = true := h2x
    have hi : isOrd w = true := by unfold isOrd; rw [h2']; simp
    conv => whnf
    refine ⟨fun h => ?_, fun h => ?_⟩
    · have hl0 : l.length = 0 := by have := of_decide_eq_true h; omega
      conv => whnf
      refine xcall (order_spec hs hb hw hn (h2 hi) hnl) ?_
      rintro _ m1 ⟨p', rfl, hs', hb'⟩
      conv => whnf
      rw [hord hi, if_pos hl0]
      exact ⟨p', rfl, hs', hb'⟩
    · have hl0 : ¬ l.length = 0 := by have := of_decide_eq_false h; omega
      conv => whnf
      rw [hord hi, if_neg hl0]
      exact ⟨p, rfl, hs, hb⟩
  have h2' : kd w #[114, 101, 109, 111, 118, 101] = false := by unfold kd; simpa using h2x
  clear h2x
  conv => whnf
  refine ⟨fun h3x => ?_, fun h3x => ?_⟩
  · have h3 : kd w #[99, 108, 101, 97, 114] = true := h3x
    have hi : isOrd w = true := by unfold isOrd; rw [h3]; simp
    conv => whnf
    refine ⟨fun h => ?_, fun h => ?_⟩
    · have hl0 : l.length = 0 := by have := of_decide_eq_true h; omega
      conv => whnf
      refine xcall (order_spec hs hb hw hn (h2 hi) hnl) ?_
      rintro _ m1 ⟨p', rfl, hs', hb'⟩
      conv => whnf
      rw [hord hi, if_pos hl0]
      exact ⟨p', rfl, hs', hb'⟩
    · have hl0 : ¬ l.length = 0 := by have := of_decide_eq_false h; omega
      conv => whnf
      rw [hord hi, if_neg hl0]
      exact ⟨p, rfl, hs, hb⟩
  have h3 : kd w #[99, 108, 101, 97, 114] = false := by unfold kd; simpa using h3x
  clear h3x
  conv => whnf
  have hni : isOrd w = false := by unfold isOrd; simp [h0, h1, h2', h3]
  have hnx : ¬ isOrd w = true := by rw [hni]; decide
  refine ⟨fun h4x => ?_, fun h4x => ?_⟩
  · have h4 : kd w #[103, 101, 116] = true := h4x
    have hok : okF x (w :: r) n l = (getF n l, x) := by unfold okF; rw [hh, if_neg hnx, if_pos h4]
    rw [hok]
    conv => whnf
    refine ⟨fun h => ?_, fun h => ?_⟩
    rotate_left
    · have hL : ¬ n.length = 3 := by simp at h; omega
      have hg3 : getF n l = false := by
        unfold getF
        split
        · exact absurd rfl hL
        · rfl
      conv => whnf
      exact ⟨p, by rw [hg3], hs, hb⟩
    have hL : n.length = 3 := by simp at h; omega
    clear h
    obtain ⟨a, c, t, rfl⟩ : ∃ a c t, n = [a, c, t] := by
      match n, hL with
      | [a, c, t], _ => exact ⟨a, c, t, rfl⟩
    obtain ⟨bn, on, cn', en, heln⟩ := (hn.sub hm0).real (i := 0) (by simp)
    injection en with en1 en2 en3
    subst en1 en3
    have hn0 := heln 0 (by simp)
    have hn1 := heln 1 (by simp)
    have hn2 := heln 2 (by simp)
    conv => whnf
    refine ⟨by simp, ?_⟩
    conv => whnf
    refine ⟨_, hn0, rfl, ?_⟩
    conv => whnf
    first | refine xretk (isNode_spec (n := a)) ?_ | refine xret (isNode_spec (n := a)) ?_
    conv => whnf
    refine ⟨fun h => ?_, fun h => ?_⟩
    rotate_left
    · have h : nodeF a = false := h
      conv => whnf
      exact ⟨p, by simp only [getF, h, Bool.false_and], hs, hb⟩
    have hna : nodeF a = true := h
    clear h
    conv => whnf
    refine ⟨by simp, ?_⟩
    conv => whnf
    refine ⟨_, hn1, rfl, ?_⟩
    conv => whnf
    refine ⟨fun h => ?_, fun h => ?_⟩
    rotate_left
    · have h : ¬ c = (l.length : Int) := by simpa using h
      conv => whnf
      exact ⟨p, by simp only [getF, decide_eq_false h, Bool.false_and, Bool.and_false], hs, hb⟩
    have hcl : c = (l.length : Int) := by simpa using h
    clear h
    conv => whnf
    refine ⟨by simp, ?_⟩
    conv => whnf
    refine ⟨_, hn2, rfl, ?_⟩
    conv => whnf
    refine xcall (rows_spec (n := t) (hg.sub hm0) (hx.sub hm0) (hv.sub hm0) hll hlz) ?_
    rintro _ m1 ⟨rfl, hm1⟩
    conv => whnf
    exact ⟨p, by simp only [getF, hna, decide_eq_true hcl, Bool.true_and]; try (cases rowsF l (-1) 0 <;> rfl), hs.grow hm1, hb⟩
  have h4 : kd w #[103, 101, 116] = false := by unfold kd; simpa using h4x
  clear h4x
  have hnk : ¬ kd w #[103, 101, 116] = true := by rw [h4]; decide
  conv => whnf
  refine ⟨fun h => ?_, fun h => ?_⟩
  · have hl : 0 < l.length := by have := of_decide_eq_true h; omega
    have hok : okF x (w :: r) n l = (false, x) := by unfold okF; rw [hh, if_neg hnx, if_neg hnk, if_pos hl]
    conv => whnf
    rw [hok]
    exact ⟨p, rfl, hs, hb⟩
  have hl : ¬ 0 < l.length := by have := of_decide_eq_false h; omega
  have hok : okF x (w :: r) n l = (plainF x.orders w n, x) := by unfold okF; rw [hh, if_neg hnx, if_neg hnk, if_neg hl]
  rw [hok]
  clear h hok
  have one : ¬ n.length = 0 → ∃ bn on cn', Value.slice an n.length cn = .slice (some ⟨bn, on, none⟩) n.length cn' ∧ ∀ j (hj : j < n.length), mcell mm bn (on + j) = some (.int .i64 n[j]) := fun h => (hn.sub hm0).real (i := 0) (by omega)
  have hB := hs.get (a := p) (by simp) hb.book
  conv => whnf
  repeat (refine And.intro (by first | omega | (simp only [times]; omega)) ?_; conv => whnf)
  refine ⟨_, hw0, rfl, ?_⟩
  conv => whnf

  refine ⟨fun h => ?_, fun h => ?_⟩
  · have g0 : kd w #[102, 108, 117, 115, 104] = true := h
    clear h
    conv => whnf
    exact ⟨p, by unfold plainF; simp only [g0, if_true, if_false, Bool.false_eq_true]; rw [show ((n.length : Int) == 1) = decide (n.length = 1) by by_cases h : n.length = 1 <;> simp [h] <;> omega], hs, hb⟩
  have g0 : kd w #[102, 108, 117, 115, 104] = false := by unfold kd; simpa using h
  clear h
  conv => whnf
  refine ⟨fun h => ?_, fun h => ?_⟩
  · have g1 : kd w #[104, 101, 97, 108] = true := h
    clear h
    conv => whnf
    refine ⟨fun h => ?_, fun h => ?_⟩
    rotate_left
    · have hL : ¬ n.length = 1 := by simp at h; omega
      conv => whnf
      refine ⟨p, ?_, hs, hb⟩
      unfold plainF; simp only [g0, g1, if_true, if_false, Bool.false_eq_true]
      congr 2
      split
      · exact absurd rfl hL
      · rfl
    have hL : n.length = 1 := by simp at h; omega
    clear h
    obtain ⟨a, rfl⟩ : ∃ a, n = [a] := by
      match n, hL with
      | [a], _ => exact ⟨a, rfl⟩
    obtain ⟨bn, on, cn', en, heln⟩ := one (by simp)
    injection en with en1 en2 en3
    subst en1 en3
    conv => whnf
    refine ⟨by simp, ?_⟩
    conv => whnf
    refine ⟨_, heln 0 (by simp), rfl, ?_⟩
    conv => whnf
    exact ⟨p, by unfold plainF; simp only [g0, g1, if_true, if_false, Bool.false_eq_true]; rfl, hs, hb⟩
  have g1 : kd w #[104, 101, 97, 108] = false := by unfold kd; simpa using h
  clear h
  conv => whnf
  refine ⟨fun h => ?_, fun h => ?_⟩
  · have g2 : kd w #[115, 101, 116, 116, 108, 101] = true := h
    clear h
    conv => whnf
    refine ⟨fun h => ?_, fun h => ?_⟩
    rotate_left
    · have hL : ¬ n.length = 2 := by simp at h; omega
      conv => whnf
      refine ⟨p, ?_, hs, hb⟩
      unfold plainF; simp only [g0, g1, g2, if_true, if_false, Bool.false_eq_true]
      congr 2
      split
      · exact absurd rfl hL
      · rfl
    have hL : n.length = 2 := by simp at h; omega
    clear h
    obtain ⟨a, c, rfl⟩ : ∃ a c, n = [a, c] := by
      match n, hL with
      | [a, c], _ => exact ⟨a, c, rfl⟩
    obtain ⟨bn, on, cn', en, heln⟩ := one (by simp)
    injection en with en1 en2 en3
    subst en1 en3
    conv => whnf
    refine ⟨by simp, ?_⟩
    conv => whnf
    refine ⟨_, heln 0 (by simp), rfl, ?_⟩
    conv => whnf
    refine ⟨fun h => ?_, fun h => ?_⟩
    rotate_left
    · have hc : ¬ a ≤ 100 := by simpa using h
      conv => whnf
      exact ⟨p, by unfold plainF; simp only [g0, g1, g2, if_true, if_false, Bool.false_eq_true]; rw [decide_eq_false hc]; rfl, hs, hb⟩
    have hc : a ≤ 100 := by simpa using h
    clear h
    conv => whnf
    refine ⟨by simp, ?_⟩
    conv => whnf
    refine ⟨_, heln 1 (by simp), rfl, ?_⟩
    conv => whnf
    exact ⟨p, by unfold plainF; simp only [g0, g1, g2, if_true, if_false, Bool.false_eq_true]; rw [decide_eq_true hc]; rfl, hs, hb⟩
  have g2 : kd w #[115, 101, 116, 116, 108, 101] = false := by unfold kd; simpa using h
  clear h
  conv => whnf
  refine ⟨fun h => ?_, fun h => ?_⟩
  · have g3 : kd w #[110, 111, 119] = true := h
    clear h
    conv => whnf
    refine ⟨fun h => ?_, fun h => ?_⟩
    rotate_left
    · have hL : ¬ n.length = 3 := by simp at h; omega
      conv => whnf
      refine ⟨p, ?_, hs, hb⟩
      unfold plainF; simp only [g0, g1, g2, g3, if_true, if_false, Bool.false_eq_true]
      congr 2
      split
      · exact absurd rfl hL
      · rfl
    have hL : n.length = 3 := by simp at h; omega
    clear h
    obtain ⟨a, c, d, rfl⟩ : ∃ a c d, n = [a, c, d] := by
      match n, hL with
      | [a, c, d], _ => exact ⟨a, c, d, rfl⟩
    obtain ⟨bn, on, cn', en, heln⟩ := one (by simp)
    injection en with en1 en2 en3
    subst en1 en3
    conv => whnf
    refine ⟨by simp, ?_⟩
    conv => whnf
    refine ⟨_, heln 1 (by simp), rfl, ?_⟩
    conv => whnf
    refine ⟨_, mcell_of hB rfl, rfl, ?_⟩
    conv => whnf
    refine ⟨fun h => ?_, fun h => ?_⟩
    rotate_left
    · have hc : ¬ c = x.orders := by simpa using h
      conv => whnf
      exact ⟨p, by unfold plainF; simp only [g0, g1, g2, g3, if_true, if_false, Bool.false_eq_true]; rw [decide_eq_false hc]; rfl, hs, hb⟩
    have hc : c = x.orders := by simpa using h
    clear h
    conv => whnf
    refine ⟨by simp, ?_⟩
    conv => whnf
    refine ⟨_, heln 2 (by simp), rfl, ?_⟩
    conv => whnf
    exact ⟨p, by unfold plainF; simp only [g0, g1, g2, g3, if_true, if_false, Bool.false_eq_true]; rw [decide_eq_true hc]; rfl, hs, hb⟩
  have g3 : kd w #[110, 111, 119] = false := by unfold kd; simpa using h
  clear h
  conv => whnf
  refine ⟨fun h => ?_, fun h => ?_⟩
  · have g4 : kd w #[101, 118, 101, 110] = true := h
    clear h
    conv => whnf
    refine ⟨fun h => ?_, fun h => ?_⟩
    rotate_left
    · have hL : ¬ n.length = 1 := by simp at h; omega
      conv => whnf
      refine ⟨p, ?_, hs, hb⟩
      unfold plainF; simp only [g0, g1, g2, g3, g4, if_true, if_false, Bool.false_eq_true]
      congr 2
      split
      · exact absurd rfl hL
      · rfl
    have hL : n.length = 1 := by simp at h; omega
    clear h
    obtain ⟨a, rfl⟩ : ∃ a, n = [a] := by
      match n, hL with
      | [a], _ => exact ⟨a, rfl⟩
    obtain ⟨bn, on, cn', en, heln⟩ := one (by simp)
    injection en with en1 en2 en3
    subst en1 en3
    conv => whnf
    refine ⟨by simp, ?_⟩
    conv => whnf
    refine ⟨_, heln 0 (by simp), rfl, ?_⟩
    conv => whnf
    exact ⟨p, by unfold plainF; simp only [g0, g1, g2, g3, g4, if_true, if_false, Bool.false_eq_true]; rfl, hs, hb⟩
  have g4 : kd w #[101, 118, 101, 110] = false := by unfold kd; simpa using h
  clear h
  conv => whnf
  refine ⟨fun h => ?_, fun h => ?_⟩
  · have g5 : kd w #[114, 105, 103, 104, 116] = true := h
    clear h
    conv => whnf
    refine ⟨fun h => ?_, fun h => ?_⟩
    rotate_left
    · have hL : ¬ n.length = 1 := by simp at h; omega
      conv => whnf
      refine ⟨p, ?_, hs, hb⟩
      unfold plainF; simp only [g0, g1, g2, g3, g4, g5, if_true, if_false, Bool.false_eq_true]
      congr 2
      split
      · exact absurd rfl hL
      · rfl
    have hL : n.length = 1 := by simp at h; omega
    clear h
    obtain ⟨a, rfl⟩ : ∃ a, n = [a] := by
      match n, hL with
      | [a], _ => exact ⟨a, rfl⟩
    obtain ⟨bn, on, cn', en, heln⟩ := one (by simp)
    injection en with en1 en2 en3
    subst en1 en3
    conv => whnf
    refine ⟨by simp, ?_⟩
    conv => whnf
    refine ⟨_, heln 0 (by simp), rfl, ?_⟩
    conv => whnf
    exact ⟨p, by unfold plainF; simp only [g0, g1, g2, g3, g4, g5, if_true, if_false, Bool.false_eq_true]; by_cases h : a = 1 <;> simp [h], hs, hb⟩
  have g5 : kd w #[114, 105, 103, 104, 116] = false := by unfold kd; simpa using h
  clear h
  conv => whnf
  exact ⟨p, by unfold plainF; simp only [g0, g1, g2, g3, g4, g5, if_true, if_false, Bool.false_eq_true]; by_cases h : n.length = 0 <;> simp [h], hs, hb⟩
end Go.E.YtconjimbfhpfgaaDoor

/-
  Whether an entry fits.
-/
namespace Go.E.YtconjimbfhpfgaaDoor
open Go.Proofs
set_option maxRecDepth 100000
abbrev nl : ByteArray := ⟨#[10]⟩
/-- whether an entry fits, and what the book is behind it -/
noncomputable def fitsF (x : Bk) (line told : ByteArray) : Bool × Bk :=
  if lineF line = false then (kd told #[98, 97, 100], x)
  else if kd (headW (wrds (headW (words nl told)))) #[101, 114, 114] = true then (!sureF (headW (wrds line)) && (decide ((words nl told).length = 1) && errF ((wrds (headW (words nl told))).drop 1)), x)
  else if kd (headW (wrds (headW (words nl told)))) #[111, 107] = true ∧ (audNums ((wrds (headW (words nl told))).drop 1)).contains (-1) = false then okF x (wrds line) (audNums ((wrds (headW (words nl told))).drop 1)) ((words nl told).drop 1)
  else (false, x)
abbrev entV (e : ByteArray × ByteArray) : CV := .a [.one (.string e.1), .one (.string e.2)]
theorem ord_len {ws : List ByteArray} (h : lineW ws = true) (ho : isOrd (headW ws) = true) : 2 ≤ ws.length := by
  match ws, h with
  | v :: r, h =>
    have hv : headW (v :: r) = v := rfl
    rw [hv] at ho
    have key : ∀ k, kindsF v = some k → 1 ≤ k.size := by
      unfold kindsF
      unfold isOrd at ho
      intro k hk
      by_cases h1 : kd v #[97, 100, 100] = true
      · rw [if_pos h1] at hk; cases hk; decide
      rw [if_neg h1] at hk
      by_cases h2 : kd v #[115, 101, 116] = true
      · rw [if_pos h2] at hk; cases hk; decide
      rw [if_neg h2] at hk
      by_cases h3 : kd v #[114, 101, 109, 111, 118, 101] = true
      · rw [if_pos h3] at hk; cases hk; decide
      rw [if_neg h3] at hk
      by_cases h4 : kd v #[99, 108, 101, 97, 114] = true
      · rw [if_pos h4] at hk; cases hk; decide
      simp [h1, h2, h3, h4] at ho
    unfold lineW at h
    cases hk : kindsF v with
    | none => simp [hk] at h
    | some k =>
      simp [hk] at h
      have := key k hk
      simp only [List.length_cons]
      omega
set_option maxHeartbeats 8000000 in
theorem fits_spec {m mm p : Mem} {b bm : Nat} {made wrong : Bool} {x : Bk} {e : ByteArray × ByteArray} (hg : Glob m) (hx : MaxL m) (hs : Split mm [p, m]) (hb : BkO p b bm made wrong x) (hl : e.1.size ≤ 10000) (ht : e.2.size ≤ 10000) :
    Spec Tryd.prog 13 [ptrB b, entV e] mm fun r m' => ∃ p', r = [boolV (fitsF x e.1 e.2).1] ∧ Split m' [p', m] ∧ BkO p' b bm made wrong (fitsF x e.1 e.2).2 := by
  obtain ⟨line, told⟩ := e
  simp only at hl ht ⊢
  have hm0 : Sub m mm := hs.sub (by simp)
  refine en13 rfl (goY ?_)
  conv => whnf
  refine xcall (deskIs_spec (hg.sub hm0) (hx.sub hm0) (s := line) hl) ?_
  rintro _ m1 ⟨rfl, hm1⟩
  conv => whnf
  refine ⟨fun h => ?_, fun h => ?_⟩
  · have hf : lineF line = false := by simpa using h
    have ho : fitsF x line told = (kd told #[98, 97, 100], x) := by unfold fitsF; rw [if_pos hf]
    conv => whnf
    rw [ho]
    exact ⟨p, rfl, hs.grow hm1, hb⟩
  have hf : ¬ lineF line = false := by simpa using h
  clear h
  have hs1 := hs.grow hm1
  clear hm1
  have hm1 : Sub m m1 := hs1.sub (by simp)
  conv => whnf
  refine xcall (split_spec (hx.sub hm1) (s := line) (p := spc) (by omega) (by decide)) ?_
  rintro _ m2 ⟨vw, q1, rfl, hs2', hw⟩
  conv => whnf
  have hs2 : Split m2 [q1, p, m] := hs2'.beside hs1
  refine xcall (split_spec (hx.sub (hs2.sub (a := m) (by simp))) (s := told) (p := nl) (by omega) (by decide)) ?_
  rintro _ m3 ⟨vl, q2, rfl, hs3', hv⟩
  conv => whnf
  have hs3 : Split m3 [q2, q1, p, m] := hs3'.beside hs2
  clear hs2' hs3' hs2 hs1
  have hfits : fitsF x line told = if kd (headW (wrds (headW (words nl told)))) #[101, 114, 114] = true then (!sureF (headW (wrds line)) && (decide ((words nl told).length = 1) && errF ((wrds (headW (words nl told))).drop 1)), x)
      else if kd (headW (wrds (headW (words nl told)))) #[111, 107] = true ∧ (audNums ((wrds (headW (words nl told))).drop 1)).contains (-1) = false then okF x (wrds line) (audNums ((wrds (headW (words nl told))).drop 1)) ((words nl told).drop 1)
      else (false, x) := by rw [fitsF, if_neg hf]
  rw [hfits]
  clear hfits
  have hlw : isOrd (headW (wrds line)) = true → 2 ≤ (wrds line).length := fun h => ord_len (by unfold lineF at hf; simp at hf; exact hf.1) h
  have hwp := wrds_pos line
  have hlp := (words_len (p := nl) (by decide) told)
  have hlz : ∀ w ∈ words nl told, w.size ≤ 10000 := fun w hw => Nat.le_trans (words_size nl _ told w hw) ht
  have hw : So q1 vw (wrds line) := hw
  generalize wrds line = ws at *
  generalize words nl told = ls at *
  obtain ⟨l0, ls, rfl⟩ : ∃ a b, ls = a :: b := by
    match ls, hlp.1 with
    | a :: b, _ => exact ⟨a, b, rfl⟩
  have hl0 : headW (l0 :: ls) = l0 := rfl
  rw [hl0]
  have hz0 : l0.size ≤ 10000 := hlz _ (by simp)
  obtain ⟨bl, ol, cl, rfl, hell⟩ := (hv.sl.sub (hs3.sub (a := q2) (by simp))).real hlp.1
  have hll0 := hell 0 hlp.1
  repeat (refine And.intro (by first | omega | (simp only [times]; omega)) ?_; conv => whnf)
  refine ⟨_, hll0, rfl, ?_⟩
  conv => whnf
  refine xcall (split_spec (hx.sub (hs3.sub (a := m) (by simp))) (s := l0) (p := spc) (by omega) (by decide)) ?_
  rintro _ m4 ⟨vt, q3, rfl, hs4', hvt⟩
  conv => whnf
  have hs4 : Split m4 [q3, q2, q1, p, m] := hs4'.beside hs3
  clear hs4' hs3
  have htp := wrds_pos l0
  have htz : ∀ w ∈ wrds l0, w.size ≤ 10000 := fun w hw => Nat.le_trans (words_size spc _ l0 w hw) hz0
  have htn : (wrds l0).length ≤ l0.size + 1 := (words_len (p := spc) (by decide) l0).2
  have hvt : So q3 vt (wrds l0) := hvt
  generalize wrds l0 = ts at *
  obtain ⟨t0, ts, rfl⟩ : ∃ a b, ts = a :: b := by
    match ts, htp with
    | a :: b, _ => exact ⟨a, b, rfl⟩
  have ht0 : headW (t0 :: ts) = t0 := rfl
  rw [ht0]
  obtain ⟨bt, ot, ct, rfl, helt⟩ := (hvt.sl.sub (hs4.sub (a := q3) (by simp))).real htp
  have htt0 := helt 0 htp
  have hvt := hvt.sl.sub (hs4.sub (a := q3) (by simp))
  have hv := hv.sl.sub (hs4.sub (a := q2) (by simp))
  have hw := hw.sl.sub (hs4.sub (a := q1) (by simp))
  repeat (refine And.intro (by first | omega | (simp only [times]; omega)) ?_; conv => whnf)
  refine ⟨_, htt0, rfl, ?_⟩
  conv => whnf
  refine ⟨fun h => ?_, fun h => ?_⟩
  · have hk : kd t0 #[101, 114, 114] = true := h
    rw [if_pos hk]
    clear h
    obtain ⟨w0, ws, rfl⟩ : ∃ a b, ws = a :: b := by
      match ws, hwp with
      | a :: b, _ => exact ⟨a, b, rfl⟩
    have hw0' : headW (w0 :: ws) = w0 := rfl
    rw [hw0']
    obtain ⟨bw, ow, cw, rfl, helw⟩ := hw.real hwp
    conv => whnf
    repeat (refine And.intro (by first | omega | (simp only [times]; omega)) ?_; conv => whnf)
    refine ⟨_, helw 0 hwp, rfl, ?_⟩
    conv => whnf
    first | refine xretk (sure_spec (s := w0)) ?_ | refine xret (sure_spec (s := w0)) ?_
    conv => whnf
    refine ⟨fun h => ?_, fun h => ?_⟩
    rotate_left
    · have h : sureF w0 = true := by simpa using h
      conv => whnf
      rw [h]
      exact ⟨p, rfl, hs4.drop.drop.drop, hb⟩
    have hsu : sureF w0 = false := by simpa using h
    clear h
    rw [hsu]
    conv => whnf
    refine ⟨fun h => ?_, fun h => ?_⟩
    rotate_left
    · have h : ¬ (l0 :: ls).length = 1 := by
        intro e
        rw [e] at h
        simp at h
      conv => whnf
      rw [decide_eq_false h]
      exact ⟨p, rfl, hs4.drop.drop.drop, hb⟩
    have hl1 : (l0 :: ls).length = 1 := by
      have : (((l0 :: ls).length : Int) == 1) = true := h
      have := of_decide_eq_true (by rw [← this]; rfl : decide (((l0 :: ls).length : Int) = 1) = true)
      omega
    clear h
    rw [decide_eq_true hl1]
    conv => whnf
    refine ⟨⟨by omega, by simp only [List.length_cons]; omega⟩, ?_⟩
    intro o' ho1 ho2
    conv => whnf
    have hpost := Sl.post (o' := o') (h := 1) hvt htp (fun h => by have := ho1 h; simpa using this)
    first | refine xretk (isErr_spec (hg.sub (hs4.sub (a := m) (by simp))) (.inl hpost) (by rw [List.length_drop]; omega) (fun w hw => by have := htz w (List.mem_of_mem_drop hw); omega)) ?_ | refine xret (isErr_spec (hg.sub (hs4.sub (a := m) (by simp))) (.inl hpost) (by rw [List.length_drop]; omega) (fun w hw => by have := htz w (List.mem_of_mem_drop hw); omega)) ?_
    conv => whnf
    exact ⟨p, rfl, hs4.drop.drop.drop, hb⟩
  have hk : ¬ kd t0 #[101, 114, 114] = true := by unfold kd; simpa using h
  rw [if_neg hk]
  clear h
  conv => whnf
  refine ⟨⟨by omega, by simp only [List.length_cons]; omega⟩, ?_⟩
  intro o' ho1 ho2
  conv => whnf
  have hpost := Sl.post (o' := o') (h := 1) hvt htp (fun h => by have := ho1 h; simpa using this)
  refine xcall (audNumbers_spec (hg.sub (hs4.sub (a := m) (by simp))) (.inl hpost) (by rw [List.length_drop]; omega) (fun w hw => by have := htz w (List.mem_of_mem_drop hw); omega)) ?_
  rintro _ m5 ⟨vn, q4, rfl, hs5', hvn⟩
  conv => whnf
  have hs5 : Split m5 [q4, q3, q2, q1, p, m] := hs5'.beside hs4
  have h45 : Sub m4 m5 := hs5'.sub (by simp)
  clear hs5'
  obtain ⟨_, _, _, et, helt⟩ := (hvt.sub h45).real (i := 0) htp
  injection et with et1 et2 et3
  injection et1 with et1
  injection et1 with et1 et4
  subst et1 et4
  repeat (refine And.intro (by first | omega | (simp only [times]; omega)) ?_; conv => whnf)
  refine ⟨_, helt 0 htp, rfl, ?_⟩
  conv => whnf
  refine ⟨fun h => ?_, fun h => ?_⟩
  rotate_left
  · have h : ¬ (kd t0 #[111, 107] = true ∧ (audNums ((t0 :: ts).drop 1)).contains (-1) = false) := fun e => by
      have e1 := e.1
      unfold kd at e1
      have : ((t0 :: ts)[0].toList == (⟨#[111, 107]⟩ : ByteArray).toList) = false := h
      rw [show (t0 :: ts)[0] = t0 from rfl, e1] at this
      cases this
    rw [if_neg h]
    conv => whnf
    exact ⟨p, rfl, hs5.drop.drop.drop.drop, hb⟩
  have hok : kd t0 #[111, 107] = true := h
  clear h
  conv => whnf
  refine ⟨fun h => ?_, fun h => ?_⟩
  rotate_left
  · have hc : (audNums ((t0 :: ts).drop 1)).contains (-1) = true := by simpa using h
    rw [if_neg (fun e => by rw [hc] at e; exact absurd e.2 (by decide))]
    conv => whnf
    exact ⟨p, rfl, hs5.drop.drop.drop.drop, hb⟩
  have hc : (audNums ((t0 :: ts).drop 1)).contains (-1) = false := by simpa using h
  rw [if_pos ⟨hok, hc⟩]
  clear h
  conv => whnf
  refine ⟨⟨by omega, by simp only [List.length_cons]; omega⟩, ?_⟩
  intro o2 ho3 ho4
  conv => whnf
  obtain ⟨J, hJ, hsJ, back⟩ := Split.pickP (hs5.perm (l' := [p, q4, q3, q2, q1, m]) (by classical exact List.perm_iff_count.2 fun x => by simp only [List.count_cons, List.count_nil]; ac_rfl))
  have hwJ : Sa J _ ws := .inl ((So.sl ‹So q1 _ ws›).sub (hJ q1 (by simp)))
  have hlJ := (So.sl ‹So q2 _ (l0 :: ls)›).sub (hJ q2 (by simp))
  have hpl := Sl.post (o' := o2) (h := 1) hlJ hlp.1 (fun h => by have := ho3 h; simpa using this)
  refine xcall (ok_spec (hg.sub (hJ m (by simp))) (hx.sub (hJ m (by simp))) hsJ hb hwJ (hvn.il.sub (hJ q4 (by simp))).ia (.inl hpl) hwp hlw (by simp only [audNums, List.length_map, List.length_drop, List.length_cons] at htn ⊢; omega) (by simp only [List.length_drop, List.length_cons] at hlp ⊢; omega) (fun s hs => hlz s (List.mem_of_mem_drop hs))) ?_
  rintro _ m6 ⟨p', rfl, hs6, hb'⟩
  conv => whnf
  exact ⟨p', rfl, ((back _ _ hs6).perm (l' := [q4, q3, q2, q1, p', m]) (by classical exact List.perm_iff_count.2 fun x => by simp only [List.count_cons, List.count_nil]; ac_rfl)).drop.drop.drop.drop, hb'⟩
end Go.E.YtconjimbfhpfgaaDoor

/-
  A book hears an entry; a new book.
-/
namespace Go.E.YtconjimbfhpfgaaDoor
open Go.Proofs
set_option maxRecDepth 100000
/-- what a book says, and what it is behind it: whether it is wrong, what it keeps -/
noncomputable def hearF (wrong : Bool) (x : Bk) (e : ByteArray × ByteArray) : (Bool × Int) × Bool × Bk :=
  if wrong = true then ((false, 7), true, x)
  else (((fitsF { x with heard := IntKind.i64.wrap (x.heard + 1) } e.1 e.2).1, 0), !(fitsF { x with heard := IntKind.i64.wrap (x.heard + 1) } e.1 e.2).1, (fitsF { x with heard := IntKind.i64.wrap (x.heard + 1) } e.1 e.2).2)
theorem hear_nil {m : Mem} {e : ByteArray × ByteArray} : Ret Tryd.prog 9 [.v (.pointer none), entV e] m [boolV false, i64 6] := by
  refine en9 rfl (goY ?_)
  conv => whnf
  refine ⟨fun _ => ?_, fun h => absurd h (by first | decide | simp)⟩
  conv => whnf
  exact ⟨rfl, rfl⟩
theorem hear_zero {m : Mem} {b : Nat} {arr : Array Value} {e : ByteArray × ByteArray} (h : m b = some (.cells arr 36)) (h1 : arr[0]? = some (.bool false)) : Ret Tryd.prog 9 [ptrB b, entV e] m [boolV false, i64 6] := by
  refine en9 rfl (goY ?_)
  conv => whnf
  refine ⟨fun h => absurd h (by first | decide | simp), fun _ => ?_⟩
  conv => whnf
  refine ⟨_, mcell_of h h1, rfl, ?_⟩
  conv => whnf
  refine ⟨fun _ => ?_, fun h => absurd h (by first | decide | simp)⟩
  conv => whnf
  exact ⟨rfl, rfl⟩
theorem heard_nil {m : Mem} : Ret Tryd.prog 10 [.v (.pointer none)] m [i64 0] := by
  refine en10 rfl (goY ?_)
  conv => whnf
  refine ⟨fun _ => ?_, fun h => absurd h (by first | decide | simp)⟩
  conv => whnf
  exact ⟨rfl, rfl⟩
theorem heard_spec {m : Mem} {b : Nat} {arr : Array Value} {n : Int} (h : m b = some (.cells arr 36)) (h1 : arr[2]? = some (.int .i64 n)) : Ret Tryd.prog 10 [ptrB b] m [i64 n] := by
  refine en10 rfl (goY ?_)
  conv => whnf
  refine ⟨fun h => absurd h (by first | decide | simp), fun _ => ?_⟩
  conv => whnf
  refine ⟨_, mcell_of h h1, rfl, ?_⟩
  conv => whnf
  exact ⟨rfl, rfl⟩
set_option maxHeartbeats 8000000 in
theorem hear_spec {m mm p : Mem} {b bm : Nat} {wrong : Bool} {x : Bk} {e : ByteArray × ByteArray} (hg : Glob m) (hx : MaxL m) (hs : Split mm [p, m]) (hb : BkO p b bm true wrong x) (hl : e.1.size ≤ 10000) (ht : e.2.size ≤ 10000) :
    Spec Tryd.prog 9 [ptrB b, entV e] mm fun r m' => ∃ p', r = [boolV (hearF wrong x e).1.1, i64 (hearF wrong x e).1.2] ∧ Split m' [p', m] ∧ BkO p' b bm true (hearF wrong x e).2.1 (hearF wrong x e).2.2 := by
  have hB := hs.get (a := p) (by simp) hb.book
  refine en9 rfl (goY ?_)
  conv => whnf
  refine ⟨fun h => absurd h (by first | decide | simp), fun _ => ?_⟩
  conv => whnf
  refine ⟨_, mcell_of hB rfl, rfl, ?_⟩
  conv => whnf
  refine ⟨fun h => absurd h (by first | decide | simp), fun _ => ?_⟩
  conv => whnf
  refine ⟨_, mcell_of hB rfl, rfl, ?_⟩
  conv => whnf
  cases wrong with
  | true =>
    refine ⟨fun _ => ?_, fun h => absurd h (by first | decide | simp)⟩
    conv => whnf
    exact ⟨p, rfl, hs, hb⟩
  | false =>
  refine ⟨fun h => absurd h (by first | decide | simp), fun _ => ?_⟩
  conv => whnf
  refine ⟨_, mcell_of hB rfl, rfl, ?_⟩
  conv => whnf
  refine ⟨_, _, _, hB, ⟨by simp, by simp⟩, ?_⟩
  conv => whnf
  have hb1 := hb.setB true false (IntKind.i64.wrap (x.heard + 1)) x.orders
  generalize hM : Mem.set mm b _ = m1
  have hs1 : Split m1 [p.set b (bookO true false (IntKind.i64.wrap (x.heard + 1)) x.orders bm), m] := by rw [← hM]; exact hs.set hb.book _
  clear hM
  refine xcall (fits_spec hg hx hs1 hb1 (e := e) hl ht) ?_
  rintro _ m2 ⟨p2, rfl, hs2, hb2⟩
  conv => whnf
  have hB2 := hs2.get (a := p2) (by simp) hb2.book
  refine ⟨_, _, _, hB2, ⟨by simp, by simp⟩, ?_⟩
  conv => whnf
  have hb3 := hb2.setB true (!(fitsF { x with heard := IntKind.i64.wrap (x.heard + 1) } e.1 e.2).1) (fitsF { x with heard := IntKind.i64.wrap (x.heard + 1) } e.1 e.2).2.heard (fitsF { x with heard := IntKind.i64.wrap (x.heard + 1) } e.1 e.2).2.orders
  generalize hM : Mem.set m2 b _ = m3
  have hs3 : Split m3 [p2.set b (bookO true (!(fitsF { x with heard := IntKind.i64.wrap (x.heard + 1) } e.1 e.2).1) (fitsF { x with heard := IntKind.i64.wrap (x.heard + 1) } e.1 e.2).2.heard (fitsF { x with heard := IntKind.i64.wrap (x.heard + 1) } e.1 e.2).2.orders bm), m] := by rw [← hM]; exact hs2.set hb2.book _
  clear hM
  have hB3 := hs3.get (a := p2.set b _) (by simp) hb3.book
  refine ⟨_, mcell_of hB3 rfl, rfl, ?_⟩
  conv => whnf
  have he : hearF false x e = (((fitsF { x with heard := IntKind.i64.wrap (x.heard + 1) } e.1 e.2).1, 0), !(fitsF { x with heard := IntKind.i64.wrap (x.heard + 1) } e.1 e.2).1, (fitsF { x with heard := IntKind.i64.wrap (x.heard + 1) } e.1 e.2).2) := rfl
  rw [he]
  exact ⟨_, by cases (fitsF { x with heard := IntKind.i64.wrap (x.heard + 1) } e.1 e.2).1 <;> rfl, hs3, hb3⟩
theorem newB_spec {m : Mem} : Spec Tryd.prog 8 [] m fun r m' => ∃ b bm p, r = [ptrB b] ∧ Split m' [p, m] ∧ BkO p b bm true false ⟨0, 0, [], 0⟩ := by
  refine en8 rfl (goY ?_)
  conv => whnf
  refine .mk _ (makeMap_spec (enc := plc)) ?_
  rintro _ m1 ⟨bm, hbm, rfl, rfl⟩
  conv => whnf
  intro b hb
  conv => whnf
  have hs := ((Split.one m).new hbm (dotsO ⟨0, 0, [], 0⟩)).new hb (bookO true false 0 0 bm)
  have hs := hs.perm (l' := [m, blk1 b (bookO true false 0 0 bm), blk1 bm (dotsO ⟨0, 0, [], 0⟩)]) (by exact (List.Perm.cons _ (List.Perm.swap _ _ _)).trans (List.Perm.swap _ _ _))
  exact ⟨b, bm, _, rfl, (Split.restP hs).1, ⟨(Split.restP hs).2⟩⟩
end Go.E.YtconjimbfhpfgaaDoor

/-
  A store of some of an element's cells.
-/
namespace Go.E
section
variable {α : Type} {enc : α → List Value} {s : Nat}
theorem put_part {arr : Array Value} {a j : Nat} {old cs : List Value} (hfit : a + old.length ≤ arr.size) (hold : ∀ k u, old[k]? = some u → arr[a + k]? = some u) (hj : j + cs.length ≤ old.length) :
    arr.toList.take a ++ ((old.take j ++ cs ++ old.drop (j + cs.length)) ++ arr.toList.drop (a + old.length)) = arr.toList.take (a + j) ++ (cs ++ arr.toList.drop (a + j + cs.length)) := by
  have hlen : (old.take j ++ cs ++ old.drop (j + cs.length)).length = old.length := by
    simp only [List.length_append, List.length_take, List.length_drop]; omega
  have h1 := fun k u => put_cells (arr := arr) (cs := old.take j ++ cs ++ old.drop (j + cs.length)) (a := a) (j := k) (u := u) (by rw [hlen]; exact hfit)
  have h2 := fun k u => put_cells (arr := arr) (cs := cs) (a := a + j) (j := k) (u := u) (by omega)
  rw [hlen] at h1
  refine List.ext_getElem? fun k => Option.ext fun u => ?_
  have h1 := h1 k u
  have h2 := h2 k u
  rw [List.getElem?_toArray] at h1 h2
  rw [h1, h2]
  by_cases k1 : k < a
  · rw [if_pos k1, if_pos (by omega)]
  rw [if_neg k1]
  by_cases k2 : k < a + old.length
  · rw [if_pos k2]
    have hin : ∃ w, old[k - a]? = some w := ⟨_, List.getElem?_eq_getElem (by omega)⟩
    obtain ⟨w, hw⟩ := hin
    have hw' := hold _ _ hw
    rw [show a + (k - a) = k by omega] at hw'
    by_cases k3 : k < a + j
    · rw [if_pos k3, List.append_assoc, List.getElem?_append_left (by rw [List.length_take]; omega), List.getElem?_take, if_pos (by omega), hw, hw']
    · rw [if_neg k3]
      by_cases k4 : k < a + j + cs.length
      · rw [if_pos k4, List.append_assoc, List.getElem?_append_right (by rw [List.length_take]; omega), List.length_take, List.getElem?_append_left (by omega), show k - a - min j old.length = k - (a + j) by omega]
      · rw [if_neg k4, List.getElem?_append_right (by rw [List.length_append, List.length_take]; omega), List.length_append, List.length_take, List.getElem?_drop, show j + cs.length + (k - a - (min j old.length + cs.length)) = k - a by omega, hw, hw']
  · rw [if_neg k2, if_neg (by omega), if_neg (by omega)]
/-- some of an element's cells are stored -/
theorem EncOk.setPart (h : EncOk enc s) {p : Mem} {T : TypeId} {b o n c : Nat} {E : List α} (hl : Own p T s (.slice (some ⟨b, o, none⟩) n c) (E.flatMap enc)) {i j : Nat} (hi : i < E.length) {cs : List Value} {x : α} (hj : j + cs.length ≤ s) (hx : enc x = (enc E[i]).take j ++ cs ++ (enc E[i]).drop (j + cs.length)) :
    ∃ arr, p b = some (.cells arr T (0, 0)) ∧ o + i * s + j + cs.length ≤ arr.size ∧ Own (p.set b (.cells (arr.toList.take (o + i * s + j) ++ (cs ++ arr.toList.drop (o + i * s + j + cs.length))).toArray T (0, 0))) T s (.slice (some ⟨b, o, none⟩) n c) ((E.set i x).flatMap enc) := by
  obtain ⟨arr, h1, h2, h3⟩ := h.set hl hi x
  obtain ⟨arr', g1, _, _, _, g5⟩ := h.row hl
  rw [h1] at g1
  cases g1
  refine ⟨arr, h1, by omega, ?_⟩
  have hold : ∀ k u, (enc E[i])[k]? = some u → arr[o + i * s + k]? = some u := fun k u hu => by
    rw [Nat.add_assoc]
    exact g5 _ _ (h.at hi hu)
  rw [hx] at h3
  have := put_part (arr := arr) (a := o + i * s) (j := j) (old := enc E[i]) (cs := cs) (by rw [h.len]; exact h2) hold (by rw [h.len]; exact hj)
  rw [h.len] at this
  rw [this] at h3
  exact h3
theorem setIf_eq {arr : Array Value} {a : Nat} {u : Value} (h : a < arr.size) : (arr.toList.take a ++ ([u] ++ arr.toList.drop (a + 1))).toArray = arr.setIfInBounds a u := by
  apply Array.toList_inj.1
  rw [Array.toList_setIfInBounds, List.set_eq_take_append_cons_drop, if_pos (by rw [Array.length_toList]; exact h)]
  rfl
/-- one cell of an element is stored -/
theorem EncOk.setCell (h : EncOk enc s) {p : Mem} {T : TypeId} {b o n c : Nat} {E : List α} (hl : Own p T s (.slice (some ⟨b, o, none⟩) n c) (E.flatMap enc)) {i j : Nat} (hi : i < E.length) {u : Value} {x : α} (hj : j < s) (hx : enc x = (enc E[i]).take j ++ [u] ++ (enc E[i]).drop (j + 1)) :
    ∃ arr, p b = some (.cells arr T (0, 0)) ∧ o + i * s + j < arr.size ∧ Own (p.set b (.cells (arr.setIfInBounds (o + i * s + j) u) T (0, 0))) T s (.slice (some ⟨b, o, none⟩) n c) ((E.set i x).flatMap enc) := by
  obtain ⟨arr, h1, h2, h3⟩ := h.setPart (cs := [u]) hl hi (by simp only [List.length_cons, List.length_nil]; omega) hx
  simp only [List.length_cons, List.length_nil] at h2 h3
  rw [setIf_eq (by omega)] at h3
  exact ⟨arr, h1, by omega, h3⟩
end
end Go.E

/-
  The place of the first entry that does not fit.
-/
namespace Go.E.YtconjimbfhpfgaaDoor
open Go.Proofs
set_option maxRecDepth 100000
abbrev Ent2 : Type := ByteArray × ByteArray
def entC (e : Ent2) : List Value := [.string e.1, .string e.2]
theorem entOk : EncOk entC 2 := ⟨fun _ => rfl, fun x u hu => by simp [entC] at hu; rcases hu with rfl | rfl <;> rfl, by decide⟩
/-- entries that lie somewhere, or none, wherever -/
def Na (m : Mem) (v : Value) (E : List Ent2) : Prop := Lies m 2 v (E.flatMap entC) ∨ (E = [] ∧ ∃ a, v = .slice (some a) 0 0)
theorem Na.shape {m : Mem} {v : Value} {E : List Ent2} (h : Na m v E) : ∃ a c, v = .slice a E.length c := by
  rcases h with h | ⟨rfl, a, rfl⟩
  · exact entOk.shape h
  · exact ⟨_, _, rfl⟩
theorem Na.sub {m m' : Mem} {v : Value} {E : List Ent2} (h : Na m v E) (hs : Sub m m') : Na m' v E := h.imp (·.sub hs) id
theorem Na.real {m : Mem} {v : Value} {E : List Ent2} (h : Na m v E) {i : Nat} (hi : i < E.length) : ∃ b o c, v = .slice (some ⟨b, o, none⟩) E.length c ∧ ∀ j (hj : j < E.length), MRange m b (o + j * 2) (entC E[j]) := by
  rcases h with h | ⟨rfl, _⟩
  · exact entOk.real h hi
  · simp at hi
/-- entries that are not too much -/
def Ok2 (E : List Ent2) : Prop := ∀ e ∈ E, e.1.size ≤ 10000 ∧ e.2.size ≤ 10000
/-- how many entries fit, from the first one on -/
noncomputable def firstF (wrong : Bool) (x : Bk) : List Ent2 → Nat
  | [] => 0
  | e :: r => if (hearF wrong x e).1.1 = true then firstF (hearF wrong x e).2.1 (hearF wrong x e).2.2 r + 1 else 0
theorem firstF_le (wrong : Bool) (x : Bk) (E : List Ent2) : firstF wrong x E ≤ E.length := by
  induction E generalizing wrong x with
  | nil => exact Nat.le_refl _
  | cons e r ih =>
    rw [firstF, List.length_cons]
    split
    · exact Nat.succ_le_succ (ih _ _)
    · omega
abbrev fnW (F b : Nat) : CV := .v (.func (.func F) #[] #[.pointer (some ⟨b, 0, none⟩)])
theorem judge1_spec {m mm p : Mem} {b bm bc : Nat} {wrong : Bool} {x : Bk} {e : Ent2} {T : TypeId} (hg : Glob m) (hx : MaxL m) (hs : Split mm [p, m]) (hb : BkO p b bm true wrong x) (hc : m bc = some (.cells #[.pointer (some ⟨b, 0, none⟩)] T)) (hl : e.1.size ≤ 10000) (ht : e.2.size ≤ 10000) :
    Spec Tryd.prog 11 [entV e, .v (.pointer (some ⟨bc, 0, none⟩))] mm fun r m' => ∃ p', r = [boolV (!(hearF wrong x e).1.1)] ∧ Split m' [p', m] ∧ BkO p' b bm true (hearF wrong x e).2.1 (hearF wrong x e).2.2 := by
  refine en11 rfl (goY ?_)
  conv => whnf
  refine ⟨_, mcell_of (hs.get (a := m) (by simp) hc) rfl, rfl, ?_⟩
  conv => whnf
  refine xcall (hear_spec hg hx hs hb (e := e) hl ht) ?_
  rintro _ m1 ⟨p', rfl, hs', hb'⟩
  conv => whnf
  exact ⟨p', rfl, hs', hb'⟩
set_option maxHeartbeats 4000000 in
theorem indexN_spec {m mm p : Mem} {b bm bc : Nat} {v : Value} {x : Bk} {E : List Ent2} {T : TypeId} (hg : Glob m) (hx : MaxL m) (hs : Split mm [p, m]) (hb : BkO p b bm true false x) (hc : m bc = some (.cells #[.pointer (some ⟨b, 0, none⟩)] T)) (hv : Na m v E) (hE : Ok2 E) (hl : E.length ≤ 100000000) :
    Spec Tryd.prog 12 [.v v, fnW 11 bc] mm fun r m' => r = [i64 (if firstF false x E < E.length then (firstF false x E : Int) else -1)] ∧ Sub m m' := by
  obtain ⟨a, c, rfl⟩ := hv.shape
  refine en12 rfl (goY ?_)
  conv => whnf
  refine .mk (ι := Nat × Mem × Bool × Bk) (fun i => E.length - i.1) (fun ⟨i, q, w, y⟩ m1 => i ≤ E.length ∧ firstF false x E = i + firstF w y (E.drop i) ∧ Split m1 [q, m] ∧ BkO q b bm true w y) (fun ⟨i, _, _, _⟩ => [(0, .c (.v (.slice a E.length c))), (1, .c (fnW 11 bc)), (7, .c (i64 E.length)), (8, .c (i64 i))]) (fun _ => []) (0, p, false, x) ⟨by omega, by simp, hs, hb⟩ ?_ ?_
  · conv => whnf
    repeat (refine And.intro (by first | with_reducible rfl | exact congrArg (Value.int _) (wi (by omega) (by omega)) | exact wi (by omega) (by omega) | rfl) ?_; conv => whnf)
    first | exact trivial | exact fun _ _ h => h
  rintro ⟨i, q, w, y⟩ m1 ⟨hi, hf, hs1, hb1⟩
  conv => whnf
  refine ⟨fun h => ?_, fun h => ?_⟩
  · have h' := of_decide_eq_true h
    have hlt : i < E.length := by omega
    obtain ⟨bl, ol, c', hh, hgr⟩ := (hv.sub (hs1.sub (a := m) (by simp))).real hlt
    injection hh with hh1 _ hh3
    subst hh1
    clear hh3 c'
    have hgr := hgr i hlt
    have hEi := hE _ (List.getElem_mem hlt)
    rw [List.drop_eq_getElem_cons hlt, firstF] at hf
    conv => whnf
    repeat (refine And.intro (by first | omega | (simp only [times]; omega)) ?_; conv => whnf)
    refine ⟨[.one (.string E[i].1), .one (.string E[i].2)], ⟨rfl, rfl, trivial⟩, rfl, by simp only [times, Int.toNat_natCast]; exact hgr, ?_⟩
    conv => whnf
    refine xcall (judge1_spec hg hx hs1 hb1 hc (e := E[i]) hEi.1 hEi.2) ?_
    rintro _ m2 ⟨q', rfl, hs2, hb2⟩
    conv => whnf
    refine ⟨fun h => ?_, fun h => ?_⟩
    · have h0 : (hearF w y E[i]).1.1 = false := by simpa using h
      rw [h0, if_neg (by decide)] at hf
      conv => whnf
      rw [hf, if_pos (by omega)]
      exact ⟨rfl, hs2.sub (by simp)⟩
    · have h0 : (hearF w y E[i]).1.1 = true := by simpa using h
      rw [h0, if_pos rfl] at hf
      conv => whnf
      refine ⟨(i + 1, q', (hearF w y E[i]).2.1, (hearF w y E[i]).2.2), ⟨by omega, by rw [hf]; omega, hs2, hb2⟩, by simp only; omega, ?_⟩
      conv => whnf
      repeat (refine And.intro (by first | with_reducible rfl | (first | exact congrArg (Value.int _) (iadd (by omega))) | exact congrArg (Value.int _) (wi (by omega) (by omega)) | exact wi (by omega) (by omega) | rfl) ?_; conv => whnf)
      first | exact trivial | exact fun _ _ h => h
  · have h' := of_decide_eq_false h
    obtain rfl : i = E.length := by omega
    rw [List.drop_length, firstF] at hf
    conv => whnf
    rw [if_neg (by omega)]
    exact ⟨rfl, hs1.sub (by simp)⟩
theorem judge_spec {m : Mem} {v : Value} {E : List Ent2} (hg : Glob m) (hx : MaxL m) (hv : Na m v E) (hE : Ok2 E) (hl : E.length ≤ 100000000) :
    Spec Tryd.prog 7 [.v v] m fun r m' => r = [i64 (firstF false ⟨0, 0, [], 0⟩ E : Nat)] ∧ Sub m m' := by
  obtain ⟨a, c, rfl⟩ := hv.shape
  refine en7 rfl (goY ?_)
  conv => whnf
  refine xcall (newB_spec) ?_
  rintro _ m1 ⟨b, bm, p, rfl, hs, hb⟩
  conv => whnf
  intro bc hbc
  conv => whnf
  refine ⟨_, _, _, Mem.set_same .., ⟨by decide, by simp⟩, ?_⟩
  conv => whnf
  refine .mk _ (makeFunc_spec (cs := [.pointer (some ⟨bc, 0, none⟩)]) (by simp [Value.oneCell'])) ?_
  rintro _ _ ⟨rfl, rfl⟩
  conv => whnf
  rw [Mem.set_set]
  have hs2 := (hs.new hbc (.cells #[.pointer (some ⟨b, 0, none⟩)] 26))
  obtain ⟨J, hJ, hsJ, back⟩ := Split.pickP (hs2.perm (List.Perm.swap _ _ _))
  refine xcall (indexN_spec (T := 26) (hg.sub (hJ m (by simp))) (hx.sub (hJ m (by simp))) hsJ hb (hJ _ (List.mem_cons_self ..) _ _ (blk1_same ..)) (hv.sub (hJ m (by simp))) hE hl) ?_
  rintro _ m2 ⟨rfl, hm2⟩
  conv => whnf
  have hm : Sub m m2 := (hJ m (by simp)).trans hm2
  have hle := firstF_le false ⟨0, 0, [], 0⟩ E
  refine ⟨fun h => ?_, fun h => ?_⟩
  · have h := of_decide_eq_true h
    split at h
    · rename_i hlt
      conv => whnf
      rw [if_pos hlt]
      exact ⟨rfl, hm⟩
    · omega
  · have h := of_decide_eq_false h
    split at h
    · omega
    · rename_i hlt
      conv => whnf
      refine ⟨?_, hm⟩
      rw [show firstF false ⟨0, 0, [], 0⟩ E = E.length by omega]
end Go.E.YtconjimbfhpfgaaDoor

/-
  Entries that are too much; what must come of fixed calls.
-/
namespace Go.E.YtconjimbfhpfgaaDoor
open Go.Proofs
set_option maxRecDepth 100000
set_option maxHeartbeats 4000000 in
theorem great38_spec {m : Mem} {v : Value} {E : List Ent2} (hv : Na m v E) (hl : E.length ≤ 9223372036854775807) : Spec Tryd.prog 5 [.v v] m fun r m' => ∃ g, r = [boolV g] ∧ (g = false → E.length ≤ 60 ∧ ∀ e ∈ E, e.1.size ≤ 300 ∧ e.2.size ≤ 4000) ∧ m' = m := by
  obtain ⟨a, c, rfl⟩ := hv.shape
  refine en5 rfl (goY ?_)
  conv => whnf
  refine .mk (ι := Nat × Int) (fun i => E.length - i.1) (fun ⟨i, s⟩ mm => i ≤ E.length ∧ (0 < i → E.length ≤ 60) ∧ (∀ e ∈ E.take i, e.1.size ≤ 300 ∧ e.2.size ≤ 4000) ∧ 0 ≤ s ∧ s ≤ 4000 * i ∧ mm = m) (fun ⟨i, s⟩ => [(0, .c (.v (.slice a E.length c))), (3, .c (i64 s)), (4, .c (i64 i))]) (fun _ => []) (0, 0) ⟨by omega, by omega, by simp, by omega, by omega, rfl⟩ ?_ ?_
  · conv => whnf
    repeat (refine And.intro (by first | with_reducible rfl | exact congrArg (Value.int _) (wi (by omega) (by omega)) | exact wi (by omega) (by omega) | rfl) ?_; conv => whnf)
    first | exact trivial | exact fun _ _ h => h
  rintro ⟨i, s⟩ mm ⟨hi, h60, hall, hs0, hs1, he⟩
  subst mm
  conv => whnf
  refine ⟨fun h => ?_, fun h => ?_⟩
  · have h' := of_decide_eq_true h
    have hlt : i < E.length := by omega
    obtain ⟨bl, ol, c', hh, hgr⟩ := hv.real hlt
    injection hh with hh1 _ hh3
    subst hh1
    clear hh3 c' h
    have hgr := hgr i hlt
    have g0 := mcell_rng hgr (j := 0) rfl
    have g1 := mcell_rng hgr (j := 1) rfl
    conv => whnf
    refine ⟨fun h => ?_, fun h => ?_⟩
    · conv => whnf
      exact ⟨true, rfl, fun h => (by cases h), rfl⟩
    have hl60 : E.length ≤ 60 := by have := of_decide_eq_false h; omega
    clear h
    conv => whnf
    repeat (refine And.intro (by first | omega | (simp only [times]; omega)) ?_; conv => whnf)
    refine ⟨_, g0, rfl, ?_⟩
    conv => whnf
    refine ⟨fun h => ?_, fun h => ?_⟩
    · conv => whnf
      exact ⟨true, rfl, fun h => (by cases h), rfl⟩
    have hz0 : E[i].1.size ≤ 300 := by have := of_decide_eq_false h; omega
    clear h
    conv => whnf
    repeat (refine And.intro (by first | omega | (simp only [times]; omega)) ?_; conv => whnf)
    refine ⟨_, g1, rfl, ?_⟩
    conv => whnf
    refine ⟨fun h => ?_, fun h => ?_⟩
    · conv => whnf
      exact ⟨true, rfl, fun h => (by cases h), rfl⟩
    have hz1 : E[i].2.size ≤ 4000 := by have := of_decide_eq_false h; omega
    clear h
    conv => whnf
    repeat (refine And.intro (by first | omega | (simp only [times]; omega)) ?_; conv => whnf)
    refine ⟨_, g1, rfl, ?_⟩
    conv => whnf
    have hst : E.take (i + 1) = E.take i ++ [E[i]] := List.take_succ_eq_append_getElem hlt
    refine ⟨(i + 1, s + (E[i].2.size : Int)), ⟨by omega, fun _ => hl60, fun e he => ?_, by omega, by omega, rfl⟩, by simp only; omega, ?_⟩
    · rw [hst] at he
      rcases List.mem_append.1 he with he | he
      · exact hall e he
      · rw [List.mem_singleton.1 he]; exact ⟨hz0, hz1⟩
    conv => whnf
    repeat (refine And.intro (by first | with_reducible rfl | (first | exact congrArg (Value.int _) (iadd1 (by omega)) | exact congrArg (Value.int _) (iadd (by omega))) | exact congrArg (Value.int _) (wi (by omega) (by omega)) | exact wi (by omega) (by omega) | rfl) ?_; conv => whnf)
    first | exact trivial | exact fun _ _ h => h
  · have h' := of_decide_eq_false h
    obtain rfl : i = E.length := by omega
    rw [List.take_length] at hall
    conv => whnf
    refine ⟨_, rfl, fun _ => ⟨?_, hall⟩, rfl⟩
    by_cases h0 : 0 < E.length
    · exact h60 h0
    · omega
end Go.E.YtconjimbfhpfgaaDoor
