/-
  ByB, Cat, E27, E28, E29, E30, E31, Fi1, Fi2, SortLay, SortS, Fi3
-/
import Derived.Test.YtgjlajcebcmbaaaGreatDoorSnapLivesZ6
import Derived.Laws.LoneSync
import Derived.Lib.Overlaps
import Derived.MapKept
import Derived.Laws.NewFold
import Derived.Shelf.Slices.In.SortAlone
import Derived.Shelf.Slices.In.SortNone
/-
  Bytes: what is owned, appended.
-/
namespace Go.E.YtgjlajcebcmbaaaGreatDoor
open Go.Proofs
set_option maxRecDepth 100000

theorem Own.store {p : Mem} {e : TypeId} {b o n c k : Nat} {l : List Value} {x : Value} (h : Own p e 1 (.slice (some ⟨b, o, none⟩) n c) l) (hk : k < l.length) (hx : x.oneCell' = true) :
    ∃ arr, p b = some (.cells arr e (0, 0)) ∧ o + k < arr.size ∧ Own (p.set b (.cells (arr.setIfInBounds (o + k) x) e (0, 0))) e 1 (.slice (some ⟨b, o, none⟩) n c) (l.set k x) := by
  rcases h with ⟨h, _⟩ | ⟨b', o', c', n', arr, h, h1, h2, h3, h4, h5, h6⟩
  · cases h
  · cases h
    rw [Nat.mul_one] at h2 h4
    refine ⟨arr, h1, by omega, .inr ⟨b, o, c, n, _, rfl, Mem.set_same .., by simp; omega, h3, by simp; omega, fun j u hu => ?_, fun u hu => ?_⟩⟩
    · rw [List.getElem?_set] at hu
      rw [Array.getElem?_setIfInBounds]
      by_cases e : k = j
      · subst e
        rw [if_pos rfl, if_pos hk] at hu
        cases hu
        rw [if_pos rfl, if_pos (by omega)]
      · rw [if_neg e] at hu
        rw [if_neg (by omega)]
        exact h5 j u hu
    · rcases List.mem_or_eq_of_mem_set hu with hu | rfl
      · exact h6 u hu
      · exact hx
/-- bytes that are owned -/
def Bs (m : Mem) (v : Value) (l : List Int) : Prop := Own m 5 1 v (bc l)
theorem Bs.lb {p : Mem} {v : Value} {l : List Int} (h : Bs p v l) : Lb p v l := Own.lies h
theorem Bs.len {p : Mem} {v : Value} {l : List Int} (h : Bs p v l) : lenV v = l.length := h.lb.len
theorem Bs.sub {m m' : Mem} {v : Value} {l : List Int} (h : Bs m v l) (hs : Sub m m') : Bs m' v l := Own.sub h hs
theorem Bs.keep {m m' : Mem} {v : Value} {l : List Int} (h : Bs m v l) (hs : ∀ b, blkV v = some b → m' b = m b) : Bs m' v l := Own.keep h hs
theorem Bs.store {p : Mem} {b o n c k : Nat} {l : List Int} {x : Int} (h : Bs p (.slice (some ⟨b, o, none⟩) n c) l) (hk : k < l.length) :
    ∃ arr, p b = some (.cells arr 5 (0, 0)) ∧ o + k < arr.size ∧ Bs (p.set b (.cells (arr.setIfInBounds (o + k) (.int .u8 x)) 5 (0, 0))) (.slice (some ⟨b, o, none⟩) n c) (l.set k x) := by
  obtain ⟨arr, h1, h2, h3⟩ := Own.store (k := k) (x := .int .u8 x) h (by simpa [bc] using hk) rfl
  refine ⟨arr, h1, h2, ?_⟩
  rw [show (bc l).set k (.int .u8 x) = bc (l.set k x) by simp [bc, List.map_set]] at h3
  exact h3
theorem Bs.nil (m : Mem) : Bs m (.slice none 0 0) [] := .inl ⟨rfl, rfl⟩
theorem Bs.blk {m : Mem} {b : Nat} {l : List Int} {n : Nat} (hb : m b = some (.cells (bc l).toArray 5)) (hn : l.length = n) : Bs m (.slice (some ⟨b, 0, none⟩) n n) l := by
  subst hn
  refine .inr ⟨b, 0, l.length, l.length, _, rfl, hb, by simp [bc], Nat.le_refl _, by simp [bc], ?_, bc_one⟩
  intro j u hu; rw [Nat.zero_add, List.getElem?_toArray]; exact hu
theorem hU8 : tt.get 5 = some ⟨.int .u8, 1, 1, [.one (.int .u8 0)], false⟩ := by rfl
theorem hBs : tt.get 37 = some ⟨.slice 5, 1, 24, [.one (.slice none 0 0)], false⟩ := by rfl
/-- what an append of bytes leaves -/
structure BApd (m : Mem) (v : Value) (l : List Int) (v' : Value) (m' : Mem) : Prop where
  own : Bs m' v' l
  keep : ∀ b o, m b = some o → blkV v ≠ some b → m' b = some o
  new : ∀ b, blkV v' = some b → blkV v = some b ∨ m b = none
theorem appendB {m : Mem} {v x : Value} {l news : List Int} (hv : Bs m v l) (hg : La m x news) (hb : l.length + news.length ≤ 1000000000) :
    PrimSpec Tryz.prog (.builtin .append [37, 37]) [.v v, .v x] m fun r m' => ∃ v', r = [.v v'] ∧ BApd m v (l ++ news) v' m' := by
  have e1 := hv.len
  have e2 := hg.len
  refine (append_spec tt_ok hBs rfl hU8 hBs rfl hv hg.gives (by rw [e1, e2]; simp only; omega) (by rw [e1, e2]; omega)).mono fun r m' ⟨v', h1, h2⟩ => ⟨v', h1, ?_⟩
  rw [← bc_append] at h2
  exact ⟨h2.own, h2.keep, h2.new⟩
theorem appendBat {m p : Mem} {ls : List Mem} {i : Nat} {v x : Value} {l news : List Int} (hs : Split m ls) (hi : ls[i]? = some p) (hv : Bs p v l) (hg : La m x news) (hb : l.length + news.length ≤ 1000000000) :
    PrimSpec Tryz.prog (.builtin .append [37, 37]) [.v v, .v x] m fun r m' => ∃ v' p', r = [.v v'] ∧ Split m' (ls.set i p') ∧ BApd p v (l ++ news) v' p' := by
  have e1 := hv.len
  have e2 := hg.len
  refine (append_at tt_ok hBs rfl hU8 hBs rfl hs hi hv hg.gives (by rw [e1, e2]; simp only; omega) (by rw [e1, e2]; omega)).mono fun r m' ⟨v', p', h1, h2, h3⟩ => ⟨v', p', h1, h2, ?_⟩
  rw [← bc_append] at h3
  exact ⟨h3.own, h3.keep, h3.new⟩
theorem build1 {m : Mem} {x : Int} : PrimSpec Tryz.prog (.buildSlice 37 1 [0]) [.v (.int .u8 x)] m fun r m' => ∃ b, m b = none ∧ r = [.v (.slice (some ⟨b, 0, none⟩) 1 1)] ∧ m' = m.set b (.cells (bc [x]).toArray 5) :=
  buildSlice_spec (n := 1) tt_ok hBs rfl hU8 rfl rfl (by simp [CV.cs]) (by simp) (by simp)
theorem build2 {m : Mem} {x y : Int} : PrimSpec Tryz.prog (.buildSlice 37 2 [0, 1]) [.v (.int .u8 x), .v (.int .u8 y)] m fun r m' => ∃ b, m b = none ∧ r = [.v (.slice (some ⟨b, 0, none⟩) 2 2)] ∧ m' = m.set b (.cells (bc [x, y]).toArray 5) :=
  buildSlice_spec (n := 2) tt_ok hBs rfl hU8 rfl rfl (by simp [CV.cs]) (by simp) (by simp)
theorem build3 {m : Mem} {x y z : Int} : PrimSpec Tryz.prog (.buildSlice 37 3 [0, 1, 2]) [.v (.int .u8 x), .v (.int .u8 y), .v (.int .u8 z)] m fun r m' => ∃ b, m b = none ∧ r = [.v (.slice (some ⟨b, 0, none⟩) 3 3)] ∧ m' = m.set b (.cells (bc [x, y, z]).toArray 5) :=
  buildSlice_spec (n := 3) tt_ok hBs rfl hU8 rfl rfl (by simp [CV.cs]) (by simp) (by simp)
theorem conv_spec {m : Mem} {b n c : Nat} {l : List Int} (hb : m b = some (.cells (bc l).toArray 5)) : PrimSpec Tryz.prog (.conv 37 37) [.v (.slice (some ⟨b, 0, none⟩) n c)] m fun r m' => r = [.v (.slice (some ⟨b, 0, none⟩) n c)] ∧ m' = m.set b (.cells (bc l).toArray 5 ((bc l).toArray.size, (bc l).toArray.size + 1)) :=
  convConst_spec tt_ok hBs rfl hU8 rfl hb
theorem Bs.none0 {m : Mem} {b : Nat} (hb : m b = some (.cells #[] 5)) : Bs m (.slice (some ⟨b, 0, none⟩) 0 0) [] := Bs.blk (l := []) (by simpa [bc] using hb) rfl
theorem buildB0 {m : Mem} : PrimSpec Tryz.prog (.buildSlice 37 0 []) [] m fun r m' => ∃ b, m b = none ∧ r = [.v (.slice (some ⟨b, 0, none⟩) 0 0)] ∧ m' = m.set b (.cells #[] 5) :=
  buildSlice0_spec tt_ok hBs rfl hU8
theorem Lb.blk {m : Mem} {b : Nat} {l : List Int} {n : Nat} (hb : m b = some (.cells (bc l).toArray 5)) (hn : l.length = n) : Lb m (.slice (some ⟨b, 0, none⟩) n n) l := (Bs.blk hb hn).lb
/-- one byte more -/
theorem Bs.one {m : Mem} {ls : List Mem} {p : Mem} {b' : Nat} {y : Int} (hs : Split m (p :: ls)) (hb : m b' = none) {x : Value} {l : List Int} (hx : Bs p x l) (hl : l.length ≤ 100000000) :
    PrimSpec Tryz.prog (.builtin .append [37, 37]) [.v x, .v (.slice (some ⟨b', 0, none⟩) 1 1)] (m.set b' (.cells (bc [y]).toArray 5)) fun r m' => ∃ v' p', r = [.v v'] ∧ Split m' (p' :: ls) ∧ Bs p' v' (l ++ [y]) := by
  have hs1 := hs.new hb (.cells (bc [y]).toArray 5)
  refine (appendBat (i := 1) hs1 rfl hx (Lb.blk (l := [y]) (Mem.set_same ..) rfl).la (by simp; omega)).mono fun r m' ⟨v', p', h1, h2, h3⟩ => ⟨v', p', h1, h2.erase 0, h3.own⟩
/-- one byte, onto a slice: both operations' memory -/
theorem push_mem {m m' : Mem} {b' : Nat} {o : Obj} {v v' : Value} {l : List Int} (hb : m b' = none) (h : BApd (m.set b' o) v l v' m') : BApd m v l v' m' :=
  ⟨h.own, fun b u hm hn => h.keep b u (Mem.sub_set _ hb _ _ hm) hn, fun b hv => (h.new b hv).imp id fun hx => by
    by_cases e : b = b'
    · subst e; exact hb
    · rw [Mem.set_ne _ _ e] at hx; exact hx⟩
theorem Lb.own {m : Mem} {v : Value} {l : List Int} (h : Lb m v l) : (∃ c, v = .slice none 0 c) ∨ ∃ a c, v = .slice (some a) l.length c := by
  rcases h.cases with ⟨c, rfl, _⟩ | ⟨b, o, c, arr, t, fr, rfl, _⟩
  · exact .inl ⟨c, rfl⟩
  · exact .inr ⟨_, c, rfl⟩
end Go.E.YtgjlajcebcmbaaaGreatDoor

/-
  Bytes: room made; lists of bytes, one behind the other.
-/
namespace Go.E.YtgjlajcebcmbaaaGreatDoor
open Go.Proofs
set_option maxRecDepth 100000
theorem hI : tt.get 3 = some ⟨.int .i64, 1, 8, [.one (.int .i64 0)], false⟩ := by rfl
/-- new room for n bytes, with nothing in it -/
theorem grow_spec {m : Mem} {n : Nat} (hn : n ≤ 100000000) :
    Spec Tryz.prog 108 [.v (.slice none 0 0), .v (.int .i64 n)] m fun r m' => ∃ v p, r = [.v v] ∧ Split m' [p, m] ∧ Bs p v [] := by
  refine en108 rfl (goY ?_)
  conv => whnf
  refine ⟨fun h => absurd h (by (simp; try omega)), fun _ => ?_⟩
  conv => whnf
  refine .mk _ (cap_spec tt_ok hBs rfl) ?_
  rintro _ _ ⟨rfl, rfl⟩
  conv => whnf
  have e : IntKind.i64.wrap ((n : Int) - IntKind.i64.wrap (((0 : Nat) : Int) - ((0 : Nat) : Int))) = (n : Int) := by rw [wi (n := ((0 : Nat) : Int) - ((0 : Nat) : Int)) (by omega) (by omega), wi (by omega) (by omega)]; omega
  rw [e]
  refine ⟨fun h => ?_, fun h => ?_⟩
  · have h' := of_decide_eq_true h
    conv => whnf
    refine .mk _ (cap_spec tt_ok hBs rfl) ?_
    rintro _ _ ⟨rfl, rfl⟩
    conv => whnf
    repeat (refine And.intro (by first | omega | (simp only [times]; omega)) ?_; conv => whnf)
    refine .mk _ (appendZeros_spec (n := 0) (c := 0) (a := none) (l := []) tt_ok hBs rfl hU8 hI rfl (by decide) rfl (.inl ⟨0, rfl, rfl⟩) (by omega) (by omega) (by simp only; omega) (by omega)) ?_
    rintro _ _ ⟨b, C, hb, hC, rfl, rfl⟩
    conv => whnf
    repeat (refine And.intro (by first | omega | (simp only [times]; omega)) ?_; conv => whnf)
    intro o' h1 h2
    obtain rfl : o' = 0 := by have := h1 (by omega); simpa using this
    conv => whnf
    refine ⟨_, blk1 b _, rfl, (Split.one m).new hb _, .inr ⟨b, 0, C, 0, _, rfl, blk1_same .., rfl, Nat.zero_le _, ?_, by intro j u hu; simp [bc] at hu, by simp [bc]⟩⟩
    simp only [Array.size_append, zeroCells_size, List.size_toArray, List.length_nil, LB.cells, Seg.cells, List.length_append, List.length_cons]
    omega
  · have h' := of_decide_eq_false h
    conv => whnf
    exact ⟨_, emp, rfl, (Split.one m).addEmp, Bs.nil _⟩
/-- a list of bytes -/
structure Lists (m : Mem) (v : Value) (ps : List (Value × List Int)) : Prop where
  lies : Lies m 1 v (ps.map (·.1))
  la : ∀ p ∈ ps, La m p.1 p.2
theorem Lists.sub {m m' : Mem} {v : Value} {ps : List (Value × List Int)} (h : Lists m v ps) (hs : Sub m m') : Lists m' v ps := ⟨h.lies.sub hs, fun p hp => (h.la p hp).sub hs⟩
theorem Lists.shape {m : Mem} {v : Value} {ps : List (Value × List Int)} (h : Lists m v ps) : ∃ a c, v = .slice a ps.length c := by
  rcases h.lies with ⟨c, rfl, e⟩ | ⟨b, o, c, n, arr, t, fr, rfl, _, e, _⟩
  · have : ps.length = 0 := by simpa using congrArg List.length e
    exact ⟨none, c, by rw [this]⟩
  · have : ps.length = n := by simpa using e
    exact ⟨_, c, by rw [this]⟩
theorem Lists.real {m : Mem} {v : Value} {ps : List (Value × List Int)} (h : Lists m v ps) {i : Nat} (hi : i < ps.length) : ∃ b o c, v = .slice (some ⟨b, o, none⟩) ps.length c ∧ ∀ (i : Nat) (hi : i < ps.length), mcell m b (o + i) = some ps[i].1 := by
  rcases h.lies with ⟨c, rfl, e⟩ | ⟨b, o, c, n, arr, t, fr, rfl, g1, e, _, g2, _⟩
  · have : ps.length = 0 := by simpa using congrArg List.length e
    omega
  · have : ps.length = n := by simpa using e
    exact ⟨b, o, c, by rw [this], fun j hj => mcell_of g1 (g2 j _ (by simp [hj]))⟩
def catB (ps : List (Value × List Int)) : List Int := (ps.map (·.2)).flatten
theorem catB_take {ps : List (Value × List Int)} {i : Nat} (h : i < ps.length) : catB (ps.take i) ++ ps[i].2 = catB (ps.take (i + 1)) := by
  rw [List.take_succ_eq_append_getElem h, catB, catB, List.map_append, List.flatten_append]; simp
theorem catB_le {ps : List (Value × List Int)} (i : Nat) : (catB (ps.take i)).length ≤ (catB ps).length := by
  have e : catB ps = catB (ps.take i) ++ catB (ps.drop i) := by
    rw [catB, catB, catB, ← List.flatten_append, ← List.map_append, List.take_append_drop]
  rw [e, List.length_append]; omega
theorem iadd' {i : Nat} (h : i < 1000000000000) : IntKind.i64.wrap ((i : Int) + 1) = ((i + 1 : Nat) : Int) := by rw [wi (by omega) (by omega)]; omega
set_option maxHeartbeats 1000000 in
theorem concat_spec {m : Mem} {v : Value} {ps : List (Value × List Int)} (h : Lists m v ps) (hb : (catB ps).length ≤ 10000000) (hn : ps.length ≤ 10000000) :
    Spec Tryz.prog 77 [.v v] m fun r m' => ∃ v' p, r = [.v v'] ∧ Split m' [p, m] ∧ Bs p v' (catB ps) := by
  obtain ⟨a, c, rfl⟩ := h.shape
  refine en77 rfl (goY ?_)
  conv => whnf
  refine .mk (ι := Nat) (fun i => ps.length - i) (fun i mm => i ≤ ps.length ∧ mm = m) (fun i => [(0, .c (.v (.slice a ps.length c))), (3, .c (i64 (catB (ps.take i)).length)), (9, .c (.v (.slice a ps.length c))), (10, .c (i64 ps.length)), (11, .c (i64 i))]) (fun _ => []) 0 ⟨by omega, rfl⟩ ?_ ?_
  · conv => whnf
    repeat (refine And.intro (by first | with_reducible rfl | exact congrArg (Value.int _) (wi (by omega) (by omega)) | exact wi (by omega) (by omega) | rfl) ?_; conv => whnf)
    first | exact trivial | exact fun _ _ h => h
  rintro i mm ⟨hi, he⟩
  subst mm
  conv => whnf
  refine ⟨fun h1 => ?_, fun h1 => ?_⟩
  · have h1' := of_decide_eq_true h1
    have hlt : i < ps.length := by omega
    obtain ⟨b, o, c', e, hat⟩ := h.real hlt
    cases e
    have hla := h.la ps[i] (by simp)
    obtain ⟨ai, ci, hvi⟩ := hla.shape
    have hc := hat i hlt
    rw [hvi] at hc
    have hle := catB_le (ps := ps) (i + 1)
    rw [← catB_take hlt, List.length_append] at hle
    conv => whnf
    repeat (refine And.intro (by first | omega | (simp only [times]; omega)) ?_; conv => whnf)
    refine ⟨_, hc, rfl, ?_⟩
    conv => whnf
    have e3 : IntKind.i64.wrap (((catB (ps.take i)).length : Int) + (ps[i].2.length : Int)) = ((catB (ps.take (i + 1))).length : Int) := by
      rw [← catB_take hlt, List.length_append, wi (by omega) (by omega)]; omega
    rw [e3]
    refine ⟨fun h => absurd h (by (simp; try omega)), fun _ => ?_⟩
    conv => whnf
    refine ⟨i + 1, ⟨by omega, rfl⟩, by omega, ?_⟩
    conv => whnf
    repeat (refine And.intro (by first | with_reducible rfl | (exact congrArg (Value.int _) (iadd' (by omega))) | exact congrArg (Value.int _) (wi (by omega) (by omega)) | exact wi (by omega) (by omega) | rfl) ?_; conv => whnf)
    first | exact trivial | exact fun _ _ h => h
  · have h1' := of_decide_eq_false h1
    obtain rfl : i = ps.length := by omega
    rw [List.take_length]
    conv => whnf
    refine xcall (grow_spec (n := (catB ps).length) (by omega)) ?_
    rintro _ m2 ⟨v2, p2, rfl, hs2, hv2⟩
    conv => whnf
    refine .mk (ι := Nat × Value) (fun i => ps.length - i.1) (fun ⟨i, x⟩ mm => i ≤ ps.length ∧ ∃ p, Split mm [p, m] ∧ Bs p x (catB (ps.take i))) (fun ⟨i, x⟩ => [(6, .c (.v x)), (25, .c (.v (.slice a ps.length c))), (26, .c (i64 ps.length)), (27, .c (i64 i))]) (fun _ => []) (0, v2) ⟨by omega, p2, hs2, by simpa [catB] using hv2⟩ ?_ ?_
    · conv => whnf
      repeat (refine And.intro (by first | with_reducible rfl | exact congrArg (Value.int _) (wi (by omega) (by omega)) | exact wi (by omega) (by omega) | rfl) ?_; conv => whnf)
      first | exact trivial | exact fun _ _ h => h
    rintro ⟨i, x⟩ mm ⟨hi, p, hs, hx⟩
    conv => whnf
    refine ⟨fun h2 => ?_, fun h2 => ?_⟩
    · have h2' := of_decide_eq_true h2
      have hlt : i < ps.length := by omega
      obtain ⟨b, o, c', e, hat⟩ := h.real hlt
      cases e
      have hla := h.la ps[i] (by simp)
      have hle := catB_le (ps := ps) (i + 1)
      rw [← catB_take hlt, List.length_append] at hle
      have hc : mcell mm b (o + i) = some ps[i].1 := by
        have := hat i hlt
        unfold mcell at this ⊢
        split at this
        · rename_i arr t fr hm
          rw [hs.at (i := 1) rfl _ _ hm]; exact this
        · cases this
      conv => whnf
      repeat (refine And.intro (by first | omega | (simp only [times]; omega)) ?_; conv => whnf)
      refine ⟨_, hc, hla.one, ?_⟩
      conv => whnf
      refine .mk _ (appendBat (i := 0) hs rfl hx (hla.sub (hs.at (i := 1) rfl)) (by omega)) ?_
      rintro _ m3 ⟨v3, p3, rfl, hs3, hv3⟩
      conv => whnf
      refine ⟨(i + 1, v3), ⟨by omega, p3, hs3, ?_⟩, by simp only; omega, ?_⟩
      · have := hv3.own
        rw [catB_take hlt] at this; exact this
      · conv => whnf
        repeat (refine And.intro (by first | with_reducible rfl | (exact congrArg (Value.int _) (iadd' (by omega))) | exact congrArg (Value.int _) (wi (by omega) (by omega)) | exact wi (by omega) (by omega) | rfl) ?_; conv => whnf)
        first | exact trivial | exact fun _ _ h => h
    · have h2' := of_decide_eq_false h2
      obtain rfl : i = ps.length := by omega
      rw [List.take_length] at hx
      conv => whnf
      exact ⟨x, p, rfl, hs, hx⟩
theorem hLs : tt.get 35 = some ⟨.slice 37, 1, 24, [.one (.slice none 0 0)], false⟩ := by rfl
theorem buildL1 {m : Mem} {x : Value} : PrimSpec Tryz.prog (.buildSlice 35 1 [0]) [.v x] m fun r m' => ∃ b, m b = none ∧ r = [.v (.slice (some ⟨b, 0, none⟩) 1 1)] ∧ m' = m.set b (.cells #[x] 37) :=
  buildSlice_spec (n := 1) tt_ok hLs rfl hBs rfl rfl (by simp [CV.cs]) (by simp) (by simp)
theorem buildL2 {m : Mem} {x y : Value} : PrimSpec Tryz.prog (.buildSlice 35 2 [0, 1]) [.v x, .v y] m fun r m' => ∃ b, m b = none ∧ r = [.v (.slice (some ⟨b, 0, none⟩) 2 2)] ∧ m' = m.set b (.cells #[x, y] 37) :=
  buildSlice_spec (n := 2) tt_ok hLs rfl hBs rfl rfl (by simp [CV.cs]) (by simp) (by simp)
theorem Lists.blk {m : Mem} {b n : Nat} {ps : List (Value × List Int)} {t : TypeId} {fr : Nat × Nat} (h : m b = some (.cells (ps.map (·.1)).toArray t fr)) (hn : ps.length = n) (hl : ∀ p ∈ ps, La m p.1 p.2) : Lists m (.slice (some ⟨b, 0, none⟩) n n) ps := by
  refine ⟨.inr ⟨b, 0, n, n, _, _, _, rfl, h, by simp [hn], Nat.le_refl _, fun j u hu => by simpa using hu, fun u hu => ?_⟩, fun p hp => hl p hp⟩
  obtain ⟨p, hp, rfl⟩ := List.mem_map.1 hu
  exact (hl p hp).one
theorem Lists.one {m : Mem} {b : Nat} {v : Value} {l : List Int} {t : TypeId} {fr : Nat × Nat} (h : m b = some (.cells #[v] t fr)) (hl : La m v l) : Lists m (.slice (some ⟨b, 0, none⟩) 1 1) [(v, l)] :=
  Lists.blk (ps := [(v, l)]) h rfl (by simpa using hl)
theorem Lists.two {m : Mem} {b : Nat} {v w : Value} {l k : List Int} {t : TypeId} {fr : Nat × Nat} (h : m b = some (.cells #[v, w] t fr)) (hl : La m v l) (hk : La m w k) : Lists m (.slice (some ⟨b, 0, none⟩) 2 2) [(v, l), (w, k)] :=
  Lists.blk (ps := [(v, l), (w, k)]) h rfl (by simpa using ⟨hl, hk⟩)
theorem Lists.three {m : Mem} {b : Nat} {v w u : Value} {l k j : List Int} {t : TypeId} {fr : Nat × Nat} (h : m b = some (.cells #[v, w, u] t fr)) (hl : La m v l) (hk : La m w k) (hj : La m u j) : Lists m (.slice (some ⟨b, 0, none⟩) 3 3) [(v, l), (w, k), (u, j)] :=
  Lists.blk (ps := [(v, l), (w, k), (u, j)]) h rfl (by simpa using ⟨hl, hk, hj⟩)
theorem buildL3 {m : Mem} {x y z : Value} : PrimSpec Tryz.prog (.buildSlice 35 3 [0, 1, 2]) [.v x, .v y, .v z] m fun r m' => ∃ b, m b = none ∧ r = [.v (.slice (some ⟨b, 0, none⟩) 3 3)] ∧ m' = m.set b (.cells #[x, y, z] 37) :=
  buildSlice_spec (n := 3) tt_ok hLs rfl hBs rfl rfl (by simp [CV.cs]) (by simp) (by simp)
/-- one piece more -/
theorem pushL {m : Mem} {ls : List Mem} {p : Mem} {b' : Nat} {x y : Value} {vs : List Value} (hs : Split m (p :: ls)) (hb : m b' = none) (hx : x.oneCell' = true) (hy : Own p 37 1 y vs) (hl : vs.length ≤ 100000000) :
    PrimSpec Tryz.prog (.builtin .append [35, 35]) [.v y, .v (.slice (some ⟨b', 0, none⟩) 1 1)] (m.set b' (.cells #[x] 37)) fun r m' => ∃ y' p', r = [.v y'] ∧ Split m' (p' :: ls) ∧ Own p' 37 1 y' (vs ++ [x]) := by
  have hs1 := hs.new hb (.cells #[x] 37)
  have e1 := hy.lies.len
  have e2 : lenV (.slice (some ⟨b', 0, none⟩) 1 1) = 1 := rfl
  have g : Gives (m.set b' (.cells #[x] 37)) 1 (.slice 37) (.slice (some ⟨b', 0, none⟩) 1 1) [x] :=
    .inl ⟨_, rfl, .inl (.inr ⟨b', 0, 1, 1, _, _, _, rfl, Mem.set_same .., rfl, Nat.le_refl _, fun j u hu => by simpa using hu, by simpa using hx⟩)⟩
  refine (append_at tt_ok hLs rfl hBs hLs rfl hs1 (i := 1) rfl hy g (by rw [e2]; simp only; omega) (by rw [e2]; omega)).mono fun r m' ⟨v', p', h1, h2, h3⟩ => ⟨v', p', h1, h2.erase 0, h3.own⟩
theorem Lists.own {m p : Mem} {y : Value} {ps : List (Value × List Int)} (hy : Own p 37 1 y (ps.map (·.1))) (hs : Sub p m) (hl : ∀ q ∈ ps, La m q.1 q.2) : Lists m y ps :=
  ⟨hy.lies.sub hs, fun q hq => hl q hq⟩
end Go.E.YtgjlajcebcmbaaaGreatDoor

/-
  Calls that the model answers itself: numbers that are loaded and added to, whole.
-/
namespace Go.E
section
variable {P : Program} {f : FuncId} {fn : Func}
theorem xext {args : List CV} {m : Mem} {R K : List CV → Mem → Prop} (h : ExtSpec P f args m R) (k : ∀ r m', R r m' → K r m') : XCall P f args m K := .ext R h k
theorem ext_load (hf : P.funcs[f]? = some fn) (hname : (fn.name == "runtime.NumGoroutine") = false) (hb : fn.body.isNone = true) (hn : Extern.findNext fn = none) (k : IntKind)
    (he : Extern.find fn = some (Extern.Atomic.loadT (.int k))) {m : Mem} {b off : Nat} {x : Int} (hc : mcell m b off = some (.int k x)) :
    ExtSpec P f [.v (.pointer (some ⟨b, off, none⟩))] m fun r m' => r = [.v (.int k x)] ∧ m' = m := by
  intro _ W hW
  have hcell : W.cell? ⟨b, off, none⟩ = some (.int k x) := by
    unfold mcell at hc
    cases hm : m b with
    | none => simp [hm] at hc
    | some o =>
      cases o with
      | cells arr t fr =>
        simp only [hm] at hc
        rw [cell_at (hW _ _ hm)]; exact hc
      | _ => simp [hm] at hc
  exact ⟨[.v (.int k x)], m, W, run_call_load hf hname hb hn k he hcell, (by intro y hy; simp at hy; subst hy; rfl), ⟨rfl, rfl⟩, After.refl hW⟩
theorem ext_add (hf : P.funcs[f]? = some fn) (hname : (fn.name == "runtime.NumGoroutine") = false) (hb : fn.body.isNone = true) (hn : Extern.findNext fn = none)
    (he : Extern.find fn = some (Extern.Atomic.update (Op.intArith .add) .u64 true)) {m : Mem} {b off : Nat} {x y : Int} {arr : Array Value} {t : TypeId} (hm : m b = some (.cells arr t (0, 0))) (hx : arr[off]? = some (.int .u64 x)) :
    ExtSpec P f [.v (.pointer (some ⟨b, off, none⟩)), .v (.int .u64 y)] m fun r m' => r = [.v (.int .u64 (IntKind.u64.wrap (x + y)))] ∧ m' = m.set b (.cells (arr.setIfInBounds off (.int .u64 (IntKind.u64.wrap (x + y)))) t (0, 0)) := by
  intro _ W hW
  have hg := hW _ _ hm
  have hcell : W.cell? ⟨b, off, none⟩ = some (.int .u64 x) := by rw [cell_at hg]; exact hx
  have hz : W.frozen? ⟨b, off, none⟩ = false := by simp [World.frozen?, hg]
  have hset : W.setCell ⟨b, off, none⟩ (.int .u64 (IntKind.u64.wrap (x + y))) = W.setRow b (arr.setIfInBounds off (.int .u64 (IntKind.u64.wrap (x + y)))) := setCell_eq_setRow W b off arr t (0, 0) _ hg
  have hs : (Op.intArith .add .u64 x y).run P W = .ok (.int .u64 (IntKind.u64.wrap (x + y))) W := by simp [Op.intArith]
  have hr := run_call_add hf hname hb hn .u64 he hcell hz hs
  rw [hset] at hr
  exact ⟨[.v (.int .u64 (IntKind.u64.wrap (x + y)))], _, _, hr, (by intro y hy; simp at hy; subst hy; rfl), ⟨rfl, rfl⟩, (After.refl hW).setRow hm _⟩
end
end Go.E

/-
  More operations: copy and clear of elements of any size; slices.overlaps.
-/
namespace Go.E
section
variable {P : Program} {T : Tab}
theorem take_mul_len {α : Type} {l : List α} {k n s : Nat} (h : l.length = k * s) : (l.take (n * s)).length = min k n * s := by
  rw [List.length_take, h]
  rcases Nat.le_total k n with h1 | h1
  · rw [Nat.min_eq_left h1, Nat.min_eq_right (Nat.mul_le_mul_right _ h1)]
  · rw [Nat.min_eq_right h1, Nat.min_eq_left (Nat.mul_le_mul_right _ h1)]
/-- copy of whole elements -/
theorem copyN_spec (hT : TabOk P T) {t e tx : TypeId} {ti ei : TI} (ht : T t = some ti) (hk : ti.k = .slice e) (he : T e = some ei) {m : Mem} {b o n c : Nat} {arr : Array Value} {te : TypeId} (hb : m b = some (.cells arr te)) (hfit : o + n * ei.size ≤ arr.size)
    {x : Value} {news : List Value} (hx : Lies m ei.size x news) :
    PrimSpec P (.builtin .copy [t, tx]) [.v (.slice (some ⟨b, o, none⟩) n c), .v x] m fun r m' => r = [.v (.int .i64 ((min (lenV x) n : Nat) : Int))] ∧ m' = m.set b (.cells (arr.toList.take o ++ news.take (n * ei.size) ++ arr.toList.drop (o + (news.take (n * ei.size)).length)).toArray te) := by
  intro hok ty W hW
  obtain ⟨j, hj, hjs, _⟩ := (hT e ei he).inf
  have hu := (hT t ti ht).slice hk
  have hWb := hW _ _ hb
  rcases hx with ⟨c', rfl, rfl⟩ | ⟨b', o', c', n', arr', t', fr', rfl, h1, h2, h3, h4, h5⟩
  · refine ⟨[.v (.int .i64 0)], _, W, ?_, ?_, ⟨by simp [lenV], rfl⟩, ?_⟩
    · simp [Prim.run, Prim.out, Prim.tup, cond_false, CV.val, resVal, Builtin.copy_, run_underlying hu, Builtin.lenOf, Builtin.firstCells, sizeOf, typeInfo, hj, storeCells]
      rfl
    · intro y hy; simp at hy; subst hy; rfl
    · simp only [List.take_nil, List.append_nil, List.length_nil, Nat.add_zero, List.take_append_drop, Array.toArray_toList]
      rw [Mem.set_same_eq hb]
      exact After.refl hW
  · have hlen : (news.take (n * ei.size)).length = min n' n * ei.size := take_mul_len h2
    have hld := run_loadCells_list (P := P) W ⟨b', o', none⟩ (news.take (n * ei.size)) (fun j v hv => by
      rw [add_none, cell_at (hW _ _ h1)]
      refine h4 j v ?_
      have hl := (List.getElem?_eq_some_iff.1 hv).1
      rw [hlen] at hl
      rw [List.getElem?_take] at hv
      split at hv
      · exact hv
      · cases hv)
    rw [hlen] at hld
    have hst := run_storeCells_at P b o te (news.take (n * ei.size)) 0 arr W hWb (by rw [hlen]; have := Nat.mul_le_mul_right ei.size (Nat.min_le_right n' n); omega) (fun v hv => h5 v (List.mem_of_mem_take hv))
    refine ⟨[.v (.int .i64 ((min n' n : Nat) : Int))], _, _, ?_, ?_, ⟨rfl, rfl⟩, (After.refl hW).setRow hb _⟩
    · simp only [Prim.run, Prim.out, Prim.tup, cond_false, List.map_cons, List.map_nil, CV.val, resVal]
      have hm : Nat.min n' n = min n' n := rfl
      simp only [Nat.add_zero] at hst
      simp [Builtin.copy_, run_underlying hu, Builtin.lenOf, Builtin.firstCells, sizeOf, typeInfo, hj, hjs, hm, hld, hst]
      rfl
    · intro y hy; simp at hy; subst hy; rfl
/-- copy of whole elements, of which as many are known as are copied -/
theorem copyP_spec (hT : TabOk P T) {t e tx : TypeId} {ti ei : TI} (ht : T t = some ti) (hk : ti.k = .slice e) (he : T e = some ei) {m : Mem} {b o n c b' o' n' c' : Nat} {arr arr' : Array Value} {te t' : TypeId} {fr' : Nat × Nat} (hb : m b = some (.cells arr te)) (hfit : o + min n' n * ei.size ≤ arr.size)
    {news : List Value} (hb' : m b' = some (.cells arr' t' fr')) (hlen : news.length = min n' n * ei.size) (h4 : ∀ j u, news[j]? = some u → arr'[o' + j]? = some u) (h5 : ∀ u ∈ news, u.oneCell' = true) :
    PrimSpec P (.builtin .copy [t, tx]) [.v (.slice (some ⟨b, o, none⟩) n c), .v (.slice (some ⟨b', o', none⟩) n' c')] m fun r m' => r = [.v (.int .i64 ((min n' n : Nat) : Int))] ∧ m' = m.set b (.cells (arr.toList.take o ++ (news ++ arr.toList.drop (o + news.length))).toArray te) := by
  intro hok ty W hW
  obtain ⟨j, hj, hjs, _⟩ := (hT e ei he).inf
  have hu := (hT t ti ht).slice hk
  have hWb := hW _ _ hb
  have hld := run_loadCells_list (P := P) W ⟨b', o', none⟩ news (fun j v hv => by rw [add_none, cell_at (hW _ _ hb')]; exact h4 j v hv)
  rw [hlen] at hld
  have hst := run_storeCells_at P b o te news 0 arr W hWb (by rw [hlen]; omega) h5
  refine ⟨[.v (.int .i64 ((min n' n : Nat) : Int))], _, _, ?_, ?_, ⟨rfl, rfl⟩, (After.refl hW).setRow hb _⟩
  · simp only [Prim.run, Prim.out, Prim.tup, cond_false, List.map_cons, List.map_nil, CV.val, resVal]
    have hm : Nat.min n' n = min n' n := rfl
    simp only [Nat.add_zero, List.append_assoc] at hst
    simp [Builtin.copy_, run_underlying hu, Builtin.lenOf, Builtin.firstCells, sizeOf, typeInfo, hj, hjs, hm, hld, hst]
    rfl
  · intro y hy; simp at hy; subst hy; rfl
/-- clear of no elements -/
theorem clear0_spec (hT : TabOk P T) {t e : TypeId} {ti : TI} (ht : T t = some ti) (hk : ti.k = .slice e) {m : Mem} {a : Option Addr} {c : Nat} :
    PrimSpec P (.builtin .clear [t]) [.v (.slice a 0 c)] m fun r m' => r = [] ∧ m' = m := by
  intro hok ty W hW
  have hu := (hT t ti ht).slice hk
  refine ⟨[], m, W, ?_, (by intro y hy; cases hy), ⟨rfl, rfl⟩, After.refl hW⟩
  cases a <;> simp [Prim.run, Prim.out, Prim.tup, cond_false, CV.val, resVal, Builtin.clear_, run_underlying hu]
/-- clear of elements -/
theorem clearN_spec (hT : TabOk P T) {t e : TypeId} {ti ei : TI} (ht : T t = some ti) (hk : ti.k = .slice e) (he : T e = some ei) (hz : (LB.cells ei.zero).length = ei.size) (hone : ∀ u ∈ LB.cells ei.zero, u.oneCell' = true) {m : Mem} {b o n c : Nat} {arr : Array Value} {te : TypeId} (hb : m b = some (.cells arr te)) (hn : 0 < n) (hfit : o + n * ei.size ≤ arr.size) :
    PrimSpec P (.builtin .clear [t]) [.v (.slice (some ⟨b, o, none⟩) n c)] m fun r m' => r = [] ∧ ∃ zs, zs.length = n * ei.size ∧ (∀ u ∈ zs, u.oneCell' = true) ∧ m' = m.set b (.cells (arr.toList.take o ++ zs ++ arr.toList.drop (o + n * ei.size)).toArray te) := by
  intro hok ty W hW
  obtain ⟨j, hj, hjs, _, z, hjz, hzc⟩ := (hT e ei he).inf
  have hu := (hT t ti ht).slice hk
  have hWb := hW _ _ hb
  have hzsz : z.cells.size = ei.size := by rw [hzc]; simpa using hz
  have hzl : (Builtin.zeroCells z.cells n).toList.length = n * ei.size := by rw [Array.length_toList, zeroCells_size, hzsz]
  have hzo : ∀ u ∈ (Builtin.zeroCells z.cells n).toList, u.oneCell' = true := by
    intro u hu
    rw [Array.mem_toList_iff, Builtin.zeroCells, Array.mem_map] at hu
    obtain ⟨i, hi, rfl⟩ := hu
    have hi2 := Array.mem_range.1 hi
    have hlt : i % z.cells.size < z.cells.size := Nat.mod_lt _ (by rcases Nat.eq_zero_or_pos z.cells.size with h | h; simp [h] at hi2; exact h)
    refine hone _ ?_
    have : z.cells[i % z.cells.size]! ∈ z.cells.toList := by
      rw [Array.mem_toList_iff, getElem!_pos z.cells _ hlt]; exact Array.getElem_mem hlt
    rw [hzc] at this ⊢
    exact this
  have hst := run_storeCells_at P b o te (Builtin.zeroCells z.cells n).toList 0 arr W hWb (by rw [hzl]; omega) hzo
  simp only [Nat.add_zero] at hst
  obtain ⟨k, rfl⟩ : ∃ k, n = k + 1 := ⟨n - 1, by omega⟩
  have hzv : (zeroValue e).run P W = .ok z W := by simp [zeroValue, typeInfo, hj, hjz]
  rw [hzl] at hst
  refine ⟨[], _, _, ?_, (by intro y hy; cases hy), ⟨rfl, (Builtin.zeroCells z.cells (k + 1)).toList, hzl, hzo, rfl⟩, (After.refl hW).setRow hb _⟩
  simp only [Prim.run, Prim.out, Prim.tup, cond_false, List.map_cons, List.map_nil, CV.val, resVal]
  simp [Builtin.clear_, run_underlying hu, hzv, hst]
/-- slices.overlaps: two blocks, the first of which is plain -/
theorem ext_apart {f : FuncId} {fn : Func} (hT : TabOk P T) (hf : P.funcs[f]? = some fn) (hname : (fn.name == "runtime.NumGoroutine") = false) (hb : fn.body.isNone = true) (hn : Extern.findNext fn = none)
    {t tr e : TypeId} {ti ei : TI} (ht : T t = some ti) (hk : ti.k = .slice e) (he : T e = some ei) (hx : Extern.find fn = some (Extern.SlicesOverlaps.overlaps #[t, t] #[tr]))
    {m : Mem} {b b' o o' n n' c c' : Nat} {arr arr' : Array Value} {te te' : TypeId} {fr' : Nat × Nat} (h1 : m b = some (.cells arr te)) (h2 : m b' = some (.cells arr' te' fr')) (hne : b ≠ b') (hpos : arr'.size ≠ 0) :
    ExtSpec P f [.v (.slice (some ⟨b, o, none⟩) n c), .v (.slice (some ⟨b', o', none⟩) n' c')] m fun r m' => r = [.v (.bool false)] ∧ m' = m := by
  intro _ W hW
  obtain ⟨j, hj, hjs, _⟩ := (hT e ei he).inf
  have hu := (hT t ti ht).slice hk
  have g1 := hW _ _ h1
  have g2 := hW _ _ h2
  have hr := Lib.run_overlaps_apart (P := P) W t tr e hu j.size (fun w => by simp [sizeOf, typeInfo, hj]) ⟨b, o, none⟩ ⟨b', o', none⟩ n c n' c' hne te te' arr.size arr'.size
    (by unfold World.shape?; rw [g1]) (by unfold World.shape?; rw [g2]) hpos (by simp [World.frozen?, g1]) (by simp [World.frozen?, g1])
  exact ⟨[.v (.bool false)], m, W, by simp only [List.map_cons, List.map_nil, CV.val, resVal]; rw [run_callFunc_extern hf hname hb hn hx]; exact congrArg (fun r : Result Value => r.andThen fun v w' => Result.ok (Next.value v) w') hr, (by intro y hy; simp at hy; subst hy; rfl), ⟨rfl, rfl⟩, After.refl hW⟩
end
end Go.E

/-
  Lists of elements of any one size, laid one behind the other.
-/
namespace Go.E
section
variable {α : Type} {enc : α → List Value} {s : Nat}
/-- each element has this many cells, of one cell each -/
structure EncOk (enc : α → List Value) (s : Nat) : Prop where
  len : ∀ x, (enc x).length = s
  one : ∀ x, ∀ u ∈ enc x, u.oneCell' = true
  pos : 0 < s
theorem EncOk.flen (h : EncOk enc s) : ∀ (E : List α), (E.flatMap enc).length = E.length * s
  | [] => by simp
  | x :: E => by rw [List.flatMap_cons, List.length_append, h.len, h.flen E, List.length_cons, Nat.succ_mul]; omega
theorem EncOk.fone (h : EncOk enc s) {E : List α} : ∀ u ∈ E.flatMap enc, u.oneCell' = true := fun u hu => by
  obtain ⟨x, _, hx⟩ := List.mem_flatMap.1 hu
  exact h.one x u hx
theorem EncOk.at (h : EncOk enc s) : ∀ {E : List α} {i j : Nat} {u : Value} (hi : i < E.length), (enc E[i])[j]? = some u → (E.flatMap enc)[i * s + j]? = some u
  | x :: E, 0, j, u, _, hu => by
    have hl := (List.getElem?_eq_some_iff.1 hu).1
    rw [List.flatMap_cons, List.getElem?_append_left (by simpa using hl)]
    simpa using hu
  | x :: E, i + 1, j, u, hi, hu => by
    have ih := h.at (E := E) (i := i) (j := j) (u := u) (by simpa using hi) (by simpa using hu)
    rw [List.flatMap_cons, List.getElem?_append_right (by rw [h.len, Nat.succ_mul]; omega), h.len, Nat.succ_mul, show i * s + s + j - s = i * s + j by omega]
    exact ih
theorem EncOk.take (h : EncOk enc s) : ∀ (E : List α) (i : Nat), (E.flatMap enc).take (i * s) = (E.take i).flatMap enc
  | [], i => by simp
  | x :: E, 0 => by simp
  | x :: E, i + 1 => by
    rw [List.flatMap_cons, List.take_succ_cons, List.flatMap_cons, Nat.succ_mul, List.take_append, h.len, List.take_of_length_le (by rw [h.len]; omega), show i * s + s - s = i * s by omega, h.take E i]
theorem EncOk.drop (h : EncOk enc s) : ∀ (E : List α) (i : Nat), (E.flatMap enc).drop (i * s) = (E.drop i).flatMap enc
  | [], i => by simp
  | x :: E, 0 => by simp
  | x :: E, i + 1 => by
    rw [List.flatMap_cons, List.drop_succ_cons, Nat.succ_mul, List.drop_append, h.len, List.drop_of_length_le (by rw [h.len]; omega), List.nil_append, show i * s + s - s = i * s by omega, h.drop E i]
theorem EncOk.count (h : EncOk enc s) {E : List α} {n : Nat} (e : (E.flatMap enc).length = n * s) : E.length = n := by
  rw [h.flen] at e
  exact Nat.eq_of_mul_eq_mul_right h.pos e
theorem EncOk.shape (h : EncOk enc s) {m : Mem} {v : Value} {E : List α} (hl : Lies m s v (E.flatMap enc)) : ∃ a c, v = .slice a E.length c := by
  rcases hl with ⟨c, rfl, e⟩ | ⟨b, o, c, n, arr, t, fr, rfl, _, e, _⟩
  · have : E.length = 0 := h.count (n := 0) (by rw [e]; simp)
    exact ⟨none, c, by rw [this]⟩
  · exact ⟨_, c, by rw [h.count e]⟩
theorem EncOk.real (h : EncOk enc s) {m : Mem} {v : Value} {E : List α} (hl : Lies m s v (E.flatMap enc)) {i : Nat} (hi : i < E.length) : ∃ b o c, v = .slice (some ⟨b, o, none⟩) E.length c ∧ ∀ j (hj : j < E.length), MRange m b (o + j * s) (enc E[j]) := by
  rcases hl with ⟨c, rfl, e⟩ | ⟨b, o, c, n, arr, t, fr, rfl, g1, e, _, g2, _⟩
  · have : E.length = 0 := h.count (n := 0) (by rw [e]; simp)
    omega
  · refine ⟨b, o, c, by rw [h.count e], fun j hj => ⟨arr, t, fr, g1, fun k u hu => ?_⟩⟩
    rw [Nat.add_assoc]
    exact g2 _ _ (h.at hj hu)
/-- an owned slice that is not nil, and its row -/
theorem EncOk.row (h : EncOk enc s) {p : Mem} {T : TypeId} {b o n c : Nat} {E : List α} (hl : Own p T s (.slice (some ⟨b, o, none⟩) n c) (E.flatMap enc)) : ∃ arr, p b = some (.cells arr T (0, 0)) ∧ E.length = n ∧ n ≤ c ∧ o + c * s ≤ arr.size ∧ (∀ j u, (E.flatMap enc)[j]? = some u → arr[o + j]? = some u) := by
  rcases hl with ⟨e, _⟩ | ⟨b', o', c', n', arr, e, h1, h2, h3, h4, h5, _⟩
  · cases e
  · cases e
    exact ⟨arr, h1, h.count h2, h3, h4, h5⟩
theorem EncOk.mk' (h : EncOk enc s) {p : Mem} {T : TypeId} {b o n c : Nat} {arr : Array Value} {E : List α} (h1 : p b = some (.cells arr T (0, 0))) (h2 : E.length = n) (h3 : n ≤ c) (h4 : o + c * s ≤ arr.size) (h5 : ∀ j u, (E.flatMap enc)[j]? = some u → arr[o + j]? = some u) : Own p T s (.slice (some ⟨b, o, none⟩) n c) (E.flatMap enc) :=
  .inr ⟨b, o, c, n, arr, rfl, h1, by rw [h.flen, h2], h3, h4, h5, h.fone⟩
/-- a beginning of an owned slice -/
theorem EncOk.cut (h : EncOk enc s) {p : Mem} {T : TypeId} {b o n c : Nat} {E : List α} (hl : Own p T s (.slice (some ⟨b, o, none⟩) n c) (E.flatMap enc)) {i : Nat} (hi : i ≤ n) : Own p T s (.slice (some ⟨b, o, none⟩) i c) ((E.take i).flatMap enc) := by
  obtain ⟨arr, h1, h2, h3, h4, h5⟩ := h.row hl
  refine h.mk' h1 (by rw [List.length_take]; omega) (by omega) h4 fun j u hu => h5 j u ?_
  rw [← h.take] at hu
  rw [List.getElem?_take] at hu
  split at hu
  · exact hu
  · cases hu
/-- a beginning of a slice -/
theorem EncOk.pre (h : EncOk enc s) {m : Mem} {b o n c c' : Nat} {E : List α} (hl : Lies m s (.slice (some ⟨b, o, none⟩) n c) (E.flatMap enc)) {i : Nat} (hi : i ≤ n) (hc : i ≤ c' := by omega) : Lies m s (.slice (some ⟨b, o, none⟩) i c') ((E.take i).flatMap enc) := by
  rcases hl with ⟨c', e, _⟩ | ⟨b', o2, c2, n', arr, t, fr, e, g1, g2, g3, g4, g5⟩
  · cases e
  · cases e
    refine .inr ⟨b, o, c', i, arr, t, fr, rfl, g1, by rw [h.flen, List.length_take, h.count g2, Nat.min_eq_left hi], hc, fun j u hu => g4 j u ?_, h.fone⟩
    rw [← h.take, List.getElem?_take] at hu
    split at hu
    · exact hu
    · cases hu
/-- how much room there is, at least -/
theorem lies_cap {m : Mem} {a : Option Addr} {n c : Nat} {l : List Value} (hp : 0 < s) (hl : Lies m s (.slice a n c) l) : n ≤ c ∨ n = 0 := by
  rcases hl with ⟨c', e, h⟩ | ⟨b', o2, c2, n', arr, t, fr, e, g1, g2, g3, g4, g5⟩
  · cases e; exact .inr rfl
  · cases e; exact .inl g3
/-- what a store of one element's cells at a place leaves -/
theorem put_cells {arr : Array Value} {cs : List Value} {a j : Nat} {u : Value} (hfit : a + cs.length ≤ arr.size) : (arr.toList.take a ++ (cs ++ arr.toList.drop (a + cs.length))).toArray[j]? = some u ↔ if j < a then arr[j]? = some u else if j < a + cs.length then cs[j - a]? = some u else arr[j]? = some u := by
  rw [List.getElem?_toArray]
  have hl : (arr.toList.take a).length = a := by rw [List.length_take, Array.length_toList]; omega
  by_cases h1 : j < a
  · rw [if_pos h1, List.getElem?_append_left (by omega), List.getElem?_take, if_pos h1, Array.getElem?_toList]
  · rw [if_neg h1, List.getElem?_append_right (by omega), hl]
    by_cases h2 : j < a + cs.length
    · rw [if_pos h2, List.getElem?_append_left (by omega)]
    · rw [if_neg h2, List.getElem?_append_right (by omega), List.getElem?_drop, Array.getElem?_toList, show a + cs.length + (j - a - cs.length) = j by omega]
theorem EncOk.set (h : EncOk enc s) {p : Mem} {T : TypeId} {b o n c : Nat} {E : List α} (hl : Own p T s (.slice (some ⟨b, o, none⟩) n c) (E.flatMap enc)) {i : Nat} (hi : i < E.length) (x : α) :
    ∃ arr, p b = some (.cells arr T (0, 0)) ∧ o + i * s + s ≤ arr.size ∧ Own (p.set b (.cells (arr.toList.take (o + i * s) ++ (enc x ++ arr.toList.drop (o + i * s + s))).toArray T (0, 0))) T s (.slice (some ⟨b, o, none⟩) n c) ((E.set i x).flatMap enc) := by
  obtain ⟨arr, h1, h2, h3, h4, h5⟩ := h.row hl
  have hmul : i * s + s ≤ c * s := by rw [← Nat.succ_mul]; exact Nat.mul_le_mul_right _ (by omega)
  refine ⟨arr, h1, by omega, h.mk' (Mem.set_same ..) (by rw [List.length_set]; omega) h3 ?_ fun j u hu => ?_⟩
  · simp only [List.size_toArray, List.length_append, List.length_take, List.length_drop, Array.length_toList, h.len]; omega
  · have hp := put_cells (arr := arr) (cs := enc x) (a := o + i * s) (j := o + j) (u := u) (by rw [h.len]; omega)
    rw [h.len] at hp
    rw [hp]
    have hjl := (List.getElem?_eq_some_iff.1 hu).1
    rw [h.flen, List.length_set] at hjl
    -- the element in which j lies
    have hs := h.pos
    have hq : j / s < E.length := Nat.div_lt_of_lt_mul (by rw [Nat.mul_comm]; exact hjl)
    have hjd : j = j / s * s + j % s := by rw [Nat.mul_comm]; exact (Nat.div_add_mod j s).symm
    have hml := Nat.mod_lt j hs
    have key : ∀ (F : List α) (hF : j / s < F.length), (F.flatMap enc)[j]? = (enc F[j / s])[j % s]? := fun F hF => by
      cases hx : (enc F[j / s])[j % s]? with
      | none => have := List.getElem?_eq_none_iff.1 hx; rw [h.len] at this; omega
      | some w => have := h.at hF hx; rw [← hjd] at this; exact this
    rw [key _ (by rw [List.length_set]; exact hq)] at hu
    by_cases e : j / s = i
    · subst e
      rw [List.getElem_set_self] at hu
      rw [if_neg (by omega), if_pos (by omega), show o + j - (o + j / s * s) = j % s by omega]
      exact hu
    · rw [List.getElem_set_ne (Ne.symm e)] at hu
      have h5' := h5 j u (by rw [key _ hq]; exact hu)
      by_cases hlt : j / s < i
      · have : j / s * s + s ≤ i * s := by rw [← Nat.succ_mul]; exact Nat.mul_le_mul_right _ hlt
        rw [if_pos (by omega)]; exact h5'
      · have : i * s + s ≤ j / s * s := by rw [← Nat.succ_mul]; exact Nat.mul_le_mul_right _ (by omega)
        rw [if_neg (by omega), if_neg (by omega)]; exact h5'
/-- the rest of a slice, from an element on -/
theorem EncOk.post (h : EncOk enc s) {m : Mem} {b o n c : Nat} {E : List α} (hl : Lies m s (.slice (some ⟨b, o, none⟩) n c) (E.flatMap enc)) {i : Nat} (hi : i ≤ n) {o' : Nat} (ho : i < n → o' = o + i * s) : Lies m s (.slice (some ⟨b, o', none⟩) (n - i) (c - i)) ((E.drop i).flatMap enc) := by
  rcases hl with ⟨c', e, _⟩ | ⟨b', o2, c', n', arr, t, fr, e, g1, g2, g3, g4, g5⟩
  · cases e
  · cases e
    have hn := h.count g2
    refine .inr ⟨b, o', c - i, n - i, arr, t, fr, rfl, g1, by rw [h.flen, List.length_drop, hn], by omega, fun j u hu => ?_, h.fone⟩
    have hjl := (List.getElem?_eq_some_iff.1 hu).1
    rw [h.flen, List.length_drop, hn] at hjl
    have hlt : i < n := by
      by_cases e : i < n
      · exact e
      · rw [show n - i = 0 by omega] at hjl; simp at hjl
    rw [← h.drop, List.getElem?_drop] at hu
    have := g4 _ _ hu
    rw [ho hlt, Nat.add_assoc]; exact this
end
theorem Split.grow {m m' : Mem} {l : List Mem} (h : Split m l) (hs : Sub m m') : Split m' l := ⟨h.1.trans hs, h.2⟩
/-- a row has these cells from a place on -/
def RowHas (arr : Array Value) (o : Nat) (l : List Value) : Prop := ∀ j u, l[j]? = some u → arr[o + j]? = some u
theorem RowHas.append {arr : Array Value} {o : Nat} {a b : List Value} (ha : RowHas arr o a) (hb : RowHas arr (o + a.length) b) : RowHas arr o (a ++ b) := fun j u hu => by
  by_cases h : j < a.length
  · rw [List.getElem?_append_left h] at hu; exact ha j u hu
  · rw [List.getElem?_append_right (by omega)] at hu
    have := hb _ _ hu
    rw [show o + a.length + (j - a.length) = o + j by omega] at this
    exact this
theorem RowHas.left {arr : Array Value} {o : Nat} {a b : List Value} (h : RowHas arr o (a ++ b)) : RowHas arr o a := fun j u hu => h j u (by rw [List.getElem?_append_left (List.getElem?_eq_some_iff.1 hu).1]; exact hu)
theorem RowHas.right {arr : Array Value} {o : Nat} {a b : List Value} (h : RowHas arr o (a ++ b)) : RowHas arr (o + a.length) b := fun j u hu => by
  rw [Nat.add_assoc]
  exact h (a.length + j) u (by rw [List.getElem?_append_right (by omega), show a.length + j - a.length = j by omega]; exact hu)
theorem RowHas.putSame {arr : Array Value} {a : Nat} {cs : List Value} (hfit : a + cs.length ≤ arr.size) : RowHas (arr.toList.take a ++ (cs ++ arr.toList.drop (a + cs.length))).toArray a cs := fun j u hu => by
  have hl := (List.getElem?_eq_some_iff.1 hu).1
  rw [put_cells hfit, if_neg (by omega), if_pos (by omega), show a + j - a = j by omega]; exact hu
theorem RowHas.putOther {arr : Array Value} {a o : Nat} {cs l : List Value} (h : RowHas arr o l) (hfit : a + cs.length ≤ arr.size) (hd : o + l.length ≤ a ∨ a + cs.length ≤ o) : RowHas (arr.toList.take a ++ (cs ++ arr.toList.drop (a + cs.length))).toArray o l := fun j u hu => by
  have hl := (List.getElem?_eq_some_iff.1 hu).1
  rw [put_cells hfit]
  rcases hd with hd | hd
  · rw [if_pos (by omega)]; exact h j u hu
  · rw [if_neg (by omega), if_neg (by omega)]; exact h j u hu
theorem put_size {arr : Array Value} {a : Nat} {cs : List Value} (hfit : a + cs.length ≤ arr.size) : (arr.toList.take a ++ (cs ++ arr.toList.drop (a + cs.length))).toArray.size = arr.size := by
  simp only [List.size_toArray, List.length_append, List.length_take, List.length_drop, Array.length_toList]; omega
/-- a store over the whole of a new block -/
theorem storeAll {mm : Mem} {b : Nat} {old : Array Value} {t : TypeId} {fr : Nat × Nat} {v : LB} (hsz : LB.size v = old.size) :
    (mm.set b (.cells old t fr)).set b (.cells (old.toList.take 0 ++ (LB.cells v ++ old.toList.drop (0 + LB.size v))).toArray t fr) = mm.set b (.cells (LB.cells v).toArray t fr) := by
  rw [Mem.set_set]
  have e : (old.toList.take 0 ++ (LB.cells v ++ old.toList.drop (0 + LB.size v))).toArray = (LB.cells v).toArray := by
    rw [List.drop_of_length_le (by rw [Array.length_toList]; omega)]; simp
  rw [e]
theorem noFr {n k : Nat} : ∀ j, j < n → ¬ (((0, 0) : Nat × Nat).1 ≤ k + j ∧ k + j < ((0, 0) : Nat × Nat).2) := fun j _ h => by simp only at h; omega
end Go.E

/-
  Maps: made, looked up, set, deleted from, ranged over.
-/
namespace Go.E
/-- an entry of a map: a key, what it leads to, when it was born -/
structure Men (α : Type) where
  k : α
  v : CV
  b : Nat
def Men.entry {α : Type} (enc : α → Value) (e : Men α) : MapEntry := ⟨enc e.k, e.v.val, e.b⟩
def mapO {α : Type} (enc : α → Value) (es : List (Men α)) (clock : Nat) : Obj := .map (es.map (Men.entry enc)).toArray clock
/-- keys that are compared at once -/
structure KeyOk {α : Type} [DecidableEq α] (enc : α → Value) (d : TypeDesc) : Prop where
  same : ∀ a b, Instr.sameNow d (enc a) (enc b) = some (decide (a = b))
  isK : ∀ a, MapKept.IsKey d (enc a)
  bits : ∀ a, Instr.sameBits 10000 (enc a) (enc a) = true
  one : ∀ a, (enc a).oneCell' = true
theorem bytesBeq (a b : ByteArray) : (a == b) = decide (a = b) := by
  rcases a with ⟨a⟩; rcases b with ⟨b⟩
  have h : ((⟨a⟩ : ByteArray) == ⟨b⟩) = (a == b) := rfl
  rw [h]
  by_cases e : a = b
  · subst e; simp
  · have : ¬ (⟨a⟩ : ByteArray) = ⟨b⟩ := fun h => e (by injection h)
    rw [decide_eq_false this]; exact beq_false_of_ne e
theorem strKey : KeyOk Value.string .string :=
  ⟨fun a b => by simp [Instr.sameNow, bytesBeq], fun _ => trivial, fun a => by simp [Instr.sameBits, bytesBeq], fun _ => rfl⟩
theorem intKey (k : IntKind) : KeyOk (Value.int k) (.int k) :=
  ⟨fun a b => by by_cases h : a = b <;> simp [Instr.sameNow, h], fun _ => rfl, fun a => by simp [Instr.sameBits], fun _ => rfl⟩
section
variable {α : Type} [DecidableEq α]
def findM (k : α) (es : List (Men α)) : Option CV := (es.find? fun e => decide (k = e.k)).map (·.v)
def setM (k : α) (v : CV) (clock : Nat) : List (Men α) → List (Men α)
  | [] => [⟨k, v, clock⟩]
  | e :: es => if k = e.k then ⟨k, v, e.b⟩ :: es else e :: setM k v clock es
def clockM (k : α) (clock : Nat) (es : List (Men α)) : Nat := if (findM k es).isSome then clock else clock + 1
def delM (k : α) : List (Men α) → List (Men α)
  | [] => []
  | e :: es => if k = e.k then es else e :: delM k es
theorem findNow_eq {enc : α → Value} {d : TypeDesc} (hk : KeyOk enc d) (k : α) : ∀ (es : List (Men α)) (i : Nat),
    Instr.findNow d (enc k) (es.map (Men.entry enc)) i = some (match es.findIdx? fun e => decide (k = e.k) with
      | some j => some (i + j, ((es[j]?).map fun e => e.v.val).getD undef)
      | none => none)
  | [], i => rfl
  | e :: es, i => by
    simp only [List.map_cons, Instr.findNow, Men.entry, hk.same, List.findIdx?_cons]
    by_cases h : k = e.k
    · simp [h]
    · have ih := findNow_eq hk k es (i + 1)
      simp only [h, decide_false, if_false, Bool.false_eq_true]
      rw [ih]
      cases es.findIdx? fun e => decide (k = e.k) with
      | none => rfl
      | some j => simp only [List.getElem?_cons_succ]; congr 2; rw [Prod.mk.injEq]; exact ⟨by simp only; omega, rfl⟩
theorem find_idx (k : α) : ∀ (es : List (Men α)), (match es.findIdx? fun e => decide (k = e.k) with
    | some j => ∃ e, es[j]? = some e ∧ findM k es = some e.v ∧ e.k = k
    | none => findM k es = none)
  | [] => rfl
  | e :: es => by
    rw [List.findIdx?_cons]
    by_cases h : k = e.k
    · simp only [h, decide_true, cond_true, if_true]
      exact ⟨e, rfl, by simp [findM], rfl⟩
    · have ih := find_idx k es
      simp only [h, decide_false, if_false, Bool.false_eq_true]
      have hf : findM k (e :: es) = findM k es := by simp [findM, h]
      rw [hf]
      cases hx : es.findIdx? fun e => decide (k = e.k) with
      | none => rw [hx] at ih; exact ih
      | some j => rw [hx] at ih; exact ih
theorem set_modify (enc : α → Value) (k : α) (v : CV) (clock : Nat) : ∀ (es : List (Men α)), (match es.findIdx? fun e => decide (k = e.k) with
    | some j => (es.map (Men.entry enc)).modify j (fun e => { e with key := enc k, val := v.val }) = (setM k v clock es).map (Men.entry enc)
    | none => es.map (Men.entry enc) ++ [⟨enc k, v.val, clock⟩] = (setM k v clock es).map (Men.entry enc))
  | [] => rfl
  | e :: es => by
    rw [List.findIdx?_cons]
    by_cases h : k = e.k
    · subst h
      simp [setM, Men.entry]
    · have ih := set_modify enc k v clock es
      simp only [h, decide_false, if_false, Bool.false_eq_true]
      cases hx : es.findIdx? fun e => decide (k = e.k) with
      | none => rw [hx] at ih; simp only [Option.map_none, List.map_cons, setM, h, if_false, List.cons_append] at ih ⊢; rw [ih]
      | some j => rw [hx] at ih; simp only [Option.map_some, List.map_cons, setM, h, if_false, List.modify_succ_cons] at ih ⊢; rw [ih]
theorem del_erase (enc : α → Value) (k : α) : ∀ (es : List (Men α)), (match es.findIdx? fun e => decide (k = e.k) with
    | some j => (es.map (Men.entry enc)).eraseIdx j = (delM k es).map (Men.entry enc)
    | none => es.map (Men.entry enc) = (delM k es).map (Men.entry enc))
  | [] => rfl
  | e :: es => by
    rw [List.findIdx?_cons]
    by_cases h : k = e.k
    · subst h
      simp [delM]
    · have ih := del_erase enc k es
      simp only [h, decide_false, if_false, Bool.false_eq_true]
      cases hx : es.findIdx? fun e => decide (k = e.k) with
      | none => rw [hx] at ih; simp only [Option.map_none, List.map_cons, delM, h, if_false] at ih ⊢; rw [ih]
      | some j => rw [hx] at ih; simp only [Option.map_some, List.map_cons, delM, h, if_false, List.eraseIdx_cons_succ] at ih ⊢; rw [ih]
end
section
variable {P : Program} {T : Tab} {α : Type} [DecidableEq α] {enc : α → Value}
theorem run_checkKey' {w : World} {kt : TypeId} {d : TypeDesc} {k : Value} (hd : P.underlying kt = some d) (hk : MapKept.IsKey d k) (e : Bool) : (Instr.checkKey e 10000 kt k).run P w = .ok () w := MapKept.run_checkKey hd hk e 9999
omit [DecidableEq α] in
theorem makeMap_spec {t : TypeId} {m : Mem} : PrimSpec P (.makeMap t) [] m fun r m' => ∃ b, m b = none ∧ r = [.v (.map (some b))] ∧ m' = m.set b (mapO enc [] 0) := by
  intro _ ty W hW
  refine ⟨[.v (.map (some W.heap.size))], _, _, ?_, (by intro y hy; simp at hy; subst hy; rfl), ⟨W.heap.size, hW.none (Nat.le_refl _), rfl, rfl⟩, (After.refl hW).alloc (mapO enc [] 0)⟩
  simp [Prim.run, Prim.out, Prim.tup, resVal, CV.val, Instr.makeMap, mapO, newObj, Sem.run, Result.andThen]
theorem run_find {d : TypeDesc} {kt : TypeId} (hk : KeyOk enc d) (hd : P.underlying kt = some d) (w : World) (k : α) (es : List (Men α)) :
    (Instr.findKey kt (enc k) (es.map (Men.entry enc))).run P w = .ok (match es.findIdx? fun e => decide (k = e.k) with
      | some j => some (j, ((es[j]?).map fun e => e.v.val).getD undef)
      | none => none) w := by
  have := findNow_eq hk k es 0
  simp only [Nat.zero_add] at this
  exact MapKept.run_findKey hd this
theorem lookup_spec {mt kt et : TypeId} {d : TypeDesc} (hk : KeyOk enc d) (hm : P.underlying mt = some (.map kt et)) (hd : P.underlying kt = some d) {z : CV} (hz : (P.info? et).bind (·.zero) = some z.val) (hzok : z.ok) {m : Mem} {b clock : Nat} {es : List (Men α)} {k : α}
    (hb : m b = some (mapO enc es clock)) (hes : ∀ e ∈ es, e.v.ok) (ok : Bool) :
    PrimSpec P (.lookup mt ok) [.v (.map (some b)), .v (enc k)] m fun r m' => r = (if ok then [(findM k es).getD z, .v (.bool (findM k es).isSome)] else [(findM k es).getD z]) ∧ m = m' := by
  intro _ ty W hW
  have hWb := hW _ _ hb
  have hzv : (zeroValue et).run P W = .ok z.val W := by
    cases hi : P.info? et with
    | none => simp [hi] at hz
    | some i => simp [hi] at hz; simp [zeroValue, typeInfo, hi, hz]
  have hf := run_find hk hd W k es
  have hx := find_idx k es
  have hck : ∀ e, (Instr.checkKey e 10000 kt (enc k)).run P W = .ok () W := fun e => run_checkKey' hd (hk.isK k) e
  have hvok : ((findM k es).getD z).ok := by
    unfold findM
    cases hq : es.find? (fun e => decide (k = e.k)) with
    | none => exact hzok
    | some e => exact hes e (List.mem_of_find?_eq_some hq)
  refine ⟨_, m, W, ?_, ?_, ⟨rfl, rfl⟩, After.refl hW⟩
  · cases hi : es.findIdx? fun e => decide (k = e.k) with
    | none =>
      rw [hi] at hx hf
      simp only at hx hf
      rw [hx]
      cases ok <;> simp [Prim.run, Prim.out, Prim.tup, CV.val, resVal, Instr.lookup, run_underlying hm, MapKept.run_getObj_map hWb, hck, hf, hzv, mapO] <;> rfl
    | some j =>
      rw [hi] at hx hf
      obtain ⟨e, h1, h2, _⟩ := hx
      simp only [h1, Option.map_some, Option.getD_some] at hf
      rw [h2]
      cases ok <;> simp [Prim.run, Prim.out, Prim.tup, CV.val, resVal, Instr.lookup, run_underlying hm, MapKept.run_getObj_map hWb, hck, hf, mapO] <;> rfl
  · intro y hy
    cases ok
    · simp at hy; subst hy; exact hvok
    · simp at hy
      rcases hy with rfl | rfl
      · exact hvok
      · rfl
theorem After.put {m : Mem} {W : World} (hW : Over m W) {b : Nat} {o : Obj} (hb : m b = some o) (o' : Obj) : After m W (m.set b o') { W with heap := W.heap.setIfInBounds b o' } := by
  obtain ⟨h1, h2⟩ := MapKept.heap_set (o' := o') (hW _ _ hb)
  exact After.setObj hW hb (by simp) h1 h2
theorem mapSet_spec {mt kt et : TypeId} {d : TypeDesc} (hk : KeyOk enc d) (hm : P.underlying mt = some (.map kt et)) (hd : P.underlying kt = some d) {m : Mem} {b clock : Nat} {es : List (Men α)} {k : α} {v : CV} (hb : m b = some (mapO enc es clock)) :
    PrimSpec P (.mapUpdate mt) [.v (.map (some b)), .v (enc k), v] m fun r m' => m' = m.set b (mapO enc (setM k v clock es) (clockM k clock es)) := by
  intro _ ty W hW
  have hWb := hW _ _ hb
  have hf := run_find hk hd W k es
  have hx := find_idx k es
  have hset := set_modify enc k v clock es
  have hck : (Instr.checkKey false 10000 kt (enc k)).run P W = .ok () W := run_checkKey' hd (hk.isK k) false
  have ha : List.map CV.val [.v (.map (some b)), .v (enc k), v] = [.map (some b), enc k, v.val] := rfl
  rw [ha]
  cases hi : es.findIdx? fun e => decide (k = e.k) with
  | none =>
    rw [hi] at hx hf hset
    simp only at hx hf hset
    refine ⟨[], _, _, ?_, (by intro y hy; cases hy), rfl, After.put hW hb _⟩
    have hc : clockM k clock es = clock + 1 := by simp [clockM, hx]
    have he : (es.map (Men.entry enc)).toArray.push ⟨enc k, v.val, clock⟩ = ((setM k v clock es).map (Men.entry enc)).toArray := by
      rw [← hset]; simp
    have hr : (Instr.mapUpdate mt (.map (some b)) (enc k) v.val).run P W = .ok () { W with heap := W.heap.setIfInBounds b (mapO enc (setM k v clock es) (clockM k clock es)) } := by
      simp only [Instr.mapUpdate, Sem.run_bind, run_underlying hm, MapKept.run_getObj_map hWb, hck, hf, Result.andThen_ok, List.toList_toArray, he, hc, MapKept.run_setObj_map _ hWb, mapO]
    simp only [Prim.run, Sem.run_bind, hr, Result.andThen_ok, Sem.run_pure]
    rfl
  | some j =>
    rw [hi] at hx hf hset
    obtain ⟨e, h1, h2, h3⟩ := hx
    simp only [h1, Option.map_some, Option.getD_some] at hf hset
    refine ⟨[], _, _, ?_, (by intro y hy; cases hy), rfl, After.put hW hb _⟩
    have hc : clockM k clock es = clock := by simp [clockM, h2]
    have hkey : ((((es.map (Men.entry enc)).toArray[j]?).map (·.key)).getD (enc k)) = enc k := by
      simp [h1, Men.entry, h3]
    have hsb := hk.bits k
    have he : (es.map (Men.entry enc)).toArray.modify j (fun e => { e with key := enc k, val := v.val }) = ((setM k v clock es).map (Men.entry enc)).toArray := by
      rw [← hset]; simp
    have hr : (Instr.mapUpdate mt (.map (some b)) (enc k) v.val).run P W = .ok () { W with heap := W.heap.setIfInBounds b (mapO enc (setM k v clock es) (clockM k clock es)) } := by
      simp only [Instr.mapUpdate, Sem.run_bind, run_underlying hm, MapKept.run_getObj_map hWb, hck, hf, Result.andThen_ok, List.toList_toArray, hkey, Instr.keyThatStays, hsb, if_true, Sem.run_pure, he, hc, MapKept.run_setObj_map _ hWb, mapO]
    simp only [Prim.run, Sem.run_bind, hr, Result.andThen_ok, Sem.run_pure]
    rfl
theorem mapDel_spec {mt kt et : TypeId} {d : TypeDesc} {ats : List TypeId} (hk : KeyOk enc d) (hm : P.underlying mt = some (.map kt et)) (hd : P.underlying kt = some d) {m : Mem} {b clock : Nat} {es : List (Men α)} {k : α} (hb : m b = some (mapO enc es clock)) :
    PrimSpec P (.builtin .delete (mt :: ats)) [.v (.map (some b)), .v (enc k)] m fun r m' => r = [] ∧ m' = m.set b (mapO enc (delM k es) clock) := by
  intro _ ty W hW
  have hWb := hW _ _ hb
  have hf := run_find hk hd W k es
  have hset := del_erase enc k es
  have hck : ∀ e, (Instr.checkKey e 10000 kt (enc k)).run P W = .ok () W := fun e => run_checkKey' hd (hk.isK k) e
  refine ⟨[], _, _, ?_, (by intro y hy; cases hy), ⟨rfl, rfl⟩, After.put hW hb _⟩
  cases hi : es.findIdx? fun e => decide (k = e.k) with
  | none =>
    rw [hi] at hf hset
    simp only at hf hset
    simp [Prim.run, Prim.out, Prim.tup, CV.val, resVal, Builtin.delete_, run_underlying hm, MapKept.run_getObj_map hWb, hck, hf, mapO, MapKept.run_setObj_map _ hWb, ← hset]
  | some j =>
    rw [hi] at hf hset
    simp only at hf hset
    have he : (es.map (Men.entry enc)).toArray.eraseIdxIfInBounds j = ((delM k es).map (Men.entry enc)).toArray := by
      rw [← hset]; simp
    simp [Prim.run, Prim.out, Prim.tup, CV.val, resVal, Builtin.delete_, run_underlying hm, MapKept.run_getObj_map hWb, hck, hf, mapO, MapKept.run_setObj_map _ hWb, ← hset]
end
end Go.E

/-
  A range over a map: whatever order it goes in.
-/
namespace Go.E
section
variable {P : Program} {α : Type} {enc : α → Value}
/-- an iterator over the map b, that has been at these entries -/
def iterO (b clock : Nat) (vis : List Nat) : Obj := .mapIter (some b) clock vis.toArray clock
def leftM (vis : List Nat) (es : List (Men α)) : List (Men α) := es.filter fun e => !vis.contains e.b
theorem rangeM_spec {mt kt et : TypeId} (hm : P.underlying mt = some (.map kt et)) {m : Mem} {b clock : Nat} {es : List (Men α)} (hb : m b = some (mapO enc es clock)) :
    PrimSpec P (.range mt) [.v (.map (some b))] m fun r m' => ∃ it, m it = none ∧ r = [.v (.pointer (some ⟨it, 0, none⟩))] ∧ m' = m.set it (iterO b clock []) := by
  intro _ ty W hW
  refine ⟨[.v (.pointer (some ⟨W.heap.size, 0, none⟩))], _, _, ?_, (by intro y hy; simp at hy; subst hy; rfl), ⟨W.heap.size, hW.none (Nat.le_refl _), rfl, rfl⟩, (After.refl hW).alloc (iterO b clock [])⟩
  simp [Prim.run, Prim.out, Prim.tup, resVal, CV.val, Instr.range, run_underlying hm, MapKept.run_getObj_map (hW _ _ hb), mapO, newObj, Sem.run, Result.andThen, iterO]
theorem rangeM_nil {mt kt et : TypeId} (hm : P.underlying mt = some (.map kt et)) {m : Mem} :
    PrimSpec P (.range mt) [.v (.map none)] m fun r m' => ∃ it, m it = none ∧ r = [.v (.pointer (some ⟨it, 0, none⟩))] ∧ m' = m.set it (.mapIter none 0 #[] 0) := by
  intro _ ty W hW
  refine ⟨[.v (.pointer (some ⟨W.heap.size, 0, none⟩))], _, _, ?_, (by intro y hy; simp at hy; subst hy; rfl), ⟨W.heap.size, hW.none (Nat.le_refl _), rfl, rfl⟩, (After.refl hW).alloc (.mapIter none 0 #[] 0)⟩
  simp [Prim.run, Prim.out, Prim.tup, resVal, CV.val, Instr.range, run_underlying hm, newObj, Sem.run, Result.andThen]
theorem nextM_nil {m : Mem} {it : Nat} (hit : m it = some (.mapIter none 0 #[] 0)) : PrimSpec P (.next false) [.v (.pointer (some ⟨it, 0, none⟩))] m fun r m' => r = [.v (.bool false)] ∧ m' = m := by
  intro _ ty W hW
  have hWi := hW _ _ hit
  refine ⟨[.v (.bool false)], m, W, ?_, (by intro y hy; simp at hy; subst hy; rfl), ⟨rfl, rfl⟩, After.refl hW⟩
  simp [Prim.run, Prim.out, Prim.tup, CV.val, Instr.next, getObj, Sem.run, hWi, Result.andThen]
theorem nextM_spec {m : Mem} {it b clock : Nat} {vis : List Nat} {es : List (Men α)} (hit : m it = some (iterO b clock vis)) (hb : m b = some (mapO enc es clock)) (hborn : ∀ e ∈ es, e.b < clock) (hok : ∀ e ∈ es, e.v.ok) (hone : ∀ a, (enc a).oneCell' = true) :
    PrimSpec P (.next false) [.v (.pointer (some ⟨it, 0, none⟩))] m fun r m' => (leftM vis es = [] ∧ r = [.v (.bool false)] ∧ m' = m) ∨ ∃ e, e ∈ leftM vis es ∧ r = [.v (.bool true), .v (enc e.k), e.v] ∧ m' = m.set it (iterO b clock (vis ++ [e.b])) := by
  intro _ ty W hW
  have hWi := hW _ _ hit
  have hWb := hW _ _ hb
  -- what is left
  have e1 : ((es.map (Men.entry enc)).toArray.filter fun e => !vis.toArray.contains e.born) = ((leftM vis es).map (Men.entry enc)).toArray := by
    simp only [List.filter_toArray, List.filter_map, leftM]
    congr 2
    exact List.filter_congr fun e _ => by simp [Men.entry]; exact decide_eq_decide.2 Iff.rfl
  have e2 : (((leftM vis es).map (Men.entry enc)).toArray.filter fun e => decide (e.born < clock)) = ((leftM vis es).map (Men.entry enc)).toArray := by
    simp only [List.filter_toArray]
    congr 1
    rw [List.filter_eq_self]
    intro x hx
    obtain ⟨e, he, rfl⟩ := List.mem_map.1 hx
    exact decide_eq_true (hborn e (List.mem_filter.1 he).1)
  have e3 : (((leftM vis es).map (Men.entry enc)).toArray.filter fun e => decide (e.born ≥ clock)) = #[] := by
    simp only [List.filter_toArray]
    have : ((leftM vis es).map (Men.entry enc)).filter (fun e => decide (e.born ≥ clock)) = [] := by
      rw [List.filter_eq_nil_iff]
      intro x hx
      obtain ⟨e, he, rfl⟩ := List.mem_map.1 hx
      have := hborn e (List.mem_filter.1 he).1
      intro h
      have h := of_decide_eq_true h
      simp only [Men.entry] at h; omega
    rw [this]
  have e4 : (!vis.toArray.isEmpty && !(es.map (Men.entry enc)).toArray.isEmpty && (es.map (Men.entry enc)).toArray.all fun e => decide (e.born ≥ clock)) = false := by
    cases es with
    | nil => simp
    | cons e es =>
      have h0 := hborn e (by simp)
      have : ((e :: es).map (Men.entry enc)).toArray.all (fun e => decide (e.born ≥ clock)) = false := by
        simp only [List.all_toArray, List.map_cons, List.all_cons, Men.entry]
        rw [decide_eq_false (show ¬ e.b ≥ clock by omega)]; rfl
      rw [this, Bool.and_false]
  have e5 : (Sem.run P (getObj it) W) = .ok (iterO b clock vis) W := by simp [getObj, Sem.run, hWi, iterO]
  cases hl : leftM vis es with
  | nil =>
    rw [hl] at e1 e2 e3
    refine ⟨[.v (.bool false)], m, W, ?_, (by intro y hy; simp at hy; subst hy; rfl), .inl ⟨rfl, rfl, rfl⟩, After.refl hW⟩
    simp only [Prim.run, List.map_cons, List.map_nil, CV.val, Instr.next, Sem.run_bind, e5, Result.andThen_ok, iterO, MapKept.run_getObj_map hWb, mapO, e4, Bool.false_eq_true, if_false, e1, List.map_nil]
    simp [Question.forced, Prim.out, Prim.tup, CV.val]
  | cons e0 es' =>
    have hpos : 0 < (leftM vis es).length := by rw [hl]; simp
    -- which one comes
    have key : ∀ (i : Nat) (W1 : World) (hi : i < (leftM vis es).length), W1.heap = W.heap → After m W m W1 →
        ∃ r m' W', (do
          setObj it (.mapIter (some b) clock (vis.toArray.push ((leftM vis es)[i]).b) clock)
          pure (.tuple #[.bool true, enc ((leftM vis es)[i]).k, ((leftM vis es)[i]).v.val] : Value) : Sem Value).run P W1 = .ok ((Prim.next false).out r) W' ∧ (∀ x ∈ r, x.ok) ∧
          ((leftM vis es = [] ∧ r = [.v (.bool false)] ∧ m' = m) ∨ ∃ e, e ∈ leftM vis es ∧ r = [.v (.bool true), .v (enc e.k), e.v] ∧ m' = m.set it (iterO b clock (vis ++ [e.b]))) ∧ After m W m' W' := by
      intro i W1 hi hheap haft
      have hW1 : Over m W1 := haft.over
      have hm1 := List.getElem_mem hi
      generalize (leftM vis es)[i] = e at hm1
      refine ⟨[.v (.bool true), .v (enc e.k), e.v], _, _, ?_, ?_, .inr ⟨e, hm1, rfl, rfl⟩, haft.trans (After.put hW1 hit _)⟩
      · simp [setObj, Sem.run, hheap, hWi, iterO, Result.andThen, Prim.out, Prim.tup, CV.val]
      · intro y hy
        simp only [List.mem_cons, List.not_mem_nil, or_false] at hy
        rcases hy with rfl | rfl | rfl
        · rfl
        · exact hone _
        · exact hok _ (List.mem_filter.1 hm1).1
    rw [← hl]
    have hne : ((leftM vis es).map (Men.entry enc)).toArray.isEmpty = false := by rw [hl]; simp
    have hsz : (((leftM vis es).map (Men.entry enc)).toArray.map some).size = (leftM vis es).length := by simp
    have hgo : (Instr.next (.pointer (some ⟨it, 0, none⟩)) false ty).run P W = ((choose (.mapNext (leftM vis es).length)).run P W).andThen fun i W1 => (match (((leftM vis es).map (Men.entry enc)).toArray.map some)[i]? with
        | some (some e) => (do setObj it (.mapIter (some b) clock (vis.toArray.push e.born) clock); pure (.tuple #[.bool true, e.key, e.val]) : Sem Value)
        | some none => pure (.tuple #[.bool false])
        | none => stuck "Next: no such candidate").run P W1 := by
      simp only [Instr.next, Sem.run_bind, e5, Result.andThen_ok, iterO, MapKept.run_getObj_map hWb, mapO, e4, Bool.false_eq_true, if_false, e1, e2, e3, hne, Array.append_empty, Array.empty_append, hsz]
      rfl
    have hpick : ∀ i (hi : i < (leftM vis es).length), (((leftM vis es).map (Men.entry enc)).toArray.map some)[i]? = some (some (Men.entry enc (leftM vis es)[i])) := fun i hi => by
      simp [hi]
    have hrun : ∀ a, (Prim.run (.next false) ty [a]) = Instr.next a false ty := fun a => rfl
    simp only [List.map_cons, List.map_nil, CV.val, hrun, hgo, run_choose]
    by_cases hf : (Question.mapNext (leftM vis es).length).forced = true
    · rw [if_pos hf]
      simp only [Result.andThen_ok, hpick 0 hpos]
      exact key 0 W hpos rfl (After.refl hW)
    · rw [if_neg hf]
      have hlt : (Question.mapNext (leftM vis es).length).cut (W.tape W.drawn (.mapNext (leftM vis es).length)) < (leftM vis es).length := Nat.mod_lt _ hpos
      simp only [Result.andThen_ok, hpick _ hlt]
      exact key _ _ hlt rfl (After.refl hW).drew
theorem entryM_spec {m : Mem} {it b clock : Nat} {vis : List Nat} {es : List (Men α)} {e : Men α} (hit : m it = some (iterO b clock (vis ++ [e.b]))) (hb : m b = some (mapO enc es clock)) (he : e ∈ es) (hd : es.Pairwise fun x y => x.b ≠ y.b) (hok : e.v.ok) (hone : (enc e.k).oneCell' = true) :
    PrimSpec P .entry [.v (.pointer (some ⟨it, 0, none⟩))] m fun r m' => r = [.v (enc e.k), e.v] ∧ m = m' := by
  intro _ ty W hW
  have hWi := hW _ _ hit
  have hWb := hW _ _ hb
  have e5 : (Sem.run P (getObj it) W) = .ok (iterO b clock (vis ++ [e.b])) W := by simp [getObj, Sem.run, hWi, iterO]
  have hfind : (es.map (Men.entry enc)).toArray.find? (fun x => x.born == e.b) = some (Men.entry enc e) := by
    rw [List.find?_toArray, List.find?_map]
    have : es.find? ((fun x : MapEntry => x.born == e.b) ∘ Men.entry enc) = some e := by
      clear hb hWb
      induction es with
      | nil => cases he
      | cons x es ih =>
        obtain ⟨h1, h2⟩ := List.pairwise_cons.1 hd
        rw [List.find?_cons]
        rcases List.mem_cons.1 he with rfl | he
        · simp [Men.entry]
        · have hne := h1 e he
          have : ((fun x : MapEntry => x.born == e.b) ∘ Men.entry enc) x = false := by simp [Men.entry, hne]
          rw [this]; exact ih he h2
    rw [this]; rfl
  refine ⟨[.v (enc e.k), e.v], m, W, ?_, ?_, ⟨rfl, rfl⟩, After.refl hW⟩
  · simp only [Prim.run, List.map_cons, List.map_nil, CV.val, Instr.entry, Sem.run_bind, e5, Result.andThen_ok, iterO, MapKept.run_getObj_map hWb, mapO]
    simp [hfind, Prim.out, Prim.tup, resVal, CV.val, Men.entry, MapKept.run_getObj_map hWb]
  · intro y hy
    simp at hy
    rcases hy with rfl | rfl
    · exact hone
    · exact hok
end
end Go.E

/-
  Files: what they are in memory.
-/
namespace Go.E.YtgjlajcebcmbaaaGreatDoor
open Go.Proofs
set_option maxRecDepth 100000
/-- a file: its name, the block of its record, its bytes as they lie, how many, how many are safe; when it was born; the memory of its bytes -/
structure Fl where
  name : ByteArray
  bx : Nat
  v : Value
  l : List Nat
  safe : Nat
  born : Nat
  p : Mem
abbrev fileO (v : Value) (safe : Nat) : Obj := .cells #[v, .int .i64 (safe : Int)] 103
abbrev filesO (q : Int) (bm nb ns : Nat) : Obj := .cells #[.int .i64 q, .map (some bm), .int .u64 (nb : Int), .int .u64 (ns : Int)] 90
def Fl.men (f : Fl) : Men ByteArray := ⟨f.name, .v (.pointer (some ⟨f.bx, 0, none⟩)), f.born⟩
def Fl.parts (f : Fl) : List Mem := [blk1 f.bx (fileO f.v f.safe), f.p]
abbrev mapF (F : List Fl) (clock : Nat) : Obj := mapO Value.string (F.map Fl.men) clock
structure Fl.Ok (clock : Nat) (f : Fl) : Prop where
  bs : Bs f.p f.v (nc f.l)
  byt : ∀ x ∈ f.l, x < 256
  safe : f.safe ≤ f.l.length
  born : f.born < clock
/-- files, in a memory of their own -/
structure FS (p : Mem) (bf bm : Nat) (q : Int) (nb ns clock : Nat) (F : List Fl) : Prop where
  sp : Split p (blk1 bf (filesO q bm nb ns) :: blk1 bm (mapF F clock) :: F.flatMap Fl.parts)
  ok : ∀ f ∈ F, f.Ok clock
  names : F.Pairwise fun a b => a.name ≠ b.name
  borns : F.Pairwise fun a b => a.born ≠ b.born
section
variable {p : Mem} {bf bm : Nat} {q : Int} {nb ns clock : Nat} {F : List Fl}
theorem FS.files (h : FS p bf bm q nb ns clock F) : p bf = some (filesO q bm nb ns) := h.sp.sub (a := blk1 bf (filesO q bm nb ns)) (by simp) _ _ (blk1_same ..)
theorem FS.map (h : FS p bf bm q nb ns clock F) : p bm = some (mapF F clock) := h.sp.sub (a := blk1 bm (mapF F clock)) (by simp) _ _ (blk1_same ..)
theorem FS.mem {f : Fl} (h : FS p bf bm q nb ns clock F) (hf : f ∈ F) : p f.bx = some (fileO f.v f.safe) :=
  h.sp.sub (a := blk1 f.bx (fileO f.v f.safe)) (by simp only [List.mem_cons, List.mem_flatMap]; exact .inr (.inr ⟨f, hf, by simp [Fl.parts]⟩)) _ _ (blk1_same ..)
theorem FS.bytes {f : Fl} (h : FS p bf bm q nb ns clock F) (hf : f ∈ F) : Bs p f.v (nc f.l) :=
  (h.ok f hf).bs.sub (h.sp.sub (by simp only [List.mem_cons, List.mem_flatMap]; exact .inr (.inr ⟨f, hf, by simp [Fl.parts]⟩)))
/-- the file of a name -/
def fileOf (F : List Fl) (name : ByteArray) : Option Fl := F.find? fun f => decide (name = f.name)
theorem findM_files (name : ByteArray) : ∀ (F : List Fl), findM name (F.map Fl.men) = (fileOf F name).map fun f => .v (.pointer (some ⟨f.bx, 0, none⟩))
  | [] => rfl
  | f :: F => by
    have ih := findM_files name F
    unfold findM fileOf at *
    rw [List.map_cons, List.find?_cons, List.find?_cons]
    by_cases h : name = f.name
    · simp [h, Fl.men]
    · have e1 : decide (name = f.men.k) = false := decide_eq_false h
      rw [e1, decide_eq_false h]; exact ih
theorem fileOf_mem {name : ByteArray} {f : Fl} (h : fileOf F name = some f) : f ∈ F ∧ f.name = name := by
  refine ⟨List.mem_of_find?_eq_some h, ?_⟩
  have := List.find?_some h
  exact (of_decide_eq_true this).symm
theorem fileOf_split {name : ByteArray} {f : Fl} (h : fileOf F name = some f) : ∃ A B, F = A ++ f :: B ∧ (∀ x ∈ A, x.name ≠ name) ∧ f.name = name := by
  obtain ⟨h1, A, B, h2, h3⟩ := List.find?_eq_some_iff_append.1 h
  exact ⟨A, B, h2, fun x hx e => by have := h3 x hx; simp [e] at this, (of_decide_eq_true h1).symm⟩
end
abbrev ptrB (b : Nat) : CV := .v (.pointer (some ⟨b, 0, none⟩))
theorem pz : (Tryz.prog.info? 101).bind (·.zero) = some (Value.pointer none) := by kernel_rfl
theorem lookupF {m : Mem} {bm clock : Nat} {F : List Fl} {name : ByteArray} (hb : m bm = some (mapF F clock)) (ok : Bool) :
    PrimSpec Tryz.prog (.lookup 83 ok) [.v (.map (some bm)), .v (.string name)] m fun r m' => r = (if ok then [((fileOf F name).map fun f => ptrB f.bx).getD (.v (.pointer none)), .v (.bool (fileOf F name).isSome)] else [((fileOf F name).map fun f => ptrB f.bx).getD (.v (.pointer none))]) ∧ m = m' := by
  have h := lookup_spec (P := Tryz.prog) strKey Tryz.underlying83 Tryz.underlying9 (z := .v (.pointer none)) pz rfl (k := name) hb (fun e he => by obtain ⟨f, _, rfl⟩ := List.mem_map.1 he; rfl) ok
  rw [findM_files] at h
  simp only [Option.isSome_map] at h
  exact h
theorem made_nil {m : Mem} : Ret Tryz.prog 103 [.v (.pointer none)] m [boolV false] := by
  refine en103 rfl (goY ?_)
  conv => whnf
  refine ⟨fun h => absurd h (by first | decide | simp), fun _ => ?_⟩
  conv => whnf
  exact ⟨rfl, rfl⟩
theorem made_zero {m : Mem} {bf : Nat} {arr : Array Value} (h : m bf = some (.cells arr 90)) (h1 : arr[1]? = some (.map none)) : Ret Tryz.prog 103 [ptrB bf] m [boolV false] := by
  refine en103 rfl (goY ?_)
  conv => whnf
  refine ⟨fun _ => ?_, fun h => absurd h (by first | decide | simp)⟩
  conv => whnf
  refine ⟨_, mcell_of h h1, rfl, ?_⟩
  conv => whnf
  exact ⟨rfl, rfl⟩
theorem made_spec {m : Mem} {bf bm : Nat} {arr : Array Value} (h : m bf = some (.cells arr 90)) (h1 : arr[1]? = some (.map (some bm))) : Ret Tryz.prog 103 [ptrB bf] m [boolV true] := by
  refine en103 rfl (goY ?_)
  conv => whnf
  refine ⟨fun _ => ?_, fun h => absurd h (by first | decide | simp)⟩
  conv => whnf
  refine ⟨_, mcell_of h h1, rfl, ?_⟩
  conv => whnf
  exact ⟨rfl, rfl⟩
end Go.E.YtgjlajcebcmbaaaGreatDoor

/-
  Files: what is asked of them.
-/
namespace Go.E.YtgjlajcebcmbaaaGreatDoor
open Go.Proofs
set_option maxRecDepth 100000
def isFB (c : Nat) : Bool := (decide (97 ≤ c) && decide (c ≤ 122)) || ((decide (48 ≤ c) && decide (c ≤ 57)) || (decide (c = 45) || decide (c = 46)))
def nameOk (l : List Nat) : Bool := decide (0 < l.length) && decide (l.length ≤ 20) && l.all isFB
theorem isFByte_spec {m : Mem} {c : Nat} : Ret Tryz.prog 114 [.v (.int .u8 (c : Int))] m [boolV (isFB c)] := by
  have e45 : ((c : Int) == 45) = decide (c = 45) := by by_cases h : c = 45 <;> simp [h]; omega
  have e46 : ((c : Int) == 46) = decide (c = 46) := by by_cases h : c = 46 <;> simp [h]; omega
  refine en114 rfl (goY ?_)
  conv => whnf
  repeat' (first | (refine ⟨fun h => ?_, fun h => ?_⟩ <;> conv => whnf) | fail)
  all_goals (refine ⟨?_, rfl⟩; (try simp only [e45, e46] at *); by_cases h45 : c = 45 <;> by_cases h46 : c = 46 <;> simp [isFB, h45, h46] at * <;> omega)
theorem chsAt (s : ByteArray) (i : Nat) : (s.data.toList.getD i 0).toNat = (chs s).getD i 0 := by
  simp only [chs, List.getD_eq_getElem?_getD, List.getElem?_map]
  cases s.data.toList[i]? <;> rfl
theorem isName_spec {m : Mem} {s : ByteArray} (hs : s.size ≤ 1000000) : Ret Tryz.prog 85 [.v (.string s)] m [boolV (nameOk (chs s))] := by
  refine en85 rfl (goY ?_)
  conv => whnf
  refine .mk (ι := Nat) (fun i => s.size - i) (fun i mm => i ≤ s.size ∧ (∀ x ∈ (chs s).take i, isFB x = true) ∧ mm = m) (fun i => [(0, .c (.v (.string s))), (5, .c (i64 s.size)), (6, .c (i64 i))]) (fun _ => []) 0 ⟨by omega, by simp, rfl⟩ ?_ ?_
  · conv => whnf
    repeat (refine And.intro (by first | with_reducible rfl | exact congrArg (Value.int _) (wi (by omega) (by omega)) | exact wi (by omega) (by omega) | rfl) ?_; conv => whnf)
    first | exact trivial | exact fun _ _ h => h
  rintro i mm ⟨hi, hall, he⟩
  subst mm
  conv => whnf
  refine ⟨fun h => ?_, fun h => ?_⟩
  · have h' := of_decide_eq_true h
    have hlt : i < s.size := by omega
    clear h
    conv => whnf
    repeat (refine And.intro (by first | omega | (simp only [times]; omega)) ?_; conv => whnf)
    rw [Int.toNat_natCast, chsAt]
    first | refine xretk (isFByte_spec) ?_ | refine xret (isFByte_spec) ?_
    conv => whnf
    have hli : i < (chs s).length := by rw [chs_len]; omega
    have hget : (chs s)[i]? = some ((chs s).getD i 0) := by simp [List.getD_eq_getElem?_getD, List.getElem?_eq_getElem hli]
    refine ⟨fun h3 => ?_, fun h3 => ?_⟩
    · conv => whnf
      refine ⟨?_, rfl⟩
      have h3' : isFB ((chs s).getD i 0) = false := by simpa using h3
      have : (chs s).all isFB = false := by
        rw [List.all_eq_false]
        exact ⟨_, List.mem_of_getElem? hget, by simp only [h3', Bool.false_eq_true, not_false_eq_true]⟩
      simp [nameOk, this]
    · conv => whnf
      have h3' : isFB ((chs s).getD i 0) = true := by simpa using h3
      refine ⟨i + 1, ⟨by omega, ?_, rfl⟩, by omega, ?_⟩
      · intro x hx
        rw [List.take_succ_eq_append_getElem hli] at hx
        rcases List.mem_append.1 hx with hx | hx
        · exact hall x hx
        · rw [List.mem_singleton.1 hx]
          rw [List.getElem?_eq_getElem hli] at hget
          rw [Option.some.inj hget]; exact h3'
      · conv => whnf
        repeat (refine And.intro (by first | with_reducible rfl | (first | exact congrArg (Value.int _) (iadd (by omega))) | exact congrArg (Value.int _) (wi (by omega) (by omega)) | exact wi (by omega) (by omega) | rfl) ?_; conv => whnf)
        first | exact trivial | exact fun _ _ h => h
  · have h1' := of_decide_eq_false h
    obtain rfl : i = s.size := by omega
    clear h
    have hl := chs_len s
    rw [← hl, List.take_length] at hall
    have hal : (chs s).all isFB = true := List.all_eq_true.2 hall
    conv => whnf
    refine ⟨fun h => ?_, fun h => ?_⟩
    · have h2 := of_decide_eq_true h
      conv => whnf
      refine ⟨?_, rfl⟩
      simp only [nameOk, hal, hl, Bool.and_true]
      rw [decide_eq_true (show 0 < s.size by omega), Bool.true_and]
      rw [decide_eq_decide.2 (show ((s.size : Int) ≤ 20) ↔ s.size ≤ 20 by omega)]
    · have h2 := of_decide_eq_false h
      conv => whnf
      refine ⟨?_, rfl⟩
      simp only [nameOk, hal, hl, Bool.and_true]
      rw [decide_eq_false (show ¬ 0 < s.size by omega), Bool.false_and]
theorem find_nil {m : Mem} {name : ByteArray} : Ret Tryz.prog 72 [.v (.pointer none), .v (.string name)] m [.v (.pointer none), i64 6] := by
  refine en72 rfl (goY ?_)
  conv => whnf
  first | refine xretk (made_nil) ?_ | refine xret (made_nil) ?_
  conv => whnf
  refine ⟨fun _ => ?_, fun h => absurd h (by first | decide | simp)⟩
  conv => whnf
  exact ⟨rfl, rfl⟩
theorem find_zero {m : Mem} {bf : Nat} {arr : Array Value} {name : ByteArray} (h : m bf = some (.cells arr 90)) (h1 : arr[1]? = some (.map none)) : Ret Tryz.prog 72 [ptrB bf, .v (.string name)] m [.v (.pointer none), i64 6] := by
  refine en72 rfl (goY ?_)
  conv => whnf
  first | refine xretk (made_zero h h1) ?_ | refine xret (made_zero h h1) ?_
  conv => whnf
  refine ⟨fun _ => ?_, fun h => absurd h (by first | decide | simp)⟩
  conv => whnf
  exact ⟨rfl, rfl⟩
theorem find_spec {m : Mem} {bf bm : Nat} {q : Int} {nb ns clock : Nat} {F : List Fl} {name : ByteArray} (h : FS m bf bm q nb ns clock F) : Ret Tryz.prog 72 [ptrB bf, .v (.string name)] m (match fileOf F name with
    | some f => [ptrB f.bx, i64 0]
    | none => [.v (.pointer none), i64 4]) := by
  refine en72 rfl (goY ?_)
  conv => whnf
  first | refine xretk (made_spec h.files rfl) ?_ | refine xret (made_spec h.files rfl) ?_
  conv => whnf
  refine ⟨fun h => absurd h (by first | decide | simp), fun _ => ?_⟩
  conv => whnf
  refine ⟨_, mcell_of h.files rfl, rfl, ?_⟩
  conv => whnf
  refine .mk _ (lookupF h.map true) ?_
  rintro _ _ ⟨rfl, rfl⟩
  conv => whnf
  cases hf : fileOf F name with
  | none =>
    refine ⟨fun _ => ?_, fun h => absurd h (by first | decide | simp)⟩
    conv => whnf
    exact ⟨rfl, rfl⟩
  | some f =>
    refine ⟨fun h => absurd h (by simp), fun _ => ?_⟩
    conv => whnf
    exact ⟨rfl, rfl⟩
def safeOf (F : List Fl) (name : ByteArray) : Nat := ((fileOf F name).map (·.safe)).getD 0
theorem safe_spec {m : Mem} {bf bm : Nat} {q : Int} {nb ns clock : Nat} {F : List Fl} {name : ByteArray} (h : FS m bf bm q nb ns clock F) : Ret Tryz.prog 61 [ptrB bf, .v (.string name)] m [i64 (safeOf F name)] := by
  have hf := find_spec (name := name) h
  refine en61 rfl (goY ?_)
  conv => whnf
  cases e : fileOf F name with
  | none =>
    rw [e] at hf
    first | refine xretk (hf) ?_ | refine xret (hf) ?_
    conv => whnf
    refine ⟨fun _ => ?_, fun h => absurd h (by first | decide | simp)⟩
    conv => whnf
    exact ⟨by simp [safeOf, e], rfl⟩
  | some f =>
    rw [e] at hf
    first | refine xretk (hf) ?_ | refine xret (hf) ?_
    conv => whnf
    refine ⟨fun h => absurd h (by first | decide | simp), fun _ => ?_⟩
    conv => whnf
    have hm := h.mem (fileOf_mem e).1
    refine ⟨_, mcell_of hm rfl, rfl, ?_⟩
    conv => whnf
    exact ⟨by simp [safeOf, e], rfl⟩
theorem safe_zero {m : Mem} {bf : Nat} {arr : Array Value} {name : ByteArray} (h : m bf = some (.cells arr 90)) (h1 : arr[1]? = some (.map none)) : Ret Tryz.prog 61 [ptrB bf, .v (.string name)] m [i64 0] := by
  refine en61 rfl (goY ?_)
  conv => whnf
  first | refine xretk (find_zero h h1) ?_ | refine xret (find_zero h h1) ?_
  conv => whnf
  refine ⟨fun _ => ?_, fun h => absurd h (by first | decide | simp)⟩
  conv => whnf
  exact ⟨rfl, rfl⟩
/-! ### atomic numbers within a record -/
theorem aload_at {m : Mem} {b o : Nat} {x : Nat} (hb : mcell m b o = some (.int .u64 (x : Int))) : Ret Tryz.prog 91 [.v (.pointer (some ⟨b, o, none⟩))] m [.v (.int .u64 (x : Int))] := by
  refine en91 rfl (goY ?_)
  conv => whnf
  refine xext (ext_load (P := Tryz.prog) Tryz.func118 (by rfl) (by rfl) (by kernel_rfl) .u64 (by kernel_rfl) (x := (x : Int)) hb) ?_
  rintro _ _ ⟨rfl, rfl⟩
  conv => whnf
  exact ⟨rfl, rfl⟩
theorem aadd_at {m : Mem} {b o : Nat} {x y : Nat} {arr : Array Value} {T : TypeId} (hb : m b = some (.cells arr T)) (ho : arr[o]? = some (.int .u64 (x : Int))) (hxy : x + y < 18446744073709551616) : Spec Tryz.prog 84 [.v (.pointer (some ⟨b, o, none⟩)), .v (.int .u64 (y : Int))] m fun r m' => r = [.v (.int .u64 ((x + y : Nat) : Int))] ∧ m' = m.set b (.cells (arr.setIfInBounds o (.int .u64 ((x + y : Nat) : Int))) T) := by
  have ew : IntKind.u64.wrap ((x : Int) + (y : Int)) = ((x + y : Nat) : Int) := by rw [wu (by omega) (by omega)]; omega
  refine en84 rfl (goY ?_)
  conv => whnf
  refine xext (ext_add (P := Tryz.prog) Tryz.func113 (by rfl) (by rfl) (by kernel_rfl) (by kernel_rfl) (x := (x : Int)) hb ho) ?_
  rintro _ _ ⟨rfl, rfl⟩
  rw [ew]
  conv => whnf
  exact ⟨rfl, rfl⟩
theorem counts_nil {m : Mem} : Ret Tryz.prog 58 [.v (.pointer none)] m [.v (.int .u64 0), .v (.int .u64 0)] := by
  refine en58 rfl (goY ?_)
  conv => whnf
  refine ⟨fun _ => ?_, fun h => absurd h (by first | decide | simp)⟩
  conv => whnf
  exact ⟨rfl, rfl⟩
theorem counts_spec {m : Mem} {bf bm : Nat} {q : Int} {nb ns clock : Nat} {F : List Fl} (h : FS m bf bm q nb ns clock F) : Ret Tryz.prog 58 [ptrB bf] m [.v (.int .u64 (nb : Int)), .v (.int .u64 (ns : Int))] := by
  refine en58 rfl (goY ?_)
  conv => whnf
  refine ⟨fun h => absurd h (by first | decide | simp), fun _ => ?_⟩
  conv => whnf
  first | refine xretk (aload_at (mcell_of h.files rfl)) ?_ | refine xret (aload_at (mcell_of h.files rfl)) ?_
  conv => whnf
  first | refine xretk (aload_at (mcell_of h.files rfl)) ?_ | refine xret (aload_at (mcell_of h.files rfl)) ?_
  conv => whnf
  exact ⟨rfl, rfl⟩
end Go.E.YtgjlajcebcmbaaaGreatDoor

/-
  slices.Sort at texts: the library's contract (Derived/Shelf), laid at this program; and as a contract of memory that is owned.
-/
namespace Go.E.YtgjlajcebcmbaaaGreatDoor
open Go.Proofs
set_option maxRecDepth 100000
def ren : Go.Shelf.Ren := ⟨fun n => if n = 125 then 112 else if n = 128 then 139 else if n = 129 then 140 else if n = 190 then 81 else if n = 258 then 111 else if n = 302 then 130 else if n = 303 then 131 else if n = 304 then 132 else if n = 305 then 133 else if n = 306 then 134 else if n = 307 then 135 else if n = 308 then 136 else if n = 309 then 137 else if n = 310 then 138 else if n = 329 then 150 else if n = 330 then 151 else if n = 333 then 149 else if n = 334 then 152 else if n = 335 then 153 else if n = 336 then 154 else if n = 344 then 157 else 0, fun n => if n = 0 then 0 else if n = 3 then 3 else if n = 4 then 4 else if n = 5 then 5 else if n = 9 then 9 else if n = 31 then 99 else if n = 46 then 116 else if n = 51 then 134 else if n = 53 then 57 else if n = 131 then 26 else if n = 182 then 191 else if n = 183 then 192 else if n = 218 then 205 else if n = 222 then 208 else if n = 228 then 210 else if n = 229 then 211 else 0, fun n => n⟩
theorem laysSort : Lays.n190 Tryz.prog ren where
  mixed := by kernel_rfl
  f125 := by kernel_rfl
  f128 := by kernel_rfl
  f129 := by kernel_rfl
  f190 := by kernel_rfl
  f258 := by kernel_rfl
  f302 := by kernel_rfl
  f303 := by kernel_rfl
  f304 := by kernel_rfl
  f305 := by kernel_rfl
  f306 := by kernel_rfl
  f307 := by kernel_rfl
  f308 := by kernel_rfl
  f309 := by kernel_rfl
  f310 := by kernel_rfl
  f329 := by kernel_rfl
  f330 := by kernel_rfl
  f333 := by kernel_rfl
  f334 := by kernel_rfl
  f335 := by kernel_rfl
  f336 := by kernel_rfl
  f344 := by kernel_rfl
  t0 := Tryz.underlying0
  a0 := Tryz.isAgg0
  z0 := Tryz.sizeOf0
  v0 := Tryz.zeroValue0
  t3 := Tryz.underlying3
  a3 := Tryz.isAgg3
  z3 := Tryz.sizeOf3
  v3 := Tryz.zeroValue3
  t4 := Tryz.underlying4
  a4 := Tryz.isAgg4
  z4 := Tryz.sizeOf4
  v4 := Tryz.zeroValue4
  t5 := Tryz.underlying5
  a5 := Tryz.isAgg5
  z5 := Tryz.sizeOf5
  v5 := Tryz.zeroValue5
  t9 := Tryz.underlying9
  a9 := Tryz.isAgg9
  z9 := Tryz.sizeOf9
  v9 := Tryz.zeroValue9
  t31 := Tryz.underlying99
  a31 := Tryz.isAgg99
  z31 := Tryz.sizeOf99
  v31 := Tryz.zeroValue99
  t46 := Tryz.underlying116
  a46 := Tryz.isAgg116
  z46 := Tryz.sizeOf116
  v46 := Tryz.zeroValue116
  t51 := Tryz.underlying134
  a51 := Tryz.isAgg134
  z51 := Tryz.sizeOf134
  v51 := Tryz.zeroValue134
  t53 := Tryz.underlying57
  a53 := Tryz.isAgg57
  z53 := Tryz.sizeOf57
  v53 := Tryz.zeroValue57
  t131 := Tryz.underlying26
  a131 := Tryz.isAgg26
  z131 := Tryz.sizeOf26
  v131 := Tryz.zeroValue26
  t182 := Tryz.underlying191
  a182 := Tryz.isAgg191
  z182 := Tryz.sizeOf191
  v182 := Tryz.zeroValue191
  t183 := Tryz.underlying192
  a183 := Tryz.isAgg192
  z183 := Tryz.sizeOf192
  v183 := Tryz.zeroValue192
  t218 := Tryz.underlying205
  a218 := Tryz.isAgg205
  z218 := Tryz.sizeOf205
  v218 := Tryz.zeroValue205
  t222 := Tryz.underlying208
  a222 := Tryz.isAgg208
  z222 := Tryz.sizeOf208
  v222 := Tryz.zeroValue208
  t228 := Tryz.underlying210
  a228 := Tryz.isAgg210
  z228 := Tryz.sizeOf210
  v228 := Tryz.zeroValue210
  t229 := Tryz.underlying211
  a229 := Tryz.isAgg211
  z229 := Tryz.sizeOf211
  v229 := Tryz.zeroValue211
end Go.E.YtgjlajcebcmbaaaGreatDoor

/-
  slices.Sort at texts, of memory that is owned.
-/
namespace Go.E.YtgjlajcebcmbaaaGreatDoor
open Go.Proofs
set_option maxRecDepth 100000
def encB (s : ByteArray) : List UInt8 := s.data.toList
def srtB (ss : List ByteArray) : List ByteArray := ((ss.map encB).mergeSort fun x y => decide (x ≤ y)).map fun l => ⟨l.toArray⟩
theorem encB_inj {a b : ByteArray} (h : encB a = encB b) : a = b := by
  cases a; cases b
  unfold encB at h
  congr 1
  exact Array.toList_inj.1 h
theorem srtB_len (ss : List ByteArray) : (srtB ss).length = ss.length := by simp [srtB, List.length_mergeSort]
theorem enters_sort : Enters Tryz.prog 81 := fun args w => by
  have h1 : Tryz.prog.funcs[81]? = some Tryz.f81 := Tryz.func81
  have h2 : (Tryz.f81.name == "runtime.NumGoroutine") = false := by kernel_rfl
  have h3 : ∃ c, Tryz.f81.body = some c := ⟨_, rfl⟩
  obtain ⟨c, h3⟩ := h3
  have hn' : ¬ Tryz.f81.name = "runtime.NumGoroutine" := by simpa using h2
  simp [callFunc, h1, h3, hn']
theorem after_sorted {m : Mem} {W : World} (hW : Over m W) {b o k : Nat} {arr : Array Value} {T : TypeId} {fr : Nat × Nat} (hb : m b = some (.cells arr T fr)) (d : Array (List UInt8)) (os : Array Obj) :
    After m W (m.set b (.cells (Sort.putCells encStr o d arr) T fr)) (Sort.grow (Sort.putRow encStr (Sort.ahead W k) b o d) os) := by
  have hWb := hW _ _ hb
  have hlt := hW.lt hb
  have hold : ∀ x, x < W.heap.size → (Sort.grow (Sort.putRow encStr (Sort.ahead W k) b o d) os).heap[x]? = if b = x then some (.cells (Sort.putCells encStr o d arr) T fr) else W.heap[x]? := fun x hx => by
    have e : (Sort.grow (Sort.putRow encStr (Sort.ahead W k) b o d) os).heap = W.heap.modify b (Sort.onCells (Sort.putCells encStr o d)) ++ os := rfl
    rw [e, Array.getElem?_append_left (by simpa using hx), Array.getElem?_modify]
    by_cases h : b = x
    · subst h; simp [hWb, Sort.onCells]
    · simp [h]
  refine ⟨fun x u hx => ?_, ?_, rfl, rfl, rfl, fun x hx hn => ?_⟩
  · by_cases h : x = b
    · subst h; rw [Mem.set_same] at hx; rw [hold _ hlt, if_pos rfl]; exact hx
    · rw [Mem.set_ne _ _ h] at hx
      rw [hold _ (hW.lt hx), if_neg (Ne.symm h)]; exact hW _ _ hx
  · show W.heap.size ≤ (W.heap.modify b (Sort.onCells (Sort.putCells encStr o d)) ++ os).size
    simp
  · have h : x ≠ b := fun e => by subst e; rw [hb] at hn; cases hn
    exact ⟨by rw [Mem.set_ne _ _ h]; exact hn, by rw [hold _ hx, if_neg (Ne.symm h)]⟩
theorem sort_spec {m : Mem} {v : Value} {ss : List ByteArray} (hv : Own m 9 1 v (ss.map Value.string)) (hl : ss.length ≤ 1000000) : Spec Tryz.prog 81 [.v v] m fun r m' => r = [] ∧ Own m' 9 1 v ((srtB ss).map Value.string) := by
  refine ⟨enters_sort, fun _ W hW => ?_⟩
  rcases hv with ⟨rfl, e⟩ | ⟨b, o, c, n, arr, rfl, h1, h2, h3, h4, h5, h6⟩
  · have hs : ss = [] := by cases ss with | nil => rfl | cons _ _ => cases e
    subst hs
    exact (Any.slices_Sort_string_none laysSort none 0 W).mono fun e W' ⟨h1, h2⟩ => ⟨[], m, h1, by simp, ⟨rfl, .inl ⟨rfl, by simp [srtB]⟩⟩, by subst h2; exact After.refl hW⟩
  · have hn : ss.length = n := by simpa using h2
    subst hn
    have hWb := hW _ _ h1
    have hlt : b < W.heap.size := hW.lt h1
    have hH : Sort.Holds encStr W b o (ss.map encB).toArray := fun j hj => by
      have hj' : j < ss.length := by simpa using hj
      refine ⟨?_, by simp [World.frozen?, hWb]⟩
      rw [cell_at hWb]
      have := h5 j (.string ss[j]) (by simp [hj'])
      rw [this]
      simp [hj', encB, encStr]
    have hc := calls_of_every_depth fun D => AnyS.slices_Sort_string_alone laysSort D b o c (ss.map encB) W hH hlt (by simp; omega)
    rw [List.length_map] at hc
    refine hc.mono fun e W' ⟨he, k, os, hw⟩ => ?_
    subst he
    subst hw
    refine ⟨[], _, rfl, by simp, ⟨rfl, .inr ⟨b, o, c, ss.length, _, rfl, Mem.set_same .., by rw [List.length_map, srtB_len, Nat.mul_one], h3, ?_, fun j u hu => ?_, ?_⟩⟩, after_sorted hW h1 _ _⟩
    · simp only [Sort.putCells, Array.size_mapIdx]; exact h4
    · have hjl : j < ss.length := by have := (List.getElem?_eq_some_iff.1 hu).1; rw [List.length_map, srtB_len] at this; exact this
      have hsz : ((ss.map encB).mergeSort fun x y => decide (x ≤ y)).toArray.size = ss.length := by simp [List.length_mergeSort]
      have hoj : o + j < arr.size := by omega
      rw [Sort.putCells, Array.getElem?_mapIdx, Array.getElem?_eq_getElem hoj, Option.map_some, if_pos ⟨by omega, by omega⟩, show o + j - o = j by omega, getElem!_pos _ j (by omega)]
      rw [srtB, List.map_map, List.getElem?_map] at hu
      rw [← hu]
      simp [List.getElem?_eq_getElem (show j < ((ss.map encB).mergeSort fun x y => decide (x ≤ y)).length by simpa [List.length_mergeSort] using hjl)]
    · intro u hu
      obtain ⟨x, _, rfl⟩ := List.mem_map.1 hu
      rfl
end Go.E.YtgjlajcebcmbaaaGreatDoor

/-
  Files: what goes over all of them.
-/
namespace Go.E.YtgjlajcebcmbaaaGreatDoor
open Go.Proofs
set_option maxRecDepth 100000
/-- some files, of other births each, are a part of all -/
theorem subR : ∀ {vis F : List Fl}, (vis.Pairwise fun a b => a.born ≠ b.born) → (∀ f ∈ vis, f ∈ F) → ∃ R, (vis ++ R).Perm F
  | [], F, _, _ => ⟨F, List.Perm.refl _⟩
  | x :: vs, F, hv, hF => by
    obtain ⟨h1, h2⟩ := List.pairwise_cons.1 hv
    obtain ⟨A, B, rfl⟩ := List.append_of_mem (hF x (by simp))
    obtain ⟨R, hR⟩ := subR (vis := vs) (F := A ++ B) h2 fun f hf => by
      have := hF f (by simp [hf])
      rcases List.mem_append.1 this with h | h
      · exact List.mem_append_left _ h
      · rcases List.mem_cons.1 h with rfl | h
        · exact absurd rfl (h1 f hf)
        · exact List.mem_append_right _ h
    refine ⟨R, ?_⟩
    exact (List.Perm.cons x hR).trans List.perm_middle.symm
theorem allR {vis F : List Fl} (hv : vis.Pairwise fun a b => a.born ≠ b.born) (hF : ∀ f ∈ vis, f ∈ F) (hb : F.Pairwise fun a b => a.born ≠ b.born) (hall : ∀ f ∈ F, ∃ g ∈ vis, g.born = f.born) : vis.Perm F := by
  obtain ⟨R, hR⟩ := subR hv hF
  cases R with
  | nil => simpa using hR
  | cons r R =>
    exfalso
    have hp := (List.Perm.pairwise_iff (fun h => Ne.symm h) hR).2 hb
    have hr : r ∈ F := hR.subset (by simp)
    obtain ⟨g, hg, e⟩ := hall r hr
    exact (List.pairwise_append.1 hp).2.2 g hg r (by simp) e
def total (F : List Fl) : Nat := (F.map fun f => f.l.length).sum
theorem total_perm {F G : List Fl} (h : F.Perm G) : total F = total G := (h.map _).sum_nat
theorem total_sub {vis F : List Fl} (hv : vis.Pairwise fun a b => a.born ≠ b.born) (hF : ∀ f ∈ vis, f ∈ F) : total vis ≤ total F := by
  obtain ⟨R, hR⟩ := subR hv hF
  rw [← total_perm hR]
  simp only [total, List.map_append, List.sum_append]; omega
theorem len_sub {vis F : List Fl} (hv : vis.Pairwise fun a b => a.born ≠ b.born) (hF : ∀ f ∈ vis, f ∈ F) : vis.length ≤ F.length := by
  obtain ⟨R, hR⟩ := subR hv hF
  rw [← hR.length_eq, List.length_append]; omega
/-- where a range is: at these files -/
structure Vis (F vis : List Fl) : Prop where
  born : vis.Pairwise fun a b => a.born ≠ b.born
  sub : ∀ f ∈ vis, f ∈ F
theorem Vis.start (F : List Fl) : Vis F [] := ⟨by simp, by simp⟩
theorem Vis.step {F vis : List Fl} {f : Fl} (h : Vis F vis) (hf : f ∈ F) (hn : ∀ g ∈ vis, g.born ≠ f.born) : Vis F (vis ++ [f]) := by
  refine ⟨List.pairwise_append.2 ⟨h.born, by simp, fun a ha b hb => ?_⟩, fun g hg => ?_⟩
  · rw [List.mem_singleton.1 hb]; exact hn a ha
  · rcases List.mem_append.1 hg with hg | hg
    · exact h.sub g hg
    · rw [List.mem_singleton.1 hg]; exact hf
theorem left_of {F vis : List Fl} {e : Men ByteArray} (he : e ∈ leftM (vis.map (·.born)) (F.map Fl.men)) : ∃ f ∈ F, e = f.men ∧ ∀ g ∈ vis, g.born ≠ f.born := by
  obtain ⟨h1, h2⟩ := List.mem_filter.1 he
  obtain ⟨f, hf, rfl⟩ := List.mem_map.1 h1
  refine ⟨f, hf, rfl, fun g hg e => ?_⟩
  simp only [Fl.men, Bool.not_eq_true', List.contains_eq_mem, decide_eq_false_iff_not] at h2
  exact h2 (List.mem_map.2 ⟨g, hg, e⟩)
theorem left_nil {F vis : List Fl} (h : Vis F vis) (hb : F.Pairwise fun a b => a.born ≠ b.born) (he : leftM (vis.map (·.born)) (F.map Fl.men) = []) : vis.Perm F := by
  refine allR h.born h.sub hb fun f hf => ?_
  have := List.filter_eq_nil_iff.1 he f.men (List.mem_map.2 ⟨f, hf, rfl⟩)
  simp only [Fl.men, Bool.not_eq_true', List.contains_eq_mem, decide_eq_false_iff_not, Decidable.not_not] at this
  obtain ⟨g, hg, e⟩ := List.mem_map.1 this
  exact ⟨g, hg, e⟩
/-! ### lists of texts -/
theorem hSs : ∃ ti, tt.get 99 = some ti ∧ ti.k = .slice 9 := ⟨_, rfl, rfl⟩
theorem hSt : ∃ ti, tt.get 9 = some ti ∧ ti.size = 1 ∧ ti.bytes = 16 ∧ (LB.cells ti.zero).length = 1 := ⟨_, rfl, rfl, rfl, rfl⟩
abbrev sc (ss : List ByteArray) : List Value := ss.map Value.string
def So (m : Mem) (v : Value) (ss : List ByteArray) : Prop := Own m 9 1 v (sc ss)
def Sl (m : Mem) (v : Value) (ss : List ByteArray) : Prop := Lies m 1 v (sc ss)
theorem So.sl {m : Mem} {v : Value} {ss : List ByteArray} (h : So m v ss) : Sl m v ss := Own.lies h
theorem So.sub {m m' : Mem} {v : Value} {ss : List ByteArray} (h : So m v ss) (hs : Sub m m') : So m' v ss := Own.sub h hs
theorem Sl.sub {m m' : Mem} {v : Value} {ss : List ByteArray} (h : Sl m v ss) (hs : Sub m m') : Sl m' v ss := Lies.sub h hs
theorem So.nil (m : Mem) : So m (.slice none 0 0) [] := .inl ⟨rfl, rfl⟩
theorem Sl.shape {m : Mem} {v : Value} {ss : List ByteArray} (h : Sl m v ss) : ∃ a c, v = .slice a ss.length c := by
  rcases h with ⟨c, rfl, e⟩ | ⟨b, o, c, n, arr, t, fr, rfl, _, e, _⟩
  · have : ss.length = 0 := by simpa using congrArg List.length e
    exact ⟨none, c, by rw [this]⟩
  · have : ss.length = n := by simpa using e
    exact ⟨_, c, by rw [this]⟩
theorem Sl.real {m : Mem} {v : Value} {ss : List ByteArray} (h : Sl m v ss) {i : Nat} (hi : i < ss.length) : ∃ b o c, v = .slice (some ⟨b, o, none⟩) ss.length c ∧ ∀ j (hj : j < ss.length), mcell m b (o + j) = some (.string ss[j]) := by
  rcases h with ⟨c, rfl, e⟩ | ⟨b, o, c, n, arr, t, fr, rfl, g1, e, _, g2, _⟩
  · have : ss.length = 0 := by simpa using congrArg List.length e
    omega
  · have : ss.length = n := by simpa using e
    exact ⟨b, o, c, by rw [this], fun j hj => mcell_of g1 (g2 j _ (by simp [hj]))⟩
theorem buildS1 {m : Mem} {x : ByteArray} : PrimSpec Tryz.prog (.buildSlice 99 1 [0]) [.v (.string x)] m fun r m' => ∃ b, m b = none ∧ r = [.v (.slice (some ⟨b, 0, none⟩) 1 1)] ∧ m' = m.set b (.cells #[.string x] 9) := by
  obtain ⟨ti, h1, h2⟩ := hSs
  obtain ⟨ei, g1, g2, g3, g4⟩ := hSt
  exact (buildSlice_spec (n := 1) tt_ok h1 h2 g1 rfl rfl (by simp [CV.cs, g2]) (by omega) (by omega)).mono fun r m' ⟨b, e1, e2, e3⟩ => ⟨b, e1, e2, e3⟩
/-- one text more -/
theorem pushS {m p : Mem} {ls : List Mem} {i b' : Nat} {x : ByteArray} {y : Value} {ss : List ByteArray} (hs : Split m ls) (hi : ls[i]? = some p) (hb : m b' = none) (hy : So p y ss) (hl : ss.length ≤ 10000000) :
    PrimSpec Tryz.prog (.builtin .append [99, 99]) [.v y, .v (.slice (some ⟨b', 0, none⟩) 1 1)] (m.set b' (.cells #[.string x] 9)) fun r m' => ∃ y' p', r = [.v y'] ∧ Split m' (ls.set i p') ∧ So p' y' (ss ++ [x]) := by
  obtain ⟨ti, h1, h2⟩ := hSs
  obtain ⟨ei, g1, g2, g3, g4⟩ := hSt
  have hs1 := hs.new hb (.cells #[.string x] 9)
  have e1 : lenV y = ss.length := by obtain ⟨a, c, rfl⟩ := hy.sl.shape; rfl
  have e2 : lenV (.slice (some ⟨b', 0, none⟩) 1 1) = 1 := rfl
  have g : Gives (m.set b' (.cells #[.string x] 9)) ei.size ti.k (.slice (some ⟨b', 0, none⟩) 1 1) (sc [x]) := by
    rw [h2, g2]
    exact .inl ⟨_, rfl, .inl (.inr ⟨b', 0, 1, 1, _, _, _, rfl, Mem.set_same .., rfl, Nat.le_refl _, fun j u hu => by rw [Nat.zero_add, List.getElem?_toArray]; exact hu, by simp [Value.oneCell']⟩)⟩
  have hy' : Own p 9 ei.size y (sc ss) := by rw [g2]; exact hy
  refine (append_at (news := sc [x]) tt_ok h1 h2 g1 h1 (by rw [g2, g4]) hs1 (i := i + 1) (by simpa using hi) hy' g (by rw [e1, e2, g3]; omega) (by rw [e1, e2]; omega)).mono fun r m' ⟨v', p', q1, q2, q3⟩ => ⟨v', p', q1, q2.erase 0, ?_⟩
  have := q3.own
  rw [g2] at this
  rw [So, sc, List.map_append]; exact this
theorem names_nil {m : Mem} : Spec Tryz.prog 41 [.v (.pointer none)] m fun r m' => r = [.v (.slice none 0 0)] ∧ Sub m m' := by
  refine en41 rfl (goY ?_)
  conv => whnf
  refine ⟨fun h => absurd h (by first | decide | simp), fun _ => ?_⟩
  conv => whnf
  refine xcall ((sort_spec (m := emp) (ss := []) (.inl ⟨rfl, rfl⟩) (by simp)).frame ((Split.one m).addEmp)) ?_
  rintro _ m1 ⟨p1, ⟨rfl, hv⟩, hs⟩
  conv => whnf
  exact ⟨rfl, hs.sub (by simp)⟩
theorem leU_trans (a b c : List UInt8) (h : decide (a ≤ b) = true) (k : decide (b ≤ c) = true) : decide (a ≤ c) = true := decide_eq_true (List.le_trans (of_decide_eq_true h) (of_decide_eq_true k))
theorem leU_total (a b : List UInt8) : (decide (a ≤ b) || decide (b ≤ a)) = true := by
  rcases List.le_total a b with h | h <;> simp [h]
theorem srtU_perm {l l' : List (List UInt8)} (h : l.Perm l') : (l.mergeSort fun x y => decide (x ≤ y)) = l'.mergeSort fun x y => decide (x ≤ y) :=
  List.Perm.eq_of_pairwise (le := fun a b => decide (a ≤ b) = true) (fun a b _ _ h1 h2 => List.le_antisymm (of_decide_eq_true h1) (of_decide_eq_true h2)) (List.pairwise_mergeSort leU_trans leU_total l) (List.pairwise_mergeSort leU_trans leU_total l')
    (((List.mergeSort_perm l _).trans h).trans (List.mergeSort_perm l' _).symm)
theorem srtB_perm {a b : List ByteArray} (h : a.Perm b) : srtB a = srtB b := by
  rw [srtB, srtB, srtU_perm (h.map encB)]
/-- the names, by their order -/
def namesF (F : List Fl) : List ByteArray := srtB (F.map (·.name))
theorem used_nil {m : Mem} : Ret Tryz.prog 59 [.v (.pointer none)] m [i64 0] := by
  refine en59 rfl (goY ?_)
  conv => whnf
  refine ⟨fun h => absurd h (by first | decide | simp), fun _ => ?_⟩
  conv => whnf
  exact ⟨rfl, rfl⟩
theorem mapHyp {F : List Fl} {P : Fl → Prop} (h : ∀ f ∈ F, P f) {Q : Men ByteArray → Prop} (hq : ∀ f, P f → Q f.men) : ∀ e ∈ F.map Fl.men, Q e := fun e he => by
  obtain ⟨f, hf, rfl⟩ := List.mem_map.1 he; exact hq f (h f hf)
set_option maxHeartbeats 1000000 in
theorem used_spec {m : Mem} {bf bm : Nat} {q : Int} {nb ns clock : Nat} {F : List Fl} (h : FS m bf bm q nb ns clock F) (ht : total F ≤ 1000000000000) : Spec Tryz.prog 59 [ptrB bf] m fun r m' => r = [i64 (total F)] ∧ Sub m m' := by
  refine en59 rfl (goY ?_)
  conv => whnf
  refine ⟨fun _ => ?_, fun h => absurd h (by first | decide | simp)⟩
  conv => whnf
  refine ⟨_, mcell_of h.files rfl, rfl, ?_⟩
  conv => whnf
  refine .mk _ (rangeM_spec (P := Tryz.prog) Tryz.underlying83 h.map) ?_
  rintro _ _ ⟨it, hit, rfl, rfl⟩
  conv => whnf
  refine .mk (ι := List Fl) (fun vis => F.length - vis.length) (fun vis mm => Vis F vis ∧ mm = m.set it (iterO bm clock (vis.map (·.born)))) (fun vis => [(3, .c (i64 (total vis))), (12, .c (ptrB it))]) (fun _ => []) [] ⟨Vis.start F, rfl⟩ ?_ ?_
  · conv => whnf
    repeat (refine And.intro (by first | with_reducible rfl | exact congrArg (Value.int _) (wi (by omega) (by omega)) | exact wi (by omega) (by omega) | rfl) ?_; conv => whnf)
    first | exact trivial | exact fun _ _ h => h
  rintro vis mm ⟨hv, rfl⟩
  have hbm : (m.set it (iterO bm clock (vis.map (·.born)))) bm = some (mapF F clock) := Mem.sub_set _ hit _ _ h.map
  conv => whnf
  refine .mk _ (nextM_spec (P := Tryz.prog) (Mem.set_same ..) hbm (mapHyp h.ok fun f hf => hf.born) (mapHyp h.ok fun f _ => rfl) (fun _ => rfl)) ?_
  rintro _ m' (⟨he, rfl, rfl⟩ | ⟨e, he, rfl, rfl⟩)
  · conv => whnf
    refine ⟨fun h => absurd h (by first | decide | simp), fun _ => ?_⟩
    conv => whnf
    have hp := left_nil hv h.borns he
    exact ⟨by rw [total_perm hp], Mem.sub_set _ hit⟩
  · obtain ⟨f, hf, rfl, hn⟩ := left_of he
    have hv2 := hv.step hf hn
    have hlen := len_sub hv2.born hv2.sub
    have htot := total_sub hv2.born hv2.sub
    have et : total (vis ++ [f]) = total vis + f.l.length := by simp [total]
    rw [List.length_append, List.length_singleton] at hlen
    rw [Mem.set_set]
    have hbm : (m.set it (iterO bm clock (vis.map (·.born) ++ [f.men.b]))) bm = some (mapF F clock) := Mem.sub_set _ hit _ _ h.map
    have hfx : (m.set it (iterO bm clock (vis.map (·.born) ++ [f.men.b]))) f.bx = some (fileO f.v f.safe) := Mem.sub_set _ hit _ _ (h.mem hf)
    obtain ⟨a, c, hfv⟩ := (h.bytes hf).lb.shape
    rw [nc_len] at hfv
    conv => whnf
    refine ⟨fun _ => ?_, fun h => absurd h (by first | decide | simp)⟩
    conv => whnf
    refine .mk _ (entryM_spec (P := Tryz.prog) (Mem.set_same ..) hbm (List.mem_map.2 ⟨f, hf, rfl⟩) (List.pairwise_map.2 h.borns) rfl rfl) ?_
    rintro _ _ ⟨rfl, rfl⟩
    conv => whnf
    rw [hfv] at hfx
    refine ⟨_, mcell_of hfx rfl, rfl, ?_⟩
    conv => whnf
    have ew : IntKind.i64.wrap ((total vis : Int) + (f.l.length : Int)) = ((total (vis ++ [f]) : Nat) : Int) := by rw [et, wi (by omega) (by omega)]; omega
    refine ⟨vis ++ [f], ⟨hv2, by rw [List.map_append]; rfl⟩, by simp; omega, ?_⟩
    conv => whnf
    repeat (refine And.intro (by first | with_reducible rfl | (first | exact congrArg (Value.int _) ew) | exact congrArg (Value.int _) (wi (by omega) (by omega)) | exact wi (by omega) (by omega) | rfl) ?_; conv => whnf)
    first | exact trivial | exact fun _ _ h => h
set_option maxHeartbeats 1000000 in
theorem names_spec {m : Mem} {bf bm : Nat} {q : Int} {nb ns clock : Nat} {F : List Fl} (h : FS m bf bm q nb ns clock F) (hl : F.length ≤ 1000000) : Spec Tryz.prog 41 [ptrB bf] m fun r m' => ∃ v p, r = [.v v] ∧ Split m' [p, m] ∧ So p v (namesF F) := by
  refine en41 rfl (goY ?_)
  conv => whnf
  refine ⟨fun _ => ?_, fun h => absurd h (by first | decide | simp)⟩
  conv => whnf
  refine ⟨_, mcell_of h.files rfl, rfl, ?_⟩
  conv => whnf
  refine .mk _ (rangeM_spec (P := Tryz.prog) Tryz.underlying83 h.map) ?_
  rintro _ _ ⟨it, hit, rfl, rfl⟩
  conv => whnf
  refine .mk (ι := List Fl × Value) (fun i => F.length - i.1.length) (fun ⟨vis, v⟩ mm => Vis F vis ∧ ∃ p, Split mm [p, blk1 it (iterO bm clock (vis.map (·.born))), m] ∧ So p v (vis.map (·.name))) (fun ⟨vis, v⟩ => [(3, .c (.v v)), (11, .c (ptrB it))]) (fun _ => []) ([], .slice none 0 0) ⟨Vis.start F, emp, ((Split.one m).new hit _).addEmp, So.nil _⟩ ?_ ?_
  · conv => whnf
    repeat (refine And.intro (by first | with_reducible rfl | exact congrArg (Value.int _) (wi (by omega) (by omega)) | exact wi (by omega) (by omega) | rfl) ?_; conv => whnf)
    first | exact trivial | exact fun _ _ h => h
  rintro ⟨vis, v⟩ mm ⟨hv, p, hs, hvs⟩
  have hbm : mm bm = some (mapF F clock) := hs.sub (a := m) (by simp) _ _ h.map
  have hit' : mm it = some (iterO bm clock (vis.map (·.born))) := hs.sub (a := blk1 it (iterO bm clock (vis.map (·.born)))) (by simp) _ _ (blk1_same ..)
  conv => whnf
  refine .mk _ (nextM_spec (P := Tryz.prog) hit' hbm (mapHyp h.ok fun f hf => hf.born) (mapHyp h.ok fun f _ => rfl) (fun _ => rfl)) ?_
  rintro _ m' (⟨he, rfl, rfl⟩ | ⟨e, he, rfl, rfl⟩)
  · conv => whnf
    refine ⟨fun h => absurd h (by first | decide | simp), fun _ => ?_⟩
    conv => whnf
    have hp := left_nil hv h.borns he
    have hlen : vis.length = F.length := hp.length_eq
    refine xcall ((sort_spec (m := p) hvs (by rw [List.length_map]; omega)).frame hs) ?_
    rintro _ m2 ⟨p2, ⟨rfl, hv2⟩, hs2⟩
    conv => whnf
    refine ⟨v, p2, rfl, hs2.erase 1, ?_⟩
    rw [namesF, ← srtB_perm (hp.map _)]; exact hv2
  · obtain ⟨f, hf, rfl, hn⟩ := left_of he
    have hv2 := hv.step hf hn
    have hlen := len_sub hv2.born hv2.sub
    rw [List.length_append, List.length_singleton] at hlen
    have hs1 := hs.setAt (i := 1) rfl (blk1_same ..) (iterO bm clock (vis.map (·.born) ++ [f.men.b]))
    rw [blk1_set] at hs1
    have hs1 : Split _ [p, blk1 it (iterO bm clock (vis.map (·.born) ++ [f.men.b])), m] := hs1
    have hbm : (mm.set it (iterO bm clock (vis.map (·.born) ++ [f.men.b]))) bm = some (mapF F clock) := hs1.sub (a := m) (by simp) _ _ h.map
    conv => whnf
    refine ⟨fun _ => ?_, fun h => absurd h (by first | decide | simp)⟩
    conv => whnf
    refine .mk _ (entryM_spec (P := Tryz.prog) (Mem.set_same ..) hbm (List.mem_map.2 ⟨f, hf, rfl⟩) (List.pairwise_map.2 h.borns) rfl rfl) ?_
    rintro _ _ ⟨rfl, rfl⟩
    conv => whnf
    refine .mk _ (buildS1) ?_
    rintro _ _ ⟨b, hb, rfl, rfl⟩
    conv => whnf
    refine .mk _ (pushS (i := 0) hs1 rfl hb hvs (by rw [List.length_map]; omega)) ?_
    rintro _ m' ⟨v', p', rfl, hs', hv'⟩
    conv => whnf
    refine ⟨(vis ++ [f], v'), ⟨hv2, p', by rw [List.map_append]; exact hs', by rw [List.map_append]; exact hv'⟩, by simp; omega, ?_⟩
    conv => whnf
    repeat (refine And.intro (by first | with_reducible rfl | exact congrArg (Value.int _) (wi (by omega) (by omega)) | exact wi (by omega) (by omega) | rfl) ?_; conv => whnf)
    first | exact trivial | exact fun _ _ h => h
end Go.E.YtgjlajcebcmbaaaGreatDoor
