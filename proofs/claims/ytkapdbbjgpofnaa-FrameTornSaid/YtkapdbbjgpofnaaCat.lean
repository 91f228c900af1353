/-
  Bytes: room made; lists of bytes, one behind the other.
-/
import Derived.Test.YtkapdbbjgpofnaaByB
import Derived.Test.YtkapdbbjgpofnaaE25
namespace Go.E.Ytkapdbbjgpofnaa
open Go.Proofs
set_option maxRecDepth 100000
theorem hI : tt.get 3 = some ⟨.int .i64, 1, 8, [.one (.int .i64 0)], false⟩ := by rfl
/-- new room for n bytes, with nothing in it -/
theorem grow_spec {m : Mem} {n : Nat} (hn : n ≤ 100000000) :
    Spec Try.prog 15 [.v (.slice none 0 0), .v (.int .i64 n)] m fun r m' => ∃ v p, r = [.v v] ∧ Split m' [p, m] ∧ Bs p v [] := by
  refine en15 rfl (goY ?_)
  conv => whnf
  refine ⟨fun h => absurd h (by (simp; try omega)), fun _ => ?_⟩
  conv => whnf
  refine .mk _ (cap_spec tt_ok hBs rfl) ?_
  rintro _ _ ⟨rfl, rfl⟩
  conv => whnf
  have e : IntKind.i64.wrap ((n : Int) - IntKind.i64.wrap (((0 : Nat) : Int) - ((0 : Nat) : Int))) = (n : Int) := by rw [wi (n := ((0 : Nat) : Int) - ((0 : Nat) : Int)) (by omega) (by omega), wi (by omega) (by omega)]; omega
  rw [e]
  refine ⟨fun h => ?_, fun h => ?_⟩
  · have h' := of_decide_eq_true h
    conv => whnf
    refine .mk _ (cap_spec tt_ok hBs rfl) ?_
    rintro _ _ ⟨rfl, rfl⟩
    conv => whnf
    repeat (refine And.intro (by first | omega | (simp only [times]; omega)) ?_; conv => whnf)
    refine .mk _ (appendZeros_spec (n := 0) (c := 0) (a := none) (l := []) tt_ok hBs rfl hU8 hI rfl (by decide) rfl (.inl ⟨0, rfl, rfl⟩) (by omega) (by omega) (by simp only; omega) (by omega)) ?_
    rintro _ _ ⟨b, C, hb, hC, rfl, rfl⟩
    conv => whnf
    repeat (refine And.intro (by first | omega | (simp only [times]; omega)) ?_; conv => whnf)
    intro o' h1 h2
    obtain rfl : o' = 0 := by have := h1 (by omega); simpa using this
    conv => whnf
    refine ⟨_, blk1 b _, rfl, (Split.one m).new hb _, .inr ⟨b, 0, C, 0, _, rfl, blk1_same .., rfl, Nat.zero_le _, ?_, by intro j u hu; simp [bc] at hu, by simp [bc]⟩⟩
    simp only [Array.size_append, zeroCells_size, List.size_toArray, List.length_nil, LB.cells, Seg.cells, List.length_append, List.length_cons]
    omega
  · have h' := of_decide_eq_false h
    conv => whnf
    exact ⟨_, emp, rfl, (Split.one m).addEmp, Bs.nil _⟩
/-- a list of bytes -/
structure Lists (m : Mem) (v : Value) (ps : List (Value × List Int)) : Prop where
  lies : Lies m 1 v (ps.map (·.1))
  la : ∀ p ∈ ps, La m p.1 p.2
theorem Lists.sub {m m' : Mem} {v : Value} {ps : List (Value × List Int)} (h : Lists m v ps) (hs : Sub m m') : Lists m' v ps := ⟨h.lies.sub hs, fun p hp => (h.la p hp).sub hs⟩
theorem Lists.shape {m : Mem} {v : Value} {ps : List (Value × List Int)} (h : Lists m v ps) : ∃ a c, v = .slice a ps.length c := by
  rcases h.lies with ⟨c, rfl, e⟩ | ⟨b, o, c, n, arr, t, fr, rfl, _, e, _⟩
  · have : ps.length = 0 := by simpa using congrArg List.length e
    exact ⟨none, c, by rw [this]⟩
  · have : ps.length = n := by simpa using e
    exact ⟨_, c, by rw [this]⟩
theorem Lists.real {m : Mem} {v : Value} {ps : List (Value × List Int)} (h : Lists m v ps) {i : Nat} (hi : i < ps.length) : ∃ b o c, v = .slice (some ⟨b, o, none⟩) ps.length c ∧ ∀ (i : Nat) (hi : i < ps.length), mcell m b (o + i) = some ps[i].1 := by
  rcases h.lies with ⟨c, rfl, e⟩ | ⟨b, o, c, n, arr, t, fr, rfl, g1, e, _, g2, _⟩
  · have : ps.length = 0 := by simpa using congrArg List.length e
    omega
  · have : ps.length = n := by simpa using e
    exact ⟨b, o, c, by rw [this], fun j hj => mcell_of g1 (g2 j _ (by simp [hj]))⟩
def catB (ps : List (Value × List Int)) : List Int := (ps.map (·.2)).flatten
theorem catB_take {ps : List (Value × List Int)} {i : Nat} (h : i < ps.length) : catB (ps.take i) ++ ps[i].2 = catB (ps.take (i + 1)) := by
  rw [List.take_succ_eq_append_getElem h, catB, catB, List.map_append, List.flatten_append]; simp
theorem catB_le {ps : List (Value × List Int)} (i : Nat) : (catB (ps.take i)).length ≤ (catB ps).length := by
  have e : catB ps = catB (ps.take i) ++ catB (ps.drop i) := by
    rw [catB, catB, catB, ← List.flatten_append, ← List.map_append, List.take_append_drop]
  rw [e, List.length_append]; omega
theorem iadd' {i : Nat} (h : i < 1000000000000) : IntKind.i64.wrap ((i : Int) + 1) = ((i + 1 : Nat) : Int) := by rw [wi (by omega) (by omega)]; omega
set_option maxHeartbeats 1000000 in
theorem concat_spec {m : Mem} {v : Value} {ps : List (Value × List Int)} (h : Lists m v ps) (hb : (catB ps).length ≤ 10000000) (hn : ps.length ≤ 10000000) :
    Spec Try.prog 11 [.v v] m fun r m' => ∃ v' p, r = [.v v'] ∧ Split m' [p, m] ∧ Bs p v' (catB ps) := by
  obtain ⟨a, c, rfl⟩ := h.shape
  refine en11 rfl (goY ?_)
  conv => whnf
  refine .mk (ι := Nat) (fun i => ps.length - i) (fun i mm => i ≤ ps.length ∧ mm = m) (fun i => [(0, .c (.v (.slice a ps.length c))), (3, .c (i64 (catB (ps.take i)).length)), (9, .c (.v (.slice a ps.length c))), (10, .c (i64 ps.length)), (11, .c (i64 i))]) (fun _ => []) 0 ⟨by omega, rfl⟩ ?_ ?_
  · conv => whnf
    repeat (refine And.intro (by first | with_reducible rfl | exact congrArg (Value.int _) (wi (by omega) (by omega)) | exact wi (by omega) (by omega) | rfl) ?_; conv => whnf)
    first | exact trivial | exact fun _ _ h => h
  rintro i mm ⟨hi, he⟩
  subst mm
  conv => whnf
  refine ⟨fun h1 => ?_, fun h1 => ?_⟩
  · have h1' := of_decide_eq_true h1
    have hlt : i < ps.length := by omega
    obtain ⟨b, o, c', e, hat⟩ := h.real hlt
    cases e
    have hla := h.la ps[i] (by simp)
    obtain ⟨ai, ci, hvi⟩ := hla.shape
    have hc := hat i hlt
    rw [hvi] at hc
    have hle := catB_le (ps := ps) (i + 1)
    rw [← catB_take hlt, List.length_append] at hle
    conv => whnf
    repeat (refine And.intro (by first | omega | (simp only [times]; omega)) ?_; conv => whnf)
    refine ⟨_, hc, rfl, ?_⟩
    conv => whnf
    have e3 : IntKind.i64.wrap (((catB (ps.take i)).length : Int) + (ps[i].2.length : Int)) = ((catB (ps.take (i + 1))).length : Int) := by
      rw [← catB_take hlt, List.length_append, wi (by omega) (by omega)]; omega
    rw [e3]
    refine ⟨fun h => absurd h (by (simp; try omega)), fun _ => ?_⟩
    conv => whnf
    refine ⟨i + 1, ⟨by omega, rfl⟩, by omega, ?_⟩
    conv => whnf
    repeat (refine And.intro (by first | with_reducible rfl | (exact congrArg (Value.int _) (iadd' (by omega))) | exact congrArg (Value.int _) (wi (by omega) (by omega)) | exact wi (by omega) (by omega) | rfl) ?_; conv => whnf)
    first | exact trivial | exact fun _ _ h => h
  · have h1' := of_decide_eq_false h1
    obtain rfl : i = ps.length := by omega
    rw [List.take_length]
    conv => whnf
    refine xcall (grow_spec (n := (catB ps).length) (by omega)) ?_
    rintro _ m2 ⟨v2, p2, rfl, hs2, hv2⟩
    conv => whnf
    refine .mk (ι := Nat × Value) (fun i => ps.length - i.1) (fun ⟨i, x⟩ mm => i ≤ ps.length ∧ ∃ p, Split mm [p, m] ∧ Bs p x (catB (ps.take i))) (fun ⟨i, x⟩ => [(6, .c (.v x)), (25, .c (.v (.slice a ps.length c))), (26, .c (i64 ps.length)), (27, .c (i64 i))]) (fun _ => []) (0, v2) ⟨by omega, p2, hs2, by simpa [catB] using hv2⟩ ?_ ?_
    · conv => whnf
      repeat (refine And.intro (by first | with_reducible rfl | exact congrArg (Value.int _) (wi (by omega) (by omega)) | exact wi (by omega) (by omega) | rfl) ?_; conv => whnf)
      first | exact trivial | exact fun _ _ h => h
    rintro ⟨i, x⟩ mm ⟨hi, p, hs, hx⟩
    conv => whnf
    refine ⟨fun h2 => ?_, fun h2 => ?_⟩
    · have h2' := of_decide_eq_true h2
      have hlt : i < ps.length := by omega
      obtain ⟨b, o, c', e, hat⟩ := h.real hlt
      cases e
      have hla := h.la ps[i] (by simp)
      have hle := catB_le (ps := ps) (i + 1)
      rw [← catB_take hlt, List.length_append] at hle
      have hc : mcell mm b (o + i) = some ps[i].1 := by
        have := hat i hlt
        unfold mcell at this ⊢
        split at this
        · rename_i arr t fr hm
          rw [hs.at (i := 1) rfl _ _ hm]; exact this
        · cases this
      conv => whnf
      repeat (refine And.intro (by first | omega | (simp only [times]; omega)) ?_; conv => whnf)
      refine ⟨_, hc, hla.one, ?_⟩
      conv => whnf
      refine .mk _ (appendBat (i := 0) hs rfl hx (hla.sub (hs.at (i := 1) rfl)) (by omega)) ?_
      rintro _ m3 ⟨v3, p3, rfl, hs3, hv3⟩
      conv => whnf
      refine ⟨(i + 1, v3), ⟨by omega, p3, hs3, ?_⟩, by simp only; omega, ?_⟩
      · have := hv3.own
        rw [catB_take hlt] at this; exact this
      · conv => whnf
        repeat (refine And.intro (by first | with_reducible rfl | (exact congrArg (Value.int _) (iadd' (by omega))) | exact congrArg (Value.int _) (wi (by omega) (by omega)) | exact wi (by omega) (by omega) | rfl) ?_; conv => whnf)
        first | exact trivial | exact fun _ _ h => h
    · have h2' := of_decide_eq_false h2
      obtain rfl : i = ps.length := by omega
      rw [List.take_length] at hx
      conv => whnf
      exact ⟨x, p, rfl, hs, hx⟩
theorem hLs : tt.get 22 = some ⟨.slice 23, 1, 24, [.one (.slice none 0 0)], false⟩ := by rfl
theorem buildL1 {m : Mem} {x : Value} : PrimSpec Try.prog (.buildSlice 22 1 [0]) [.v x] m fun r m' => ∃ b, m b = none ∧ r = [.v (.slice (some ⟨b, 0, none⟩) 1 1)] ∧ m' = m.set b (.cells #[x] 23) :=
  buildSlice_spec (n := 1) tt_ok hLs rfl hBs rfl rfl (by simp [CV.cs]) (by simp) (by simp)
theorem buildL2 {m : Mem} {x y : Value} : PrimSpec Try.prog (.buildSlice 22 2 [0, 1]) [.v x, .v y] m fun r m' => ∃ b, m b = none ∧ r = [.v (.slice (some ⟨b, 0, none⟩) 2 2)] ∧ m' = m.set b (.cells #[x, y] 23) :=
  buildSlice_spec (n := 2) tt_ok hLs rfl hBs rfl rfl (by simp [CV.cs]) (by simp) (by simp)
theorem Lists.blk {m : Mem} {b n : Nat} {ps : List (Value × List Int)} {t : TypeId} {fr : Nat × Nat} (h : m b = some (.cells (ps.map (·.1)).toArray t fr)) (hn : ps.length = n) (hl : ∀ p ∈ ps, La m p.1 p.2) : Lists m (.slice (some ⟨b, 0, none⟩) n n) ps := by
  refine ⟨.inr ⟨b, 0, n, n, _, _, _, rfl, h, by simp [hn], Nat.le_refl _, fun j u hu => by simpa using hu, fun u hu => ?_⟩, fun p hp => hl p hp⟩
  obtain ⟨p, hp, rfl⟩ := List.mem_map.1 hu
  exact (hl p hp).one
theorem Lists.one {m : Mem} {b : Nat} {v : Value} {l : List Int} {t : TypeId} {fr : Nat × Nat} (h : m b = some (.cells #[v] t fr)) (hl : La m v l) : Lists m (.slice (some ⟨b, 0, none⟩) 1 1) [(v, l)] :=
  Lists.blk (ps := [(v, l)]) h rfl (by simpa using hl)
theorem Lists.two {m : Mem} {b : Nat} {v w : Value} {l k : List Int} {t : TypeId} {fr : Nat × Nat} (h : m b = some (.cells #[v, w] t fr)) (hl : La m v l) (hk : La m w k) : Lists m (.slice (some ⟨b, 0, none⟩) 2 2) [(v, l), (w, k)] :=
  Lists.blk (ps := [(v, l), (w, k)]) h rfl (by simpa using ⟨hl, hk⟩)
theorem Lists.three {m : Mem} {b : Nat} {v w u : Value} {l k j : List Int} {t : TypeId} {fr : Nat × Nat} (h : m b = some (.cells #[v, w, u] t fr)) (hl : La m v l) (hk : La m w k) (hj : La m u j) : Lists m (.slice (some ⟨b, 0, none⟩) 3 3) [(v, l), (w, k), (u, j)] :=
  Lists.blk (ps := [(v, l), (w, k), (u, j)]) h rfl (by simpa using ⟨hl, hk, hj⟩)
theorem buildL3 {m : Mem} {x y z : Value} : PrimSpec Try.prog (.buildSlice 22 3 [0, 1, 2]) [.v x, .v y, .v z] m fun r m' => ∃ b, m b = none ∧ r = [.v (.slice (some ⟨b, 0, none⟩) 3 3)] ∧ m' = m.set b (.cells #[x, y, z] 23) :=
  buildSlice_spec (n := 3) tt_ok hLs rfl hBs rfl rfl (by simp [CV.cs]) (by simp) (by simp)
/-- one piece more -/
theorem pushL {m : Mem} {ls : List Mem} {p : Mem} {b' : Nat} {x y : Value} {vs : List Value} (hs : Split m (p :: ls)) (hb : m b' = none) (hx : x.oneCell' = true) (hy : Own p 23 1 y vs) (hl : vs.length ≤ 100000000) :
    PrimSpec Try.prog (.builtin .append [22, 22]) [.v y, .v (.slice (some ⟨b', 0, none⟩) 1 1)] (m.set b' (.cells #[x] 23)) fun r m' => ∃ y' p', r = [.v y'] ∧ Split m' (p' :: ls) ∧ Own p' 23 1 y' (vs ++ [x]) := by
  have hs1 := hs.new hb (.cells #[x] 23)
  have e1 := hy.lies.len
  have e2 : lenV (.slice (some ⟨b', 0, none⟩) 1 1) = 1 := rfl
  have g : Gives (m.set b' (.cells #[x] 23)) 1 (.slice 23) (.slice (some ⟨b', 0, none⟩) 1 1) [x] :=
    .inl ⟨_, rfl, .inl (.inr ⟨b', 0, 1, 1, _, _, _, rfl, Mem.set_same .., rfl, Nat.le_refl _, fun j u hu => by simpa using hu, by simpa using hx⟩)⟩
  refine (append_at tt_ok hLs rfl hBs hLs rfl hs1 (i := 1) rfl hy g (by rw [e2]; simp only; omega) (by rw [e2]; omega)).mono fun r m' ⟨v', p', h1, h2, h3⟩ => ⟨v', p', h1, h2.erase 0, h3.own⟩
theorem Lists.own {m p : Mem} {y : Value} {ps : List (Value × List Int)} (hy : Own p 23 1 y (ps.map (·.1))) (hs : Sub p m) (hl : ∀ q ∈ ps, La m q.1 q.2) : Lists m y ps :=
  ⟨hy.lies.sub hs, fun q hq => hl q hq⟩
end Go.E.Ytkapdbbjgpofnaa
