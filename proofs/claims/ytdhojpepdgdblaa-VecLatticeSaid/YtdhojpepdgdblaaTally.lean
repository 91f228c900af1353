/-
  Contracts of the functions of tally, of the document's, and of the law's own.
-/
import Derived.Test.YtdhojpepdgdblaaCfg
import Derived.Test.YtdhojpepdgdblaaH
import Derived.Test.YtdhojpepdgdblaaE15
namespace Go.E.Ytdhojpepdgdblaa
open Go.Proofs
set_option maxRecDepth 100000

abbrev M62 : Int := 4611686018427387904
def U (n : Int) : Prop := 0 ≤ n ∧ n < 18446744073709551616
def I (n : Int) : Prop := -9223372036854775808 ≤ n ∧ n < 9223372036854775808
def more (a b : Int) : Int := min (min a M62 + min b M62) M62
abbrev tal (a b : Int) : CV := .a [.one (.int .u64 a), .one (.int .u64 b)]
abbrev cnt2 (u d : List Int) : CV := .a [.ints .u64 8 u, .ints .u64 8 d]
def V8 (l : List Int) : Prop := l.length = 8 ∧ ∀ i, U (l.getD i 0)
def ofUp (n : Int) : Int := if n < 0 then 0 else n
def ofDown (n : Int) : Int := if n < 0 then -n else 0

theorem more_spec {a b : Int} {m : Mem} (ha : U a) (hb : U b) : Ret Try.prog 47 [u64 a, u64 b] m [u64 (more a b)] := by
  obtain ⟨ha, _⟩ := ha; obtain ⟨hb, _⟩ := hb
  refine en47 rfl ?_
  conv => whnf
  refine ⟨?_, rfl⟩
  rw [wu (by omega) (by omega)]
  rfl
theorem of_spec {m : Mem} {n : Int} (hn : I n) : Ret Try.prog 48 [i64 n] m [tal (ofUp n) (ofDown n)] := by
  obtain ⟨h0, h1⟩ := hn
  refine en48 rfl ?_
  conv => whnf
  refine ⟨fun h => ?_, fun h => ?_⟩
  · have h' := of_decide_eq_true h
    conv => whnf
    refine ⟨?_, rfl⟩
    rw [wi (n := n + 1) (by omega) (by omega), wi (by omega) (by omega), wu (n := 0 - (n + 1)) (by omega) (by omega), wu (by omega) (by omega)]
    simp only [ofUp, ofDown, if_pos h']
    have : 0 - (n + 1) + 1 = -n := by omega
    rw [this]
  · have h' := of_decide_eq_false h
    conv => whnf
    refine ⟨?_, rfl⟩
    rw [wu (by omega) (by omega)]
    simp only [ofUp, ofDown, if_neg h']
theorem plus_spec {m : Mem} {a b c d : Int} (ha : U a) (hb : U b) (hc : U c) (hd : U d) : Ret Try.prog 13 [tal a b, tal c d] m [tal (more a c) (more b d)] := by
  refine en13 rfl ?_
  conv => whnf
  refine xretk (more_spec ha hc) ?_
  conv => whnf
  refine xret (more_spec hb hd) ?_
  conv => whnf
  exact ⟨rfl, rfl⟩
theorem add_spec {m : Mem} {a b n : Int} (ha : U a) (hb : U b) (hn : I n) : Ret Try.prog 46 [tal a b, i64 n] m [tal (more a (ofUp n)) (more b (ofDown n))] := by
  refine en46 rfl ?_
  conv => whnf
  first | refine xretk (of_spec hn) ?_ | refine xret (of_spec hn) ?_
  conv => whnf
  have h1 : U (ofUp n) := by unfold ofUp U; obtain ⟨_, _⟩ := hn; split <;> omega
  have h2 : U (ofDown n) := by unfold ofDown U; obtain ⟨_, _⟩ := hn; split <;> omega
  first | refine xretk (plus_spec ha hb h1 h2) ?_ | refine xret (plus_spec ha hb h1 h2) ?_
  conv => whnf
  exact ⟨rfl, rfl⟩
theorem value_spec {m : Mem} {a b : Int} (ha : U a) (hb : U b) : Ret Try.prog 15 [tal a b] m [u64 (max (a - b) 0)] := by
  obtain ⟨_, _⟩ := ha; obtain ⟨_, _⟩ := hb
  refine en15 rfl ?_
  conv => whnf
  refine ⟨fun h => ?_, fun h => ?_⟩
  · have h' := of_decide_eq_true h
    conv => whnf
    refine ⟨?_, rfl⟩
    rw [show max (a - b) 0 = 0 by omega]
  · have h' := of_decide_eq_false h
    conv => whnf
    refine ⟨?_, rfl⟩
    rw [wu (by omega) (by omega), show max (a - b) 0 = a - b by omega]
theorem right_spec {m : Mem} {a b : Int} : Ret Try.prog 14 [tal a b] m [boolV (decide (a ≤ M62) && decide (b ≤ M62))] := by
  refine en14 rfl ?_
  conv => whnf
  refine ⟨fun h => ?_, fun h => ?_⟩
  · conv => whnf
    refine ⟨?_, rfl⟩
    rw [h]; rfl
  · conv => whnf
    refine ⟨?_, rfl⟩
    rw [h]; rfl
def zipTo (f : Int → Int → Int) : Nat → List Int → List Int → List Int
  | n + 1, a :: u, b :: v => f a b :: zipTo f n u v
  | _, u, _ => u
theorem zipTo_zero (f : Int → Int → Int) (u v : List Int) : zipTo f 0 u v = u := by cases u <;> rfl
theorem zipTo_set (f : Int → Int → Int) : ∀ (i : Nat) (u v : List Int), i < u.length → u.length = v.length → (zipTo f i u v).set i (f ((zipTo f i u v).getD i 0) (v.getD i 0)) = zipTo f (i + 1) u v
  | 0, a :: u, b :: v, _, _ => by cases u <;> cases v <;> simp [zipTo]
  | i + 1, a :: u, b :: v, h, h' => by simpa [zipTo] using zipTo_set f i u v (by simpa using h) (by simpa using h')
  | _, [], _, h, _ => by simp at h
  | _, _ :: _, [], _, h => by simp at h
theorem zipTo_getD (f : Int → Int → Int) : ∀ (i : Nat) (u v : List Int), (zipTo f i u v).getD i 0 = u.getD i 0
  | 0, u, v => by rw [zipTo_zero]
  | i + 1, [], v => by simp [zipTo]
  | i + 1, a :: u, [] => by simp [zipTo]
  | i + 1, a :: u, b :: v => by simpa [zipTo] using zipTo_getD f i u v
theorem zipTo_all (f : Int → Int → Int) : ∀ (i : Nat) (u v : List Int), u.length ≤ i → u.length = v.length → zipTo f i u v = List.zipWith f u v
  | 0, [], [], _, _ => rfl
  | i + 1, [], [], _, _ => rfl
  | i + 1, a :: u, b :: v, h, h' => by simp [zipTo, zipTo_all f i u v (by simpa using h) (by simpa using h')]
  | 0, _ :: _, _, h, _ => by simp at h
  | _, [], _ :: _, _, h => by simp at h
  | _ + 1, _ :: _, [], _, h => by simp at h
theorem join_spec {m : Mem} {u d u' d' : List Int} (hu : u.length = 8) (hd : d.length = 8) (hu' : u'.length = 8) (hd' : d'.length = 8) : Ret Try.prog 19 [cnt2 u d, cnt2 u' d'] m [cnt2 (List.zipWith max u u') (List.zipWith max d d')] := by
  refine en19 rfl ?_
  conv => whnf
  refine .mk (ι := Nat) (fun i => 8 - i) (fun i => i ≤ 8) (fun i => [(2, .p 0 0), (3, .p 1 0), (4, .p 2 0), (6, .c (i64 i))])
    (fun i => [(35, [.ints .u64 8 (zipTo max i u u'), .ints .u64 8 (zipTo max i d d')]), (35, [.ints .u64 8 u', .ints .u64 8 d']), (35, [.ints .u64 8 (List.replicate 8 0), .ints .u64 8 (List.replicate 8 0)])]) (fun _ => m) 0 (by omega) ?_ ?_
  · conv => whnf
    refine ⟨rfl, ?_⟩
    conv => whnf
    refine ⟨(zipTo_zero _ _ _).symm, ?_⟩
    conv => whnf
    refine ⟨(zipTo_zero _ _ _).symm, ?_⟩
    conv => whnf
    repeat (refine And.intro (by with_reducible rfl) ?_; conv => whnf)
    exact fun _ _ h => h
  intro i hi
  conv => whnf
  refine ⟨fun h => ?_, fun h => ?_⟩
  · have h' := of_decide_eq_true h
    conv => whnf
    repeat (refine And.intro (by first | omega | (simp only [times]; omega)) ?_; conv => whnf)
    refine ⟨i + 1, by omega, by omega, ?_⟩
    conv => whnf
    refine ⟨wi (by omega) (by omega), ?_⟩
    conv => whnf
    refine ⟨zipTo_set _ _ _ _ (by omega) (by omega), ?_⟩
    conv => whnf
    refine ⟨zipTo_set _ _ _ _ (by omega) (by omega), ?_⟩
    conv => whnf
    repeat (refine And.intro (by with_reducible rfl) ?_; conv => whnf)
    exact fun _ _ h => h
  · have h' := of_decide_eq_false h
    have : i = 8 := by omega
    subst this
    conv => whnf
    refine ⟨?_, rfl⟩
    rw [zipTo_all _ _ _ _ (by omega) (by omega), zipTo_all _ _ _ _ (by omega) (by omega)]
/-- the sum of the first i -/
def sumTo : Nat → List Int → Int
  | 0, _ => 0
  | i + 1, l => more (sumTo i l) (l.getD i 0)
theorem sumTo_U {l : List Int} (h : ∀ i, U (l.getD i 0)) : ∀ i, U (sumTo i l)
  | 0 => ⟨by simp [sumTo], by simp [sumTo]⟩
  | i + 1 => by
    obtain ⟨h1, _⟩ := sumTo_U h i
    obtain ⟨h3, _⟩ := h i
    simp only [sumTo, more, U, M62]
    omega
theorem total_spec {m : Mem} {u d : List Int} (hu : V8 u) (hd : V8 d) : Ret Try.prog 22 [cnt2 u d] m [tal (sumTo 8 u) (sumTo 8 d)] := by
  refine en22 rfl ?_
  conv => whnf
  refine .mk (ι := Nat) (fun i => 8 - i) (fun i => i ≤ 8) (fun i => [(1, .p 0 0), (2, .p 1 0), (3, .p 2 0), (7, .c (.a [.ints .u64 8 u])), (8, .c (i64 i))])
    (fun i => [(35, [.ints .u64 8 u, .ints .u64 8 d]), (26, [.one (.int .u64 0), .one (.int .u64 0)]), (26, [.one (.int .u64 (sumTo i u)), .one (.int .u64 (sumTo i d))])]) (fun _ => m) 0 (by omega) ?_ ?_
  · conv => whnf
    repeat (refine And.intro rfl ?_; conv => whnf)
    exact fun _ _ h => h
  intro i hi
  conv => whnf
  refine ⟨fun h => ?_, fun h => ?_⟩
  · have h' := of_decide_eq_true h
    conv => whnf
    repeat (refine And.intro (by first | omega | (simp only [times]; omega)) ?_; conv => whnf)
    first | refine xretk (plus_spec (sumTo_U hu.2 i) (sumTo_U hd.2 i) (hu.2 i) (hd.2 i)) ?_ | refine xret (plus_spec (sumTo_U hu.2 i) (sumTo_U hd.2 i) (hu.2 i) (hd.2 i)) ?_
    conv => whnf
    refine ⟨i + 1, by omega, by omega, ?_⟩
    conv => whnf
    repeat (refine And.intro (by first | with_reducible rfl | exact wi (by omega) (by omega) | rfl) ?_; conv => whnf)
    exact fun _ _ h => h
  · have h' := of_decide_eq_false h
    have : i = 8 := by omega
    subst this
    conv => whnf
    exact ⟨rfl, rfl⟩
theorem ofUp_U {n : Int} (hn : I n) : U (ofUp n) := by unfold ofUp U; obtain ⟨_, _⟩ := hn; split <;> omega
theorem ofDown_U {n : Int} (hn : I n) : U (ofDown n) := by unfold ofDown U; obtain ⟨_, _⟩ := hn; split <;> omega
abbrev X64 : Int := 18446744073709551616
/-- what Count answers -/
def countR (u d : List Int) (node n : Int) : List CV :=
  if node < 1 ∨ 8 < node then [cnt2 (List.replicate 8 0) (List.replicate 8 0), i64 11]
  else if X64 ≤ u.getD (node - 1).toNat 0 + ofUp n ∨ X64 ≤ d.getD (node - 1).toNat 0 + ofDown n then [cnt2 (List.replicate 8 0) (List.replicate 8 0), i64 13]
  else [cnt2 (u.set (node - 1).toNat (u.getD (node - 1).toNat 0 + ofUp n)) (d.set (node - 1).toNat (d.getD (node - 1).toNat 0 + ofDown n)), i64 0]
theorem over_iff {a b : Int} (ha : U a) (hb : U b) : decide (IntKind.u64.wrap (a + b) < b) = decide (X64 ≤ a + b) := by
  obtain ⟨_, _⟩ := ha; obtain ⟨_, _⟩ := hb
  rw [IntKind.wrap_u64]
  by_cases h : X64 ≤ a + b
  · rw [decide_eq_true h, decide_eq_true]
    simp only [X64] at h; omega
  · rw [decide_eq_false h, decide_eq_false]
    simp only [X64] at h; omega
theorem count_spec {m : Mem} {u d : List Int} {node n : Int} (hu : V8 u) (hd : V8 d) (hn : I n) (hnode : I node) : Ret Try.prog 16 [cnt2 u d, i64 node, i64 n] m (countR u d node n) := by
  obtain ⟨_, _⟩ := hnode
  refine en16 rfl ?_
  conv => whnf
  have big : ∀ (hb : node < 1 ∨ 8 < node), countR u d node n = [cnt2 (List.replicate 8 0) (List.replicate 8 0), i64 11] := fun hb => by rw [countR, if_pos hb]
  refine ⟨fun h => ?_, fun h => ?_⟩
  · have h' := of_decide_eq_true h
    conv => whnf
    refine ⟨?_, rfl⟩
    rw [big (.inl h')]
  have h' := of_decide_eq_false h
  conv => whnf
  refine ⟨fun h2 => ?_, fun h2 => ?_⟩
  · have h2' := of_decide_eq_true h2
    conv => whnf
    refine ⟨?_, rfl⟩
    rw [big (.inr h2')]
  have h2' := of_decide_eq_false h2
  conv => whnf
  refine xret (of_spec hn) ?_
  conv => whnf
  have hw : IntKind.i64.wrap (node - 1) = node - 1 := wi (by omega) (by omega)
  repeat (refine And.intro (by first | omega | (simp only [times, hw]; omega)) ?_; conv => whnf)
  have hi : times (IntKind.i64.wrap (node - 1)) 1 = (node - 1).toNat := by rw [hw]; rfl
  have nb : ¬ (node < 1 ∨ 8 < node) := by omega
  have big2 : ∀ (hb : X64 ≤ u.getD (node - 1).toNat 0 + ofUp n ∨ X64 ≤ d.getD (node - 1).toNat 0 + ofDown n), countR u d node n = [cnt2 (List.replicate 8 0) (List.replicate 8 0), i64 13] := fun hb => by rw [countR, if_neg nb, if_pos hb]
  have ou := over_iff (hu.2 (node - 1).toNat) (ofUp_U hn)
  have od := over_iff (hd.2 (node - 1).toNat) (ofDown_U hn)
  refine ⟨fun h3 => ?_, fun h3 => ?_⟩
  · have h3' : decide (IntKind.u64.wrap (u.getD (node - 1).toNat 0 + ofUp n) < ofUp n) = true := by rw [← hi]; exact h3
    rw [ou] at h3'
    conv => whnf
    refine ⟨?_, rfl⟩
    rw [big2 (.inl (of_decide_eq_true h3'))]
  have h3' : decide (IntKind.u64.wrap (u.getD (node - 1).toNat 0 + ofUp n) < ofUp n) = false := by rw [← hi]; exact h3
  rw [ou] at h3'
  have h3'' := of_decide_eq_false h3'
  conv => whnf
  repeat (refine And.intro (by first | omega | (simp only [times, hw]; omega)) ?_; conv => whnf)
  refine ⟨fun h4 => ?_, fun h4 => ?_⟩
  · have h4' : decide (IntKind.u64.wrap (d.getD (node - 1).toNat 0 + ofDown n) < ofDown n) = true := by rw [← hi]; exact h4
    rw [od] at h4'
    conv => whnf
    refine ⟨?_, rfl⟩
    rw [big2 (.inr (of_decide_eq_true h4'))]
  have h4' : decide (IntKind.u64.wrap (d.getD (node - 1).toNat 0 + ofDown n) < ofDown n) = false := by rw [← hi]; exact h4
  rw [od] at h4'
  have h4'' := of_decide_eq_false h4'
  conv => whnf
  repeat (refine And.intro (by first | omega | (simp only [times, hw]; omega)) ?_; conv => whnf)
  refine ⟨?_, rfl⟩
  rw [countR, if_neg nb, if_neg (by simp only [not_or]; exact ⟨h3'', h4''⟩)]
  have e1 : IntKind.u64.wrap (u.getD (node - 1).toNat 0 + ofUp n) = u.getD (node - 1).toNat 0 + ofUp n := by
    obtain ⟨_, _⟩ := hu.2 (node - 1).toNat; obtain ⟨_, _⟩ := ofUp_U hn
    exact wu (by omega) (by simp only [X64] at h3''; omega)
  have e2 : IntKind.u64.wrap (d.getD (node - 1).toNat 0 + ofDown n) = d.getD (node - 1).toNat 0 + ofDown n := by
    obtain ⟨_, _⟩ := hd.2 (node - 1).toNat; obtain ⟨_, _⟩ := ofDown_U hn
    exact wu (by omega) (by simp only [X64] at h4''; omega)
  rw [← e1, ← e2, ← hi]
/-- a slice of numbers that lie in memory -/
def Ints (m : Mem) (v : Value) (l : List Int) : Prop :=
  (∃ c, v = .slice none 0 c ∧ l = []) ∨ ∃ b o c, v = .slice (some ⟨b, o, none⟩) l.length c ∧ ∀ j, j < l.length → mcell m b (o + j) = some (.int .i64 (l.getD j 0))
def addTo (f : Int → Int) : Nat → List Int → Int
  | 0, _ => 0
  | i + 1, l => more (addTo f i l) (f (l.getD i 0))
theorem addTo_U {f : Int → Int} {l : List Int} (h : ∀ i, U (f (l.getD i 0))) : ∀ i, U (addTo f i l)
  | 0 => ⟨by simp [addTo], by simp [addTo]⟩
  | i + 1 => by
    obtain ⟨h1, _⟩ := addTo_U h i
    obtain ⟨h3, _⟩ := h i
    simp only [addTo, more, U, M62]
    omega
theorem sum_spec {m : Mem} {v : Value} {l : List Int} (hl : ∀ i, I (l.getD i 0)) (hv : Ints m v l) (hn : l.length < 9223372036854775808) : Ret Try.prog 12 [.v v] m [tal (addTo ofUp l.length l) (addTo ofDown l.length l)] := by
  rcases hv with ⟨c, rfl, rfl⟩ | ⟨b, o, c, rfl, hm⟩
  · refine en12 rfl ?_
    conv => whnf
    refine .mk (ι := Unit) (fun i => 0) (fun i => True) (fun i => [(2, .p 0 0), (3, .p 1 0), (6, .c (.v (.slice none 0 c))), (7, .c (i64 0)), (8, .c (i64 0))])
      (fun i => [(26, [.one (.int .u64 0), .one (.int .u64 0)]), (26, [.one (.int .u64 0), .one (.int .u64 0)])]) (fun _ => m) () trivial ?_ ?_
    · conv => whnf
      repeat (refine And.intro rfl ?_; conv => whnf)
      exact fun _ _ h => h
    intro i hi
    conv => whnf
    refine ⟨fun h => ?_, fun h => ?_⟩
    · simp at h
    · conv => whnf
      exact ⟨rfl, rfl⟩
  · refine en12 rfl ?_
    conv => whnf
    refine .mk (ι := Nat) (fun i => l.length - i) (fun i => i ≤ l.length) (fun i => [(2, .p 0 0), (3, .p 1 0), (6, .c (.v (.slice (some ⟨b, o, none⟩) l.length c))), (7, .c (i64 l.length)), (8, .c (i64 i))])
      (fun i => [(26, [.one (.int .u64 0), .one (.int .u64 0)]), (26, [.one (.int .u64 (addTo ofUp i l)), .one (.int .u64 (addTo ofDown i l))])]) (fun _ => m) 0 (Nat.zero_le _) ?_ ?_
    · conv => whnf
      repeat (refine And.intro rfl ?_; conv => whnf)
      exact fun _ _ h => h
    intro i hi
    conv => whnf
    refine ⟨fun h => ?_, fun h => ?_⟩
    · have h' := of_decide_eq_true h
      conv => whnf
      refine ⟨by omega, ?_⟩
      conv => whnf
      refine ⟨.int .i64 (l.getD i 0), hm i (by omega), rfl, ?_⟩
      conv => whnf
      refine xret (add_spec (addTo_U (fun i => ofUp_U (hl i)) i) (addTo_U (fun i => ofDown_U (hl i)) i) (hl i)) ?_
      conv => whnf
      refine ⟨i + 1, by omega, by omega, ?_⟩
      conv => whnf
      repeat (refine And.intro (by first | with_reducible rfl | exact wi (by omega) (by omega) | rfl) ?_; conv => whnf)
      exact fun _ _ h => h
    · have h' := of_decide_eq_false h
      have : i = l.length := by omega
      subst this
      conv => whnf
      exact ⟨rfl, rfl⟩
theorem rplus_spec {m : Mem} {a b : Int} (ha : U a) (hb : U b) : Ret Try.prog 54 [u64 a, u64 b] m [u64 (more a b)] := by
  obtain ⟨_, _⟩ := ha; obtain ⟨_, _⟩ := hb
  refine en54 rfl ?_
  conv => whnf
  have fin : M62 ≤ a ∨ M62 ≤ b ∨ M62 ≤ a + b → more a b = M62 := by intro h; simp only [more, M62] at *; omega
  refine ⟨fun h => ?_, fun h => ?_⟩
  · have h' := of_decide_eq_true h
    conv => whnf
    exact ⟨by rw [fin (.inl h')], rfl⟩
  have h' := of_decide_eq_false h
  conv => whnf
  refine ⟨fun h2 => ?_, fun h2 => ?_⟩
  · have h2' := of_decide_eq_true h2
    conv => whnf
    exact ⟨by rw [fin (.inr (.inl h2'))], rfl⟩
  have h2' := of_decide_eq_false h2
  conv => whnf
  have hw : IntKind.u64.wrap (a + b) = a + b := wu (by omega) (by omega)
  refine ⟨fun h3 => ?_, fun h3 => ?_⟩
  · have h3' := of_decide_eq_true h3
    rw [hw] at h3'
    conv => whnf
    exact ⟨by rw [fin (.inr (.inr h3'))], rfl⟩
  · have h3' := of_decide_eq_false h3
    rw [hw] at h3'
    conv => whnf
    refine ⟨?_, rfl⟩
    rw [hw, show more a b = a + b by simp only [more, M62]; omega]
theorem rPlus_spec {m : Mem} {a b c d : Int} (ha : U a) (hb : U b) (hc : U c) (hd : U d) : Ret Try.prog 49 [tal a b, tal c d] m [tal (more a c) (more b d)] := by
  refine en49 rfl ?_
  conv => whnf
  refine xretk (rplus_spec ha hc) ?_
  conv => whnf
  refine xret (rplus_spec hb hd) ?_
  conv => whnf
  exact ⟨rfl, rfl⟩
theorem as_spec {m : Mem} {a b : Int} : Ret Try.prog 21 [tal a b] m [tal a b] := by
  refine en21 rfl ?_
  conv => whnf
  exact ⟨rfl, rfl⟩
theorem lof_spec {m : Mem} {u d : List Int} : Ret Try.prog 18 [cnt2 u d] m [cnt2 u d] := by
  refine en18 rfl ?_
  conv => whnf
  exact ⟨by simp, rfl⟩
theorem rtotal_spec {m : Mem} {u d : List Int} (hu : V8 u) (hd : V8 d) : Ret Try.prog 23 [cnt2 u d] m [tal (sumTo 8 u) (sumTo 8 d)] := by
  refine en23 rfl ?_
  conv => whnf
  refine .mk (ι := Nat) (fun i => 8 - i) (fun i => i ≤ 8) (fun i => [(1, .p 0 0), (2, .p 1 0), (3, .p 2 0), (4, .c (i64 i))])
    (fun i => [(39, [.ints .u64 8 u, .ints .u64 8 d]), (45, [.one (.int .u64 0), .one (.int .u64 0)]), (45, [.one (.int .u64 (sumTo i u)), .one (.int .u64 (sumTo i d))])]) (fun _ => m) 0 (by omega) ?_ ?_
  · conv => whnf
    repeat (refine And.intro rfl ?_; conv => whnf)
    exact fun _ _ h => h
  intro i hi
  conv => whnf
  refine ⟨fun h => ?_, fun h => ?_⟩
  · have h' := of_decide_eq_true h
    conv => whnf
    repeat (refine And.intro (by first | omega | (simp only [times]; omega)) ?_; conv => whnf)
    first | refine xretk (rPlus_spec (sumTo_U hu.2 i) (sumTo_U hd.2 i) (hu.2 i) (hd.2 i)) ?_ | refine xret (rPlus_spec (sumTo_U hu.2 i) (sumTo_U hd.2 i) (hu.2 i) (hd.2 i)) ?_
    conv => whnf
    refine ⟨i + 1, by omega, by omega, ?_⟩
    conv => whnf
    repeat (refine And.intro (by first | with_reducible rfl | exact wi (by omega) (by omega) | rfl) ?_; conv => whnf)
    exact fun _ _ h => h
  · have h' := of_decide_eq_false h
    have : i = 8 := by omega
    subst this
    conv => whnf
    exact ⟨rfl, rfl⟩
theorem set_self : ∀ (l : List Int) (i : Nat), l.set i (l.getD i 0) = l
  | [], _ => rfl
  | a :: l, 0 => by simp
  | a :: l, i + 1 => by simp only [List.set_cons_succ]; congr 1; simpa using set_self l i
theorem set_max {i : Nat} {u v : List Int} (hi : i < u.length) (h : u.length = v.length) : zipTo max (i + 1) u v = if u.getD i 0 < v.getD i 0 then (zipTo max i u v).set i (v.getD i 0) else zipTo max i u v := by
  rw [← zipTo_set max i u v hi h, zipTo_getD]
  by_cases hlt : u.getD i 0 < v.getD i 0
  · rw [if_pos hlt, show max (u.getD i 0) (v.getD i 0) = v.getD i 0 by omega]
  · rw [if_neg hlt, show max (u.getD i 0) (v.getD i 0) = u.getD i 0 by omega]
    have : ∀ (l : List Int) (i : Nat) (x : Int), l.getD i 0 = x → l.set i x = l := by
      intro l
      induction l with
      | nil => intro i x _; rfl
      | cons a l ih =>
        intro i x hx
        cases i with
        | zero => simp at hx; simp [hx]
        | succ i => simp only [List.set_cons_succ]; rw [ih i x (by simpa using hx)]
    exact this _ _ _ (zipTo_getD max i u v)
theorem rjoin_spec {m : Mem} {u d u' d' : List Int} (hu : u.length = 8) (hd : d.length = 8) (hu' : u'.length = 8) (hd' : d'.length = 8) : Ret Try.prog 20 [cnt2 u d, cnt2 u' d'] m [cnt2 (List.zipWith max u u') (List.zipWith max d d')] := by
  refine en20 rfl ?_
  conv => whnf
  refine .mk (ι := Nat) (fun i => 8 - i) (fun i => i ≤ 8) (fun i => [(2, .p 0 0), (3, .p 1 0), (4, .p 2 0), (5, .p 3 0), (6, .c (i64 i))])
    (fun i => [(39, [.ints .u64 8 u, .ints .u64 8 d]), (39, [.ints .u64 8 u', .ints .u64 8 d']), (39, [.ints .u64 8 (List.replicate 8 0), .ints .u64 8 (List.replicate 8 0)]), (39, [.ints .u64 8 (zipTo max i u u'), .ints .u64 8 (zipTo max i d d')])]) (fun _ => m) 0 (by omega) ?_ ?_
  · conv => whnf
    repeat (refine And.intro (by first | with_reducible rfl | exact (zipTo_zero _ _ _).symm | rfl) ?_; conv => whnf)
    exact fun _ _ h => h
  intro i hi
  conv => whnf
  refine ⟨fun h => ?_, fun h => ?_⟩
  · have h' := of_decide_eq_true h
    have su := set_max (i := i) (u := u) (v := u') (by omega) (by omega)
    have sd := set_max (i := i) (u := d) (v := d') (by omega) (by omega)
    conv => whnf
    repeat (refine And.intro (by first | omega | (simp only [times]; omega)) ?_; conv => whnf)
    refine ⟨fun h2 => ?_, fun h2 => ?_⟩
    all_goals
      first
      | (have h2' : u.getD i 0 < u'.getD i 0 := of_decide_eq_true h2; rw [if_pos h2'] at su)
      | (have h2' : ¬ u.getD i 0 < u'.getD i 0 := of_decide_eq_false h2; rw [if_neg h2'] at su)
      conv => whnf
      repeat (refine And.intro (by first | omega | (simp only [times]; omega)) ?_; conv => whnf)
      refine ⟨fun h3 => ?_, fun h3 => ?_⟩
      all_goals
        first
        | (have h3' : d.getD i 0 < d'.getD i 0 := of_decide_eq_true h3; rw [if_pos h3'] at sd)
        | (have h3' : ¬ d.getD i 0 < d'.getD i 0 := of_decide_eq_false h3; rw [if_neg h3'] at sd)
        conv => whnf
        repeat (refine And.intro (by first | omega | (simp only [times]; omega)) ?_; conv => whnf)
        refine ⟨i + 1, by omega, by omega, ?_⟩
        conv => whnf
        repeat (refine And.intro (by first | with_reducible rfl | exact wi (by omega) (by omega) | exact su.symm | exact sd.symm) ?_; conv => whnf)
        exact fun _ _ h => h
  · have h' := of_decide_eq_false h
    have : i = 8 := by omega
    subst this
    conv => whnf
    refine ⟨?_, rfl⟩
    rw [zipTo_all _ _ _ _ (by omega) (by omega), zipTo_all _ _ _ _ (by omega) (by omega)]
theorem rcount_spec {m : Mem} {u d : List Int} {node n : Int} (hu : V8 u) (hd : V8 d) (hn : I n) (hnode : I node) : Ret Try.prog 17 [cnt2 u d, i64 node, i64 n] m (countR u d node n) := by
  obtain ⟨_, _⟩ := hnode
  obtain ⟨_, _⟩ := hn
  have big : ∀ (hb : node < 1 ∨ 8 < node), countR u d node n = [cnt2 (List.replicate 8 0) (List.replicate 8 0), i64 11] := fun hb => by rw [countR, if_pos hb]
  have big2 : ¬ (node < 1 ∨ 8 < node) → ∀ (hb : X64 ≤ u.getD (node - 1).toNat 0 + ofUp n ∨ X64 ≤ d.getD (node - 1).toNat 0 + ofDown n), countR u d node n = [cnt2 (List.replicate 8 0) (List.replicate 8 0), i64 13] := fun nb hb => by rw [countR, if_neg nb, if_pos hb]
  obtain ⟨u0, u1⟩ := hu.2 (node - 1).toNat
  obtain ⟨d0, d1⟩ := hd.2 (node - 1).toNat
  refine en17 rfl ?_
  conv => whnf
  refine ⟨fun h => ?_, fun h => ?_⟩
  · have h' := of_decide_eq_true h
    conv => whnf
    exact ⟨by rw [big (.inl h')], rfl⟩
  have h' := of_decide_eq_false h
  conv => whnf
  refine ⟨fun h2 => ?_, fun h2 => ?_⟩
  · have h2' := of_decide_eq_true h2
    conv => whnf
    exact ⟨by rw [big (.inr h2')], rfl⟩
  have h2' := of_decide_eq_false h2
  have nb : ¬ (node < 1 ∨ 8 < node) := by omega
  have hw : IntKind.i64.wrap (node - 1) = node - 1 := wi (by omega) (by omega)
  have hi : times (IntKind.i64.wrap (node - 1)) 1 = (node - 1).toNat := by rw [hw]; rfl
  conv => whnf
  refine ⟨fun h3 => ?_, fun h3 => ?_⟩
  · have h3' : n < 0 := of_decide_eq_true h3
    have eu : ofUp n = 0 := by rw [ofUp, if_pos h3']
    have ed : ofDown n = -n := by rw [ofDown, if_pos h3']
    have hb : IntKind.u64.wrap (0 - IntKind.u64.wrap n) = -n := by simp only [IntKind.wrap_u64]; omega
    conv => whnf
    repeat (refine And.intro (by first | omega | (simp only [times, hw]; omega)) ?_; conv => whnf)
    have hx : IntKind.u64.wrap (18446744073709551615 - d.getD (node - 1).toNat 0) = 18446744073709551615 - d.getD (node - 1).toNat 0 := wu (by omega) (by omega)
    refine ⟨fun h4 => ?_, fun h4 => ?_⟩
    · have h4' : IntKind.u64.wrap (18446744073709551615 - d.getD (times (IntKind.i64.wrap (node - 1)) 1) 0) < IntKind.u64.wrap (0 - IntKind.u64.wrap n) := of_decide_eq_true h4
      rw [hi, hx, hb] at h4'
      conv => whnf
      exact ⟨by rw [big2 nb (.inr (by rw [ed]; simp only [X64]; omega))], rfl⟩
    · have h4' : ¬ IntKind.u64.wrap (18446744073709551615 - d.getD (times (IntKind.i64.wrap (node - 1)) 1) 0) < IntKind.u64.wrap (0 - IntKind.u64.wrap n) := of_decide_eq_false h4
      rw [hi, hx, hb] at h4'
      conv => whnf
      repeat (refine And.intro (by first | omega | (simp only [times, hw]; omega)) ?_; conv => whnf)
      refine ⟨?_, rfl⟩
      have e2 : IntKind.u64.wrap (d.getD (node - 1).toNat 0 + IntKind.u64.wrap (0 - IntKind.u64.wrap n)) = d.getD (node - 1).toNat 0 + ofDown n := by
        rw [hb, ed]; exact wu (by omega) (by omega)
      rw [countR, if_neg nb, if_neg (by rw [eu, ed]; simp only [X64]; omega), eu, ← e2, ← hi]
      simp only [Int.add_zero]
      rw [set_self]
  · have h3' : ¬ (n < 0) := of_decide_eq_false h3
    have eu : ofUp n = n := by rw [ofUp, if_neg h3']
    have ed : ofDown n = 0 := by rw [ofDown, if_neg h3']
    have hb : IntKind.u64.wrap n = n := wu (by omega) (by omega)
    conv => whnf
    repeat (refine And.intro (by first | omega | (simp only [times, hw]; omega)) ?_; conv => whnf)
    have hx : IntKind.u64.wrap (18446744073709551615 - u.getD (node - 1).toNat 0) = 18446744073709551615 - u.getD (node - 1).toNat 0 := wu (by omega) (by omega)
    refine ⟨fun h4 => ?_, fun h4 => ?_⟩
    · have h4' : IntKind.u64.wrap (18446744073709551615 - u.getD (times (IntKind.i64.wrap (node - 1)) 1) 0) < IntKind.u64.wrap n := of_decide_eq_true h4
      rw [hi, hx, hb] at h4'
      conv => whnf
      exact ⟨by rw [big2 nb (.inl (by rw [eu]; simp only [X64]; omega))], rfl⟩
    · have h4' : ¬ IntKind.u64.wrap (18446744073709551615 - u.getD (times (IntKind.i64.wrap (node - 1)) 1) 0) < IntKind.u64.wrap n := of_decide_eq_false h4
      rw [hi, hx, hb] at h4'
      conv => whnf
      repeat (refine And.intro (by first | omega | (simp only [times, hw]; omega)) ?_; conv => whnf)
      refine ⟨?_, rfl⟩
      have e2 : IntKind.u64.wrap (u.getD (node - 1).toNat 0 + IntKind.u64.wrap n) = u.getD (node - 1).toNat 0 + ofUp n := by
        rw [hb, eu]; exact wu (by omega) (by omega)
      rw [countR, if_neg nb, if_neg (by rw [eu, ed]; simp only [X64]; omega), ed, ← e2, ← hi]
      simp only [Int.add_zero]
      rw [set_self]
end Go.E.Ytdhojpepdgdblaa
