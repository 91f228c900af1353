/-
  Sn3, Fr3, Fr4, Fr6, Fr7, Fr8, Fr9, FrA, Sn4, Ix, Lg2, Sn5, Sn6, Sn7, Sn8, Sn9, FiM, StI, StJ, Lg7, SoA, SoB
-/
import Derived.Test.YtcionccfgcnhoaaGreatDoorStoreRefusesZ11
namespace Go.E.YtcionccfgcnhoaaGreatDoor
open Go.Proofs
set_option maxRecDepth 100000
noncomputable def numsN (L : List ByteArray) : List Nat := L.filterMap numOf
noncomputable def numsA (A : List Af) : List Nat := numsN (srtB (A.map (·.name)))
theorem numsN_take {L : List ByteArray} {i : Nat} (hi : i < L.length) : numsN (L.take (i + 1)) = numsN (L.take i) ++ (numOf L[i]).toList := by
  rw [numsN, List.take_succ_eq_append_getElem hi, List.filterMap_append]
  cases h : numOf L[i] <;> simp [h, numsN]
theorem numsN_len (L : List ByteArray) : (numsN L).length ≤ L.length := List.length_filterMap_le _ _
theorem nc_byt {l : List Nat} (h : ∀ x ∈ l, x < 256) : Byt (nc l) := fun x hx => by
  obtain ⟨y, hy, rfl⟩ := List.mem_map.1 hx
  have := h y hy
  omega
def NmS (A : List Af) : Prop := ∀ a ∈ A, a.name.size ≤ 1000000
set_option maxHeartbeats 4000000 in
theorem numbers_A {m : Mem} {bf nb ns k : Nat} {q : Int} {A : List Af} (hg : Glob m) (h : FA m bf q nb ns A) (hk : Sm k A nb ns) (hn : NmS A) : Spec Tryz.prog 49 [ptrB bf] m fun r m' => ∃ v p, r = [.v v] ∧ Split m' [p, m] ∧ Io p v (nc (numsA A)) := by
  refine en49 rfl (goY ?_)
  conv => whnf
  refine xcall (names_A h hk) ?_
  rintro _ m1 ⟨v, p, rfl, hs, hv⟩
  conv => whnf
  have hsz : ∀ x ∈ srtB (A.map (·.name)), x.size ≤ 1000000 := fun x hx => by
    obtain ⟨a, ha, rfl⟩ := List.mem_map.1 ((srtB_same _).subset hx)
    exact hn a ha
  have hl : (srtB (A.map (·.name))).length ≤ 1000 := by
    rw [(srtB_same _).length_eq, List.length_map]
    have := hk.n
    have := hk.k
    omega
  unfold numsA
  generalize srtB (A.map (·.name)) = L at *
  obtain ⟨a, c, rfl⟩ := hv.sl.shape
  conv => whnf
  refine .mk (ι := Nat × Value) (fun i => L.length - i.1) (fun ⟨i, y⟩ mm => i ≤ L.length ∧ ∃ p', Split mm [p', p, m] ∧ Io p' y (nc (numsN (L.take i)))) (fun ⟨i, y⟩ => [(3, .c (.v y)), (9, .c (.v (.slice a L.length c))), (10, .c (i64 L.length)), (11, .c (i64 i))]) (fun _ => []) (0, .slice none 0 0) ⟨by simp, emp, hs.addEmp, Io.nil _⟩ ?_ ?_
  · conv => whnf
    repeat (refine And.intro (by first | with_reducible rfl | exact congrArg (Value.int _) (wi (by omega) (by omega)) | exact wi (by omega) (by omega) | rfl) ?_; conv => whnf)
    first | exact trivial | exact fun _ _ h => h
  rintro ⟨i, y⟩ mm ⟨hi, p', hs', hy⟩
  conv => whnf
  refine ⟨fun h => ?_, fun h => ?_⟩
  · have hlt : i < L.length := by have := of_decide_eq_true h; omega
    clear h
    obtain ⟨b, o, cc, e1, hel⟩ := (hv.sl.sub (hs'.sub (a := p) (by simp))).real hlt
    injection e1 with e1 e2 e3
    subst e1
    have hl' := numsN_len (L.take i)
    rw [List.length_take] at hl'
    conv => whnf
    refine ⟨by omega, ?_⟩
    conv => whnf
    refine ⟨_, hel i hlt, rfl, ?_⟩
    conv => whnf
    first | refine xretk (number_spec (hg.sub (hs'.sub (a := m) (by simp))) (hsz _ (List.getElem_mem hlt))) ?_ | refine xret (number_spec (hg.sub (hs'.sub (a := m) (by simp))) (hsz _ (List.getElem_mem hlt))) ?_
    conv => whnf
    have ht := numsN_take hlt
    cases hno : numOf L[i] with
    | none =>
      rw [hno] at ht
      rw [Option.toList_none, List.append_nil] at ht
      refine ⟨fun h => absurd h (by first | decide | simp), fun _ => ?_⟩
      conv => whnf
      refine ⟨(i + 1, y), ⟨by omega, p', hs', by rw [ht]; exact hy⟩, by simp; omega, ?_⟩
      conv => whnf
      repeat (refine And.intro (by first | with_reducible rfl | (first | exact congrArg (Value.int _) (iadd1 (by omega))) | exact congrArg (Value.int _) (wi (by omega) (by omega)) | exact wi (by omega) (by omega) | rfl) ?_; conv => whnf)
      first | exact trivial | exact fun _ _ h => h
    | some n =>
      rw [hno] at ht
      rw [Option.toList_some] at ht
      refine ⟨fun _ => ?_, fun h => absurd h (by simp at h)⟩
      conv => whnf
      refine .mk _ (buildI1) ?_
      rintro _ _ ⟨b', hb', rfl, rfl⟩
      conv => whnf
      refine .mk _ (pushI (l := nc (numsN (L.take i))) hs' hb' hy (by rw [nc_len]; omega)) ?_
      rintro _ m' ⟨y', p2, rfl, hs2, hy2⟩
      conv => whnf
      refine ⟨(i + 1, y'), ⟨by omega, p2, hs2, by rw [ht, nc, List.map_append]; exact hy2⟩, by simp; omega, ?_⟩
      conv => whnf
      repeat (refine And.intro (by first | with_reducible rfl | (first | exact congrArg (Value.int _) (iadd1 (by omega))) | exact congrArg (Value.int _) (wi (by omega) (by omega)) | exact wi (by omega) (by omega) | rfl) ?_; conv => whnf)
      first | exact trivial | exact fun _ _ h => h
  · have h' := of_decide_eq_false h
    obtain rfl : i = L.length := by omega
    rw [List.take_length] at hy
    conv => whnf
    exact ⟨y, p', rfl, hs'.erase 1, hy⟩
theorem madeS_nil {m : Mem} : Ret Tryz.prog 48 [.v (.pointer none)] m [boolV false] := by
  refine en48 rfl (goY ?_)
  conv => whnf
  first | refine xretk (readF_nil) ?_ | refine xret (readF_nil) ?_
  conv => whnf
  exact ⟨rfl, rfl⟩
theorem madeS_spec {m : Mem} {bf nb ns k : Nat} {q : Int} {A : List Af} (h : FA m bf q nb ns A) (hk : Sm k A nb ns) : Spec Tryz.prog 48 [ptrB bf] m fun r m' => r = [boolV true] ∧ Sub m m' := by
  refine en48 rfl (goY ?_)
  conv => whnf
  refine xcall (read_A (name := ByteArray.empty) h hk) ?_
  rintro _ m1 ⟨v, p, rfl, hs, hv⟩
  conv => whnf
  refine ⟨?_, hs.sub (a := m) (by simp)⟩
  rw [errA]
  cases (fileA A ByteArray.empty).isSome <;> rfl
theorem FA.byt {p : Mem} {bf nb ns : Nat} {q : Int} {A : List Af} (h : FA p bf q nb ns A) : ∀ a ∈ A, ∀ x ∈ a.l, x < 256 := by
  obtain ⟨bm, clock, F, h1, rfl⟩ := h
  intro a ha
  obtain ⟨f, hf, rfl⟩ := List.mem_map.1 ha
  exact (h1.ok f hf).byt
def bytesA (A : List Af) (name : ByteArray) : List Nat := ((fileA A name).map (·.l)).getD []
theorem bytesA_p {A : List Af} {name : ByteArray} {P : List Nat → Prop} (h : ∀ a ∈ A, P a.l) (h0 : P []) : P (bytesA A name) := by
  unfold bytesA
  cases e : fileA A name with
  | none => exact h0
  | some a => exact h a (List.mem_of_find?_eq_some e)
def readB (l : List Int) : List (List Int) × Nat × Int := Fr.read (l.length + 1) l
noncomputable def loadA (A : List Af) : Nat × List (List Int) × Int := match (numsA A).getLast? with
  | none => (0, [], 0)
  | some n => let r := readB (nc (bytesA A (Sn.nm n))); if r.2.2 = 0 ∧ r.2.1 = (bytesA A (Sn.nm n)).length then (n, r.1, 0) else (0, [], 9)
theorem loadA_none {A : List Af} (h : numsA A = []) : loadA A = (0, [], 0) := by
  unfold loadA; rw [h]; rfl
theorem loadA_some {A : List Af} {n : Nat} (h : (numsA A).getLast? = some n) : loadA A = if (readB (nc (bytesA A (Sn.nm n)))).2.2 = 0 ∧ (readB (nc (bytesA A (Sn.nm n)))).2.1 = (bytesA A (Sn.nm n)).length then (n, (readB (nc (bytesA A (Sn.nm n)))).1, 0) else (0, [], 9) := by
  unfold loadA; rw [h]
theorem numsN_rng {L : List ByteArray} : ∀ n ∈ numsN L, 1 ≤ n ∧ n ≤ 999999 := fun n hn => by
  obtain ⟨s, _, e⟩ := List.mem_filterMap.1 hn
  exact ⟨(numOf_some e).1, (numOf_some e).2.1⟩
theorem numsA_len (A : List Af) : (numsA A).length ≤ A.length := by
  have := numsN_len (srtB (A.map (·.name)))
  rw [srtB_len, List.length_map] at this
  exact this
theorem load_nil {m : Mem} : Ret Tryz.prog 23 [.v (.pointer none)] m [i64 0, .v (.slice none 0 0), i64 6] := by
  refine en23 rfl (goY ?_)
  conv => whnf
  first | refine xretk (madeS_nil) ?_ | refine xret (madeS_nil) ?_
  conv => whnf
  refine ⟨fun _ => ?_, fun h => absurd h (by first | decide | simp)⟩
  conv => whnf
  exact ⟨rfl, rfl⟩
set_option maxHeartbeats 4000000 in
theorem load_A {m : Mem} {bf nb ns k : Nat} {q : Int} {A : List Af} (hg : Glob m) (h : FA m bf q nb ns A) (hk : Sm k A nb ns) (hn : NmS A) : Spec Tryz.prog 23 [ptrB bf] m fun r m' => ∃ v ps p, r = [i64 (loadA A).1, .v v, i64 (loadA A).2.2] ∧ Split m' [p, m] ∧ Lists p v ps ∧ ps.map (·.2) = (loadA A).2.1 := by
  have hlen := numsA_len A
  have hkn := hk.n
  have hkk := hk.k
  have hrng : ∀ n ∈ numsA A, 1 ≤ n ∧ n ≤ 999999 := numsN_rng
  refine en23 rfl (goY ?_)
  conv => whnf
  refine xcall (madeS_spec h hk) ?_
  rintro _ m0 ⟨rfl, hs0⟩
  conv => whnf
  refine ⟨fun h => absurd h (by first | decide | simp), fun _ => ?_⟩
  conv => whnf
  refine xcall (numbers_A (hg.sub hs0) (h.grow hs0) hk hn) ?_
  rintro _ m1 ⟨v, p, rfl, hs, hv⟩
  conv => whnf
  have hs : Split m1 [p, m] := hs.under (a := [p]) ((Split.one m).grow hs0)
  obtain ⟨a, c, rfl⟩ := hv.il.shape
  rw [nc_len]
  conv => whnf
  refine ⟨fun h1 => ?_, fun h1 => ?_⟩
  · have h0 : numsA A = [] := by simpa using h1
    conv => whnf
    rw [loadA_none h0]
    exact ⟨_, [], emp, rfl, (hs.drop).addEmp, ⟨.inl ⟨_, rfl, rfl⟩, by simp⟩, rfl⟩
  have h0 : 0 < (numsA A).length := List.length_pos_iff.2 (by simpa using h1)
  clear h1
  have hne : numsA A ≠ [] := by intro e; rw [e] at h0; simp at h0
  have hlast : (numsA A).getLast? = some ((numsA A).getLast hne) := List.getLast?_eq_some_getLast hne
  have hat : (numsA A)[(numsA A).length - 1]? = some ((numsA A).getLast hne) := by rw [← hlast, List.getLast?_eq_getElem?]
  obtain ⟨hr1, hr2⟩ := hrng _ (List.getLast_mem hne)
  generalize (numsA A).getLast hne = n at *
  have hld := loadA_some hlast
  have hncl : (nc (numsA A)).length = (numsA A).length := nc_len _
  obtain ⟨b, o, cc, e1, hel⟩ := (hv.il.sub (hs.sub (a := p) (by simp))).real (i := 0) (by omega)
  injection e1 with e1 e2 e3
  subst e1
  have hel := hel ((numsA A).length - 1) (by omega)
  have ee : (nc (numsA A))[(numsA A).length - 1]'(by omega) = (n : Int) := by
    have : (nc (numsA A))[(numsA A).length - 1]? = some (n : Int) := by rw [nc, List.getElem?_map, hat]; rfl
    exact (List.getElem?_eq_some_iff.1 this).2
  rw [ee] at hel
  have ew : IntKind.i64.wrap (((numsA A).length : Int) - 1) = (((numsA A).length - 1 : Nat) : Int) := by rw [wi (by omega) (by omega)]; omega
  conv => whnf
  rw [ew]
  refine ⟨by omega, ?_⟩
  conv => whnf
  refine ⟨_, hel, rfl, ?_⟩
  conv => whnf
  first | refine xretk (name_ok (hg.sub (hs.sub (a := m) (by simp))) hr1 hr2) ?_ | refine xret (name_ok (hg.sub (hs.sub (a := m) (by simp))) hr1 hr2) ?_
  conv => whnf
  refine xcall (read_A (name := Sn.nm n) (h.grow (hs.sub (a := m) (by simp))) hk) ?_
  rintro _ m2 ⟨v2, p2, rfl, hs2, hv2⟩
  conv => whnf
  have hs2 : Split m2 [p2, m] := hs2.under (a := [p2]) ((Split.one m).grow (hs.sub (a := m) (by simp)))
  have hbl : (bytesA A (Sn.nm n)).length ≤ 500000 := bytesA_p (P := fun l => l.length ≤ 500000) (fun a ha => by have := hk.l a ha; omega) (by simp)
  have hby : Byt (nc (bytesA A (Sn.nm n))) := nc_byt (bytesA_p (P := fun l => ∀ x ∈ l, x < 256) h.byt (by simp))
  have hv2 : Bs p2 v2 (nc (bytesA A (Sn.nm n))) := hv2
  have hncb : (nc (bytesA A (Sn.nm n))).length = (bytesA A (Sn.nm n)).length := nc_len _
  generalize bytesA A (Sn.nm n) = l at *
  refine xcall (read_any (hv2.lb.sub (hs2.sub (a := p2) (by simp))) hby (by omega)) ?_
  rintro _ m3 ⟨v', ps, pv, rfl, hs3, hps, hpr⟩
  conv => whnf
  have hs3 : Split m3 [pv, p2, m] := hs3.under (a := [pv]) hs2
  obtain ⟨a2, c2, rfl⟩ := hv2.lb.shape
  have er : Fr.read ((nc l).length + 1) (nc l) = readB (nc l) := rfl
  rw [er] at hpr ⊢
  rw [hncb]
  generalize readB (nc l) = r at *
  obtain ⟨rr, t, e⟩ := r
  dsimp only at hpr ⊢
  conv => whnf
  refine ⟨fun h1 => ?_, fun h1 => ?_⟩
  · have h2 : ¬ e = 0 := by simpa using h1
    rw [if_neg (by simp [h2])] at hld
    rw [hld]
    conv => whnf
    exact ⟨_, [], emp, rfl, (hs3.drop.drop).addEmp, ⟨.inl ⟨_, rfl, rfl⟩, by simp⟩, rfl⟩
  have h2 : e = 0 := by simpa using h1
  clear h1
  subst h2
  conv => whnf
  refine ⟨fun h1 => ?_, fun h1 => ?_⟩
  · have h2 : ¬ t = l.length := by simp at h1; omega
    rw [if_neg (by simp [h2])] at hld
    rw [hld]
    conv => whnf
    exact ⟨_, [], emp, rfl, (hs3.drop.drop).addEmp, ⟨.inl ⟨_, rfl, rfl⟩, by simp⟩, rfl⟩
  · have h2 : t = l.length := by simp at h1; omega
    rw [if_pos ⟨rfl, h2⟩] at hld
    rw [hld]
    conv => whnf
    exact ⟨v', ps, pv, rfl, hs3.erase 1, hps, hpr⟩
def Rl (m : Mem) (v : Value) (E : List Rf) : Prop := Lies m 3 v (E.flatMap rfC)
def Ra (m : Mem) (v : Value) (E : List Rf) : Prop := Rl m v E ∨ (E = [] ∧ ∃ a, v = .slice (some a) 0 0)
theorem Rl.ea {m : Mem} {v : Value} {E : List Rf} (h : Rl m v E) : Ra m v E := .inl h
def afR (r : Rf) : Af := ⟨r.name, chs r.b, r.safe⟩
structure Lk (A : List Af) (L : List Rf) : Prop where
  p : A.Perm (L.map afR)
  s : L.Pairwise fun a b => encB a.name < encB b.name
  n : ∀ r ∈ L, r.name.size ≤ 1000000
theorem chs_len (s : ByteArray) : (chs s).length = s.size := by simp [chs]
theorem Lk.nil : Lk [] [] := ⟨.refl _, by simp, by simp⟩
section
variable {A : List Af} {L : List Rf}
end
end Go.E.YtcionccfgcnhoaaGreatDoor
namespace Go.E.Sn
theorem dg_lt {a b : Nat} (ha : a < 10) (hb : b < 10) (h : a < b) : dg a < dg b := by
  have : (dg a).toNat < (dg b).toNat := by rw [dg_nat, dg_nat]; omega
  exact this
theorem dgs_mod : ∀ (k n : Nat), dgs k n = dgs k (n % 10 ^ k)
  | 0, n => rfl
  | k + 1, n => by
    rw [dgs, dgs, dgs_mod k (n / 10), dgs_mod k (n % 10 ^ (k + 1) / 10)]
    have h1 : n % 10 ^ (k + 1) / 10 = n / 10 % 10 ^ k := by
      rw [show 10 ^ (k + 1) = 10 * 10 ^ k by rw [Nat.pow_succ]; omega, Nat.mod_mul_right_div_self]
    have h2 : n % 10 ^ (k + 1) % 10 = n % 10 := Nat.mod_mod_of_dvd _ ⟨10 ^ k, by rw [Nat.pow_succ]; omega⟩
    rw [h1, Nat.mod_mod]
    congr 2
    simp only [dg, h2]
theorem dgs_lt : ∀ {k a b : Nat}, a < b → b < 10 ^ k → dgs k a < dgs k b
  | 0, a, b, h, hb => by simp at hb; omega
  | k + 1, a, b, h, hb => by
    have hp : 0 < 10 ^ k := Nat.pow_pos (by decide)
    rw [dgs_cons, dgs_cons]
    have h1 : b / 10 ^ k < 10 := Nat.div_lt_of_lt_mul (by rw [Nat.pow_succ] at hb; omega)
    have h2 : a / 10 ^ k ≤ b / 10 ^ k := Nat.div_le_div_right (Nat.le_of_lt h)
    rcases Nat.lt_or_ge (a / 10 ^ k) (b / 10 ^ k) with h3 | h3
    · exact List.Lex.rel (dg_lt (by omega) h1 h3)
    · have h4 : a / 10 ^ k = b / 10 ^ k := by omega
      rw [h4]
      refine List.Lex.cons ?_
      rw [dgs_mod k a, dgs_mod k b]
      refine dgs_lt ?_ (Nat.mod_lt _ hp)
      have e1 := Nat.div_add_mod a (10 ^ k)
      have e2 := Nat.div_add_mod b (10 ^ k)
      rw [h4] at e1
      omega
theorem pre_lt {x y : List UInt8} (h : x < y) : pre ++ x < pre ++ y := List.Lex.cons (List.Lex.cons (List.Lex.cons (List.Lex.cons (List.Lex.cons h))))
end Go.E.Sn
namespace Go.E.YtcionccfgcnhoaaGreatDoor
open Go.Proofs
set_option maxRecDepth 100000
theorem nm_lt {a b : Nat} (h : a < b) (hb : b ≤ 999999) : encB (Sn.nm a) < encB (Sn.nm b) := by
  have e : ∀ n, encB (Sn.nm n) = Sn.pre ++ Sn.dgs 6 n := fun n => by simp [encB, Sn.nm]
  rw [e, e]
  exact Sn.pre_lt (Sn.dgs_lt h (by omega))
theorem srtB_sorted (ss : List ByteArray) : (srtB ss).Pairwise fun a b => encB a ≤ encB b := by
  have h := List.pairwise_mergeSort leU_trans leU_total (ss.map encB)
  unfold srtB
  rw [List.pairwise_map]
  refine h.imp fun {a b} h => ?_
  have e : ∀ l : List UInt8, encB ⟨l.toArray⟩ = l := fun l => by simp [encB]
  rw [e, e]
  exact of_decide_eq_true h
theorem numsA_sorted (A : List Af) : (numsA A).Pairwise (· ≤ ·) := by
  unfold numsA numsN
  rw [List.pairwise_filterMap]
  refine (srtB_sorted _).imp fun {s t} h x hx y hy => ?_
  obtain ⟨h1, h2, h3⟩ := numOf_some hx
  obtain ⟨k1, k2, k3⟩ := numOf_some hy
  subst h3 k3
  refine Nat.le_of_not_lt fun hlt => ?_
  have := nm_lt hlt h2
  exact h this
theorem numsA_perm (A : List Af) : (numsA A).Perm (numsN (A.map (·.name))) := (srtB_same _).filterMap _
theorem mem_numsA {A : List Af} {n : Nat} : n ∈ numsA A ↔ 1 ≤ n ∧ n ≤ 999999 ∧ ∃ a ∈ A, a.name = Sn.nm n := by
  rw [(numsA_perm A).mem_iff, numsN, List.mem_filterMap]
  constructor
  · rintro ⟨s, hs, e⟩
    obtain ⟨a, ha, rfl⟩ := List.mem_map.1 hs
    obtain ⟨h1, h2, h3⟩ := numOf_some e
    exact ⟨h1, h2, a, ha, h3.symm⟩
  · rintro ⟨h1, h2, a, ha, e⟩
    exact ⟨Sn.nm n, by rw [← e]; exact List.mem_map.2 ⟨a, ha, rfl⟩, numOf_nm h1 h2⟩
abbrev fn1V (F b : Nat) : CV := .v (.func (.func F) #[] #[.pointer (some ⟨b, 0, none⟩)])
def idxI (p : Int → Bool) (l : List Int) : Int := if l.any p then (l.findIdx p : Nat) else -1
theorem idxI_at {p : Int → Bool} {l : List Int} {i : Nat} (hi : i < l.length) (hall : ∀ x ∈ l.take i, p x = false) (h : p l[i] = true) : idxI p l = i := by
  unfold idxI
  rw [if_pos (List.any_eq_true.2 ⟨_, List.getElem_mem hi, h⟩)]
  congr 1
  refine (List.findIdx_eq hi).2 ⟨h, fun j hj => hall _ ?_⟩
  exact List.mem_take_iff_getElem.2 ⟨j, by omega, rfl⟩
theorem idxI_none {p : Int → Bool} {l : List Int} (hall : ∀ x ∈ l, p x = false) : idxI p l = -1 := by
  unfold idxI
  rw [if_neg]
  intro h
  obtain ⟨x, hx, h⟩ := List.any_eq_true.1 h
  rw [hall x hx] at h; cases h
theorem idxI_nonneg (p : Int → Bool) (l : List Int) : decide (0 ≤ idxI p l) = l.any p := by
  unfold idxI
  split
  · rename_i h; rw [h]; exact decide_eq_true (by omega)
  · rename_i h
    have : l.any p = false := by simpa using h
    rw [this]; exact decide_eq_false (by omega)
theorem indexI_spec {m : Mem} {v : Value} {l : List Int} {F b : Nat} {p : Int → Bool} (hv : Ia m v l) (hF : ∀ x, Ret Tryz.prog F [i64 x, ptrV b] m [boolV (p x)]) (hl : l.length ≤ 100000000) : Ret Tryz.prog 136 [.v v, fn1V F b] m [i64 (idxI p l)] := by
  obtain ⟨a, c, rfl⟩ := hv.shape
  refine en136 rfl (goY ?_)
  conv => whnf
  refine .mk (ι := Nat) (fun i => l.length - i) (fun i mm => i ≤ l.length ∧ (∀ x ∈ l.take i, p x = false) ∧ mm = m) (fun i => [(0, .c (.v (.slice a l.length c))), (1, .c (fn1V F b)), (7, .c (i64 l.length)), (8, .c (i64 i))]) (fun _ => []) 0 ⟨by omega, by simp, rfl⟩ ?_ ?_
  · conv => whnf
    repeat (refine And.intro (by first | with_reducible rfl | exact congrArg (Value.int _) (wi (by omega) (by omega)) | exact wi (by omega) (by omega) | rfl) ?_; conv => whnf)
    first | exact trivial | exact fun _ _ h => h
  rintro i mm ⟨hi, hall, he⟩
  subst mm
  conv => whnf
  refine ⟨fun h => ?_, fun h => ?_⟩
  · have h' := of_decide_eq_true h
    have hlt : i < l.length := by omega
    obtain ⟨bl, ol, c', hh, hg⟩ := hv.real hlt
    injection hh with hh1 _ hh3
    subst hh1
    clear hh3 c'
    have hg := hg i hlt
    conv => whnf
    repeat (refine And.intro (by first | omega | (simp only [times]; omega)) ?_; conv => whnf)
    refine ⟨_, hg, rfl, ?_⟩
    conv => whnf
    first | refine xretk ((hF l[i])) ?_ | refine xret ((hF l[i])) ?_
    conv => whnf
    have hst : l.take (i + 1) = l.take i ++ [l[i]] := List.take_succ_eq_append_getElem hlt
    refine ⟨fun h => ?_, fun h => ?_⟩
    · conv => whnf
      exact ⟨by rw [idxI_at hlt hall h], rfl⟩
    · conv => whnf
      refine ⟨i + 1, ⟨by omega, fun x hx => ?_, rfl⟩, by omega, ?_⟩
      · rw [hst] at hx
        rcases List.mem_append.1 hx with hx | hx
        · exact hall x hx
        · rw [List.mem_singleton.1 hx]; exact h
      · conv => whnf
        repeat (refine And.intro (by first | with_reducible rfl | (first | exact congrArg (Value.int _) (iadd1 (by omega))) | exact congrArg (Value.int _) (wi (by omega) (by omega)) | exact wi (by omega) (by omega) | rfl) ?_; conv => whnf)
        first | exact trivial | exact fun _ _ h => h
  · have h' := of_decide_eq_false h
    obtain rfl : i = l.length := by omega
    rw [List.take_length] at hall
    conv => whnf
    exact ⟨by rw [idxI_none hall], rfl⟩
theorem containsI_spec {m : Mem} {v : Value} {l : List Int} {F b : Nat} {p : Int → Bool} (hv : Ia m v l) (hF : ∀ x, Ret Tryz.prog F [i64 x, ptrV b] m [boolV (p x)]) (hl : l.length ≤ 100000000) : Ret Tryz.prog 87 [.v v, fn1V F b] m [boolV (l.any p)] := by
  obtain ⟨a, c, rfl⟩ := hv.shape
  refine en87 rfl (goY ?_)
  conv => whnf
  first | refine xretk (indexI_spec hv hF hl) ?_ | refine xret (indexI_spec hv hF hl) ?_
  conv => whnf
  exact ⟨by rw [idxI_nonneg], rfl⟩
section
variable {m mm p : Mem} {bl bf nb ns all sure : Nat} {name : ByteArray}
theorem lmade_spec (h : mm bl = some (logO bf name all sure)) : Ret Tryz.prog 75 [ptrB bl] mm [boolV true] := by
  refine en75 rfl (goY ?_)
  conv => whnf
  refine ⟨fun _ => ?_, fun h => absurd h (by first | decide | simp)⟩
  conv => whnf
  refine ⟨_, mcell_of h rfl, rfl, ?_⟩
  conv => whnf
  exact ⟨rfl, rfl⟩
theorem lsure_spec (h : mm bl = some (logO bf name all sure)) : Ret Tryz.prog 32 [ptrB bl] mm [i64 sure] := by
  refine en32 rfl (goY ?_)
  conv => whnf
  refine ⟨fun h => absurd h (by first | decide | simp), fun _ => ?_⟩
  conv => whnf
  refine ⟨_, mcell_of h rfl, rfl, ?_⟩
  conv => whnf
  exact ⟨rfl, rfl⟩
theorem lall_spec (h : mm bl = some (logO bf name all sure)) : Ret Tryz.prog 33 [ptrB bl] mm [i64 all] := by
  refine en33 rfl (goY ?_)
  conv => whnf
  refine ⟨fun h => absurd h (by first | decide | simp), fun _ => ?_⟩
  conv => whnf
  refine ⟨_, mcell_of h rfl, rfl, ?_⟩
  conv => whnf
  exact ⟨rfl, rfl⟩
theorem wr_len {l : List Int} (h : l.length ≤ 1000000000) : (Fr.wr l).length ≤ l.length + 13 := by
  have h1 := numB_len (l.length : Int)
  simp only [Fr.wr, Fr.four, List.length_append, List.length_cons, List.length_nil]
  omega
set_option maxHeartbeats 4000000 in
theorem lsync_spec {A : List Af} {k : Nat} {q : Int} (hs : Split mm [blk1 bl (logO bf name all sure), p, m]) (h : FA p bf q nb ns A) (hk : Sm k A nb ns) :
    Spec Tryz.prog 38 [ptrB bl] mm fun r m' => ∃ p' ns', r = [i64 0] ∧ Split m' [blk1 bl (logO bf name all all), p', m] ∧ FA p' bf q nb ns' (syncA A name) ∧ ns' ≤ ns + 1 := by
  have hbl : mm bl = some (logO bf name all sure) := hs.sub (a := blk1 bl (logO bf name all sure)) (by simp) _ _ (blk1_same ..)
  refine en38 rfl (goY ?_)
  conv => whnf
  first | refine xretk (lmade_spec hbl) ?_ | refine xret (lmade_spec hbl) ?_
  conv => whnf
  refine ⟨fun h => absurd h (by first | decide | simp), fun _ => ?_⟩
  conv => whnf
  refine ⟨[.one (.pointer (some ⟨bf, 0, none⟩)), .one (.string name)], ⟨rfl, rfl, trivial⟩, rfl, ⟨_, _, _, hbl, fun j u hu => ?_⟩, ?_⟩
  · match j, hu with
    | 0, hu => exact hu
    | 1, hu => exact hu
    | j + 2, hu => simp [LB.cells, Seg.cells] at hu
  conv => whnf
  refine xcall (Spec.frame (hs.perm (List.Perm.swap _ _ _)) (place_sync (name := name) h hk)) ?_
  rintro _ m2 ⟨p2, ⟨rfl, h2⟩, hs5⟩
  conv => whnf
  have hbl2 := hs5.sub (a := blk1 bl (logO bf name all sure)) (by simp) _ _ (blk1_same ..)
  have hs6 := hs5.setAt (i := 1) rfl (blk1_same ..) (logO bf name all all)
  rw [blk1_set] at hs6
  refine ⟨_, mcell_of hbl2 rfl, rfl, ?_⟩
  conv => whnf
  refine ⟨_, _, _, hbl2, ⟨by simp, by simp⟩, ?_⟩
  conv => whnf
  exact ⟨p2, _, rfl, hs6.perm (List.Perm.swap _ _ _), h2, by split <;> omega⟩
end
abbrev saveO (bf : Nat) (n : Int) (v : Value) (st : Nat) : Obj := .cells #[.pointer (some ⟨bf, 0, none⟩), .int .i64 n, v, .int .i64 (st : Int)] 148
theorem later_spec {m : Mem} {b : Nat} {x n : Int} (h : mcell m b 0 = some (.int .i64 n)) : Ret Tryz.prog 85 [i64 x, ptrV b] m [boolV (decide (n ≤ x))] := by
  refine en85 rfl (goY ?_)
  conv => whnf
  refine ⟨_, h, rfl, ?_⟩
  conv => whnf
  exact ⟨rfl, rfl⟩
noncomputable def mayN (A : List Af) (n : Int) : Bool := isNum n && !(numsA A).any fun k => decide (n ≤ (k : Int))
def allRec (ps : List (List Int)) : Bool := ps.all fun r => Fr.isRec r.length
theorem allRec_snoc (l : List (List Int)) (r : List Int) : allRec (l ++ [r]) = (allRec l && Fr.isRec r.length) := by simp [allRec]
theorem allRec_cat : ∀ {l : List (List Int)}, allRec l = true → (Fr.cat l).length ≤ 20013 * l.length
  | [], _ => by simp [Fr.cat]
  | r :: l, h => by
    have h1 : Fr.isRec r.length = true ∧ allRec l = true := by simpa [allRec] using h
    have h2 : 1 ≤ r.length ∧ r.length ≤ 20000 := by simpa [Fr.isRec] using h1.1
    have h3 := wr_len (l := r) (by omega)
    have h4 := allRec_cat h1.2
    have e : (Fr.cat (r :: l)).length = (Fr.wr r).length + (Fr.cat l).length := by simp [Fr.cat]
    rw [e, List.length_cons, Nat.mul_succ]
    omega
set_option maxHeartbeats 4000000 in
theorem begin_ok {m : Mem} {bf nb ns k : Nat} {q n : Int} {A : List Af} {v : Value} {ps : List (Value × List Int)} (hg : Glob m) (h : FA m bf q nb ns A) (hk : Sm k A nb ns) (hn : NmS A) (hm : mayN A n = true) (hv : LsA m v ps) (hbt : ∀ r ∈ ps, Byt r.2) (hlen : ps.length ≤ 50) (hsz : ∀ r ∈ ps, r.2.length ≤ 1000000) : Spec Tryz.prog 43 [ptrB bf, i64 n, .v v] m fun r m' =>
    if allRec (ps.map (·.2)) then ∃ bs v' pv, r = [ptrB bs, i64 0] ∧ Split m' [blk1 bs (saveO bf n v' 1), pv, m] ∧ Bs pv v' (Fr.cat (ps.map (·.2))) else r = [nilP, i64 3] ∧ Sub m m' := by
  obtain ⟨hi, hany⟩ : isNum n = true ∧ (nc (numsA A)).any (fun x => decide (n ≤ x)) = false := by
    rw [mayN, Bool.and_eq_true] at hm
    refine ⟨hm.1, ?_⟩
    have := hm.2
    rw [nc, List.any_map]
    simpa using this
  refine en43 rfl (goY ?_)
  conv => whnf
  intro b hb
  conv => whnf
  have hs := Mem.sub_set (.cells #[.int .i64 n] 3) hb
  refine .mk _ (makeFunc_spec (cs := [.pointer (some ⟨b, 0, none⟩)]) (by simp [Value.oneCell'])) ?_
  rintro _ _ ⟨rfl, rfl⟩
  conv => whnf
  refine xcall (madeS_spec (h.grow hs) hk) ?_
  rintro _ m0 ⟨rfl, hs0⟩
  conv => whnf
  refine ⟨fun h => absurd h (by first | decide | simp), fun _ => ?_⟩
  conv => whnf
  have hb0 : mcell m0 b 0 = some (.int .i64 n) := mcell_sub (mcell_of (Mem.set_same ..) rfl) hs0
  refine ⟨_, hb0, rfl, ?_⟩
  conv => whnf
  first | refine xretk (isNumber_spec) ?_ | refine xret (isNumber_spec) ?_
  conv => whnf
  rw [hi]
  refine ⟨fun h => absurd h (by first | decide | simp), fun _ => ?_⟩
  conv => whnf
  refine xcall (numbers_A (hg.sub (hs.trans hs0)) (h.grow (hs.trans hs0)) hk hn) ?_
  rintro _ m1 ⟨v1, p, rfl, hs1, hv1⟩
  conv => whnf
  have hl := numsA_len A
  have hkn := hk.n
  have hkk := hk.k
  have hb1 : mcell m1 b 0 = some (.int .i64 n) := mcell_sub hb0 (hs1.sub (a := m0) (by simp))
  first | refine xretk (containsI_spec (p := fun x => decide (n ≤ x)) (hv1.il.ia.sub (hs1.sub (a := p) (by simp))) (fun x => later_spec hb1) (by rw [nc_len]; omega)) ?_ | refine xret (containsI_spec (p := fun x => decide (n ≤ x)) (hv1.il.ia.sub (hs1.sub (a := p) (by simp))) (fun x => later_spec hb1) (by rw [nc_len]; omega)) ?_
  conv => whnf
  rw [hany]
  refine ⟨fun h => absurd h (by first | decide | simp), fun _ => ?_⟩
  conv => whnf
  refine ⟨_, hb1, rfl, ?_⟩
  conv => whnf
  intro bs hbs
  conv => whnf
  have hm1 : Sub m m1 := (hs.trans hs0).trans (hs1.sub (a := m0) (by simp))
  have hsb : Split (m1.set bs (saveO bf n (.slice none 0 0) 1)) [blk1 bs (saveO bf n (.slice none 0 0) 1), emp, m] := ((Split.one m).grow hm1 |>.addEmp).new hbs _
  obtain ⟨a, c, rfl⟩ := hv.shape
  conv => whnf
  refine .mk (ι := Nat × Value) (fun i => ps.length - i.1) (fun ⟨i, y⟩ mm => i ≤ ps.length ∧ allRec ((ps.take i).map (·.2)) = true ∧ ∃ p', Split mm [blk1 bs (saveO bf n y 1), p', m] ∧ Bs p' y (Fr.cat ((ps.take i).map (·.2)))) (fun ⟨i, y⟩ => [(9, .c (ptrB bs)), (33, .c (.v (.slice a ps.length c))), (34, .c (i64 ps.length)), (35, .c (i64 i))]) (fun _ => []) (0, .slice none 0 0) ⟨by simp, rfl, emp, hsb, Bs.nil _⟩ ?_ ?_
  · conv => whnf
    repeat (refine And.intro (by first | with_reducible rfl | exact congrArg (Value.int _) (wi (by omega) (by omega)) | exact wi (by omega) (by omega) | rfl) ?_; conv => whnf)
    first | exact trivial | exact fun _ _ h => h
  rintro ⟨i, y⟩ mm ⟨hi, hall, p', hs', hy⟩
  conv => whnf
  refine ⟨fun h => ?_, fun h => ?_⟩
  · have hlt : i < ps.length := by have := of_decide_eq_true h; omega
    clear h
    obtain ⟨bl, ol, cl, e1, hel⟩ := hv.real hlt
    injection e1 with e1 e2 e3
    subst e1
    have hel := hel i hlt
    have hla := hv.la _ (List.getElem_mem hlt)
    have hby := hbt _ (List.getElem_mem hlt)
    have hz := hsz _ (List.getElem_mem hlt)
    have htk : (ps.take (i + 1)).map (·.2) = (ps.take i).map (·.2) ++ [ps[i].2] := by rw [List.take_succ_eq_append_getElem hlt, List.map_append]; rfl
    have hmm : Sub m mm := hs'.sub (a := m) (by simp)
    have hbs1 : mm bs = some (saveO bf n y 1) := hs'.sub (a := blk1 bs (saveO bf n y 1)) (by simp) _ _ (blk1_same ..)
    have hcl := allRec_cat hall
    rw [List.length_map, List.length_take, Nat.min_eq_left hi] at hcl
    have hcl2 : 20013 * i ≤ 20013 * 50 := Nat.mul_le_mul_left _ (by omega)
    conv => whnf
    repeat (refine And.intro (by first | omega | (simp only [times]; omega)) ?_; conv => whnf)
    refine ⟨_, mcell_sub hel hmm, hla.one, ?_⟩
    conv => whnf
    cases hr : Fr.isRec ps[i].2.length with
    | false =>
      first | refine xretk (write_bad (hla.sub hmm) hr) ?_ | refine xret (write_bad (hla.sub hmm) hr) ?_
      conv => whnf
      refine ⟨fun _ => ?_, fun h => absurd h (by first | decide | simp)⟩
      conv => whnf
      have hno : allRec (ps.map (·.2)) = false := by
        cases e : allRec (ps.map (·.2)) with
        | false => rfl
        | true =>
          have := List.all_eq_true.1 e ps[i].2 (List.mem_map.2 ⟨_, List.getElem_mem hlt, rfl⟩)
          rw [hr] at this; cases this
      rw [hno]
      exact ⟨rfl, hmm⟩
    | true =>
      have hr' : 1 ≤ ps[i].2.length ∧ ps[i].2.length ≤ 20000 := by simpa [Fr.isRec] using hr
      have hw := wr_len (l := ps[i].2) (by omega)
      refine xcall (write_ok (hla.sub hmm) hby hr) ?_
      rintro _ m2 ⟨vw, pw, rfl, hsw, hvw⟩
      conv => whnf
      have hsw : Split m2 [pw, blk1 bs (saveO bf n y 1), p', m] := hsw.under (a := [pw]) hs'
      refine ⟨fun h => absurd h (by first | decide | simp), fun _ => ?_⟩
      conv => whnf
      refine ⟨y, mcell_of (hsw.sub (a := blk1 bs (saveO bf n y 1)) (by simp) _ _ (blk1_same ..)) rfl, hy.lb.one, ?_⟩
      conv => whnf
      refine .mk _ (appendBat (i := 2) hsw rfl hy ((hvw.lb.sub (hsw.sub (a := pw) (by simp))).la) (by omega)) ?_
      rintro _ m3 ⟨y2, p2, rfl, hs2, hy2⟩
      conv => whnf
      have hs2 : Split m3 [pw, blk1 bs (saveO bf n y 1), p2, m] := hs2
      refine ⟨_, _, _, hs2.sub (a := blk1 bs (saveO bf n y 1)) (by simp) _ _ (blk1_same ..), ⟨by simp, by simp⟩, ?_⟩
      have hs3 := hs2.setAt (i := 1) rfl (blk1_same ..) (saveO bf n y2 1)
      rw [blk1_set] at hs3
      have hs3 : Split _ [pw, blk1 bs (saveO bf n y2 1), p2, m] := hs3
      conv => whnf
      refine ⟨(i + 1, y2), ⟨by omega, by rw [htk, allRec_snoc, hall, hr]; rfl, p2, hs3.drop, ?_⟩, by simp; omega, ?_⟩
      · rw [htk, Fr.cat_append, show Fr.cat [ps[i].2] = Fr.wr ps[i].2 by simp [Fr.cat]]
        exact hy2.own
      conv => whnf
      repeat (refine And.intro (by first | with_reducible rfl | (first | exact congrArg (Value.int _) (iadd1 (by omega))) | exact congrArg (Value.int _) (wi (by omega) (by omega)) | exact wi (by omega) (by omega) | rfl) ?_; conv => whnf)
      first | exact trivial | exact fun _ _ h => h
  · have h' := of_decide_eq_false h
    obtain rfl : i = ps.length := by omega
    rw [List.take_length] at hall hy
    conv => whnf
    rw [hall]
    exact ⟨bs, y, p', rfl, hs', hy⟩
def tmpN : ByteArray := ⟨#[115, 110, 97, 112, 46, 116, 109, 112]⟩
theorem tmp_ok : nameOk (chs tmpN) = true := by decide
def fitsA (q : Int) (A : List Af) (l : List Nat) : Prop := ¬ (0 < q ∧ q < (totA (rmA A tmpN) + l.length : Nat))
instance (q : Int) (A : List Af) (l : List Nat) : Decidable (fitsA q A l) := by unfold fitsA; infer_instance
noncomputable def sweepL (n : Nat) (A : List Af) (L : List Nat) : List Af := L.foldl (fun A k => if k < n then rmA A (Sn.nm k) else A) A
noncomputable def sweepA (n : Nat) (A : List Af) : List Af := sweepL n A (numsA A)
theorem rm_rm (A : List Af) (name : ByteArray) : rmA (rmA A name) name = rmA A name := by
  unfold rmA
  rw [List.filter_filter]
  simp
theorem NmS.rm {A : List Af} (h : NmS A) (name : ByteArray) : NmS (rmA A name) := fun a ha => h a (List.mem_filter.1 ha).1
theorem Sm.rm {k : Nat} {A : List Af} {nb ns : Nat} (h : Sm k A nb ns) (name : ByteArray) : Sm k (rmA A name) nb ns :=
  ⟨fun a ha => h.l a (List.mem_filter.1 ha).1, Nat.le_trans (List.length_filter_le _ _) h.n, h.nb, h.ns, h.k⟩
section
variable {mm m p pv : Mem} {bs bf nb ns k n st : Nat} {q : Int} {A : List Af} {v : Value} {l : List Nat}
theorem stage_nil {m : Mem} : Ret Tryz.prog 84 [nilP] m [i64 0] := by
  refine en84 rfl (goY ?_)
  conv => whnf
  refine ⟨fun _ => ?_, fun h => absurd h (by first | decide | simp)⟩
  conv => whnf
  exact ⟨rfl, rfl⟩
theorem stage_spec (h : mm bs = some (saveO bf n v st)) : Ret Tryz.prog 84 [ptrB bs] mm [i64 st] := by
  refine en84 rfl (goY ?_)
  conv => whnf
  refine ⟨fun h => absurd h (by first | decide | simp), fun _ => ?_⟩
  conv => whnf
  refine ⟨_, mcell_of h rfl, rfl, ?_⟩
  conv => whnf
  exact ⟨rfl, rfl⟩
set_option maxHeartbeats 4000000 in
theorem saveWrite_spec (hs : Split mm [blk1 bs (saveO bf n v st), pv, p, m]) (hv : Bs pv v (nc l)) (h : FA p bf q nb ns A) (hk : Sm k A nb ns) (h256 : ∀ x ∈ l, x < 256) (hl : l.length ≤ 1000000) (hq : 0 ≤ q ∧ q ≤ 9223372036854775807) :
    Spec Tryz.prog 88 [ptrB bs] mm fun r m' => ∃ p', r = [i64 (if fitsA q A l then 0 else 5)] ∧ Split m' [blk1 bs (saveO bf n v st), pv, p', m] ∧ FA p' bf q (if fitsA q A l then nb + l.length else nb) ns (if fitsA q A l then appA (rmA A tmpN) tmpN l else rmA A tmpN) := by
  have hbs : mm bs = some (saveO bf n v st) := hs.sub (a := blk1 bs (saveO bf n v st)) (by simp) _ _ (blk1_same ..)
  refine en88 rfl (goY ?_)
  conv => whnf
  refine ⟨_, mcell_of hbs rfl, rfl, ?_⟩
  conv => whnf
  refine xcall (Spec.at (i := 2) hs rfl (remove_A (name := tmpN) h)) ?_
  rintro _ m1 ⟨p1, ⟨rfl, h1⟩, hs1⟩
  conv => whnf
  have hs1 : Split m1 [blk1 bs (saveO bf n v st), pv, p1, m] := hs1
  have hbs1 : m1 bs = some (saveO bf n v st) := hs1.sub (a := blk1 bs (saveO bf n v st)) (by simp) _ _ (blk1_same ..)
  have hk1 := hk.rm tmpN
  refine ⟨_, mcell_of hbs1 rfl, rfl, ?_⟩
  conv => whnf
  refine ⟨_, mcell_of hbs1 rfl, hv.lb.one, ?_⟩
  conv => whnf
  have hs2 : Split m1 [p1, blk1 bs (saveO bf n v st), pv, m] := hs1.pick (i := 2) rfl
  obtain ⟨q1, hq1, hs3, back⟩ := Split.pick1 hs2
  refine xcall (append_A (name := tmpN) (lb := l) h1 hs3 hk1 ((hv.lb.sub (hq1 pv (by simp))).la) h256 (by decide) hq hl) ?_
  rintro _ m2 ⟨e, p2, A', nb', rfl, hs4, h2, hr2⟩
  conv => whnf
  rw [AppR, if_neg (by rw [tmp_ok]; decide)] at hr2
  have hs4 : Split m2 [p2, blk1 bs (saveO bf n v st), pv, m] := back _ _ hs4
  have hs5 : Split m2 [blk1 bs (saveO bf n v st), pv, p2, m] := hs4.perm (by
    refine (List.Perm.swap _ _ _).trans (List.Perm.cons _ ?_)
    exact List.Perm.swap _ _ _)
  have hbs2 : m2 bs = some (saveO bf n v st) := hs5.sub (a := blk1 bs (saveO bf n v st)) (by simp) _ _ (blk1_same ..)
  by_cases hf : 0 < q ∧ q < (totA (rmA A tmpN) + l.length : Nat)
  · rw [if_pos hf] at hr2
    obtain ⟨rfl, rfl, rfl⟩ := hr2
    have hfit : ¬ fitsA q A l := fun h => h hf
    refine ⟨fun _ => ?_, fun h => absurd h (by first | decide | simp)⟩
    conv => whnf
    refine ⟨_, mcell_of hbs2 rfl, rfl, ?_⟩
    conv => whnf
    refine xcall (Spec.at (i := 2) hs5 rfl (remove_A (name := tmpN) h2)) ?_
    rintro _ m3 ⟨p3, ⟨rfl, h3⟩, hs6⟩
    conv => whnf
    rw [rm_rm] at h3
    exact ⟨p3, by rw [if_neg hfit], hs6, by rw [if_neg hfit, if_neg hfit]; exact h3⟩
  · rw [if_neg hf] at hr2
    obtain ⟨rfl, rfl, rfl⟩ := hr2
    have hfit : fitsA q A l := hf
    refine ⟨fun h => absurd h (by first | decide | simp), fun _ => ?_⟩
    conv => whnf
    exact ⟨p2, by rw [if_pos hfit], hs5, by rw [if_pos hfit, if_pos hfit]; exact h2⟩
theorem sweepL_take {L : List Nat} {i : Nat} (hi : i < L.length) : sweepL n A (L.take (i + 1)) = if L[i] < n then rmA (sweepL n A (L.take i)) (Sn.nm L[i]) else sweepL n A (L.take i) := by
  rw [List.take_succ_eq_append_getElem hi, sweepL, List.foldl_append]; rfl
set_option maxHeartbeats 4000000 in
theorem sweep_spec (hg : Glob m) (hs : Split mm [blk1 bs (saveO bf n v st), p, m]) (h : FA p bf q nb ns A) (hk : Sm k A nb ns) (hn : NmS A) (hn1 : n ≤ 999999) :
    Spec Tryz.prog 91 [ptrB bs] mm fun r m' => ∃ p', r = [] ∧ Split m' [blk1 bs (saveO bf n v st), p', m] ∧ FA p' bf q nb ns (sweepA n A) := by
  have hbs : mm bs = some (saveO bf n v st) := hs.sub (a := blk1 bs (saveO bf n v st)) (by simp) _ _ (blk1_same ..)
  have hrng : ∀ x ∈ numsA A, 1 ≤ x ∧ x ≤ 999999 := numsN_rng
  have hl := numsA_len A
  have hkn := hk.n
  have hkk := hk.k
  unfold sweepA
  refine en91 rfl (goY ?_)
  conv => whnf
  refine ⟨_, mcell_of hbs rfl, rfl, ?_⟩
  conv => whnf
  refine xcall (numbers_A (hg.sub (hs.sub (a := m) (by simp))) (h.grow (hs.sub (a := p) (by simp))) hk hn) ?_
  rintro _ m1 ⟨v1, pn, rfl, hs1, hv1⟩
  conv => whnf
  have hs1 : Split m1 [pn, blk1 bs (saveO bf n v st), p, m] := hs1.under (a := [pn]) hs
  generalize numsA A = L at *
  have hncl : (nc L).length = L.length := nc_len _
  obtain ⟨a, c, rfl⟩ := hv1.il.shape
  rw [hncl]
  conv => whnf
  refine .mk (ι := Nat) (fun i => L.length - i) (fun i mm => i ≤ L.length ∧ ∃ p', Split mm [pn, blk1 bs (saveO bf n v st), p', m] ∧ FA p' bf q nb ns (sweepL n A (L.take i))) (fun i => [(0, .c (ptrB bs)), (10, .c (.v (.slice a L.length c))), (11, .c (i64 L.length)), (12, .c (i64 i))]) (fun _ => []) 0 ⟨by omega, p, hs1, h⟩ ?_ ?_
  · conv => whnf
    repeat (refine And.intro (by first | with_reducible rfl | exact congrArg (Value.int _) (wi (by omega) (by omega)) | exact wi (by omega) (by omega) | rfl) ?_; conv => whnf)
    first | exact trivial | exact fun _ _ h => h
  rintro i mi ⟨hi, p', hs', h'⟩
  conv => whnf
  refine ⟨fun hc => ?_, fun hc => ?_⟩
  · have hlt : i < L.length := by have := of_decide_eq_true hc; omega
    clear hc
    obtain ⟨bl, ol, cl, e1, hel⟩ := (hv1.il.sub (hs'.sub (a := pn) (by simp))).real (i := i) (by omega)
    injection e1 with e1 e2 e3
    subst e1
    have hel := hel i (by omega)
    have ee : (nc L)[i]'(by omega) = (L[i] : Int) := by simp [nc]
    rw [ee] at hel
    have hx := hrng _ (List.getElem_mem hlt)
    have hst := sweepL_take (n := n) (A := A) hlt
    have hbi : mi bs = some (saveO bf n v st) := hs'.sub (a := blk1 bs (saveO bf n v st)) (by simp) _ _ (blk1_same ..)
    have hgi : Glob mi := hg.sub (hs'.sub (a := m) (by simp))
    generalize L[i] = x at *
    conv => whnf
    repeat (refine And.intro (by first | omega | (simp only [times]; omega)) ?_; conv => whnf)
    refine ⟨_, hel, rfl, ?_⟩
    conv => whnf
    refine ⟨_, mcell_of hbi rfl, rfl, ?_⟩
    conv => whnf
    refine ⟨fun hc => ?_, fun hc => ?_⟩
    · have hc' : x < n := by have := of_decide_eq_true hc; omega
      rw [if_pos hc'] at hst
      conv => whnf
      first | refine xretk (name_ok hgi hx.1 hx.2) ?_ | refine xret (name_ok hgi hx.1 hx.2) ?_
      conv => whnf
      refine ⟨_, mcell_of hbi rfl, rfl, ?_⟩
      conv => whnf
      refine xcall (Spec.at (i := 2) hs' rfl (remove_A (name := Sn.nm x) h')) ?_
      rintro _ m2 ⟨p2, ⟨rfl, h2⟩, hs2⟩
      conv => whnf
      refine ⟨i + 1, ⟨by omega, p2, hs2, by rw [hst]; exact h2⟩, by first | omega | (simp only; omega), ?_⟩
      conv => whnf
      repeat (refine And.intro (by first | with_reducible rfl | (first | exact congrArg (Value.int _) (iadd1 (by omega))) | exact congrArg (Value.int _) (wi (by omega) (by omega)) | exact wi (by omega) (by omega) | rfl) ?_; conv => whnf)
      first | exact trivial | exact fun _ _ h => h
    · have hc' : ¬ x < n := by have := of_decide_eq_false hc; omega
      rw [if_neg hc'] at hst
      conv => whnf
      refine ⟨i + 1, ⟨by omega, p', hs', by rw [hst]; exact h'⟩, by first | omega | (simp only; omega), ?_⟩
      conv => whnf
      repeat (refine And.intro (by first | with_reducible rfl | (first | exact congrArg (Value.int _) (iadd1 (by omega))) | exact congrArg (Value.int _) (wi (by omega) (by omega)) | exact wi (by omega) (by omega) | rfl) ?_; conv => whnf)
      first | exact trivial | exact fun _ _ h => h
  · have hc' := of_decide_eq_false hc
    obtain rfl : i = L.length := by omega
    rw [List.take_length] at h'
    conv => whnf
    exact ⟨p', rfl, hs'.drop, h'⟩
end
structure StepR where
  A : List Af
  st : Nat
  told : Nat
  e : Int
noncomputable def stepA (q : Int) (n : Nat) (l : List Nat) (st : Nat) (A : List Af) : StepR :=
  if st = 0 then ⟨A, 0, 0, 4⟩ else if st = 1 then if fitsA q A l then ⟨appA (rmA A tmpN) tmpN l, 2, 2, 0⟩ else ⟨rmA A tmpN, 1, 0, 5⟩
  else if st = 2 then ⟨syncA A tmpN, 3, 3, 0⟩ else if st = 3 then ⟨renA A tmpN (Sn.nm n), 4, 4, 0⟩ else ⟨sweepA n A, 0, 0, 0⟩
theorem Sn.nm_size (n : Nat) : (Sn.nm n).size = 11 := by rw [Sn.nm, mkB_size, List.length_append, Sn.dgs_len]; rfl
def stepNb (q : Int) (l : List Nat) (st : Nat) (A : List Af) (nb : Nat) : Nat := if st = 1 ∧ fitsA q A l then nb + l.length else nb
def stepNs (st : Nat) (A : List Af) (ns : Nat) : Nat := if st = 2 ∧ (fileA A tmpN).isSome then ns + 1 else ns
theorem stepNb_le (q : Int) (l : List Nat) (st : Nat) (A : List Af) (nb : Nat) : stepNb q l st A nb ≤ nb + l.length := by
  unfold stepNb; split <;> omega
theorem stepNs_le (st : Nat) (A : List Af) (ns : Nat) : stepNs st A ns ≤ ns + 1 := by
  unfold stepNs; split <;> omega
set_option maxHeartbeats 4000000 in
theorem saveStepX_spec {mm m p pv : Mem} {bs bf nb ns k n st : Nat} {q : Int} {A : List Af} {v : Value} {l : List Nat} (hg : Glob m) (hs : Split mm [blk1 bs (saveO bf n v st), pv, p, m]) (hv : Bs pv v (nc l)) (h : FA p bf q nb ns A) (hk : Sm k A nb ns) (h256 : ∀ x ∈ l, x < 256) (hl : l.length ≤ 1000000) (hq : 0 ≤ q ∧ q ≤ 9223372036854775807) (hn : NmS A) (hn1 : 1 ≤ n) (hn2 : n ≤ 999999) (hst : st ≤ 4) :
    Spec Tryz.prog 44 [ptrB bs] mm fun r m' => ∃ p', r = [i64 (stepA q n l st A).told, i64 (stepA q n l st A).e] ∧ Split m' [blk1 bs (saveO bf n v (stepA q n l st A).st), pv, p', m] ∧ FA p' bf q (stepNb q l st A nb) (stepNs st A ns) (stepA q n l st A).A := by
  have hbs : mm bs = some (saveO bf n v st) := hs.sub (a := blk1 bs (saveO bf n v st)) (by simp) _ _ (blk1_same ..)
  have hbp : Split mm [pv, m, blk1 bs (saveO bf n v st), p] := hs.perm (by
    refine (List.Perm.swap _ _ _).trans (List.Perm.cons _ ?_)
    refine (List.Perm.cons _ (List.Perm.swap _ _ _)).trans ?_
    exact List.Perm.swap _ _ _)
  have hdj := hbp.dj
  have hsj : Split mm [blk1 bs (saveO bf n v st), p, joinM pv m] := hbp.pair.perm (by
    refine (List.Perm.swap _ _ _).trans (List.Perm.cons _ ?_)
    exact List.Perm.swap _ _ _)
  have backj : ∀ m' p', Split m' [blk1 bs (saveO bf n v st), p', joinM pv m] → Split m' [blk1 bs (saveO bf n v st), pv, p', m] := fun m' p' h => by
    have h1 : Split m' [joinM pv m, blk1 bs (saveO bf n v st), p'] := h.perm (by
      refine (List.Perm.cons _ (List.Perm.swap _ _ _)).trans ?_
      exact List.Perm.swap _ _ _)
    refine (h1.unpair hdj).perm ?_
    refine (List.Perm.cons _ (List.Perm.swap _ _ _)).trans ?_
    refine (List.Perm.swap _ _ _).trans (List.Perm.cons _ (List.Perm.cons _ ?_))
    exact List.Perm.swap _ _ _
  have hgj : Glob (joinM pv m) := hg.sub fun x o ho => by
    have := hdj x
    simp only [joinM]
    rcases this with h | h
    · rw [h]; exact ho
    · rw [h] at ho; cases ho
  refine en44 rfl (goY ?_)
  conv => whnf
  refine ⟨fun h => absurd h (by first | decide | simp), fun _ => ?_⟩
  conv => whnf
  refine ⟨_, mcell_of hbs rfl, rfl, ?_⟩
  conv => whnf
  refine ⟨fun h => absurd h (by first | decide | simp), fun _ => ?_⟩
  conv => whnf
  refine ⟨_, mcell_of hbs rfl, rfl, ?_⟩
  conv => whnf
  have hc : st = 0 ∨ st = 1 ∨ st = 2 ∨ st = 3 ∨ st = 4 := by omega
  rcases hc with rfl | rfl | rfl | rfl | rfl
  · refine ⟨fun _ => ?_, fun h => absurd h (by first | decide | simp)⟩
    conv => whnf
    exact ⟨p, rfl, hs, by simp [stepNb, stepNs]; exact h⟩
  · refine ⟨fun h => absurd h (by first | decide | simp), fun _ => ?_⟩
    conv => whnf
    refine ⟨fun _ => ?_, fun h => absurd h (by first | decide | simp)⟩
    conv => whnf
    refine xcall (saveWrite_spec hs hv h hk h256 hl hq) ?_
    rintro _ m1 ⟨p1, rfl, hs1, h1⟩
    conv => whnf
    have hb1 : m1 bs = some (saveO bf n v 1) := hs1.sub (a := blk1 bs (saveO bf n v 1)) (by simp) _ _ (blk1_same ..)
    have enb : stepNb q l 1 A nb = if fitsA q A l then nb + l.length else nb := by simp [stepNb]
    have ens : stepNs 1 A ns = ns := by simp [stepNs]
    have est : stepA q n l 1 A = if fitsA q A l then ⟨appA (rmA A tmpN) tmpN l, 2, 2, 0⟩ else ⟨rmA A tmpN, 1, 0, 5⟩ := rfl
    by_cases hf : fitsA q A l
    · simp only [if_pos hf] at h1 est
      rw [if_pos hf]
      rw [est]
      refine ⟨fun h => absurd h (by first | decide | simp), fun _ => ?_⟩
      conv => whnf
      refine ⟨_, mcell_of hb1 rfl, rfl, ?_⟩
      conv => whnf
      refine ⟨_, _, _, hb1, ⟨by simp, by simp⟩, ?_⟩
      have ew : (IntKind.i64.wrap (((1 : Nat) : Int) + 1)).tmod 5 = ((2 : Nat) : Int) := by decide
      rw [ew]
      conv => whnf
      refine ⟨_, mcell_of (Mem.set_same ..) rfl, rfl, ?_⟩
      conv => whnf
      have hz := hs1.setAt (i := 0) rfl (blk1_same ..) (saveO bf n v 2)
      rw [blk1_set] at hz
      refine ⟨p1, ?_, hz, by rw [enb, ens, if_pos hf]; exact h1⟩
      rfl
    · simp only [if_neg hf] at h1 est
      rw [if_neg hf]
      rw [est]
      refine ⟨fun _ => ?_, fun h => absurd h (by first | decide | simp)⟩
      conv => whnf
      exact ⟨p1, rfl, hs1, by rw [enb, ens, if_neg hf]; exact h1⟩
  · refine ⟨fun h => absurd h (by first | decide | simp), fun _ => ?_⟩
    conv => whnf
    refine ⟨fun h => absurd h (by first | decide | simp), fun _ => ?_⟩
    conv => whnf
    refine ⟨fun _ => ?_, fun h => absurd h (by first | decide | simp)⟩
    conv => whnf
    refine ⟨_, mcell_of hbs rfl, rfl, ?_⟩
    conv => whnf
    refine xcall (Spec.at (i := 2) hs rfl (sync_A (name := tmpN) h hk)) ?_
    rintro _ m1 ⟨p1, ⟨rfl, h1⟩, hs1⟩
    conv => whnf
    have hs1 : Split m1 [blk1 bs (saveO bf n v 2), pv, p1, m] := hs1
    have hb1 : m1 bs = some (saveO bf n v 2) := hs1.sub (a := blk1 bs (saveO bf n v 2)) (by simp) _ _ (blk1_same ..)
    refine ⟨_, mcell_of hb1 rfl, rfl, ?_⟩
    conv => whnf
    refine ⟨_, _, _, hb1, ⟨by simp, by simp⟩, ?_⟩
    have ew : (IntKind.i64.wrap (((2 : Nat) : Int) + 1)).tmod 5 = ((3 : Nat) : Int) := by decide
    rw [ew]
    conv => whnf
    refine ⟨_, mcell_of (Mem.set_same ..) rfl, rfl, ?_⟩
    conv => whnf
    have hz := hs1.setAt (i := 0) rfl (blk1_same ..) (saveO bf n v 3)
    rw [blk1_set] at hz
    refine ⟨p1, ?_, hz, by simp [stepNb, stepNs]; exact h1⟩
    rfl
  · refine ⟨fun h => absurd h (by first | decide | simp), fun _ => ?_⟩
    conv => whnf
    refine ⟨fun h => absurd h (by first | decide | simp), fun _ => ?_⟩
    conv => whnf
    refine ⟨fun h => absurd h (by first | decide | simp), fun _ => ?_⟩
    conv => whnf
    refine ⟨fun _ => ?_, fun h => absurd h (by first | decide | simp)⟩
    conv => whnf
    refine ⟨_, mcell_of hbs rfl, rfl, ?_⟩
    conv => whnf
    first | refine xretk (name_ok (hg.sub (hs.sub (a := m) (by simp))) hn1 hn2) ?_ | refine xret (name_ok (hg.sub (hs.sub (a := m) (by simp))) hn1 hn2) ?_
    conv => whnf
    refine ⟨_, mcell_of hbs rfl, rfl, ?_⟩
    conv => whnf
    refine xcall (Spec.at (i := 2) hs rfl (rename_A (name := tmpN) h (by rw [Sn.nm_size]; decide))) ?_
    rintro _ m1 ⟨p1, ⟨rfl, h1⟩, hs1⟩
    conv => whnf
    have hs1 : Split m1 [blk1 bs (saveO bf n v 3), pv, p1, m] := hs1
    have hb1 : m1 bs = some (saveO bf n v 3) := hs1.sub (a := blk1 bs (saveO bf n v 3)) (by simp) _ _ (blk1_same ..)
    refine ⟨_, mcell_of hb1 rfl, rfl, ?_⟩
    conv => whnf
    refine ⟨_, _, _, hb1, ⟨by simp, by simp⟩, ?_⟩
    have ew : (IntKind.i64.wrap (((3 : Nat) : Int) + 1)).tmod 5 = ((4 : Nat) : Int) := by decide
    rw [ew]
    conv => whnf
    refine ⟨_, mcell_of (Mem.set_same ..) rfl, rfl, ?_⟩
    conv => whnf
    have hz := hs1.setAt (i := 0) rfl (blk1_same ..) (saveO bf n v 4)
    rw [blk1_set] at hz
    refine ⟨p1, ?_, hz, by simp [stepNb, stepNs]; exact h1⟩
    rfl
  · refine ⟨fun h => absurd h (by first | decide | simp), fun _ => ?_⟩
    conv => whnf
    refine ⟨fun h => absurd h (by first | decide | simp), fun _ => ?_⟩
    conv => whnf
    refine ⟨fun h => absurd h (by first | decide | simp), fun _ => ?_⟩
    conv => whnf
    refine ⟨fun h => absurd h (by first | decide | simp), fun _ => ?_⟩
    conv => whnf
    refine ⟨fun _ => ?_, fun h => absurd h (by first | decide | simp)⟩
    conv => whnf
    refine xcall (sweep_spec (m := joinM pv m) hgj hsj h hk hn hn2) ?_
    rintro _ m1 ⟨p1, rfl, hs1', h1⟩
    conv => whnf
    have hs1 : Split m1 [blk1 bs (saveO bf n v 4), pv, p1, m] := backj _ _ hs1'
    have hb1 : m1 bs = some (saveO bf n v 4) := hs1.sub (a := blk1 bs (saveO bf n v 4)) (by simp) _ _ (blk1_same ..)
    refine ⟨_, mcell_of hb1 rfl, rfl, ?_⟩
    conv => whnf
    refine ⟨_, _, _, hb1, ⟨by simp, by simp⟩, ?_⟩
    have ew : (IntKind.i64.wrap (((4 : Nat) : Int) + 1)).tmod 5 = ((0 : Nat) : Int) := by decide
    rw [ew]
    conv => whnf
    refine ⟨_, mcell_of (Mem.set_same ..) rfl, rfl, ?_⟩
    conv => whnf
    have hz := hs1.setAt (i := 0) rfl (blk1_same ..) (saveO bf n v 0)
    rw [blk1_set] at hz
    refine ⟨p1, ?_, hz, by simp [stepNb, stepNs]; exact h1⟩
    rfl
def Low (B : List Af) (n : Nat) : Prop := ∀ b ∈ B, ∃ k, 1 ≤ k ∧ k < n ∧ b.name = Sn.nm k
theorem nm_ne_tmp (k : Nat) : Sn.nm k ≠ tmpN := fun h => by
  have := congrArg ByteArray.size h
  rw [Sn.nm_size] at this
  exact absurd this (by decide)
theorem Low.tmp {B : List Af} {n : Nat} (h : Low B n) : ∀ b ∈ B, b.name ≠ tmpN := fun b hb e => by
  obtain ⟨k, _, _, h3⟩ := h b hb
  exact nm_ne_tmp k (by rw [← h3, e])
theorem Low.ne {B : List Af} {n : Nat} (h : Low B n) (hn : n ≤ 999999) : ∀ b ∈ B, b.name ≠ Sn.nm n := fun b hb e => by
  obtain ⟨k, h1, h2, h3⟩ := h b hb
  have := nm_inj (a := k) (b := n) (by omega) hn (by rw [← h3, e])
  omega
theorem rm_none {B : List Af} {name : ByteArray} (h : ∀ b ∈ B, b.name ≠ name) : rmA B name = B := List.filter_eq_self.2 fun b hb => by simp [h b hb]
theorem app_new {B : List Af} {name : ByteArray} {l : List Nat} (h : ∀ b ∈ B, b.name ≠ name) : appA B name l = B ++ [⟨name, l, 0⟩] := by
  induction B with
  | nil => rfl
  | cons b B ih =>
    rw [appA, if_neg (fun e => h b (by simp) e.symm), ih fun x hx => h x (by simp [hx])]
    rfl
theorem put_new {x : Af} {B : List Af} {name : ByteArray} (h : ∀ b ∈ B, b.name ≠ name) : putA x name B = B ++ [{ x with name := name }] := by
  induction B with
  | nil => rfl
  | cons b B ih =>
    rw [putA, if_neg (fun e => h b (by simp) e.symm), ih fun x hx => h x (by simp [hx])]
    rfl
theorem file_last {B : List Af} {x : Af} (h : ∀ b ∈ B, b.name ≠ x.name) : fileA (B ++ [x]) x.name = some x := by
  unfold fileA
  rw [List.find?_append, List.find?_eq_none.2 fun b hb => by simpa using fun e => h b hb e.symm]
  simp
theorem rm_last {B : List Af} {x : Af} (h : ∀ b ∈ B, b.name ≠ x.name) : rmA (B ++ [x]) x.name = B := by
  have h1 := rm_none h
  unfold rmA at h1 ⊢
  rw [List.filter_append, h1]
  simp
theorem fits0 (A : List Af) (l : List Nat) : fitsA 0 A l := by
  unfold fitsA; omega
theorem step1 {A B : List Af} {n : Nat} {l : List Nat} (hA : rmA A tmpN = B) (hB : Low B n) : stepA 0 n l 1 A = ⟨B ++ [⟨tmpN, l, 0⟩], 2, 2, 0⟩ := by
  unfold stepA
  rw [if_neg (by decide), if_pos rfl, if_pos (fits0 _ _), hA, app_new hB.tmp]
theorem step2 {B : List Af} {n : Nat} {l : List Nat} (hB : Low B n) : stepA 0 n l 2 (B ++ [⟨tmpN, l, 0⟩]) = ⟨B ++ [⟨tmpN, l, l.length⟩], 3, 3, 0⟩ := by
  unfold stepA
  rw [if_neg (by decide), if_neg (by decide), if_pos rfl]
  congr 1
  unfold syncA
  rw [List.map_append]
  congr 1
  · exact (List.map_congr_left fun b hb => by rw [if_neg (hB.tmp b hb)]; rfl).trans (List.map_id _)
theorem nm_ok {n : Nat} : nameOk (chs (Sn.nm n)) = true := by
  have hl : (chs (Sn.nm n)).length = 11 := by rw [chs_len, Sn.nm_size]
  unfold nameOk
  rw [hl]
  simp only [Bool.and_eq_true, decide_eq_true_eq]
  refine ⟨by decide, ?_⟩
  have e : chs (Sn.nm n) = (Sn.pre ++ Sn.dgs 6 n).map UInt8.toNat := by simp [chs, Sn.nm]
  rw [e, List.map_append, List.all_append, Bool.and_eq_true]
  refine ⟨by decide, ?_⟩
  rw [List.all_map, List.all_eq_true]
  intro x hx
  have key : ∀ (j n : Nat), ∀ x ∈ Sn.dgs j n, ∃ q, x = Sn.dg q := fun j => by
    induction j with
    | zero => intro n x hx; cases hx
    | succ j ih =>
      intro n x hx
      rcases List.mem_append.1 hx with hx | hx
      · exact ih _ _ hx
      · exact ⟨n, List.mem_singleton.1 hx⟩
  obtain ⟨q, rfl⟩ := key _ _ _ hx
  have h1 := Sn.dg_nat q
  simp only [Function.comp, isFB_iff]
  omega
theorem step3 {B : List Af} {n : Nat} {l : List Nat} (hB : Low B n) (hn : n ≤ 999999) : stepA 0 n l 3 (B ++ [⟨tmpN, l, l.length⟩]) = ⟨B ++ [⟨Sn.nm n, l, l.length⟩], 4, 4, 0⟩ := by
  unfold stepA
  rw [if_neg (by decide), if_neg (by decide), if_neg (by decide), if_pos rfl]
  congr 1
  unfold renA
  have hf := file_last (B := B) (x := ⟨tmpN, l, l.length⟩) hB.tmp
  have hr := rm_last (B := B) (x := ⟨tmpN, l, l.length⟩) hB.tmp
  simp only at hf hr
  rw [hf]
  simp only
  rw [nm_ok, if_pos rfl, hr, put_new (hB.ne hn)]
theorem nums_low {B : List Af} {n : Nat} {l : List Nat} {s : Nat} (hB : Low B n) (h1 : 1 ≤ n) (hn : n ≤ 999999) : (∀ k ∈ numsA (B ++ [⟨Sn.nm n, l, s⟩]), k ≤ n) ∧ n ∈ numsA (B ++ [⟨Sn.nm n, l, s⟩]) ∧ ∀ b ∈ B, ∃ k ∈ numsA (B ++ [⟨Sn.nm n, l, s⟩]), k < n ∧ b.name = Sn.nm k := by
  refine ⟨fun k hk => ?_, mem_numsA.2 ⟨h1, hn, _, List.mem_append_right _ (List.mem_singleton.2 rfl), rfl⟩, fun b hb => ?_⟩
  · obtain ⟨k1, k2, a, ha, e⟩ := mem_numsA.1 hk
    rcases List.mem_append.1 ha with ha | ha
    · obtain ⟨j, h3, h4, h5⟩ := hB a ha
      have := nm_inj (a := k) (b := j) k2 (by omega) (by rw [← e, h5])
      omega
    · rw [List.mem_singleton.1 ha] at e
      have := nm_inj (a := k) (b := n) k2 hn e.symm
      omega
  · obtain ⟨j, h3, h4, h5⟩ := hB b hb
    exact ⟨j, mem_numsA.2 ⟨h3, by omega, b, List.mem_append_left _ hb, h5⟩, h4, h5⟩
theorem sweepL_filter (n : Nat) : ∀ (L : List Nat) (A : List Af), sweepL n A L = A.filter fun a => !L.any fun k => decide (k < n) && decide (a.name = Sn.nm k)
  | [], A => (List.filter_eq_self.2 fun a _ => rfl).symm
  | k :: L, A => by
    have ih := sweepL_filter n L
    unfold sweepL at ih ⊢
    rw [List.foldl_cons, ih]
    split
    · rename_i h
      rw [rmA, List.filter_filter]
      refine List.filter_congr fun a _ => ?_
      simp [h, Bool.and_comm]
    · rename_i h
      refine List.filter_congr fun a _ => ?_
      simp [h]
theorem step4 {B : List Af} {n : Nat} {l : List Nat} (hB : Low B n) (h1 : 1 ≤ n) (hn : n ≤ 999999) : stepA 0 n l 4 (B ++ [⟨Sn.nm n, l, l.length⟩]) = ⟨[⟨Sn.nm n, l, l.length⟩], 0, 0, 0⟩ := by
  obtain ⟨c1, c2, c3⟩ := nums_low (l := l) (s := l.length) hB h1 hn
  unfold stepA
  rw [if_neg (by decide), if_neg (by decide), if_neg (by decide), if_neg (by decide)]
  congr 1
  rw [sweepA, sweepL_filter, List.filter_append]
  have e1 : B.filter (fun a => !(numsA (B ++ [⟨Sn.nm n, l, l.length⟩])).any fun k => decide (k < n) && decide (a.name = Sn.nm k)) = [] := by
    rw [List.filter_eq_nil_iff]
    intro b hb
    obtain ⟨k, hk, h2, h3⟩ := c3 b hb
    simp only [Bool.not_eq_true, Bool.not_eq_false']
    exact List.any_eq_true.2 ⟨k, hk, by simp [h2, h3]⟩
  rw [e1, List.nil_append]
  refine List.filter_eq_self.2 fun a ha => ?_
  rw [List.mem_singleton.1 ha]
  simp only [Bool.not_eq_true']
  rw [List.any_eq_false]
  intro k hk
  have := c1 k hk
  simp only [Bool.and_eq_true, decide_eq_true_eq, not_and]
  intro h2 h3
  obtain ⟨k1, k2, _⟩ := mem_numsA.1 hk
  have := nm_inj (a := n) (b := k) hn k2 h3
  omega
theorem whole_all {R : List (List Int)} : Fr.whole R (Fr.cat R).length = (R.length, (Fr.cat R).length) := by
  have h1 := Fr.whole_ge (l := R) (k := (Fr.cat R).length) (s := R.length) (Nat.le_refl _) (by rw [List.take_length]; exact Nat.le_refl _)
  have h2 := Fr.whole_le (l := R) (k := (Fr.cat R).length)
  obtain ⟨h3, _, _⟩ := Fr.whole_end (l := R) (k := (Fr.cat R).length)
  have h4 : (Fr.whole R (Fr.cat R).length).1 = R.length := by omega
  rw [h4, List.take_length] at h3
  exact Prod.ext h4 h3
theorem readB_cat {R : List (List Int)} (hR : allRec R = true) : readB (Fr.cat R) = (R, (Fr.cat R).length, 0) := by
  have h := Fr.read_cut (l := R) (k := (Fr.cat R).length) (f := (Fr.cat R).length + 1) (fun r hr => List.all_eq_true.1 hR r hr) (by
    have := Fr.whole_few (l := R) (k := (Fr.cat R).length)
    omega)
  rw [List.take_length, whole_all, List.take_length] at h
  exact h
theorem last_of {l : List Nat} {n : Nat} (hs : l.Pairwise (· ≤ ·)) (h1 : n ∈ l) (h2 : ∀ k ∈ l, k ≤ n) : l.getLast? = some n := by
  rcases List.eq_nil_or_concat l with rfl | ⟨L, x, rfl⟩
  · cases h1
  · rw [List.concat_eq_append] at *
    rw [List.getLast?_append]
    have hx := h2 x (by simp)
    have : n ≤ x := by
      rcases List.mem_append.1 h1 with h | h
      · exact (List.pairwise_append.1 hs).2.2 n h x (by simp)
      · rw [List.mem_singleton.1 h]; exact Nat.le_refl _
    simp; omega
theorem load_of {A : List Af} {n : Nat} {R : List (List Int)} {s : Nat} (hl : (numsA A).getLast? = some n) (hf : fileA A (Sn.nm n) = some ⟨Sn.nm n, toN (Fr.cat R), s⟩) (hR : allRec R = true) (hb : ∀ r ∈ R, Byt r) : loadA A = (n, R, 0) := by
  rw [loadA_some hl]
  have e : bytesA A (Sn.nm n) = toN (Fr.cat R) := by rw [bytesA, hf]; rfl
  rw [e, nc_toN (Fr.cat_byt hb), readB_cat hR, toN_len, if_pos ⟨rfl, rfl⟩]
def stA (B : List Af) (n : Nat) (l : List Nat) (A : List Af) : Nat → List Af
  | 0 => A
  | 1 => B ++ [⟨tmpN, l, 0⟩]
  | 2 => B ++ [⟨tmpN, l, l.length⟩]
  | 3 => B ++ [⟨Sn.nm n, l, l.length⟩]
  | _ => [⟨Sn.nm n, l, l.length⟩]
structure Smx (A : List Af) (nb ns : Nat) : Prop where
  l : ∀ a ∈ A, a.l.length ≤ 3000
  s : ∀ a ∈ A, a.name.size ≤ 20
  n : A.length ≤ 10
  nb : nb ≤ 300000
  ns : ns ≤ 500
theorem Smx.st {A B : List Af} {n nb ns : Nat} {l : List Nat} (h : Smx A nb ns) (hB : B.length ≤ 9) (hA : rmA A tmpN = B) (hl : l.length ≤ 3000) {nb' ns' : Nat} (h1 : nb' ≤ 300000) (h2 : ns' ≤ 500) : ∀ i, Smx (stA B n l A i) nb' ns' := by
  have hBA : ∀ b ∈ B, b ∈ A := fun b hb => by rw [← hA] at hb; exact (List.mem_filter.1 hb).1
  have ht : tmpN.size ≤ 20 := by decide
  have hn : (Sn.nm n).size ≤ 20 := by rw [Sn.nm_size]; decide
  have key : ∀ x : Af, x.l.length ≤ 3000 → x.name.size ≤ 20 → Smx (B ++ [x]) nb' ns' := fun x hx1 hx2 => by
    refine ⟨fun a ha => ?_, fun a ha => ?_, by simp; omega, h1, h2⟩
    · rcases List.mem_append.1 ha with ha | ha
      · exact h.l a (hBA a ha)
      · rw [List.mem_singleton.1 ha]; exact hx1
    · rcases List.mem_append.1 ha with ha | ha
      · exact h.s a (hBA a ha)
      · rw [List.mem_singleton.1 ha]; exact hx2
  intro i
  match i with
  | 0 => exact ⟨h.l, h.s, h.n, h1, h2⟩
  | 1 => exact key _ hl ht
  | 2 => exact key _ hl ht
  | 3 => exact key _ hl hn
  | i + 4 => exact ⟨fun a ha => by rw [show stA B n l A (i + 4) = [⟨Sn.nm n, l, l.length⟩] from rfl] at ha; rw [List.mem_singleton.1 ha]; exact hl, fun a ha => by rw [show stA B n l A (i + 4) = [⟨Sn.nm n, l, l.length⟩] from rfl] at ha; rw [List.mem_singleton.1 ha]; exact hn, by show 1 ≤ 10; decide, h1, h2⟩
theorem fileA_nil (x : ByteArray) : fileA [] x = none := rfl
theorem fileA_cons (a : Af) (A : List Af) (x : ByteArray) : fileA (a :: A) x = if x = a.name then some a else fileA A x := by
  unfold fileA
  rw [List.find?_cons]
  by_cases h : x = a.name
  · rw [if_pos h, decide_eq_true h]
  · rw [if_neg h, decide_eq_false h]
theorem fileA_some {A : List Af} {x : ByteArray} {a : Af} (h : fileA A x = some a) : a ∈ A ∧ a.name = x := by
  unfold fileA at h
  have h1 := List.find?_some h
  exact ⟨List.mem_of_find?_eq_some h, (of_decide_eq_true h1).symm⟩
theorem fileA_isSome {A : List Af} {x : ByteArray} : (fileA A x).isSome = true ↔ ∃ a ∈ A, a.name = x := by
  unfold fileA
  rw [List.find?_isSome]
  constructor
  · rintro ⟨a, h1, h2⟩; exact ⟨a, h1, (of_decide_eq_true h2).symm⟩
  · rintro ⟨a, h1, h2⟩; exact ⟨a, h1, decide_eq_true h2.symm⟩
theorem fileA_none {A : List Af} {x : ByteArray} : fileA A x = none ↔ ∀ a ∈ A, a.name ≠ x := by
  rw [← Option.not_isSome_iff_eq_none, fileA_isSome]
  constructor
  · intro h a ha e; exact h ⟨a, ha, e⟩
  · rintro h ⟨a, ha, e⟩; exact h a ha e
theorem file_app (A : List Af) (n x : ByteArray) (l : List Nat) : fileA (appA A n l) x = if x = n then some (match fileA A n with | some a => { a with l := a.l ++ l } | none => ⟨n, l, 0⟩) else fileA A x := by
  induction A with
  | nil =>
    simp only [appA, fileA_cons, fileA_nil]
  | cons a A ih =>
    simp only [appA]
    by_cases h : n = a.name
    · rw [if_pos h, fileA_cons, fileA_cons, fileA_cons, if_pos h]
      simp only
      by_cases hx : x = n
      · rw [if_pos (hx.trans h), if_pos hx]
      · rw [if_neg (fun e => hx (e.trans h.symm)), if_neg hx, if_neg (fun e => hx (e.trans h.symm))]
    · rw [if_neg h, fileA_cons, ih, fileA_cons, fileA_cons, if_neg h]
      by_cases hx : x = n
      · rw [if_pos hx, if_neg (fun e => h (hx.symm.trans e)), if_pos hx]
      · rw [if_neg hx, if_neg hx]
theorem file_sync (A : List Af) (n x : ByteArray) : fileA (syncA A n) x = if x = n then (fileA A x).map (fun a => { a with safe := a.l.length }) else fileA A x := by
  unfold syncA
  rw [file_map (by intro a _; split <;> rfl)]
  cases h : fileA A x with
  | none => simp
  | some a =>
    have hn := (fileA_some h).2
    subst hn
    by_cases hx : a.name = n
    · simp [hx]
    · simp [hx]
theorem file_cut (A : List Af) (n x : ByteArray) (k : Nat) : fileA (cutA A n k) x = if x = n then (fileA A x).map (fun a => ⟨a.name, a.l.take k, min a.safe k⟩) else fileA A x := by
  unfold cutA
  rw [file_map (by intro a _; split <;> rfl)]
  cases h : fileA A x with
  | none => simp
  | some a =>
    have hn := (fileA_some h).2
    subst hn
    by_cases hx : a.name = n
    · simp [hx]
    · simp [hx]
theorem file_rm (A : List Af) (n x : ByteArray) : fileA (rmA A n) x = if x = n then none else fileA A x := by
  induction A with
  | nil => simp [rmA, fileA_nil]
  | cons a A ih =>
    unfold rmA at ih ⊢
    rw [List.filter_cons]
    by_cases h : a.name = n
    · rw [if_neg (by simp [h]), ih, fileA_cons]
      by_cases hx : x = n
      · rw [if_pos hx, if_pos hx]
      · rw [if_neg hx, if_neg hx, if_neg (fun e => hx (e.trans h))]
    · rw [if_pos (by simp [h]), fileA_cons, ih, fileA_cons]
      by_cases hx : x = a.name
      · rw [if_pos hx, if_pos hx, if_neg (fun e => h (hx.symm.trans e))]
      · rw [if_neg hx, if_neg hx]
theorem file_put (z : Af) (b x : ByteArray) (A : List Af) : fileA (putA z b A) x = if x = b then some { z with name := b } else fileA A x := by
  induction A with
  | nil => simp only [putA, fileA_cons, fileA_nil]
  | cons a A ih =>
    simp only [putA]
    by_cases h : b = a.name
    · rw [if_pos h, fileA_cons, fileA_cons]
      simp only
      by_cases hx : x = b
      · rw [if_pos hx, if_pos hx]
      · rw [if_neg hx, if_neg hx, if_neg (fun e => hx (e.trans h.symm))]
    · rw [if_neg h, fileA_cons, ih, fileA_cons]
      by_cases hx : x = b
      · rw [if_pos hx, if_neg (fun e => h (hx.symm.trans e)), if_pos hx]
      · rw [if_neg hx, if_neg hx]
theorem file_ren {A : List Af} {a b : ByteArray} {z : Af} (h : fileA A a = some z) (hb : nameOk (chs b) = true) (x : ByteArray) : fileA (renA A a b) x = if x = b then some { z with name := b } else if x = a then none else fileA A x := by
  unfold renA
  rw [h]
  simp only
  rw [if_pos hb, file_put, file_rm]
theorem file_sweepL (n : Nat) (x : ByteArray) : ∀ (L : List Nat) (A : List Af), fileA (sweepL n A L) x = if L.any (fun k => decide (k < n) && decide (x = Sn.nm k)) then none else fileA A x
  | [], A => by simp [sweepL]
  | k :: L, A => by
    have ih := file_sweepL n x L (if k < n then rmA A (Sn.nm k) else A)
    have e : sweepL n A (k :: L) = sweepL n (if k < n then rmA A (Sn.nm k) else A) L := by simp [sweepL]
    rw [e, ih, List.any_cons]
    by_cases hk : k < n
    · rw [if_pos hk, file_rm, decide_eq_true hk]
      by_cases hx : x = Sn.nm k
      · simp [hx]
      · simp [hx]
    · rw [if_neg hk, decide_eq_false hk]; simp
theorem mem_nums {A : List Af} {n : Nat} : n ∈ numsA A ↔ 1 ≤ n ∧ n ≤ 999999 ∧ (fileA A (Sn.nm n)).isSome = true := by rw [mem_numsA, fileA_isSome]
theorem file_sweep (n : Nat) (A : List Af) (x : ByteArray) : fileA (sweepA n A) x = if ∃ k, k < n ∧ 1 ≤ k ∧ k ≤ 999999 ∧ x = Sn.nm k then none else fileA A x := by
  unfold sweepA
  rw [file_sweepL]
  by_cases h : ∃ k, k < n ∧ 1 ≤ k ∧ k ≤ 999999 ∧ x = Sn.nm k
  · rw [if_pos h]
    obtain ⟨k, h1, h2, h3, rfl⟩ := h
    cases hf : fileA A (Sn.nm k) with
    | none => split <;> rfl
    | some a =>
      rw [if_pos]
      rw [List.any_eq_true]
      exact ⟨k, mem_nums.2 ⟨h2, h3, by rw [hf]; rfl⟩, by simp [h1]⟩
  · rw [if_neg h, if_neg]
    intro hc
    rw [List.any_eq_true] at hc
    obtain ⟨k, hk, hc⟩ := hc
    simp only [Bool.and_eq_true, decide_eq_true_eq] at hc
    obtain ⟨g1, g2, _⟩ := mem_nums.1 hk
    exact h ⟨k, hc.1, g1, g2, hc.2⟩
theorem nums_last {A : List Af} {n : Nat} (h1 : 1 ≤ n) (h2 : n ≤ 999999) (hs : (fileA A (Sn.nm n)).isSome = true) (hall : ∀ k, 1 ≤ k → k ≤ 999999 → (fileA A (Sn.nm k)).isSome = true → k ≤ n) : (numsA A).getLast? = some n :=
  last_of (numsA_sorted A) (mem_nums.2 ⟨h1, h2, hs⟩) fun k hk => by
    obtain ⟨g1, g2, g3⟩ := mem_nums.1 hk
    exact hall k g1 g2 g3
theorem nums_none {A : List Af} (h : ∀ k, 1 ≤ k → k ≤ 999999 → fileA A (Sn.nm k) = none) : numsA A = [] := by
  refine List.eq_nil_iff_forall_not_mem.2 fun k hk => ?_
  obtain ⟨g1, g2, g3⟩ := mem_nums.1 hk
  rw [h k g1 g2] at g3
  cases g3
structure Sto where
  g : Nat
  (P : List Kd)
  (R : List Kd)
  sure : Nat
  st : Nat
def Sto.L (s : Sto) : List Kd := withs [] (s.P ++ s.R)
theorem Sto.asc (s : Sto) : AscK s.L := withs_asc asc_nil _
def recs (L : List Kd) : List (List Int) := L.map kdB
def catK (L : List Kd) : List Nat := toN (Fr.cat (recs L))
def preG : List UInt8 := [108, 111, 103, 45]
def lgn (g : Nat) : ByteArray := ⟨(preG ++ Sn.dgs 6 g).toArray⟩
theorem lgn_size (g : Nat) : (lgn g).size = 10 := by rw [lgn, mkB_size, List.length_append, Sn.dgs_len]; rfl
theorem lgn_inj {a b : Nat} (ha : a ≤ 999999) (hb : b ≤ 999999) (h : lgn a = lgn b) : a = b := by
  unfold lgn at h
  have h1 : preG ++ Sn.dgs 6 a = preG ++ Sn.dgs 6 b := by
    have := congrArg (fun x : ByteArray => x.data.toList) h
    simpa using this
  exact Sn.dgs_inj (by omega) (by omega) (List.append_cancel_left h1)
theorem lgn_ne_nm (a b : Nat) : lgn a ≠ Sn.nm b := fun h => by
  have := congrArg ByteArray.size h
  rw [lgn_size, Sn.nm_size] at this
  cases this
theorem lgn_ne_tmp (a : Nat) : lgn a ≠ tmpN := fun h => by
  have := congrArg ByteArray.size h
  rw [lgn_size] at this
  exact absurd this (by decide)
theorem lgn_ok {n : Nat} : nameOk (chs (lgn n)) = true := by
  have hd : ∀ (k : Nat) (m : Nat), (Sn.dgs k m).all (fun c => isFB c.toNat) = true := by
    intro k
    induction k with
    | zero => intro m; rfl
    | succ k ih =>
      intro m
      rw [Sn.dgs, List.all_append, ih]
      simp only [List.all_cons, List.all_nil, Bool.and_true, Bool.true_and]
      rw [Sn.dg_nat]
      have : m % 10 < 10 := Nat.mod_lt _ (by decide)
      simp only [isFB, Bool.or_eq_true, Bool.and_eq_true, decide_eq_true_eq]
      omega
  have e : chs (lgn n) = (preG ++ Sn.dgs 6 n).map UInt8.toNat := by simp [chs, lgn]
  rw [e]
  unfold nameOk
  rw [List.length_map, List.length_append, Sn.dgs_len, List.all_map, List.all_append]
  have h1 : (Sn.dgs 6 n).all (isFB ∘ UInt8.toNat) = true := hd 6 n
  rw [h1]
  decide
structure FI (q : Int) (A : List Af) (s : Sto) : Prop where
  gp : ∀ x ∈ s.P, GoodK x
  gr : ∀ x ∈ s.R, GoodK x
  g : s.g ≤ 900000
  su : s.sure ≤ s.R.length
  sn : 1 ≤ s.g → fileA A (Sn.nm s.g) = some ⟨Sn.nm s.g, catK s.P, (catK s.P).length⟩
  s0 : s.g = 0 → s.P = []
  lg : (fileA A (lgn s.g) = none ∧ s.R = []) ∨ ∃ sf, fileA A (lgn s.g) = some ⟨lgn s.g, catK s.R, sf⟩ ∧ (catK (s.R.take s.sure)).length ≤ sf ∧ sf ≤ (catK s.R).length
  nl : ∀ n, s.g < n → n ≤ 999999 → fileA A (lgn n) = none
  nn : ∀ n, s.g < n → n ≤ 999999 → (fileA A (Sn.nm n)).isSome = true → s.st = 4 ∧ n = s.g + 1
  st : s.st ≤ 4
  ss : 0 < s.st → s.sure = s.R.length
  t2 : s.st = 2 → ∃ f, fileA A tmpN = some ⟨tmpN, catK s.L, f⟩
  t3 : s.st = 3 → fileA A tmpN = some ⟨tmpN, catK s.L, (catK s.L).length⟩
  t4 : s.st = 4 → fileA A (Sn.nm (s.g + 1)) = some ⟨Sn.nm (s.g + 1), catK s.L, (catK s.L).length⟩
  qt : 0 < q → (totA A : Int) ≤ q
structure CI (q : Int) (A : List Af) (g : Nat) (P R : List Kd) (K : Nat) : Prop where
  gp : ∀ x ∈ P, GoodK x
  gr : ∀ x ∈ R, GoodK x
  gb : g ≤ 900001
  sn : 1 ≤ g → fileA A (Sn.nm g) = some ⟨Sn.nm g, catK P, (catK P).length⟩
  s0 : g = 0 → P = []
  lg : (fileA A (lgn g) = none ∧ R = [] ∧ K = 0) ∨ ∃ sf, fileA A (lgn g) = some ⟨lgn g, toN ((Fr.cat (recs R)).take K), sf⟩ ∧ K ≤ (Fr.cat (recs R)).length
  nl : ∀ n, g < n → n ≤ 999999 → fileA A (lgn n) = none
  nn : ∀ n, g < n → n ≤ 999999 → fileA A (Sn.nm n) = none
  qt : 0 < q → (totA A : Int) ≤ q
def wholeK (R : List Kd) (K : Nat) : Nat := (Fr.whole (recs R) K).1
theorem FI.gl {q : Int} {A : List Af} {s : Sto} (h : FI q A s) : ∀ x ∈ s.L, GoodK x :=
  withs_p _ _ (by simp) fun x hx => (List.mem_append.1 hx).elim (h.gp x) (h.gr x)
theorem recs_take (R : List Kd) (n : Nat) : recs (R.take n) = (recs R).take n := List.map_take ..
theorem recs_len (R : List Kd) : (recs R).length = R.length := List.length_map ..
theorem recs_append (A B : List Kd) : recs (A ++ B) = recs A ++ recs B := List.map_append ..
theorem CI.nil (q : Int) : CI q [] 0 [] [] 0 where
  gp := by simp
  gr := by simp
  gb := by omega
  sn h := by omega
  s0 _ := rfl
  lg := .inl ⟨rfl, rfl, rfl⟩
  nl _ _ _ := rfl
  nn _ _ _ := rfl
  qt h := by simp only [totA]; simp; omega
def opened (g : Nat) (P R : List Kd) (K : Nat) : Sto := ⟨g, P, R.take (wholeK R K), wholeK R K, 0⟩
theorem wholeK_le (R : List Kd) (K : Nat) : wholeK R K ≤ R.length := by
  have := Fr.whole_le (l := recs R) (k := K)
  rw [recs_len] at this
  exact this
theorem GoodK.isr {x : Kd} (h : GoodK x) : Fr.isRec (kdB x).length = true := by
  have := h.len
  simp only [Fr.isRec, Bool.and_eq_true, decide_eq_true_eq]; omega
theorem recs_ok {R : List Kd} (h : ∀ x ∈ R, GoodK x) : ∀ r ∈ recs R, Fr.isRec r.length = true ∧ Byt r := by
  intro r hr
  obtain ⟨x, hx, rfl⟩ := List.mem_map.1 hr
  exact ⟨(h x hx).isr, kdB_byt x⟩
theorem recs_all {R : List Kd} (h : ∀ x ∈ R, GoodK x) : allRec (recs R) = true := by
  rw [allRec, List.all_eq_true]
  exact fun r hr => (recs_ok h r hr).1
theorem catK_append (A B : List Kd) : catK (A ++ B) = catK A ++ catK B := by rw [catK, recs_append, Fr.cat_append, toN_append]; rfl
theorem catK_one (x : Kd) : catK [x] = toN (Fr.wr (kdB x)) := by simp [catK, recs, Fr.cat]
theorem catK_nil : catK [] = [] := rfl
theorem catK_take_le (R : List Kd) (n : Nat) : (catK (R.take n)).length ≤ (catK R).length := by
  have : catK R = catK (R.take n) ++ catK (R.drop n) := by rw [← catK_append, List.take_append_drop]
  rw [this, List.length_append]; omega
theorem catK_small : ∀ {R : List Kd}, (∀ x ∈ R, GoodK x) → (catK R).length ≤ 6613 * R.length
  | [], _ => by simp [catK_nil]
  | x :: R, h => by
    have h1 := (h x (by simp)).len
    have h2 := wr_len (l := kdB x) (by omega)
    have h3 := catK_small (R := R) fun y hy => h y (by simp [hy])
    have e : catK (x :: R) = catK [x] ++ catK R := catK_append [x] R
    rw [e, List.length_append, catK_one, toN_len, List.length_cons]; omega
theorem CI.load {q : Int} {A : List Af} {g K : Nat} {P R : List Kd} (h : CI q A g P R K) : loadA A = (g, recs P, 0) := by
  have hg := h.gb
  by_cases h0 : g = 0
  · have hP := h.s0 h0
    subst hP h0
    exact loadA_none (nums_none fun k h1 h2 => h.nn k (by omega) h2)
  · have hs := h.sn (by omega)
    refine load_of (s := (catK P).length) (nums_last (by omega) (by omega) (by rw [hs]; rfl) fun k h1 h2 h3 => ?_) hs (recs_all h.gp) fun r hr => (recs_ok h.gp r hr).2
    by_cases hk : g < k
    · rw [h.nn k hk h2] at h3; cases h3
    · omega
theorem CI.opened0 {q : Int} {A : List Af} {g K : Nat} {P R : List Kd} (h : CI q A g P R K) (hn : fileA A (lgn g) = none) (hg : g ≤ 900000) : FI q A (opened g P R K) := by
  have hR : R = [] ∧ K = 0 := by
    rcases h.lg with ⟨_, h1, h2⟩ | ⟨sf, h1, _⟩
    · exact ⟨h1, h2⟩
    · rw [hn] at h1; cases h1
  obtain ⟨rfl, rfl⟩ := hR
  have e : opened g P [] 0 = ⟨g, P, [], 0, 0⟩ := by
    have := wholeK_le [] 0
    have h0 : wholeK [] 0 = 0 := by simpa using this
    unfold opened; rw [h0]; rfl
  rw [e]
  exact {
    gp := h.gp
    gr := by simp
    g := hg
    su := by simp
    sn := h.sn
    s0 := h.s0
    lg := .inl ⟨hn, rfl⟩
    nl := h.nl
    nn := fun n h1 h2 h3 => by rw [h.nn n h1 h2] at h3; cases h3
    st := by simp
    ss := fun hx => absurd hx (by simp)
    t2 := fun hx => absurd hx (by simp)
    t3 := fun hx => absurd hx (by simp)
    t4 := fun hx => absurd hx (by simp)
    qt := h.qt }
theorem CI.opened1 {q : Int} {A : List Af} {g K sf : Nat} {P R : List Kd} (h : CI q A g P R K) (hf : fileA A (lgn g) = some ⟨lgn g, toN ((Fr.cat (recs R)).take K), sf⟩) (hg : g ≤ 900000) : FI q (syncA (cutA A (lgn g) (Fr.whole (recs R) K).2) (lgn g)) (opened g P R K) := by
  obtain ⟨w1, w2, w3⟩ := Fr.whole_end (l := recs R) (k := K)
  have other : ∀ x, x ≠ lgn g → fileA (syncA (cutA A (lgn g) (Fr.whole (recs R) K).2) (lgn g)) x = fileA A x := fun x hx => by rw [file_sync, if_neg hx, file_cut, if_neg hx]
  have hle := wholeK_le R K
  have own : fileA (syncA (cutA A (lgn g) (Fr.whole (recs R) K).2) (lgn g)) (lgn g) = some ⟨lgn g, catK (R.take (wholeK R K)), (catK (R.take (wholeK R K))).length⟩ := by
    rw [file_sync, if_pos rfl, file_cut, if_pos rfl, hf]
    simp only [Option.map_some]
    have e : (toN ((Fr.cat (recs R)).take K)).take (Fr.whole (recs R) K).2 = catK (R.take (wholeK R K)) := by
      rw [← toN_take, List.take_take, Nat.min_eq_left w2, w3, catK, recs_take, wholeK]
    rw [e]
  have ht : (R.take (wholeK R K)).length = wholeK R K := by rw [List.length_take]; omega
  exact {
    gp := h.gp
    gr := fun x hx => h.gr x (List.mem_of_mem_take hx)
    g := hg
    su := by show wholeK R K ≤ (R.take (wholeK R K)).length; omega
    sn := fun h1 => by
      show fileA _ (Sn.nm g) = _
      rw [other _ (fun e => lgn_ne_nm g g e.symm)]; exact h.sn h1
    s0 := h.s0
    lg := .inr ⟨_, own, catK_take_le _ _, Nat.le_refl _⟩
    nl := fun n h1 h2 => by
      show fileA _ (lgn n) = none
      have h1 : g < n := h1
      rw [other _ (fun e => by have := lgn_inj h2 (by omega) e; omega)]; exact h.nl n h1 h2
    nn := fun n h1 h2 h3 => by
      rw [other _ (fun e => lgn_ne_nm g n e.symm), h.nn n h1 h2] at h3; cases h3
    st := by simp [opened]
    ss := fun hx => absurd hx (by simp [opened])
    t2 := fun hx => absurd hx (by simp [opened])
    t3 := fun hx => absurd hx (by simp [opened])
    t4 := fun hx => absurd hx (by simp [opened])
    qt := fun hq => by
      have h1 := (sync_les (cutA A (lgn g) (Fr.whole (recs R) K).2) (lgn g)).t
      have h2 := (cutA_les A (lgn g) (Fr.whole (recs R) K).2).t
      have h3 := h.qt hq
      omega }
def Sto.put (s : Sto) (x : Kd) : Sto := { s with R := s.R ++ [x] }
theorem Sto.put_L (s : Sto) (x : Kd) : (s.put x).L = withK s.L x.1 x.2 := by
  show withs [] (s.P ++ (s.R ++ [x])) = withK (withs [] (s.P ++ s.R)) x.1 x.2
  rw [← List.append_assoc, withs_snoc]
theorem FI.put {q : Int} {A : List Af} {s : Sto} {x : Kd} (h : FI q A s) (h0 : s.st = 0) (hx : GoodK x) (hq : ¬ (0 < q ∧ q < (totA A + (Fr.wr (kdB x)).length : Nat))) : FI q (appA A (lgn s.g) (toN (Fr.wr (kdB x)))) (s.put x) := by
  have hg := h.g
  have other : ∀ y, y ≠ lgn s.g → fileA (appA A (lgn s.g) (toN (Fr.wr (kdB x)))) y = fileA A y := fun y hy => by rw [file_app, if_neg hy]
  have htk : (s.R ++ [x]).take s.sure = s.R.take s.sure := by rw [List.take_append_of_le_length h.su]
  exact {
    gp := h.gp
    gr := fun y hy => by
      rcases List.mem_append.1 hy with hy | hy
      · exact h.gr y hy
      · rw [List.mem_singleton.1 hy]; exact hx
    g := h.g
    su := by
      have := h.su
      show s.sure ≤ (s.R ++ [x]).length
      rw [List.length_append]; omega
    sn := fun h1 => by
      show fileA _ (Sn.nm s.g) = _
      rw [other _ (fun e => lgn_ne_nm _ _ e.symm)]; exact h.sn h1
    s0 := h.s0
    lg := by
      refine .inr ?_
      show ∃ sf, fileA _ (lgn s.g) = some ⟨lgn s.g, catK (s.R ++ [x]), sf⟩ ∧ (catK ((s.R ++ [x]).take s.sure)).length ≤ sf ∧ sf ≤ (catK (s.R ++ [x])).length
      rw [htk, catK_append, catK_one, file_app, if_pos rfl]
      rcases h.lg with ⟨h1, h2⟩ | ⟨sf, h1, h2, h3⟩
      · rw [h1, h2]
        refine ⟨0, rfl, ?_, by omega⟩
        simp [catK_nil]
      · rw [h1]
        exact ⟨sf, rfl, h2, by rw [List.length_append]; omega⟩
    nl := fun n h1 h2 => by
      have h1 : s.g < n := h1
      rw [other _ (fun e => by have := lgn_inj h2 (by omega) e; omega)]; exact h.nl n h1 h2
    nn := fun n h1 h2 h3 => by
      rw [other _ (fun e => lgn_ne_nm _ _ e.symm)] at h3
      exact h.nn n h1 h2 h3
    st := h.st
    ss := fun hs => by
      have hs : 0 < s.st := hs
      omega
    t2 := fun hs => by have hs : s.st = 2 := hs; omega
    t3 := fun hs => by have hs : s.st = 3 := hs; omega
    t4 := fun hs => by have hs : s.st = 4 := hs; omega
    qt := fun hq0 => by
      have := (app_tot (lgn s.g) (toN (Fr.wr (kdB x))) A).1
      rw [toN_len] at this
      omega }
def Sto.synced (s : Sto) : Sto := { s with sure := s.R.length }
theorem FI.sync {q : Int} {A : List Af} {s : Sto} (h : FI q A s) : FI q (syncA A (lgn s.g)) s.synced := by
  have hg := h.g
  have other : ∀ y, y ≠ lgn s.g → fileA (syncA A (lgn s.g)) y = fileA A y := fun y hy => by rw [file_sync, if_neg hy]
  exact {
    gp := h.gp
    gr := h.gr
    g := h.g
    su := Nat.le_refl _
    sn := fun h1 => by
      show fileA _ (Sn.nm s.g) = _
      rw [other _ (fun e => lgn_ne_nm _ _ e.symm)]; exact h.sn h1
    s0 := h.s0
    lg := by
      show (fileA (syncA A (lgn s.g)) (lgn s.g) = none ∧ s.R = []) ∨ ∃ sf, fileA (syncA A (lgn s.g)) (lgn s.g) = some ⟨lgn s.g, catK s.R, sf⟩ ∧ (catK (s.R.take s.R.length)).length ≤ sf ∧ sf ≤ (catK s.R).length
      rw [file_sync, if_pos rfl]
      rcases h.lg with ⟨h1, h2⟩ | ⟨sf, h1, h2, h3⟩
      · exact .inl ⟨by rw [h1]; rfl, h2⟩
      · refine .inr ⟨(catK s.R).length, by rw [h1]; rfl, ?_, Nat.le_refl _⟩
        rw [List.take_length]; omega
    nl := fun n h1 h2 => by
      have h1 : s.g < n := h1
      rw [other _ (fun e => by have := lgn_inj h2 (by omega) e; omega)]; exact h.nl n h1 h2
    nn := fun n h1 h2 h3 => by
      rw [other _ (fun e => lgn_ne_nm _ _ e.symm)] at h3
      exact h.nn n h1 h2 h3
    st := h.st
    ss := fun _ => rfl
    t2 := fun hs => by
      show ∃ f, fileA _ tmpN = some ⟨tmpN, catK s.L, f⟩
      rw [other _ (fun e => lgn_ne_tmp _ e.symm)]; exact h.t2 hs
    t3 := fun hs => by
      show fileA _ tmpN = some ⟨tmpN, catK s.L, _⟩
      rw [other _ (fun e => lgn_ne_tmp _ e.symm)]; exact h.t3 hs
    t4 := fun hs => by
      show fileA _ (Sn.nm (s.g + 1)) = some ⟨Sn.nm (s.g + 1), catK s.L, _⟩
      rw [other _ (fun e => lgn_ne_nm _ _ e.symm)]; exact h.t4 hs
    qt := fun hq => by
      have := (sync_les A (lgn s.g)).t
      have := h.qt hq
      omega }
def Sto.at (s : Sto) (st : Nat) : Sto := { s with st := st }
theorem FI.may {q : Int} {A : List Af} {s : Sto} (h : FI q A s) (h0 : s.st = 0) : mayN A ((s.g + 1 : Nat) : Int) = true := by
  have hg := h.g
  unfold mayN isNum
  rw [Bool.and_eq_true, Bool.and_eq_true, decide_eq_true_eq, decide_eq_true_eq, Bool.not_eq_true']
  refine ⟨⟨by omega, by omega⟩, ?_⟩
  rw [List.any_eq_false]
  intro k hk hc
  obtain ⟨h1, h2, h3⟩ := mem_nums.1 hk
  have hc := of_decide_eq_true hc
  have := (h.nn k (by omega) h2 h3).1
  omega
theorem FI.begin {q : Int} {A : List Af} {s : Sto} (h : FI q A s) (h0 : s.st = 0) (hs : s.sure = s.R.length) : FI q A (s.at 1) where
  gp := h.gp
  gr := h.gr
  g := h.g
  su := h.su
  sn := h.sn
  s0 := h.s0
  lg := h.lg
  nl := h.nl
  nn n h1 h2 h3 := by have := (h.nn n h1 h2 h3).1; omega
  st := by simp [Sto.at]
  ss _ := hs
  t2 hx := absurd hx (by simp [Sto.at])
  t3 hx := absurd hx (by simp [Sto.at])
  t4 hx := absurd hx (by simp [Sto.at])
  qt := h.qt
theorem FI.move {q : Int} {A A' : List Af} {s : Sto} {st : Nat} (h : FI q A s) (hp : 0 < s.st) (hst : st ≤ 4) (hl : ∀ n, fileA A' (lgn n) = fileA A (lgn n)) (hn : ∀ n, n ≤ s.g → fileA A' (Sn.nm n) = fileA A (Sn.nm n))
    (hn2 : ∀ n, s.g < n → n ≤ 999999 → (fileA A' (Sn.nm n)).isSome = true → st = 4 ∧ n = s.g + 1) (h2 : st = 2 → ∃ f, fileA A' tmpN = some ⟨tmpN, catK s.L, f⟩) (h3 : st = 3 → fileA A' tmpN = some ⟨tmpN, catK s.L, (catK s.L).length⟩)
    (h4 : st = 4 → fileA A' (Sn.nm (s.g + 1)) = some ⟨Sn.nm (s.g + 1), catK s.L, (catK s.L).length⟩) (hq : 0 < q → (totA A' : Int) ≤ q) : FI q A' (s.at st) where
  gp := h.gp
  gr := h.gr
  g := h.g
  su := h.su
  sn h1 := by
    show fileA A' (Sn.nm s.g) = _
    rw [hn s.g (Nat.le_refl _)]; exact h.sn h1
  s0 := h.s0
  lg := by
    show (fileA A' (lgn s.g) = none ∧ s.R = []) ∨ ∃ sf, fileA A' (lgn s.g) = some ⟨lgn s.g, catK s.R, sf⟩ ∧ (catK (s.R.take s.sure)).length ≤ sf ∧ sf ≤ (catK s.R).length
    rw [hl]; exact h.lg
  nl n h1 h2 := by rw [hl]; exact h.nl n h1 h2
  nn := hn2
  st := hst
  ss _ := h.ss hp
  t2 := h2
  t3 := h3
  t4 := h4
  qt := hq
theorem FI.step1 {q : Int} {A : List Af} {s : Sto} (h : FI q A s) (h1 : s.st = 1) (hf : fitsA q A (catK s.L)) : FI q (appA (rmA A tmpN) tmpN (catK s.L)) (s.at 2) := by
  refine h.move (by omega) (by omega) (fun n => ?_) (fun n _ => ?_) (fun n g1 g2 g3 => ?_) (fun _ => ⟨0, ?_⟩) (fun hx => by omega) (fun hx => by omega) fun hq => ?_
  · rw [file_app, if_neg (lgn_ne_tmp n), file_rm, if_neg (lgn_ne_tmp n)]
  · rw [file_app, if_neg (nm_ne_tmp n), file_rm, if_neg (nm_ne_tmp n)]
  · rw [file_app, if_neg (nm_ne_tmp n), file_rm, if_neg (nm_ne_tmp n)] at g3
    have := (h.nn n g1 g2 g3).1
    omega
  · rw [file_app, if_pos rfl, file_rm, if_pos rfl]
  · rw [(app_tot _ _ _).1]
    unfold fitsA at hf
    omega
theorem FI.step1x {q : Int} {A : List Af} {s : Sto} (h : FI q A s) (h1 : s.st = 1) : FI q (rmA A tmpN) (s.at 1) := by
  refine h.move (by omega) (by omega) (fun n => ?_) (fun n _ => ?_) (fun n g1 g2 g3 => ?_) (fun hx => by omega) (fun hx => by omega) (fun hx => by omega) fun hq => ?_
  · rw [file_rm, if_neg (lgn_ne_tmp n)]
  · rw [file_rm, if_neg (nm_ne_tmp n)]
  · rw [file_rm, if_neg (nm_ne_tmp n)] at g3
    have := (h.nn n g1 g2 g3).1
    omega
  · have := (rm_les A tmpN).t
    have := h.qt hq
    omega
theorem FI.step2 {q : Int} {A : List Af} {s : Sto} (h : FI q A s) (h1 : s.st = 2) : FI q (syncA A tmpN) (s.at 3) := by
  obtain ⟨f, hf⟩ := h.t2 h1
  refine h.move (by omega) (by omega) (fun n => ?_) (fun n _ => ?_) (fun n g1 g2 g3 => ?_) (fun hx => by omega) (fun _ => ?_) (fun hx => by omega) fun hq => ?_
  · rw [file_sync, if_neg (lgn_ne_tmp n)]
  · rw [file_sync, if_neg (nm_ne_tmp n)]
  · rw [file_sync, if_neg (nm_ne_tmp n)] at g3
    have := (h.nn n g1 g2 g3).1
    omega
  · rw [file_sync, if_pos rfl, hf]; rfl
  · have := (sync_les A tmpN).t
    have := h.qt hq
    omega
theorem FI.step3 {q : Int} {A : List Af} {s : Sto} (h : FI q A s) (h1 : s.st = 3) : FI q (renA A tmpN (Sn.nm (s.g + 1))) (s.at 4) := by
  have hf := h.t3 h1
  have hg := h.g
  have key := file_ren (b := Sn.nm (s.g + 1)) hf nm_ok
  refine h.move (by omega) (by omega) (fun n => ?_) (fun n hn => ?_) (fun n g1 g2 g3 => ?_) (fun hx => by omega) (fun hx => by omega) (fun _ => ?_) fun hq => ?_
  · rw [key, if_neg (lgn_ne_nm _ _), if_neg (lgn_ne_tmp n)]
  · rw [key, if_neg (fun e => by have := nm_inj (by omega) (by omega) e; omega), if_neg (nm_ne_tmp n)]
  · by_cases e : n = s.g + 1
    · exact ⟨rfl, e⟩
    · rw [key, if_neg (fun e' => e (nm_inj g2 (by omega) e')), if_neg (nm_ne_tmp n)] at g3
      have := (h.nn n g1 g2 g3).1
      omega
  · rw [key, if_pos rfl]
  · have := (ren_les A tmpN (Sn.nm (s.g + 1))).t
    have := h.qt hq
    omega
def Sto.next (s : Sto) : Sto := ⟨s.g + 1, s.L, [], 0, 0⟩
theorem Sto.next_L (s : Sto) : s.next.L = s.L := by
  show withs [] (s.L ++ []) = s.L
  rw [List.append_nil, withs_self s.asc]
theorem FI.step4 {q : Int} {A A' : List Af} {s : Sto} (h : FI q A s) (h4 : s.st = 4) (hg1 : s.g + 1 ≤ 900000) (hn : ∀ k, fileA A' (Sn.nm k) = fileA (sweepA (s.g + 1) A) (Sn.nm k)) (hl : ∀ k, fileA (sweepA (s.g + 1) A) (lgn k) = none → fileA A' (lgn k) = none) (ht : totA A' ≤ totA A) : FI q A' s.next := by
  have hl2 : ∀ n, s.g < n → n ≤ 999999 → fileA A' (lgn n) = none := fun n g1 g2 => hl n (by
    rw [file_sweep]
    split
    · rfl
    · exact h.nl n g1 g2)
  exact {
    gp := h.gl
    gr := by simp [Sto.next]
    g := hg1
    su := by simp [Sto.next]
    sn := fun _ => by
      show fileA A' (Sn.nm (s.g + 1)) = some ⟨Sn.nm (s.g + 1), catK s.L, _⟩
      rw [hn, file_sweep, if_neg]
      · exact h.t4 h4
      · rintro ⟨k, k1, k2, k3, k4⟩
        have := nm_inj (by omega) k3 k4
        omega
    s0 := fun hx => by simp [Sto.next] at hx
    lg := .inl ⟨hl2 _ (by simp [Sto.next]) (by simp only [Sto.next]; omega), rfl⟩
    nl := fun n g1 g2 => hl2 n (by simp only [Sto.next] at g1; omega) g2
    nn := fun n g1 g2 g3 => by
      simp only [Sto.next] at g1
      rw [hn, file_sweep] at g3
      split at g3
      · cases g3
      · have := (h.nn n (by omega) g2 g3).2
        omega
    st := by simp [Sto.next]
    ss := fun hx => absurd hx (by simp [Sto.next])
    t2 := fun hx => absurd hx (by simp [Sto.next])
    t3 := fun hx => absurd hx (by simp [Sto.next])
    t4 := fun hx => absurd hx (by simp [Sto.next])
    qt := fun hq => by
      have := h.qt hq
      omega }
theorem app_rm_new {A : List Af} {name : ByteArray} (h : fileA A name = none) : rmA (appA A name []) name = A := by
  have h1 := fileA_none.1 h
  rw [app_new h1, rmA, List.filter_append]
  have h2 : A.filter (fun a => !decide (a.name = name)) = A := List.filter_eq_self.2 fun a ha => by simp [h1 a ha]
  rw [h2]; simp
theorem errA_none {A : List Af} {name : ByteArray} (h : fileA A name = none) : errA A name = 4 := by rw [errA, h]; rfl
theorem errA_some {A : List Af} {name : ByteArray} {a : Af} (h : fileA A name = some a) : errA A name = 0 := by rw [errA, h]; rfl
set_option maxHeartbeats 4000000 in
theorem lopen_new {p m mm : Mem} {bf nb ns k : Nat} {q : Int} {A : List Af} {name : ByteArray} (h : FA p bf q nb ns A) (hs : Split mm [p, m]) (hk : Sm k A nb ns) (hn : nameOk (chs name) = true) (hz : name.size ≤ 1000000) (hq : 0 ≤ q ∧ q ≤ 9223372036854775807) (hqt : 0 < q → (totA A : Int) ≤ q) (hf : fileA A name = none) :
    Spec Tryz.prog 24 [ptrB bf, .v (.string name)] mm fun r m' => ∃ bl p', r = [ptrB bl, .v (.slice none 0 0), i64 0] ∧ Split m' [blk1 bl (logO bf name 0 0), p', m] ∧ FA p' bf q nb ns A := by
  refine en24 rfl (goY ?_)
  conv => whnf
  intro bl hbl
  conv => whnf
  have hs0 := hs.new hbl (logO bf name 0 0)
  refine xcall (read_A (name := name) (h.grow (hs0.sub (by simp))) hk) ?_
  rintro _ m1 ⟨v, p1, rfl, hs1, hv⟩
  conv => whnf
  have hs1 : Split m1 [p1, blk1 bl (logO bf name 0 0), p, m] := hs1.under (a := [p1]) hs0
  rw [errA_none hf]
  refine ⟨fun _ => ?_, fun h => absurd h (by first | decide | simp)⟩
  conv => whnf
  have hs2 : Split m1 [p, blk1 bl (logO bf name 0 0), m] := hs1.drop.perm (List.Perm.swap _ _ _)
  obtain ⟨q1, hq1, hs3, back⟩ := Split.pick1 hs2
  refine xcall (append_A (name := name) (lb := []) h hs3 hk (Lb.nil _ 0).la (by simp) hz hq (by simp)) ?_
  rintro _ m2 ⟨e, p2, A', nb', rfl, hs4, h2, hr⟩
  conv => whnf
  rw [AppR, if_neg (by simp [hn]), if_neg (by simp only [List.length_nil, Nat.add_zero]; intro hc; have := hqt hc.1; omega)] at hr
  obtain ⟨rfl, rfl, rfl⟩ := hr
  have hs4 := back _ _ hs4
  refine ⟨fun h => absurd h (by first | decide | simp), fun _ => ?_⟩
  conv => whnf
  refine xcall (Spec.frame hs4 (remove_A (name := name) h2)) ?_
  rintro _ m3 ⟨p3, ⟨rfl, h3⟩, hs5⟩
  conv => whnf
  rw [app_rm_new hf] at h3
  exact ⟨bl, p3, rfl, hs5.perm (List.Perm.swap _ _ _), h3⟩
set_option maxHeartbeats 4000000 in
theorem lopen_old {p m mm : Mem} {bf nb ns k K sf : Nat} {q : Int} {A : List Af} {name : ByteArray} {R : List (List Int)} (h : FA p bf q nb ns A) (hs : Split mm [p, m]) (hk : Sm k A nb ns) (hR : ∀ r ∈ R, Fr.isRec r.length = true ∧ Byt r) (hK : K ≤ (Fr.cat R).length) (hK2 : K ≤ 1000000) (hf : fileA A name = some ⟨name, toN ((Fr.cat R).take K), sf⟩) :
    Spec Tryz.prog 24 [ptrB bf, .v (.string name)] mm fun r m' => ∃ bl v ps pv p', r = [ptrB bl, .v v, i64 0] ∧ Split m' [blk1 bl (logO bf name (Fr.whole R K).1 (Fr.whole R K).1), pv, p', m] ∧ Lists pv v ps ∧ ps.map (·.2) = R.take (Fr.whole R K).1 ∧ FA p' bf q nb (ns + 1) (syncA (cutA A name (Fr.whole R K).2) name) := by
  have hby : Byt (Fr.cat R) := Fr.cat_byt fun r hr => (hR r hr).2
  obtain ⟨w1, w2, w3⟩ := Fr.whole_end (l := R) (k := K)
  have w4 := Fr.whole_few (l := R) (k := K)
  have w5 := Fr.whole_le (l := R) (k := K)
  refine en24 rfl (goY ?_)
  conv => whnf
  intro bl hbl
  conv => whnf
  have hs0 := hs.new hbl (logO bf name 0 0)
  refine xcall (read_A (name := name) (h.grow (hs0.sub (by simp))) hk) ?_
  rintro _ m1 ⟨v, p1, rfl, hs1, hv⟩
  conv => whnf
  have hs1 : Split m1 [p1, blk1 bl (logO bf name 0 0), p, m] := hs1.under (a := [p1]) hs0
  rw [errA_some hf]
  rw [hf] at hv
  simp only [Option.map_some, Option.getD_some] at hv
  rw [nc_toN (byt_take hby K)] at hv
  refine ⟨fun h => absurd h (by first | decide | simp), fun _ => ?_⟩
  conv => whnf
  refine ⟨fun h => absurd h (by first | decide | simp), fun _ => ?_⟩
  conv => whnf
  have hl1 : ((Fr.cat R).take K).length = K := by rw [List.length_take]; omega
  refine xcall (read_any (hv.lb.sub (hs1.sub (a := p1) (by simp))) (byt_take hby K) (by omega)) ?_
  rintro _ m2 ⟨v', ps, pv, rfl, hs2, hps, hpr'⟩
  conv => whnf
  have hs2 : Split m2 [pv, p1, blk1 bl (logO bf name 0 0), p, m] := hs2.under (a := [pv]) hs1
  have hrd := Fr.read_cut (l := R) (k := K) (f := K + 1) (fun r hr => (hR r hr).1) (by omega)
  rw [hl1] at hpr' ⊢
  rw [hrd] at hpr' ⊢
  dsimp only at hpr' ⊢
  refine ⟨fun h => absurd h (by first | decide | simp), fun _ => ?_⟩
  conv => whnf
  have hs3 : Split m2 [p, pv, blk1 bl (logO bf name 0 0), m] := (hs2.erase 1).perm (by
    show List.Perm [pv, blk1 bl (logO bf name 0 0), p, m] [p, pv, blk1 bl (logO bf name 0 0), m]
    refine (List.Perm.cons _ (List.Perm.swap _ _ _)).trans ?_
    exact List.Perm.swap _ _ _)
  refine xcall (Spec.frame hs3 (cut_A (name := name) (n := ((Fr.whole R K).2 : Nat)) h hk)) ?_
  rintro _ m3 ⟨p2, ⟨rfl, h2⟩, hs4⟩
  conv => whnf
  have hcl : (toN ((Fr.cat R).take K)).length = K := by rw [toN_len, hl1]
  have ec : cutRA A name ((Fr.whole R K).2 : Nat) = cutA A name (Fr.whole R K).2 := by
    rw [cutRA, hf]
    simp only
    rw [if_pos (by rw [hcl]; omega), Int.toNat_natCast]
  rw [ec] at h2
  have hk2 : Sm k (cutA A name (Fr.whole R K).2) nb ns := ⟨fun a ha => (cutA_les A name _).l _ hk.l a ha, by rw [cutA, List.length_map]; exact hk.n, hk.nb, hk.ns, hk.k⟩
  have hbl3 : m3 bl = some (logO bf name 0 0) := hs4.sub (a := blk1 bl (logO bf name 0 0)) (by simp) _ _ (blk1_same ..)
  refine ⟨[.one (.pointer (some ⟨bf, 0, none⟩)), .one (.string name)], ⟨rfl, rfl, trivial⟩, rfl, ⟨_, _, _, hbl3, fun j u hu => ?_⟩, ?_⟩
  · match j, hu with
    | 0, hu => exact hu
    | 1, hu => exact hu
    | j + 2, hu => simp [LB.cells, Seg.cells] at hu
  conv => whnf
  refine xcall (Spec.frame hs4 (place_sync (name := name) h2 hk2)) ?_
  rintro _ m4 ⟨p3, ⟨rfl, h3⟩, hs5⟩
  conv => whnf
  have hsome : (fileA (cutA A name (Fr.whole R K).2) name).isSome = true := by rw [file_cut, if_pos rfl, hf]; rfl
  rw [if_pos hsome] at h3
  have hpl : ps.length = (Fr.whole R K).1 := by
    have := congrArg List.length hpr'
    rw [List.length_map, List.length_take, Nat.min_eq_left w5] at this
    exact this
  obtain ⟨av, cv, rfl⟩ := hps.shape
  rw [hpl] at hps ⊢
  have hbl4 : m4 bl = some (logO bf name 0 0) := hs5.sub (a := blk1 bl (logO bf name 0 0)) (by simp) _ _ (blk1_same ..)
  conv => whnf
  refine ⟨_, _, _, hbl4, ⟨by simp, by simp⟩, ?_⟩
  conv => whnf
  refine ⟨_, _, _, Mem.set_same .., ⟨by simp, by simp⟩, ?_⟩
  conv => whnf
  have hs6 := hs5.setAt (i := 2) rfl (blk1_same ..) (logO bf name (Fr.whole R K).1 0)
  rw [blk1_set] at hs6
  have hs7 := hs6.setAt (i := 2) rfl (blk1_same ..) (logO bf name (Fr.whole R K).1 (Fr.whole R K).1)
  rw [blk1_set] at hs7
  have hs8 : Split _ [p3, pv, blk1 bl (logO bf name (Fr.whole R K).1 (Fr.whole R K).1), m] := hs7
  refine ⟨bl, _, ps, pv, p3, rfl, hs8.perm ?_, hps, hpr', h3⟩
  refine (List.Perm.cons _ (List.Perm.swap _ _ _)).trans ?_
  refine (List.Perm.swap _ _ _).trans ?_
  exact List.Perm.cons _ (List.Perm.swap _ _ _)
section
variable {m mm p : Mem} {bl bf nb ns all sure : Nat} {name : ByteArray}
set_option maxHeartbeats 4000000 in
theorem lapp_any {vb : Value} {lb : List Int} {A : List Af} {k : Nat} {q : Int} (hs : Split mm [blk1 bl (logO bf name all sure), p, m]) (h : FA p bf q nb ns A) (hk : Sm k A nb ns) (hv : La mm vb lb) (hb : Byt lb) (hr : Fr.isRec lb.length = true) (hl : lb.length ≤ 100000) (hn : nameOk (chs name) = true) (hz : name.size ≤ 1000000) (ha : all ≤ 1000000) (hq : 0 ≤ q ∧ q ≤ 9223372036854775807) :
    Spec Tryz.prog 36 [ptrB bl, .v vb] mm fun r m' => ∃ p', (0 < q ∧ q < (totA A + (Fr.wr lb).length : Nat) ∧ r = [i64 0, i64 5] ∧ Split m' [blk1 bl (logO bf name all sure), p', m] ∧ FA p' bf q nb ns A) ∨ (¬ (0 < q ∧ q < (totA A + (Fr.wr lb).length : Nat)) ∧ r = [i64 ((all + 1 : Nat) : Int), i64 0] ∧ Split m' [blk1 bl (logO bf name (all + 1) sure), p', m] ∧ FA p' bf q (nb + (Fr.wr lb).length) ns (appA A name (toN (Fr.wr lb)))) := by
  have hw := wr_len (l := lb) (by omega)
  have hbw : Byt (Fr.wr lb) := by
    have := Fr.cat_byt (l := [lb]) (by simpa using hb)
    simpa [Fr.cat] using this
  have hbl : mm bl = some (logO bf name all sure) := hs.sub (a := blk1 bl (logO bf name all sure)) (by simp) _ _ (blk1_same ..)
  refine en36 rfl (goY ?_)
  conv => whnf
  first | refine xretk (lmade_spec hbl) ?_ | refine xret (lmade_spec hbl) ?_
  conv => whnf
  refine ⟨fun h => absurd h (by first | decide | simp), fun _ => ?_⟩
  conv => whnf
  refine xcall (write_ok hv hb hr) ?_
  rintro _ m1 ⟨v', pw, rfl, hs1, hw1⟩
  conv => whnf
  have hs1 : Split m1 [pw, blk1 bl (logO bf name all sure), p, m] := hs1.under (a := [pw]) hs
  refine ⟨fun h => absurd h (by first | decide | simp), fun _ => ?_⟩
  conv => whnf
  have hbl1 := hs1.sub (a := blk1 bl (logO bf name all sure)) (by simp) _ _ (blk1_same ..)
  refine ⟨_, mcell_of hbl1 rfl, rfl, ?_⟩
  conv => whnf
  refine ⟨_, mcell_of hbl1 rfl, rfl, ?_⟩
  conv => whnf
  have hs2 : Split m1 [p, pw, blk1 bl (logO bf name all sure), m] := hs1.perm (by
    refine (List.Perm.cons _ (List.Perm.swap _ _ _)).trans ?_
    exact List.Perm.swap _ _ _)
  obtain ⟨q1, hq1, hs3, back⟩ := Split.pick1 hs2
  refine xcall (append_A (name := name) (lb := toN (Fr.wr lb)) h hs3 hk (by rw [nc_toN hbw]; exact (hw1.lb.sub (hq1 pw (by simp))).la) (toN_byt hbw) hz hq (by rw [toN_len]; omega)) ?_
  rintro _ m2 ⟨e, p2, A', nb', rfl, hs4, h2, hr2⟩
  conv => whnf
  rw [AppR, if_neg (by simp [hn]), toN_len] at hr2
  have hs4 : Split m2 [p2, pw, blk1 bl (logO bf name all sure), m] := back _ _ hs4
  have hs5 : Split m2 [p2, blk1 bl (logO bf name all sure), m] := hs4.erase 1
  by_cases hfit : 0 < q ∧ q < (totA A + (Fr.wr lb).length : Nat)
  · rw [if_pos hfit] at hr2
    obtain ⟨rfl, rfl, rfl⟩ := hr2
    refine ⟨fun _ => ?_, fun h => absurd h (by first | decide | simp)⟩
    conv => whnf
    exact ⟨p2, .inl ⟨hfit.1, hfit.2, rfl, hs5.perm (List.Perm.swap _ _ _), h2⟩⟩
  rw [if_neg hfit] at hr2
  obtain ⟨rfl, rfl, rfl⟩ := hr2
  have hbl2 := hs5.sub (a := blk1 bl (logO bf name all sure)) (by simp) _ _ (blk1_same ..)
  have hs6 := hs5.setAt (i := 1) rfl (blk1_same ..) (logO bf name (all + 1) sure)
  rw [blk1_set] at hs6
  have ew : IntKind.i64.wrap ((all : Int) + 1) = ((all + 1 : Nat) : Int) := iadd' (by omega)
  refine ⟨fun h => absurd h (by first | decide | simp), fun _ => ?_⟩
  conv => whnf
  refine ⟨_, mcell_of hbl2 rfl, rfl, ?_⟩
  conv => whnf
  refine ⟨_, _, _, hbl2, ⟨by simp, by simp⟩, ?_⟩
  conv => whnf
  refine ⟨_, mcell_of (Mem.set_same ..) rfl, rfl, ?_⟩
  rw [ew]
  conv => whnf
  exact ⟨p2, .inr ⟨hfit, rfl, hs6.perm (List.Perm.swap _ _ _), h2⟩⟩
end
theorem hasPrefix_spec {m : Mem} {s p : ByteArray} : Ret Tryz.prog 92 [.v (.string s), .v (.string p)] m [.v (.bool (Lib.hasPrefix s.data.toList p.data.toList))] := by
  refine ⟨enters_fn Tryz.func92 (by kernel_rfl) (by kernel_rfl), fun _ W hW => ?_⟩
  exact (Tryz.strings_HasPrefix s p W).mono fun e W' ⟨h2, h3⟩ => ⟨[.v (.bool (Lib.hasPrefix s.data.toList p.data.toList))], m, h2, by intro x hx; simp at hx; rcases hx with rfl; rfl, ⟨rfl, rfl⟩, after_same hW h3⟩
theorem Glob.strong {m : Mem} (h : Glob m) : Strong m := fun W hW => by
  obtain ⟨tp, p, T, fr, h1⟩ := h.syn
  exact ⟨rfl, hW.lt h1⟩
theorem lname18_spec {m : Mem} (hg : Glob m) {n : Nat} (h2 : n ≤ 999999) : Ret Tryz.prog 25 [i64 n] m [.v (.string (lgn n))] := by
  obtain ⟨p1, p2⟩ := Sn.itoa_pad (n := n) (by omega)
  refine en25 rfl (goY ?_)
  conv => whnf
  first | refine xretk (itoa_spec hg (by omega) (by omega)) ?_ | refine xret (itoa_spec hg (by omega) (by omega)) ?_
  conv => whnf
  have es : ((⟨(Lib.itoa (n : Int)).toArray⟩ : ByteArray).size : Int) = ((Lib.itoa (n : Int)).length : Int) := rfl
  have ew : max (IntKind.i64.wrap (6 - ((⟨(Lib.itoa (n : Int)).toArray⟩ : ByteArray).size : Int))) 0 = ((6 - (Lib.itoa (n : Int)).length : Nat) : Int) := by rw [es, wi (by omega) (by omega)]; omega
  rw [ew]
  first | refine xretk (repeat_spec hg (s := ⟨#[48]⟩) (c := 6 - (Lib.itoa (n : Int)).length) (by rw [show (⟨#[48]⟩ : ByteArray).size = 1 from rfl]; omega) (by omega)) ?_ | refine xret (repeat_spec hg (s := ⟨#[48]⟩) (c := 6 - (Lib.itoa (n : Int)).length) (by rw [show (⟨#[48]⟩ : ByteArray).size = 1 from rfl]; omega) (by omega)) ?_
  conv => whnf
  have er : Lib.repeatL (⟨#[48]⟩ : ByteArray).data.toList (6 - (Lib.itoa (n : Int)).length) = Lib.repeatL [48] (6 - (Lib.itoa (n : Int)).length) := rfl
  have hz := Sn.repL_len (6 - (Lib.itoa (n : Int)).length)
  rw [er]
  generalize Lib.repeatL [48] (6 - (Lib.itoa (n : Int)).length) = Z at p2 hz
  generalize Lib.itoa (n : Int) = D at p1 p2 hz
  refine ⟨by rw [mkB_size Z, show (⟨#[108, 111, 103, 45]⟩ : ByteArray).size = 4 from rfl]; omega, ?_⟩
  conv => whnf
  have e1 : (⟨#[108, 111, 103, 45]⟩ : ByteArray) = ⟨preG.toArray⟩ := rfl
  rw [e1, mkB_append]
  refine ⟨by rw [mkB_size, mkB_size, List.length_append, show preG.length = 4 from rfl]; omega, ?_⟩
  conv => whnf
  refine ⟨?_, rfl⟩
  rw [mkB_append, lgn, ← p2, List.append_assoc]
abbrev storeO (bf g : Nat) (lv : Value) (bl : Nat) (sv : Value) : Obj := .cells #[.pointer (some ⟨bf, 0, none⟩), .int .i64 (g : Int), lv, .pointer (some ⟨bl, 0, none⟩), sv] 78
def SvP (ps : Mem) (bf : Nat) (s : Sto) (sv : Value) : Prop :=
  (sv = .pointer none ∧ s.st = 0) ∨ ∃ (b n : Nat) (v : Value) (pv : Mem) (l : List Nat), sv = .pointer (some ⟨b, 0, none⟩) ∧ Split ps [blk1 b (saveO bf n v s.st), pv] ∧ Bs pv v (nc l) ∧ (∀ x ∈ l, x < 256) ∧ (0 < s.st → n = s.g + 1 ∧ l = catK s.L)
def SP (p : Mem) (bs bf : Nat) (s : Sto) : Prop := ∃ (bl : Nat) (lv sv : Value) (ps g : Mem), Split p [blk1 bs (storeO bf s.g lv bl sv), blk1 bl (logO bf (lgn s.g) s.R.length s.sure), ps, g] ∧ Kys g lv s.L ∧ SvP ps bf s sv
structure SR (m : Mem) (bs bf : Nat) (s : Sto) (bl : Nat) (lv sv : Value) : Prop where
  o : m bs = some (storeO bf s.g lv bl sv)
  lg : m bl = some (logO bf (lgn s.g) s.R.length s.sure)
  l : Kys m lv s.L
  sv : (sv = .pointer none ∧ s.st = 0) ∨ ∃ (b n : Nat) (v : Value), sv = .pointer (some ⟨b, 0, none⟩) ∧ m b = some (saveO bf n v s.st)
theorem SP.read {p m : Mem} {bs bf : Nat} {s : Sto} (h : SP p bs bf s) (hs : Sub p m) : ∃ bl lv sv, SR m bs bf s bl lv sv := by
  obtain ⟨bl, lv, sv, ps, g, h1, h2, h3⟩ := h
  refine ⟨bl, lv, sv, hs _ _ (h1.get (a := blk1 bs _) (by simp) (blk1_same ..)), hs _ _ (h1.get (a := blk1 bl _) (by simp) (blk1_same ..)), h2.sub ((h1.sub (by simp)).trans hs), ?_⟩
  rcases h3 with h | ⟨b, n, v, pv, l, e1, e2, _⟩
  · exact .inl h
  · exact .inr ⟨b, n, v, e1, hs _ _ (h1.get (a := ps) (by simp) (e2.get (a := blk1 b _) (by simp) (blk1_same ..)))⟩
section
variable {m : Mem} {bs bf bl : Nat} {s : Sto} {lv sv : Value}
theorem smade_spec (h : SR m bs bf s bl lv sv) : Ret Tryz.prog 31 [ptrB bs] m [boolV true] := by
  refine en31 rfl (goY ?_)
  conv => whnf
  refine ⟨fun _ => ?_, fun h => absurd h (by first | decide | simp)⟩
  conv => whnf
  refine ⟨_, mcell_of h.o rfl, rfl, ?_⟩
  conv => whnf
  exact ⟨rfl, rfl⟩
theorem sage_spec (h : SR m bs bf s bl lv sv) : Ret Tryz.prog 21 [ptrB bs] m [i64 s.g] := by
  refine en21 rfl (goY ?_)
  conv => whnf
  refine ⟨fun h => absurd h (by first | decide | simp), fun _ => ?_⟩
  conv => whnf
  refine ⟨_, mcell_of h.o rfl, rfl, ?_⟩
  conv => whnf
  exact ⟨rfl, rfl⟩
theorem sall_spec (h : SR m bs bf s bl lv sv) : Ret Tryz.prog 13 [ptrB bs] m [i64 s.R.length] := by
  refine en13 rfl (goY ?_)
  conv => whnf
  refine ⟨fun h => absurd h (by first | decide | simp), fun _ => ?_⟩
  conv => whnf
  refine ⟨_, mcell_of h.o rfl, rfl, ?_⟩
  conv => whnf
  first | refine xretk (lall_spec h.lg) ?_ | refine xret (lall_spec h.lg) ?_
  conv => whnf
  exact ⟨rfl, rfl⟩
theorem sstage_spec (h : SR m bs bf s bl lv sv) : Ret Tryz.prog 42 [ptrB bs] m [i64 s.st] := by
  refine en42 rfl (goY ?_)
  conv => whnf
  refine ⟨fun h => absurd h (by first | decide | simp), fun _ => ?_⟩
  conv => whnf
  rcases h.sv with ⟨rfl, h0⟩ | ⟨b, n, v, rfl, h1⟩
  · refine ⟨_, mcell_of h.o rfl, rfl, ?_⟩
    conv => whnf
    first | refine xretk (stage_nil) ?_ | refine xret (stage_nil) ?_
    conv => whnf
    exact ⟨by rw [h0]; rfl, rfl⟩
  · refine ⟨_, mcell_of h.o rfl, rfl, ?_⟩
    conv => whnf
    first | refine xretk (stage_spec h1) ?_ | refine xret (stage_spec h1) ?_
    conv => whnf
    exact ⟨rfl, rfl⟩
theorem ssure_spec (h : SR m bs bf s bl lv sv) : Ret Tryz.prog 11 [ptrB bs] m [boolV (decide (s.sure = s.R.length))] := by
  refine en11 rfl (goY ?_)
  conv => whnf
  first | refine xretk (smade_spec h) ?_ | refine xret (smade_spec h) ?_
  conv => whnf
  refine ⟨fun _ => ?_, fun h => absurd h (by first | decide | simp)⟩
  conv => whnf
  refine ⟨_, mcell_of h.o rfl, rfl, ?_⟩
  conv => whnf
  refine ⟨_, mcell_of h.o rfl, rfl, ?_⟩
  conv => whnf
  first | refine xretk (lsure_spec h.lg) ?_ | refine xret (lsure_spec h.lg) ?_
  conv => whnf
  first | refine xretk (lall_spec h.lg) ?_ | refine xret (lall_spec h.lg) ?_
  conv => whnf
  refine ⟨?_, rfl⟩
  rw [beqG]
  have : decide ((s.sure : Int) = (s.R.length : Int)) = decide (s.sure = s.R.length) := decide_eq_decide.2 (by omega)
  rw [this]
def askF (s : Sto) (k : ByteArray) (c : Ct) : Int := if keyOk (chs k) = false then 1 else if rightC c.1 c.2 = false then 3 else if 0 < s.st then 7 else 0
theorem sask_spec (hS : Strong m) (h : SR m bs bf s bl lv sv) {k : ByteArray} {u : List Int} {a : Option Addr} {c : Nat} {E : List En} (hv : Na m (.slice a E.length c) E) (hI : ∀ e ∈ E, okE e) (hk : k.size ≤ 1000000) (hl : E.length ≤ 1000000) :
    Ret Tryz.prog 35 [ptrB bs, .v (.string k), cartV u a E.length c] m [i64 (askF s k (u, E))] := by
  refine en35 rfl (goY ?_)
  conv => whnf
  first | refine xretk (smade_spec h) ?_ | refine xret (smade_spec h) ?_
  conv => whnf
  refine ⟨fun h => absurd h (by first | decide | simp), fun _ => ?_⟩
  conv => whnf
  first | refine xretk (right_key_spec (s := k) hk) ?_ | refine xret (right_key_spec (s := k) hk) ?_
  conv => whnf
  by_cases h1 : keyOk (chs k) = true
  rotate_left
  · have h1 : keyOk (chs k) = false := by simpa using h1
    rw [h1]
    refine ⟨fun _ => ?_, fun h => absurd h (by first | decide | simp)⟩
    conv => whnf
    exact ⟨by rw [askF, if_pos h1], rfl⟩
  rw [h1]
  refine ⟨fun h => absurd h (by first | decide | simp), fun _ => ?_⟩
  conv => whnf
  first | refine xretk (right6R (u := u) hS hv hI hl) ?_ | refine xret (right6R (u := u) hS hv hI hl) ?_
  conv => whnf
  by_cases h2 : rightC u E = true
  rotate_left
  · have h2 : rightC u E = false := by simpa using h2
    rw [h2]
    refine ⟨fun _ => ?_, fun h => absurd h (by first | decide | simp)⟩
    conv => whnf
    exact ⟨by rw [askF, if_neg (by rw [h1]; decide), if_pos h2], rfl⟩
  rw [h2]
  refine ⟨fun h => absurd h (by first | decide | simp), fun _ => ?_⟩
  conv => whnf
  first | refine xretk (sstage_spec h) ?_ | refine xret (sstage_spec h) ?_
  conv => whnf
  refine ⟨fun h3 => ?_, fun h3 => ?_⟩
  · have h3' : 0 < s.st := by have := of_decide_eq_true h3; omega
    conv => whnf
    exact ⟨by rw [askF, if_neg (by rw [h1]; decide), if_neg (by rw [h2]; decide), if_pos h3'], rfl⟩
  · have h3' : ¬ 0 < s.st := by have := of_decide_eq_false h3; omega
    conv => whnf
    exact ⟨by rw [askF, if_neg (by rw [h1]; decide), if_neg (by rw [h2]; decide), if_neg h3'], rfl⟩
theorem sL_len (s : Sto) : s.L.length ≤ s.P.length + s.R.length := by
  have := withs_len [] (s.P ++ s.R)
  rw [List.length_append] at this
  simpa [Sto.L] using this
set_option maxHeartbeats 2000000 in
theorem sget_spec (h : SR m bs bf s bl lv sv) {k : ByteArray} (hl : s.L.length ≤ 1000000) (hE : (getK s.L k).2.length ≤ 1000000) :
    Spec Tryz.prog 17 [ptrB bs, .v (.string k)] m fun r m' => ∃ a c p, r = [cartV (getK s.L k).1 a (getK s.L k).2.length c, boolV (findK s.L k).isSome] ∧ Split m' [p, m] ∧ No p (.slice a (getK s.L k).2.length c) (getK s.L k).2 := by
  refine en17 rfl (goY ?_)
  conv => whnf
  refine ⟨fun h => absurd h (by first | decide | simp), fun _ => ?_⟩
  conv => whnf
  refine ⟨_, mcell_of h.o rfl, by obtain ⟨a, c, e⟩ := h.l.shape; rw [e]; rfl, ?_⟩
  conv => whnf
  refine xcall (pfind_spec (k := k) h.l hl) ?_
  rintro _ m1 ⟨a, c, rfl, hs1, he⟩
  conv => whnf
  generalize getK s.L k = x at *
  obtain ⟨xu, xE⟩ := x
  simp only at he hE
  refine xcall (cloneN_spec (E := xE) (he.sub hs1) (by omega)) ?_
  rintro _ m2 ⟨v', p, rfl, hs2, hp⟩
  conv => whnf
  obtain ⟨a', c', rfl⟩ := hp.el.shape
  conv => whnf
  refine ⟨a', c', p, by simp, ?_, hp⟩
  exact (Split.fewer (hs2.perm (List.Perm.swap _ _ _)) hs1).perm (List.Perm.swap _ _ _)
end
set_option maxHeartbeats 4000000 in
theorem slist_spec {m : Mem} {bs bf bl : Nat} {s : Sto} {lv sv : Value} (h : SR m bs bf s bl lv sv) (hl : s.L.length ≤ 100000) (hE : ∀ x ∈ s.L, x.2.2.length ≤ 100000) :
    Spec Tryz.prog 22 [ptrB bs] m fun r m' => ∃ v, r = [.v v] ∧ Kys m' v s.L ∧ Sub m m' := by
  obtain ⟨R, hR, hK⟩ := h.l
  have ho := h.o
  obtain ⟨av, cv, rfl⟩ := hR.shape
  have hlen := hK.len
  refine en22 rfl (goY ?_)
  conv => whnf
  refine ⟨fun h => absurd h (by first | decide | simp), fun _ => ?_⟩
  conv => whnf
  refine ⟨_, mcell_of ho rfl, rfl, ?_⟩
  conv => whnf
  refine xcall (cloneK_spec hR (by omega)) ?_
  rintro _ m1 ⟨vk, pk, rfl, hs1, hpk⟩
  conv => whnf
  obtain ⟨ak, ck, rfl⟩ := hpk.el.shape
  refine .mk (ι := Nat) (fun i => R.length - i) (fun i mm => i ≤ R.length ∧ ∃ pk g Ri, Split mm [pk, g] ∧ Sub m g ∧ Ko pk (.slice ak R.length ck) Ri ∧ KysIs g Ri s.L) (fun i => [(3, .c (.v (.slice ak R.length ck))), (13, .c (i64 R.length)), (14, .c (i64 i))]) (fun _ => []) 0 ⟨by omega, pk, m, R, hs1, Sub.refl _, hpk, hK⟩ ?_ ?_
  · conv => whnf
    repeat (refine And.intro (by first | with_reducible rfl | exact congrArg (Value.int _) (wi (by omega) (by omega)) | exact wi (by omega) (by omega) | rfl) ?_; conv => whnf)
    first | exact trivial | exact fun _ _ h => h
  rintro i mm ⟨hi, pk, g, Ri, hs, hmg, hp, hKi⟩
  have hli := hKi.len
  conv => whnf
  refine ⟨fun h => ?_, fun h => ?_⟩
  · have h' := of_decide_eq_true h
    have hlt : i < R.length := by omega
    clear h
    have hiz : i < Ri.length := by omega
    obtain ⟨bl, ol, c2, hh, hg⟩ := hp.el.ea.real hiz
    injection hh with hh1 _ hh3
    subst hh1
    clear hh3 c2
    have hg := hg i hiz
    have hx := hKi.at' i hiz (by omega)
    have hEx := hE _ (List.getElem_mem (show i < s.L.length by omega))
    have hcell := fun x u hj hx => encK_ok.setCell (u := u) (x := x) hp hiz (j := 9) hj hx
    have hset := fun r (hr : KyIs g r s.L[i]) => hKi.set (i := i) hr
    have hid : s.L.set i s.L[i] = s.L := List.set_getElem_self _
    rw [hid] at hset
    generalize s.L[i] = x at *
    generalize hr : Ri[i] = r at *
    obtain ⟨xk, xu, xE⟩ := x
    obtain ⟨rk, ru, ra, rn, rc⟩ := r
    obtain ⟨h1, h2, h3, h4⟩ := hx
    have hxl := KyIs.len ⟨h1, h2, h3, h4⟩
    simp only at h1 h2 h3 h4 hxl hEx
    subst h1 h2 hxl
    conv => whnf
    repeat (refine And.intro (by first | omega | (simp only [times]; omega)) ?_; conv => whnf)
    have hc9 : mcell mm bl (ol + i * 10 + 9) = some (.slice ra xE.length rc) := by
      obtain ⟨arr, t, fr, q1, q2⟩ := hg.sub (hs.sub (a := pk) (by simp))
      exact mcell_of q1 (q2 9 _ (by simp [encK, n8]))
    refine ⟨_, by simp only [times, Int.toNat_natCast]; exact hc9, rfl, ?_⟩
    conv => whnf
    refine xcall (cloneN_spec (E := xE) (h4.sub (hs.sub (a := g) (by simp))) (by omega)) ?_
    rintro _ m2 ⟨v2, p2, rfl, hs2, hp2⟩
    conv => whnf
    have hs2 : Split m2 [p2, pk, g] := Split.weld (a := [p2]) hs2 hs
    obtain ⟨a2, c2, rfl⟩ := hp2.el.shape
    obtain ⟨arr, q1, q2, q3⟩ := hcell (rk, ru, (a2, xE.length, c2)) (.slice a2 xE.length c2) (by omega) (by simp [encK, n8])
    have hs3 : Split m2 ([p2, g] ++ [pk]) := hs2.perm (by
      refine List.Perm.cons _ (List.Perm.swap _ _ _))
    obtain ⟨hs4, hs5⟩ := Split.group _ hs3
    have hs4 : Split m2 [pk, allM [p2, g]] := hs4.perm (List.Perm.swap _ _ _)
    repeat (refine And.intro (by first | omega | (simp only [times]; omega)) ?_; conv => whnf)
    have hmb : m2 bl = some (.cells arr 82) := hs4.sub (a := pk) (by simp) _ _ q1
    refine ⟨_, _, _, hmb, ⟨by simp only [times, Int.toNat_natCast]; exact q2, by simp⟩, ?_⟩
    simp only [times, Int.toNat_natCast]
    conv => whnf
    refine ⟨i + 1, ⟨by omega, _, _, _, hs4.set q1 (.cells (arr.setIfInBounds (ol + i * 10 + 9) (.slice a2 xE.length c2)) 82), hmg.trans (hs5.sub (by simp)), q3, ?_⟩, by omega, ?_⟩
    · have hg2 : Sub g (allM [p2, g]) := hs5.sub (by simp)
      have := (hKi.sub hg2).set (i := i) (r := (rk, ru, (a2, xE.length, c2))) (x := (rk, ru, xE)) ⟨rfl, rfl, h3, hp2.ea.sub (hs5.sub (by simp))⟩
      rw [hid] at this
      exact this
    · conv => whnf
      repeat (refine And.intro (by first | with_reducible rfl | (first | exact congrArg (Value.int _) (iadd (by omega))) | exact congrArg (Value.int _) (wi (by omega) (by omega)) | exact wi (by omega) (by omega) | rfl) ?_; conv => whnf)
      first | exact trivial | exact fun _ _ h => h
  · have h' := of_decide_eq_false h
    conv => whnf
    exact ⟨_, rfl, ⟨Ri, hp.ea.sub (hs.sub (by simp)), hKi.sub (hs.sub (by simp))⟩, hmg.trans (hs.sub (by simp))⟩
theorem stext_spec {m : Mem} (hS : Strong m) {bs bf bl : Nat} {s : Sto} {lv sv : Value} (h : SR m bs bf s bl lv sv) (hg : ∀ x ∈ s.L, GoodK x) (hl : s.L.length ≤ 1000) :
    Spec Tryz.prog 8 [ptrB bs] m fun r m' => r = [.v (.string (strI (kdsB s.L)))] ∧ Sub m m' := by
  refine en8 rfl (goY ?_)
  conv => whnf
  refine xcall (slist_spec h (by omega) (fun x hx => by have := rightC_len (hg x hx).r; omega)) ?_
  rintro _ m1 ⟨v, rfl, hv, hs1⟩
  conv => whnf
  refine xcall (writeAll_spec (hS.sub hs1) hv (fun x hx => (hg x hx).arg) (rightL_of hg s.asc (by omega)) hl) ?_
  rintro _ m2 ⟨v2, p2, rfl, hs2, hb⟩
  conv => whnf
  have hs3 : Sub m m2 := hs1.trans (hs2.sub (by simp))
  rw [← strOf_I]
  rcases hb with ⟨rfl, hnil⟩ | ⟨b', o', c', n', arr', rfl, g1, g2, g3, g4, g5, g6⟩
  · have hnil : kdsB s.L = [] := List.map_eq_nil_iff.1 hnil
    simp [kdsB, numB] at hnil
  · have hn' : (kdsB s.L).length = n' := by
      have hbc : (bc (kdsB s.L)).length = (kdsB s.L).length := List.length_map _
      omega
    subst hn'
    conv => whnf
    refine .inr ⟨kdsB s.L, rfl, _, _, rfl, ⟨_, _, _, hs2.sub (a := p2) (by simp) _ _ g1, g5⟩, ?_⟩
    conv => whnf
    exact ⟨rfl, hs3⟩
end Go.E.YtcionccfgcnhoaaGreatDoor
