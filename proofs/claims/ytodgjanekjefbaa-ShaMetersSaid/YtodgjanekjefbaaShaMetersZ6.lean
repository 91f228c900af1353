/-
  E23, ByB, E25, Cat, Sha4, Sha5, Sha6, Sha7, Sha7b, Sha8a, Sha8, ShaB, E16, E18, E24
-/
import Derived.Test.YtodgjanekjefbaaShaMetersZ5
import Derived.Laws.CopyRow
import Derived.Lib.AppendZerosOnto
import Derived.ProofKit
import Derived.OpenShut
import Derived.ChangeArms
/-
  More operations: copy.
-/
namespace Go.E
section
variable {P : Program} {T : Tab}
theorem Mem.set_same_eq {m : Mem} {b : Nat} {o : Obj} (h : m b = some o) : m.set b o = m := by
  funext x; by_cases e : x = b
  · subst e; rw [Mem.set_same, h]
  · rw [Mem.set_ne _ _ e]
/-- copy of cells that are one each -/
theorem copy1_spec (hT : TabOk P T) {t e tx : TypeId} {ti ei : TI} (ht : T t = some ti) (hk : ti.k = .slice e) (he : T e = some ei) (hz : ei.size = 1) {m : Mem} {b o n c : Nat} {arr : Array Value} {te : TypeId} (hb : m b = some (.cells arr te)) (hfit : o + n ≤ arr.size)
    {x : Value} {news : List Value} (hx : Lies m 1 x news) :
    PrimSpec P (.builtin .copy [t, tx]) [.v (.slice (some ⟨b, o, none⟩) n c), .v x] m fun r m' => r = [.v (.int .i64 ((min news.length n : Nat) : Int))] ∧ m' = m.set b (.cells (arr.toList.take o ++ news.take n ++ arr.toList.drop (o + (news.take n).length)).toArray te) := by
  intro hok ty W hW
  obtain ⟨j, hj, hjs, _⟩ := (hT e ei he).inf
  have hu := (hT t ti ht).slice hk
  have hWb := hW _ _ hb
  rcases hx with ⟨c', rfl, rfl⟩ | ⟨b', o', c', n', arr', t', fr', rfl, h1, h2, h3, h4, h5⟩
  · refine ⟨_, _, W, ?_, ?_, ⟨rfl, rfl⟩, ?_⟩
    · simp [Prim.run, CV.val, resVal, Builtin.copy_, run_underlying hu, Builtin.lenOf, Builtin.firstCells, sizeOf, typeInfo, hj, storeCells]
      rfl
    · intro y hy; simp at hy; subst hy; rfl
    · simp only [List.take_nil, List.append_nil, List.length_nil, Nat.add_zero, List.take_append_drop, Array.toArray_toList]
      rw [Mem.set_same_eq hb]
      exact After.refl hW
  · have hln : n' = news.length := by omega
    subst hln
    have hr := run_copy_row (P := P) W t tx ty e b o n c ⟨b', o', none⟩ news.length c' arr te (news.take n) hu (by rw [hj]; simp [hjs, hz]) hWb (by simp [Nat.min_comm]) (fun j v hv => by
      rw [add_none, cell_at (hW _ _ h1)]
      refine h4 j v ?_
      have hl := (List.getElem?_eq_some_iff.1 hv).1
      simp only [List.length_take] at hl
      rw [List.getElem?_take, if_pos (by omega)] at hv
      exact hv) (by simp; omega) (fun v hv => h5 v (List.mem_of_mem_take hv))
    refine ⟨_, _, _, ?_, ?_, ⟨rfl, rfl⟩, (After.refl hW).setRow hb _⟩
    · simp only [Prim.run, List.map_cons, List.map_nil, CV.val, resVal]
      refine hr.trans ?_
      simp only [List.length_take, Nat.min_comm]
      rfl
    · intro y hy; simp at hy; subst hy; rfl
end
end Go.E

/-
  Bytes: what is owned, appended.
-/
namespace Go.E.Ytodgjanekjefbaa
open Go.Proofs
set_option maxRecDepth 100000

theorem Own.store {p : Mem} {e : TypeId} {b o n c k : Nat} {l : List Value} {x : Value} (h : Own p e 1 (.slice (some ⟨b, o, none⟩) n c) l) (hk : k < l.length) (hx : x.oneCell' = true) :
    ∃ arr, p b = some (.cells arr e (0, 0)) ∧ o + k < arr.size ∧ Own (p.set b (.cells (arr.setIfInBounds (o + k) x) e (0, 0))) e 1 (.slice (some ⟨b, o, none⟩) n c) (l.set k x) := by
  rcases h with ⟨h, _⟩ | ⟨b', o', c', n', arr, h, h1, h2, h3, h4, h5, h6⟩
  · cases h
  · cases h
    rw [Nat.mul_one] at h2 h4
    refine ⟨arr, h1, by omega, .inr ⟨b, o, c, n, _, rfl, Mem.set_same .., by simp; omega, h3, by simp; omega, fun j u hu => ?_, fun u hu => ?_⟩⟩
    · rw [List.getElem?_set] at hu
      rw [Array.getElem?_setIfInBounds]
      by_cases e : k = j
      · subst e
        rw [if_pos rfl, if_pos hk] at hu
        cases hu
        rw [if_pos rfl, if_pos (by omega)]
      · rw [if_neg e] at hu
        rw [if_neg (by omega)]
        exact h5 j u hu
    · rcases List.mem_or_eq_of_mem_set hu with hu | rfl
      · exact h6 u hu
      · exact hx
/-- bytes that are owned -/
def Bs (m : Mem) (v : Value) (l : List Int) : Prop := Own m 5 1 v (bc l)
theorem Bs.lb {p : Mem} {v : Value} {l : List Int} (h : Bs p v l) : Lb p v l := Own.lies h
theorem Bs.len {p : Mem} {v : Value} {l : List Int} (h : Bs p v l) : lenV v = l.length := h.lb.len
theorem Bs.sub {m m' : Mem} {v : Value} {l : List Int} (h : Bs m v l) (hs : Sub m m') : Bs m' v l := Own.sub h hs
theorem Bs.keep {m m' : Mem} {v : Value} {l : List Int} (h : Bs m v l) (hs : ∀ b, blkV v = some b → m' b = m b) : Bs m' v l := Own.keep h hs
theorem Bs.store {p : Mem} {b o n c k : Nat} {l : List Int} {x : Int} (h : Bs p (.slice (some ⟨b, o, none⟩) n c) l) (hk : k < l.length) :
    ∃ arr, p b = some (.cells arr 5 (0, 0)) ∧ o + k < arr.size ∧ Bs (p.set b (.cells (arr.setIfInBounds (o + k) (.int .u8 x)) 5 (0, 0))) (.slice (some ⟨b, o, none⟩) n c) (l.set k x) := by
  obtain ⟨arr, h1, h2, h3⟩ := Own.store (k := k) (x := .int .u8 x) h (by simpa [bc] using hk) rfl
  refine ⟨arr, h1, h2, ?_⟩
  rw [show (bc l).set k (.int .u8 x) = bc (l.set k x) by simp [bc, List.map_set]] at h3
  exact h3
theorem Bs.nil (m : Mem) : Bs m (.slice none 0 0) [] := .inl ⟨rfl, rfl⟩
theorem Bs.blk {m : Mem} {b : Nat} {l : List Int} {n : Nat} (hb : m b = some (.cells (bc l).toArray 5)) (hn : l.length = n) : Bs m (.slice (some ⟨b, 0, none⟩) n n) l := by
  subst hn
  refine .inr ⟨b, 0, l.length, l.length, _, rfl, hb, by simp [bc], Nat.le_refl _, by simp [bc], ?_, bc_one⟩
  intro j u hu; rw [Nat.zero_add, List.getElem?_toArray]; exact hu
theorem hU8 : tt.get 5 = some ⟨.int .u8, 1, 1, [.one (.int .u8 0)], false⟩ := by rfl
theorem hBs : tt.get 22 = some ⟨.slice 5, 1, 24, [.one (.slice none 0 0)], false⟩ := by rfl
/-- what an append of bytes leaves -/
structure BApd (m : Mem) (v : Value) (l : List Int) (v' : Value) (m' : Mem) : Prop where
  own : Bs m' v' l
  keep : ∀ b o, m b = some o → blkV v ≠ some b → m' b = some o
  new : ∀ b, blkV v' = some b → blkV v = some b ∨ m b = none
theorem appendB {m : Mem} {v x : Value} {l news : List Int} (hv : Bs m v l) (hg : La m x news) (hb : l.length + news.length ≤ 1000000000) :
    PrimSpec Try.prog (.builtin .append [22, 22]) [.v v, .v x] m fun r m' => ∃ v', r = [.v v'] ∧ BApd m v (l ++ news) v' m' := by
  have e1 := hv.len
  have e2 := hg.len
  refine (append_spec tt_ok hBs rfl hU8 hBs rfl hv hg.gives (by rw [e1, e2]; simp only; omega) (by rw [e1, e2]; omega)).mono fun r m' ⟨v', h1, h2⟩ => ⟨v', h1, ?_⟩
  rw [← bc_append] at h2
  exact ⟨h2.own, h2.keep, h2.new⟩
theorem appendBat {m p : Mem} {ls : List Mem} {i : Nat} {v x : Value} {l news : List Int} (hs : Split m ls) (hi : ls[i]? = some p) (hv : Bs p v l) (hg : La m x news) (hb : l.length + news.length ≤ 1000000000) :
    PrimSpec Try.prog (.builtin .append [22, 22]) [.v v, .v x] m fun r m' => ∃ v' p', r = [.v v'] ∧ Split m' (ls.set i p') ∧ BApd p v (l ++ news) v' p' := by
  have e1 := hv.len
  have e2 := hg.len
  refine (append_at tt_ok hBs rfl hU8 hBs rfl hs hi hv hg.gives (by rw [e1, e2]; simp only; omega) (by rw [e1, e2]; omega)).mono fun r m' ⟨v', p', h1, h2, h3⟩ => ⟨v', p', h1, h2, ?_⟩
  rw [← bc_append] at h3
  exact ⟨h3.own, h3.keep, h3.new⟩
theorem build1 {m : Mem} {x : Int} : PrimSpec Try.prog (.buildSlice 22 1 [0]) [.v (.int .u8 x)] m fun r m' => ∃ b, m b = none ∧ r = [.v (.slice (some ⟨b, 0, none⟩) 1 1)] ∧ m' = m.set b (.cells (bc [x]).toArray 5) :=
  buildSlice_spec (n := 1) tt_ok hBs rfl hU8 rfl rfl (by simp [CV.cs]) (by simp) (by simp)
theorem build2 {m : Mem} {x y : Int} : PrimSpec Try.prog (.buildSlice 22 2 [0, 1]) [.v (.int .u8 x), .v (.int .u8 y)] m fun r m' => ∃ b, m b = none ∧ r = [.v (.slice (some ⟨b, 0, none⟩) 2 2)] ∧ m' = m.set b (.cells (bc [x, y]).toArray 5) :=
  buildSlice_spec (n := 2) tt_ok hBs rfl hU8 rfl rfl (by simp [CV.cs]) (by simp) (by simp)
theorem build3 {m : Mem} {x y z : Int} : PrimSpec Try.prog (.buildSlice 22 3 [0, 1, 2]) [.v (.int .u8 x), .v (.int .u8 y), .v (.int .u8 z)] m fun r m' => ∃ b, m b = none ∧ r = [.v (.slice (some ⟨b, 0, none⟩) 3 3)] ∧ m' = m.set b (.cells (bc [x, y, z]).toArray 5) :=
  buildSlice_spec (n := 3) tt_ok hBs rfl hU8 rfl rfl (by simp [CV.cs]) (by simp) (by simp)
theorem conv_spec {m : Mem} {b n c : Nat} {l : List Int} (hb : m b = some (.cells (bc l).toArray 5)) : PrimSpec Try.prog (.conv 22 22) [.v (.slice (some ⟨b, 0, none⟩) n c)] m fun r m' => r = [.v (.slice (some ⟨b, 0, none⟩) n c)] ∧ m' = m.set b (.cells (bc l).toArray 5 ((bc l).toArray.size, (bc l).toArray.size + 1)) :=
  convConst_spec tt_ok hBs rfl hU8 rfl hb
theorem Bs.none0 {m : Mem} {b : Nat} (hb : m b = some (.cells #[] 5)) : Bs m (.slice (some ⟨b, 0, none⟩) 0 0) [] := Bs.blk (l := []) (by simpa [bc] using hb) rfl
theorem buildB0 {m : Mem} : PrimSpec Try.prog (.buildSlice 22 0 []) [] m fun r m' => ∃ b, m b = none ∧ r = [.v (.slice (some ⟨b, 0, none⟩) 0 0)] ∧ m' = m.set b (.cells #[] 5) :=
  buildSlice0_spec tt_ok hBs rfl hU8
theorem Lb.blk {m : Mem} {b : Nat} {l : List Int} {n : Nat} (hb : m b = some (.cells (bc l).toArray 5)) (hn : l.length = n) : Lb m (.slice (some ⟨b, 0, none⟩) n n) l := (Bs.blk hb hn).lb
/-- one byte more -/
theorem Bs.one {m : Mem} {ls : List Mem} {p : Mem} {b' : Nat} {y : Int} (hs : Split m (p :: ls)) (hb : m b' = none) {x : Value} {l : List Int} (hx : Bs p x l) (hl : l.length ≤ 100000000) :
    PrimSpec Try.prog (.builtin .append [22, 22]) [.v x, .v (.slice (some ⟨b', 0, none⟩) 1 1)] (m.set b' (.cells (bc [y]).toArray 5)) fun r m' => ∃ v' p', r = [.v v'] ∧ Split m' (p' :: ls) ∧ Bs p' v' (l ++ [y]) := by
  have hs1 := hs.new hb (.cells (bc [y]).toArray 5)
  refine (appendBat (i := 1) hs1 rfl hx (Lb.blk (l := [y]) (Mem.set_same ..) rfl).la (by simp; omega)).mono fun r m' ⟨v', p', h1, h2, h3⟩ => ⟨v', p', h1, h2.erase 0, h3.own⟩
/-- one byte, onto a slice: both operations' memory -/
theorem push_mem {m m' : Mem} {b' : Nat} {o : Obj} {v v' : Value} {l : List Int} (hb : m b' = none) (h : BApd (m.set b' o) v l v' m') : BApd m v l v' m' :=
  ⟨h.own, fun b u hm hn => h.keep b u (Mem.sub_set _ hb _ _ hm) hn, fun b hv => (h.new b hv).imp id fun hx => by
    by_cases e : b = b'
    · subst e; exact hb
    · rw [Mem.set_ne _ _ e] at hx; exact hx⟩
theorem Lb.own {m : Mem} {v : Value} {l : List Int} (h : Lb m v l) : (∃ c, v = .slice none 0 c) ∨ ∃ a c, v = .slice (some a) l.length c := by
  rcases h.cases with ⟨c, rfl, _⟩ | ⟨b, o, c, arr, t, fr, rfl, _⟩
  · exact .inl ⟨c, rfl⟩
  · exact .inr ⟨_, c, rfl⟩
end Go.E.Ytodgjanekjefbaa

/-
  More operations: how much room there is; new room.
-/
namespace Go.E
section
variable {P : Program} {T : Tab}
theorem cap_spec (hT : TabOk P T) {t e : TypeId} {ti : TI} (ht : T t = some ti) (hk : ti.k = .slice e) {m : Mem} {a : Option Addr} {n c : Nat} :
    PrimSpec P (.builtin .cap [t]) [.v (.slice a n c)] m fun r m' => r = [.v (.int .i64 c)] ∧ m = m' := by
  intro _ ty W hW
  refine ⟨[.v (.int .i64 c)], m, W, ?_, ?_, ⟨rfl, rfl⟩, After.refl hW⟩
  · simp [Prim.run, CV.val, resVal, Builtin.cap_, run_underlying ((hT t ti ht).slice hk)]; rfl
  · intro x hx; simp at hx; subst hx; rfl
theorem makeFunc_spec {f : FuncId} {n : Nat} {cs : List Value} {m : Mem} (hone : ∀ x ∈ cs, x.oneCell' = true) :
    PrimSpec P (.makeFunc (.func f) n) (cs.map CV.v) m fun r m' => r = [.v (.func (.func f) (cs.take n).toArray (cs.drop n).toArray)] ∧ m = m' := by
  intro _ ty W hW
  refine ⟨[.v (.func (.func f) (cs.take n).toArray (cs.drop n).toArray)], m, W, ?_, ?_, ⟨rfl, rfl⟩, After.refl hW⟩
  · simp [Prim.run, CV.val, resVal, Instr.makeFunc, List.map_map, Function.comp_def]
  · intro x hx; simp at hx; subst hx; rfl
theorem int_desc {d : TypeDesc} {k : IntKind} (h : TK.of d = .int k) : d = .int k := by
  cases d <;> simp [TK.of] at h; subst h; rfl
/-- append of k zeros, where there is no room for them: a new row -/
theorem appendZeros_spec (hT : TabOk P T) {t e tn : TypeId} {ti ei ni : TI} {kn : IntKind} (ht : T t = some ti) (hk : ti.k = .slice e) (he : T e = some ei) (hn : T tn = some ni) (hkn : ni.k = .int kn) (hpos : 0 < ei.size) {m : Mem} {v : Value} {a : Option Addr} {n c k : Nat} {l : List Value}
    (hv : v = .slice a n c) (hl : Lies m ei.size v l) (h0 : 0 < k) (hg : c < n + k) (hb : (2 * (n + k) + 768) * ei.bytes ≤ 281474976710656) (hb1 : n + k ≤ 9223372036854775807) :
    PrimSpec P (.builtin .append [t, tn]) [.v v, .v (.int .i64 k)] m fun r m' => ∃ b C, m b = none ∧ n + k ≤ C ∧ r = [.v (.slice (some ⟨b, 0, none⟩) (n + k) C)] ∧
      m' = m.set b (.cells (l.toArray ++ Builtin.zeroCells (LB.cells ei.zero).toArray k ++ Builtin.zeroCells (LB.cells ei.zero).toArray (C - (n + k))) e) := by
  intro _ ty W hW
  subst hv
  obtain ⟨j, hj, hjs, hjb, z, hjz, hzc⟩ := (hT e ei he).inf
  have hsl := (hT t ti ht).slice hk
  obtain ⟨d, h1, h2⟩ := (hT tn ni hn).desc
  rw [hkn] at h2
  have hd := int_desc h2
  subst hd
  have hold : (Builtin.firstCells j.size n (.slice a n c)).run P W.drew = .ok l.toArray W.drew := by
    rw [hjs]
    rcases hl with ⟨c', e', rfl⟩ | ⟨b, o, c', n', arr, t', fr, e', g1, g2, _, g3, g4⟩
    · cases e'; simp [Builtin.firstCells]
    · cases e'
      refine run_firstCells_some W.drew ei.size n _ n c l g2 (fun i u hu => ?_)
      rw [add_none]
      have hW1 : W.drew.heap[b]? = some (.cells arr t' fr) := hW _ _ g1
      rw [cell_at hW1]
      exact g3 i u hu
  have hbk : k * ei.bytes ≤ 281474976710656 := Nat.le_trans (Nat.mul_le_mul_right _ (by omega)) hb
  have hrun := Lib.run_append_grow_zeros W t tn ty e j z .i64 kn hsl h1 hj hjz a n c l hold k h0 (by omega) hg (by omega) (by rw [hjb]; exact hbk) (by rw [hjb]; exact Nat.le_trans (Nat.mul_le_mul_right _ (nextcap_le hg)) hb)
  have hcap := grownCap_ge W (n + k) c e
  generalize grownCap W (n + k) c e = C at hrun hcap
  rw [hzc] at hrun
  exact ⟨[.v (.slice (some ⟨W.heap.size, 0, none⟩) (n + k) C)], _, _, hrun, (by intro y hy; simp at hy; subst hy; rfl), ⟨W.heap.size, C, hW.none (Nat.le_refl _), hcap, rfl, rfl⟩, (After.refl hW).drew.alloc _⟩
end
end Go.E

/-
  Bytes: room made; lists of bytes, one behind the other.
-/
namespace Go.E.Ytodgjanekjefbaa
open Go.Proofs
set_option maxRecDepth 100000
theorem hI : tt.get 3 = some ⟨.int .i64, 1, 8, [.one (.int .i64 0)], false⟩ := by rfl
/-- new room for n bytes, with nothing in it -/
theorem grow_spec {m : Mem} {n : Nat} (hn : n ≤ 100000000) :
    Spec Try.prog 35 [.v (.slice none 0 0), .v (.int .i64 n)] m fun r m' => ∃ v p, r = [.v v] ∧ Split m' [p, m] ∧ Bs p v [] := by
  refine en35 rfl (goY ?_)
  conv => whnf
  refine ⟨fun h => absurd h (by (simp; try omega)), fun _ => ?_⟩
  conv => whnf
  refine .mk _ (cap_spec tt_ok hBs rfl) ?_
  rintro _ _ ⟨rfl, rfl⟩
  conv => whnf
  have e : IntKind.i64.wrap ((n : Int) - IntKind.i64.wrap (((0 : Nat) : Int) - ((0 : Nat) : Int))) = (n : Int) := by rw [wi (n := ((0 : Nat) : Int) - ((0 : Nat) : Int)) (by omega) (by omega), wi (by omega) (by omega)]; omega
  rw [e]
  refine ⟨fun h => ?_, fun h => ?_⟩
  · have h' := of_decide_eq_true h
    conv => whnf
    refine .mk _ (cap_spec tt_ok hBs rfl) ?_
    rintro _ _ ⟨rfl, rfl⟩
    conv => whnf
    repeat (refine And.intro (by first | omega | (simp only [times]; omega)) ?_; conv => whnf)
    refine .mk _ (appendZeros_spec (n := 0) (c := 0) (a := none) (l := []) tt_ok hBs rfl hU8 hI rfl (by decide) rfl (.inl ⟨0, rfl, rfl⟩) (by omega) (by omega) (by simp only; omega) (by omega)) ?_
    rintro _ _ ⟨b, C, hb, hC, rfl, rfl⟩
    conv => whnf
    repeat (refine And.intro (by first | omega | (simp only [times]; omega)) ?_; conv => whnf)
    intro o' h1 h2
    obtain rfl : o' = 0 := by have := h1 (by omega); simpa using this
    conv => whnf
    refine ⟨_, blk1 b _, rfl, (Split.one m).new hb _, .inr ⟨b, 0, C, 0, _, rfl, blk1_same .., rfl, Nat.zero_le _, ?_, by intro j u hu; simp [bc] at hu, by simp [bc]⟩⟩
    simp only [Array.size_append, zeroCells_size, List.size_toArray, List.length_nil, LB.cells, Seg.cells, List.length_append, List.length_cons]
    omega
  · have h' := of_decide_eq_false h
    conv => whnf
    exact ⟨_, emp, rfl, (Split.one m).addEmp, Bs.nil _⟩
/-- a list of bytes -/
structure Lists (m : Mem) (v : Value) (ps : List (Value × List Int)) : Prop where
  lies : Lies m 1 v (ps.map (·.1))
  la : ∀ p ∈ ps, La m p.1 p.2
theorem Lists.sub {m m' : Mem} {v : Value} {ps : List (Value × List Int)} (h : Lists m v ps) (hs : Sub m m') : Lists m' v ps := ⟨h.lies.sub hs, fun p hp => (h.la p hp).sub hs⟩
theorem Lists.shape {m : Mem} {v : Value} {ps : List (Value × List Int)} (h : Lists m v ps) : ∃ a c, v = .slice a ps.length c := by
  rcases h.lies with ⟨c, rfl, e⟩ | ⟨b, o, c, n, arr, t, fr, rfl, _, e, _⟩
  · have : ps.length = 0 := by simpa using congrArg List.length e
    exact ⟨none, c, by rw [this]⟩
  · have : ps.length = n := by simpa using e
    exact ⟨_, c, by rw [this]⟩
theorem Lists.real {m : Mem} {v : Value} {ps : List (Value × List Int)} (h : Lists m v ps) {i : Nat} (hi : i < ps.length) : ∃ b o c, v = .slice (some ⟨b, o, none⟩) ps.length c ∧ ∀ (i : Nat) (hi : i < ps.length), mcell m b (o + i) = some ps[i].1 := by
  rcases h.lies with ⟨c, rfl, e⟩ | ⟨b, o, c, n, arr, t, fr, rfl, g1, e, _, g2, _⟩
  · have : ps.length = 0 := by simpa using congrArg List.length e
    omega
  · have : ps.length = n := by simpa using e
    exact ⟨b, o, c, by rw [this], fun j hj => mcell_of g1 (g2 j _ (by simp [hj]))⟩
def catB (ps : List (Value × List Int)) : List Int := (ps.map (·.2)).flatten
theorem catB_take {ps : List (Value × List Int)} {i : Nat} (h : i < ps.length) : catB (ps.take i) ++ ps[i].2 = catB (ps.take (i + 1)) := by
  rw [List.take_succ_eq_append_getElem h, catB, catB, List.map_append, List.flatten_append]; simp
theorem catB_le {ps : List (Value × List Int)} (i : Nat) : (catB (ps.take i)).length ≤ (catB ps).length := by
  have e : catB ps = catB (ps.take i) ++ catB (ps.drop i) := by
    rw [catB, catB, catB, ← List.flatten_append, ← List.map_append, List.take_append_drop]
  rw [e, List.length_append]; omega
theorem iadd' {i : Nat} (h : i < 1000000000000) : IntKind.i64.wrap ((i : Int) + 1) = ((i + 1 : Nat) : Int) := by rw [wi (by omega) (by omega)]; omega
set_option maxHeartbeats 1000000 in
theorem concat_spec {m : Mem} {v : Value} {ps : List (Value × List Int)} (h : Lists m v ps) (hb : (catB ps).length ≤ 10000000) (hn : ps.length ≤ 10000000) :
    Spec Try.prog 26 [.v v] m fun r m' => ∃ v' p, r = [.v v'] ∧ Split m' [p, m] ∧ Bs p v' (catB ps) := by
  obtain ⟨a, c, rfl⟩ := h.shape
  refine en26 rfl (goY ?_)
  conv => whnf
  refine .mk (ι := Nat) (fun i => ps.length - i) (fun i mm => i ≤ ps.length ∧ mm = m) (fun i => [(0, .c (.v (.slice a ps.length c))), (3, .c (i64 (catB (ps.take i)).length)), (9, .c (.v (.slice a ps.length c))), (10, .c (i64 ps.length)), (11, .c (i64 i))]) (fun _ => []) 0 ⟨by omega, rfl⟩ ?_ ?_
  · conv => whnf
    repeat (refine And.intro (by first | with_reducible rfl | exact congrArg (Value.int _) (wi (by omega) (by omega)) | exact wi (by omega) (by omega) | rfl) ?_; conv => whnf)
    first | exact trivial | exact fun _ _ h => h
  rintro i mm ⟨hi, he⟩
  subst mm
  conv => whnf
  refine ⟨fun h1 => ?_, fun h1 => ?_⟩
  · have h1' := of_decide_eq_true h1
    have hlt : i < ps.length := by omega
    obtain ⟨b, o, c', e, hat⟩ := h.real hlt
    cases e
    have hla := h.la ps[i] (by simp)
    obtain ⟨ai, ci, hvi⟩ := hla.shape
    have hc := hat i hlt
    rw [hvi] at hc
    have hle := catB_le (ps := ps) (i + 1)
    rw [← catB_take hlt, List.length_append] at hle
    conv => whnf
    repeat (refine And.intro (by first | omega | (simp only [times]; omega)) ?_; conv => whnf)
    refine ⟨_, hc, rfl, ?_⟩
    conv => whnf
    have e3 : IntKind.i64.wrap (((catB (ps.take i)).length : Int) + (ps[i].2.length : Int)) = ((catB (ps.take (i + 1))).length : Int) := by
      rw [← catB_take hlt, List.length_append, wi (by omega) (by omega)]; omega
    rw [e3]
    refine ⟨fun h => absurd h (by (simp; try omega)), fun _ => ?_⟩
    conv => whnf
    refine ⟨i + 1, ⟨by omega, rfl⟩, by omega, ?_⟩
    conv => whnf
    repeat (refine And.intro (by first | with_reducible rfl | (exact congrArg (Value.int _) (iadd' (by omega))) | exact congrArg (Value.int _) (wi (by omega) (by omega)) | exact wi (by omega) (by omega) | rfl) ?_; conv => whnf)
    first | exact trivial | exact fun _ _ h => h
  · have h1' := of_decide_eq_false h1
    obtain rfl : i = ps.length := by omega
    rw [List.take_length]
    conv => whnf
    refine xcall (grow_spec (n := (catB ps).length) (by omega)) ?_
    rintro _ m2 ⟨v2, p2, rfl, hs2, hv2⟩
    conv => whnf
    refine .mk (ι := Nat × Value) (fun i => ps.length - i.1) (fun ⟨i, x⟩ mm => i ≤ ps.length ∧ ∃ p, Split mm [p, m] ∧ Bs p x (catB (ps.take i))) (fun ⟨i, x⟩ => [(6, .c (.v x)), (25, .c (.v (.slice a ps.length c))), (26, .c (i64 ps.length)), (27, .c (i64 i))]) (fun _ => []) (0, v2) ⟨by omega, p2, hs2, by simpa [catB] using hv2⟩ ?_ ?_
    · conv => whnf
      repeat (refine And.intro (by first | with_reducible rfl | exact congrArg (Value.int _) (wi (by omega) (by omega)) | exact wi (by omega) (by omega) | rfl) ?_; conv => whnf)
      first | exact trivial | exact fun _ _ h => h
    rintro ⟨i, x⟩ mm ⟨hi, p, hs, hx⟩
    conv => whnf
    refine ⟨fun h2 => ?_, fun h2 => ?_⟩
    · have h2' := of_decide_eq_true h2
      have hlt : i < ps.length := by omega
      obtain ⟨b, o, c', e, hat⟩ := h.real hlt
      cases e
      have hla := h.la ps[i] (by simp)
      have hle := catB_le (ps := ps) (i + 1)
      rw [← catB_take hlt, List.length_append] at hle
      have hc : mcell mm b (o + i) = some ps[i].1 := by
        have := hat i hlt
        unfold mcell at this ⊢
        split at this
        · rename_i arr t fr hm
          rw [hs.at (i := 1) rfl _ _ hm]; exact this
        · cases this
      conv => whnf
      repeat (refine And.intro (by first | omega | (simp only [times]; omega)) ?_; conv => whnf)
      refine ⟨_, hc, hla.one, ?_⟩
      conv => whnf
      refine .mk _ (appendBat (i := 0) hs rfl hx (hla.sub (hs.at (i := 1) rfl)) (by omega)) ?_
      rintro _ m3 ⟨v3, p3, rfl, hs3, hv3⟩
      conv => whnf
      refine ⟨(i + 1, v3), ⟨by omega, p3, hs3, ?_⟩, by simp only; omega, ?_⟩
      · have := hv3.own
        rw [catB_take hlt] at this; exact this
      · conv => whnf
        repeat (refine And.intro (by first | with_reducible rfl | (exact congrArg (Value.int _) (iadd' (by omega))) | exact congrArg (Value.int _) (wi (by omega) (by omega)) | exact wi (by omega) (by omega) | rfl) ?_; conv => whnf)
        first | exact trivial | exact fun _ _ h => h
    · have h2' := of_decide_eq_false h2
      obtain rfl : i = ps.length := by omega
      rw [List.take_length] at hx
      conv => whnf
      exact ⟨x, p, rfl, hs, hx⟩
theorem hLs : tt.get 33 = some ⟨.slice 22, 1, 24, [.one (.slice none 0 0)], false⟩ := by rfl
theorem buildL1 {m : Mem} {x : Value} : PrimSpec Try.prog (.buildSlice 33 1 [0]) [.v x] m fun r m' => ∃ b, m b = none ∧ r = [.v (.slice (some ⟨b, 0, none⟩) 1 1)] ∧ m' = m.set b (.cells #[x] 22) :=
  buildSlice_spec (n := 1) tt_ok hLs rfl hBs rfl rfl (by simp [CV.cs]) (by simp) (by simp)
theorem buildL2 {m : Mem} {x y : Value} : PrimSpec Try.prog (.buildSlice 33 2 [0, 1]) [.v x, .v y] m fun r m' => ∃ b, m b = none ∧ r = [.v (.slice (some ⟨b, 0, none⟩) 2 2)] ∧ m' = m.set b (.cells #[x, y] 22) :=
  buildSlice_spec (n := 2) tt_ok hLs rfl hBs rfl rfl (by simp [CV.cs]) (by simp) (by simp)
theorem Lists.blk {m : Mem} {b n : Nat} {ps : List (Value × List Int)} {t : TypeId} {fr : Nat × Nat} (h : m b = some (.cells (ps.map (·.1)).toArray t fr)) (hn : ps.length = n) (hl : ∀ p ∈ ps, La m p.1 p.2) : Lists m (.slice (some ⟨b, 0, none⟩) n n) ps := by
  refine ⟨.inr ⟨b, 0, n, n, _, _, _, rfl, h, by simp [hn], Nat.le_refl _, fun j u hu => by simpa using hu, fun u hu => ?_⟩, fun p hp => hl p hp⟩
  obtain ⟨p, hp, rfl⟩ := List.mem_map.1 hu
  exact (hl p hp).one
theorem Lists.one {m : Mem} {b : Nat} {v : Value} {l : List Int} {t : TypeId} {fr : Nat × Nat} (h : m b = some (.cells #[v] t fr)) (hl : La m v l) : Lists m (.slice (some ⟨b, 0, none⟩) 1 1) [(v, l)] :=
  Lists.blk (ps := [(v, l)]) h rfl (by simpa using hl)
theorem Lists.two {m : Mem} {b : Nat} {v w : Value} {l k : List Int} {t : TypeId} {fr : Nat × Nat} (h : m b = some (.cells #[v, w] t fr)) (hl : La m v l) (hk : La m w k) : Lists m (.slice (some ⟨b, 0, none⟩) 2 2) [(v, l), (w, k)] :=
  Lists.blk (ps := [(v, l), (w, k)]) h rfl (by simpa using ⟨hl, hk⟩)
theorem Lists.three {m : Mem} {b : Nat} {v w u : Value} {l k j : List Int} {t : TypeId} {fr : Nat × Nat} (h : m b = some (.cells #[v, w, u] t fr)) (hl : La m v l) (hk : La m w k) (hj : La m u j) : Lists m (.slice (some ⟨b, 0, none⟩) 3 3) [(v, l), (w, k), (u, j)] :=
  Lists.blk (ps := [(v, l), (w, k), (u, j)]) h rfl (by simpa using ⟨hl, hk, hj⟩)
theorem buildL3 {m : Mem} {x y z : Value} : PrimSpec Try.prog (.buildSlice 33 3 [0, 1, 2]) [.v x, .v y, .v z] m fun r m' => ∃ b, m b = none ∧ r = [.v (.slice (some ⟨b, 0, none⟩) 3 3)] ∧ m' = m.set b (.cells #[x, y, z] 22) :=
  buildSlice_spec (n := 3) tt_ok hLs rfl hBs rfl rfl (by simp [CV.cs]) (by simp) (by simp)
/-- one piece more -/
theorem pushL {m : Mem} {ls : List Mem} {p : Mem} {b' : Nat} {x y : Value} {vs : List Value} (hs : Split m (p :: ls)) (hb : m b' = none) (hx : x.oneCell' = true) (hy : Own p 22 1 y vs) (hl : vs.length ≤ 100000000) :
    PrimSpec Try.prog (.builtin .append [33, 33]) [.v y, .v (.slice (some ⟨b', 0, none⟩) 1 1)] (m.set b' (.cells #[x] 22)) fun r m' => ∃ y' p', r = [.v y'] ∧ Split m' (p' :: ls) ∧ Own p' 22 1 y' (vs ++ [x]) := by
  have hs1 := hs.new hb (.cells #[x] 22)
  have e1 := hy.lies.len
  have e2 : lenV (.slice (some ⟨b', 0, none⟩) 1 1) = 1 := rfl
  have g : Gives (m.set b' (.cells #[x] 22)) 1 (.slice 22) (.slice (some ⟨b', 0, none⟩) 1 1) [x] :=
    .inl ⟨_, rfl, .inl (.inr ⟨b', 0, 1, 1, _, _, _, rfl, Mem.set_same .., rfl, Nat.le_refl _, fun j u hu => by simpa using hu, by simpa using hx⟩)⟩
  refine (append_at tt_ok hLs rfl hBs hLs rfl hs1 (i := 1) rfl hy g (by rw [e2]; simp only; omega) (by rw [e2]; omega)).mono fun r m' ⟨v', p', h1, h2, h3⟩ => ⟨v', p', h1, h2.erase 0, h3.own⟩
theorem Lists.own {m p : Mem} {y : Value} {ps : List (Value × List Int)} (hy : Own p 22 1 y (ps.map (·.1))) (hs : Sub p m) (hl : ∀ q ∈ ps, La m q.1 q.2) : Lists m y ps :=
  ⟨hy.lies.sub hs, fun q hq => hl q hq⟩
end Go.E.Ytodgjanekjefbaa

/-
  Contracts of sha: bytes with what stands behind them.
-/
namespace Go.E.Ytodgjanekjefbaa
open Go.Proofs
set_option maxRecDepth 100000
theorem nc_append (a b : List Nat) : nc (a ++ b) = nc a ++ nc b := by simp [nc]
theorem zeros_at {n k : Nat} (hk : k ≤ Sha.zeros n) : (n + 1 + k) % 64 = 56 ↔ k = Sha.zeros n := by
  unfold Sha.zeros at *
  omega
theorem be8_len (n : Nat) : (Sha.be8 n).length = 8 := by simp [Sha.be8]
theorem be8_byte {n j : Nat} (hj : j < 8) : IntKind.u8.wrap (shrOf .u64 (n : Int) ((8 * (7 - j) : Nat) : Int)) = ((n / 256 ^ (7 - j) % 256 : Nat) : Int) := by
  rw [shr_nat (by show 8 * (7 - j) ≤ 64; omega), IntKind.wrap_u8]
  have : 2 ^ (8 * (7 - j)) = 256 ^ (7 - j) := by rw [show (256 : Nat) = 2 ^ 8 from rfl, ← Nat.pow_mul]
  rw [this]; rfl
theorem be8_take {n j : Nat} (hj : j < 8) : (Sha.be8 n).take j ++ [n / 256 ^ (7 - j) % 256] = (Sha.be8 n).take (j + 1) := by
  rw [List.take_succ_eq_append_getElem (by rw [be8_len]; exact hj)]; simp [Sha.be8]
set_option maxHeartbeats 2000000 in
theorem padded_spec {m : Mem} {v : Value} {ps : List (Value × List Int)} {l : List Nat} (h : Lists m v ps) (hcat : catB ps = nc l) (hb : l.length ≤ 1000000) (hn : ps.length ≤ 10000000) :
    Spec Try.prog 18 [.v v] m fun r m' => ∃ v' p, r = [.v v'] ∧ Split m' [p, m] ∧ Bs p v' (nc (Sha.pad l)) := by
  have hlen : (catB ps).length = l.length := by rw [hcat]; simp
  refine en18 rfl (goY ?_)
  conv => whnf
  refine xcall (concat_spec h (by omega) hn) ?_
  rintro _ m1 ⟨v1, p1, rfl, hs1, hv1⟩
  conv => whnf
  rw [hcat] at hv1
  obtain ⟨a1, c1, rfl⟩ := hv1.lb.shape
  conv => whnf
  refine .mk _ (build1) ?_
  rintro _ _ ⟨b', hb', rfl, rfl⟩
  conv => whnf
  refine .mk _ (Bs.one hs1 hb' hv1 (by simp; omega)) ?_
  rintro _ m2 ⟨v2, p2, rfl, hs2, hv2⟩
  conv => whnf
  have hz : Sha.zeros l.length < 64 := Nat.mod_lt _ (by decide)
  have en : IntKind.u64.wrap (IntKind.u64.wrap ((l.length : Nat) : Int) * 8) = ((8 * l.length : Nat) : Int) := by rw [wu (n := ((l.length : Nat) : Int)) (by omega) (by omega), wu (by omega) (by omega)]; omega
  refine .mk (ι := Nat × Value) (fun i => Sha.zeros l.length - i.1) (fun ⟨k, x⟩ mm => k ≤ Sha.zeros l.length ∧ ∃ p, Split mm [p, m] ∧ Bs p x (nc (l ++ [128] ++ List.replicate k 0))) (fun ⟨k, x⟩ => [(3, .c (.v x)), (4, .c (u64 ((8 * l.length : Nat) : Int)))]) (fun _ => []) (0, v2) ⟨by omega, p2, hs2, by simpa using hv2⟩ ?_ ?_
  · conv => whnf
    repeat (refine And.intro (by first | with_reducible rfl | ((first | exact congrArg (Value.int _) en | (simp only [nc, List.length_map]; exact congrArg (Value.int _) en))) | exact congrArg (Value.int _) (wi (by omega) (by omega)) | exact wi (by omega) (by omega) | rfl) ?_; conv => whnf)
    first | exact trivial | exact fun _ _ h => h
  rintro ⟨k, x⟩ mm ⟨hk, p, hs, hx⟩
  obtain ⟨a, c, rfl⟩ := hx.lb.shape
  have hln : (nc (l ++ [128] ++ List.replicate k 0)).length = l.length + 1 + k := by simp; omega
  rw [hln] at hx ⊢
  conv => whnf
  have erem : Int.tmod ((l.length + 1 + k : Nat) : Int) 64 = (((l.length + 1 + k) % 64 : Nat) : Int) := by rw [Int.tmod_eq_emod_of_nonneg (by omega)]; omega
  refine ⟨fun h1 => ?_, fun h1 => ?_⟩
  · have hne : k ≠ Sha.zeros l.length := by
      intro e
      have := (zeros_at hk).2 e
      simp only [erem, this] at h1
      revert h1; decide
    conv => whnf
    refine .mk _ (build1) ?_
    rintro _ _ ⟨b', hb', rfl, rfl⟩
    conv => whnf
    refine .mk _ (Bs.one hs hb' hx (by simp; omega)) ?_
    rintro _ m3 ⟨v3, p3, rfl, hs3, hv3⟩
    conv => whnf
    refine ⟨(k + 1, v3), ⟨by omega, p3, hs3, ?_⟩, by simp only; omega, ?_⟩
    · have e : nc (l ++ [128] ++ List.replicate (k + 1) 0) = nc (l ++ [128] ++ List.replicate k 0) ++ [0] := by
        rw [List.replicate_succ', ← List.append_assoc, nc_append]; rfl
      rw [e]; exact hv3
    · conv => whnf
      repeat (refine And.intro (by first | with_reducible rfl | exact congrArg (Value.int _) (wi (by omega) (by omega)) | exact wi (by omega) (by omega) | rfl) ?_; conv => whnf)
      first | exact trivial | exact fun _ _ h => h
  · have hke : k = Sha.zeros l.length := by
      refine (zeros_at hk).1 ?_
      simp only [erem] at h1
      have := h1
      simp at this
      omega
    subst hke
    conv => whnf
    refine .mk (ι := Nat × Value) (fun i => 8 - i.1) (fun ⟨j, x⟩ mm => j ≤ 8 ∧ ∃ p, Split mm [p, m] ∧ Bs p x (nc (l ++ [128] ++ List.replicate (Sha.zeros l.length) 0 ++ (Sha.be8 (8 * l.length)).take j))) (fun ⟨j, x⟩ => [(3, .c (.v x)), (4, .c (u64 ((8 * l.length : Nat) : Int))), (5, .c (i64 (7 - (j : Int))))]) (fun _ => []) (0, _) ⟨by omega, p, hs, by simpa using hx⟩ ?_ ?_
    · conv => whnf
      repeat (refine And.intro (by first | with_reducible rfl | exact congrArg (Value.int _) (wi (by omega) (by omega)) | exact wi (by omega) (by omega) | rfl) ?_; conv => whnf)
      first | exact trivial | exact fun _ _ h => h
    rintro ⟨j, x⟩ mm ⟨hj, p, hs, hx⟩
    conv => whnf
    refine ⟨fun h2 => ?_, fun h2 => ?_⟩
    · have h2' := of_decide_eq_true h2
      have hjt : j < 8 := by omega
      have ej : IntKind.i64.wrap (8 * (7 - (j : Int))) = ((8 * (7 - j) : Nat) : Int) := by rw [wi (by omega) (by omega)]; omega
      conv => whnf
      rw [ej]
      repeat (refine And.intro (by first | omega | (simp only [times]; omega)) ?_; conv => whnf)
      rw [be8_byte hjt]
      refine .mk _ (build1) ?_
      rintro _ _ ⟨b', hb', rfl, rfl⟩
      conv => whnf
      refine .mk _ (Bs.one hs hb' hx (by simp [be8_len]; omega)) ?_
      rintro _ m3 ⟨v3, p3, rfl, hs3, hv3⟩
      conv => whnf
      refine ⟨(j + 1, v3), ⟨by omega, p3, hs3, ?_⟩, by simp only; omega, ?_⟩
      · have e : nc (l ++ [128] ++ List.replicate (Sha.zeros l.length) 0 ++ (Sha.be8 (8 * l.length)).take (j + 1)) = nc (l ++ [128] ++ List.replicate (Sha.zeros l.length) 0 ++ (Sha.be8 (8 * l.length)).take j) ++ [((8 * l.length / 256 ^ (7 - j) % 256 : Nat) : Int)] := by
          rw [← be8_take hjt, ← List.append_assoc, nc_append (l ++ [128] ++ List.replicate (Sha.zeros l.length) 0 ++ (Sha.be8 (8 * l.length)).take j)]; rfl
        rw [e]; exact hv3
      · conv => whnf
        repeat (refine And.intro (by first | with_reducible rfl | (exact congrArg (Value.int _) (by rw [wi (by omega) (by omega)]; omega)) | exact congrArg (Value.int _) (wi (by omega) (by omega)) | exact wi (by omega) (by omega) | rfl) ?_; conv => whnf)
        first | exact trivial | exact fun _ _ h => h
    · have h2' := of_decide_eq_false h2
      obtain rfl : j = 8 := by omega
      conv => whnf
      rw [List.take_of_length_le (by rw [be8_len]; omega)] at hx
      exact ⟨_, p, rfl, hs, hx⟩
end Go.E.Ytodgjanekjefbaa

/-
  Contracts of sha: the digest of lists of bytes.
-/
namespace Go.E.Ytodgjanekjefbaa
open Go.Proofs
set_option maxRecDepth 100000
abbrev ptrV (b : Nat) : CV := .v (.pointer (some ⟨b, 0, none⟩))
theorem chunk_spec {m : Mem} {v : Value} (hv : v.oneCell' = true) : Spec Try.prog 17 [.v v, .v (.int .i64 64)] m fun r m' => ∃ b1 b2, m b1 = none ∧ (m.set b1 (.cells #[v] 22)) b2 = none ∧
    r = [.v (.func (.func 25) #[] #[.pointer (some ⟨b1, 0, none⟩), .pointer (some ⟨b2, 0, none⟩)])] ∧ m' = (m.set b1 (.cells #[v] 22)).set b2 (.cells #[.int .i64 64] 3) := by
  refine en17 rfl (goY ?_)
  conv => whnf
  intro b1 hb1
  conv => whnf
  intro b2 hb2
  conv => whnf
  refine ⟨_, mcell_of (Mem.set_same ..) rfl, rfl, ?_⟩
  conv => whnf
  refine ⟨fun h => absurd h (by decide), fun _ => ?_⟩
  conv => whnf
  refine .mk _ (makeFunc_spec (cs := [.pointer (some ⟨b1, 0, none⟩), .pointer (some ⟨b2, 0, none⟩)]) (by simp [Value.oneCell'])) ?_
  rintro _ _ ⟨rfl, rfl⟩
  conv => whnf
  exact ⟨b1, b2, hb1, hb2, rfl, rfl⟩
/-- the k-th piece -/
abbrev piece (b o k : Nat) : CV := .v (.slice (some ⟨b, o + 64 * k, none⟩) 64 64)
set_option maxHeartbeats 2000000 in
theorem chunkIter_spec {I : Nat → Mem → Prop} {l b1 b2 b o n c : Nat} (hn : n ≤ 1000000000) (hc : 64 * n ≤ c)
    (hI : ∀ k m, I k m → m b1 = some (.cells #[.slice (some ⟨b, o, none⟩) (64 * n) c] 22) ∧ m b2 = some (.cells #[.int .i64 64] 3))
    (hy : ∀ k m, k < n → I k m → YSpec Try.prog l [piece b o k] m fun r m' => r = [.v (.bool true)] ∧ I (k + 1) m') {m : Mem} (h0 : I 0 m) :
    Spec Try.prog 25 [.v (.func (.yield l) #[] #[]), ptrV b1, ptrV b2] m fun r m' => r = [] ∧ I n m' := by
  refine en25 rfl (goY ?_)
  conv => whnf
  refine .mk (ι := Nat) (fun k => n - k) (fun k mm => k ≤ n ∧ I k mm) (fun k => [(0, .c (.v (.func (.yield l) #[] #[]))), (1, .c (ptrV b1)), (2, .c (ptrV b2)), (4, .c (i64 ((64 * k : Nat) : Int)))]) (fun _ => []) 0 ⟨by omega, h0⟩ ?_ ?_
  · conv => whnf
    repeat (refine And.intro (by first | with_reducible rfl | exact congrArg (Value.int _) (wi (by omega) (by omega)) | exact wi (by omega) (by omega) | rfl) ?_; conv => whnf)
    first | exact trivial | exact fun _ _ h => h
  rintro k mm ⟨hk, hi⟩
  obtain ⟨g1, g2⟩ := hI k mm hi
  conv => whnf
  refine ⟨.slice (some ⟨b, o, none⟩) (64 * n) c, mcell_of g1 rfl, rfl, ?_⟩
  conv => whnf
  refine ⟨fun h1 => ?_, fun h1 => ?_⟩
  · have h1' := of_decide_eq_true h1
    have hlt : k < n := by omega
    conv => whnf
    refine ⟨.int .i64 64, mcell_of g2 rfl, rfl, ?_⟩
    conv => whnf
    refine ⟨.slice (some ⟨b, o, none⟩) (64 * n) c, mcell_of g1 rfl, rfl, ?_⟩
    have e : min (64:Int) (((64 * n - (((64 * k : Nat) : Int)).toNat : Nat) : Int)) = 64 := by omega
    conv => whnf
    repeat (refine And.intro (by first | omega | (simp only [times]; omega)) ?_; conv => whnf)
    intro o1 ho1 ho2
    have ho1 : o1 = o + 64 * k := by
      by_cases hck : c = 64 * k
      · omega
      · have := ho1 hck
        have h2 : (({ k := TK.int Go.IntKind.u8, size := 1, bytes := 1, zero := [Seg.one (Value.int Go.IntKind.u8 0)], eq := false } : TI)).size = 1 := rfl
        rw [this, h2]
        omega
    subst o1
    conv => whnf
    refine ⟨.slice (some ⟨b, o, none⟩) (64 * n) c, mcell_of g1 rfl, rfl, ?_⟩
    conv => whnf
    rw [e]
    have w1 : Go.IntKind.wrap .i64 (((64 * k : Nat) : Int) + 64) = ((64 * k + 64 : Nat) : Int) := wi (by omega) (by omega)
    rw [w1]
    conv => whnf
    repeat (refine And.intro (by first | omega | (simp only [times]; omega)) ?_; conv => whnf)
    intro o2 ho3 _
    have h2 : (({ k := TK.int Go.IntKind.u8, size := 1, bytes := 1, zero := [Seg.one (Value.int Go.IntKind.u8 0)], eq := false } : TI)).size = 1 := rfl
    obtain rfl : o2 = o + 64 * k := by
      rw [ho3 (by omega), h2]
      omega
    have w2 : (((64 * k + 64 : Nat) : Int)).toNat - (((64 * k : Nat) : Int)).toNat = 64 := by omega
    conv => whnf
    rw [w2]
    refine .mk _ (hy k mm hlt hi) ?_
    rintro _ m' ⟨rfl, hi'⟩
    conv => whnf
    refine ⟨fun h => absurd h (by decide), fun _ => ?_⟩
    conv => whnf
    refine ⟨.int .i64 64, mcell_of (hI _ _ hi').2 rfl, rfl, ?_⟩
    conv => whnf
    refine ⟨k + 1, ?_⟩
    refine ⟨⟨by omega, hi'⟩, by omega, ?_⟩
    rw [w1]
    repeat (refine And.intro (by first | with_reducible rfl | exact congrArg (Value.int _) (wi (by omega) (by omega)) | exact wi (by omega) (by omega) | rfl) ?_; conv => whnf)
    first | exact trivial | exact fun _ _ h => h
    all_goals exact congrArg (Value.int _) (by omega)
  · have h1' := of_decide_eq_false h1
    obtain rfl : k = n := by omega
    conv => whnf
    exact ⟨rfl, hi⟩
end Go.E.Ytodgjanekjefbaa

/-
  Contracts of sha: the digest of lists of bytes.
-/
namespace Go.E.Ytodgjanekjefbaa
open Go.Proofs
set_option maxRecDepth 100000
theorem Lb.piece {m : Mem} {b o n c : Nat} {l : List Int} (h : Lb m (.slice (some ⟨b, o, none⟩) n c) l) (i len : Nat) (hk : i + len ≤ l.length) : Lb m (.slice (some ⟨b, o + i, none⟩) len len) ((l.drop i).take len) := by
  rcases h.cases with ⟨c, h1, h2⟩ | ⟨b', o', c', arr, t, fr, h1, h2, h3, h4⟩
  · cases h1
  · cases h1
    refine Lb.mk h2 (by simp; omega) (Nat.le_refl _) (fun j x hj => ?_)
    rw [List.getElem?_take] at hj
    split at hj
    · rw [List.getElem?_drop] at hj
      rw [Nat.add_assoc]; exact h4 _ _ hj
    · cases hj
theorem Lb.cap {m : Mem} {b o n c : Nat} {l : List Int} (h : Lb m (.slice (some ⟨b, o, none⟩) n c) l) : l.length ≤ c := by
  rcases h.cases with ⟨c, h1, h2⟩ | ⟨b', o', c', arr, t, fr, h1, h2, h3, h4⟩
  · cases h1
  · cases h1; exact h3
theorem blocks_succ : ∀ (k : Nat) (h p : List Nat), Sha.blocks h (k + 1) p = Sha.block (Sha.blocks h k p) ((p.drop (64 * k)).take 64)
  | 0, h, p => by simp [Sha.blocks]
  | k + 1, h, p => by
    rw [Sha.blocks, blocks_succ k, Sha.blocks, List.drop_drop]
    congr 3; omega
theorem add8_w8 (h v : List Nat) : W8 (Sha.add8 h v) := by
  refine ⟨by simp [Sha.add8], fun j => getD_lt (by decide) (fun x hx => ?_) j⟩
  simp only [Sha.add8, List.mem_map] at hx
  obtain ⟨i, _, rfl⟩ := hx
  exact Nat.mod_lt _ (by decide)
theorem blocks_w8 {h : List Nat} (hh : W8 h) (p : List Nat) : ∀ k, W8 (Sha.blocks h k p)
  | 0 => hh
  | k + 1 => by rw [blocks_succ]; exact add8_w8 _ _
theorem H0_w8 : W8 Sha.H0 := ⟨rfl, fun j => getD_lt (by decide) (by decide) j⟩
theorem pad_len (l : List Nat) : (Sha.pad l).length = 64 * ((Sha.pad l).length / 64) := by
  have : (Sha.pad l).length % 64 = 0 := by
    simp only [Sha.pad, List.length_append, List.length_replicate, be8_len, List.length_cons, List.length_nil, Sha.zeros]
    omega
  omega
theorem pad_le (l : List Nat) : (Sha.pad l).length ≤ l.length + 73 := by
  simp only [Sha.pad, List.length_append, List.length_replicate, be8_len, List.length_cons, List.length_nil, Sha.zeros]
  omega
theorem pad_byte {l : List Nat} (h : ∀ x ∈ l, x < 256) : ∀ x ∈ Sha.pad l, x < 256 := by
  intro x hx
  simp only [Sha.pad, List.mem_append, List.mem_singleton, List.mem_replicate, Sha.be8, List.mem_map] at hx
  rcases hx with ((h1 | rfl) | ⟨_, rfl⟩) | ⟨i, _, rfl⟩
  · exact h _ h1
  · decide
  · decide
  · exact Nat.mod_lt _ (by decide)
theorem over_obj {old : List Value} {new : LB} {t : TypeId} (hk : old.length ≤ LB.size new) : Obj.cells ((old.toArray).toList.take 0 ++ (LB.cells new ++ (old.toArray).toList.drop (0 + LB.size new))).toArray t = .cells (LB.cells new).toArray t := by
  have : (old.toArray).toList.drop (0 + LB.size new) = [] := List.drop_eq_nil_of_le (by simpa using hk)
  rw [this]; simp
abbrev st8 (h : List Nat) : Obj := .cells (LB.cells [.ints .u32 8 (nc h)]).toArray 46
abbrev dg32 (h : List Int) : Obj := .cells (LB.cells [.ints .u8 32 h]).toArray 25
set_option maxHeartbeats 2000000 in
theorem sum_spec {m : Mem} {v : Value} {ps : List (Value × List Int)} {l : List Nat} (h : Lists m v ps) (hcat : catB ps = nc l) (hb : l.length ≤ 1000000) (hn : ps.length ≤ 10000000) (h256 : ∀ x ∈ l, x < 256) :
    Spec Try.prog 8 [.v v] m fun r m' => r = [.a [.ints .u8 32 (nc (Sha.sum l))]] ∧ Sub m m' := by
  refine en8 rfl (goY ?_)
  conv => whnf
  intro bo hbo
  conv => whnf
  first | refine xretk (first_spec) ?_ | refine xret (first_spec) ?_
  conv => whnf
  intro b3 hb3
  conv => whnf
  refine ⟨_, _, _, Mem.set_same .., ⟨by decide, fun j _ => by simp⟩, ?_⟩
  have hs := (((Split.one m).new hbo (dg32 (List.replicate 32 0))).new hb3 (st8 (List.replicate 8 0))).setAt (i := 0) rfl (blk1_same ..) (st8 Sha.H0)
  rw [blk1_set] at hs
  change Split _ [blk1 b3 (st8 Sha.H0), blk1 bo (dg32 (List.replicate 32 0)), m] at hs
  conv => whnf
  obtain ⟨M1, hM⟩ : ∃ M1, M1 = ((m.set bo (dg32 (List.replicate 32 0))).set b3 (st8 (List.replicate 8 0))).set b3 (st8 Sha.H0) := ⟨_, rfl⟩
  rw [← hM] at hs
  change XCall _ _ _ (((m.set bo (dg32 (List.replicate 32 0))).set b3 (st8 (List.replicate 8 0))).set b3 (st8 Sha.H0)) _
  rw [← hM]
  clear hM
  have hs0 : Sub m M1 := hs.sub (by simp)
  refine xcall (padded_spec ⟨h.lies.sub hs0, fun p hp => (h.la p hp).sub hs0⟩ hcat hb hn) ?_
  rintro _ m1 ⟨v', p, rfl, hs1, hv1⟩
  conv => whnf
  have hs1 := hs1.under (a := [p]) hs
  refine xcall (chunk_spec hv1.lb.one) ?_
  rintro _ m2 ⟨c1, c2, hc1, hc2, rfl, rfl⟩
  conv => whnf
  have hs2 := (hs1.new hc1 _).new hc2 (.cells #[.int .i64 64] 3)
  have hpl := pad_len l
  have hpe := pad_le l
  have hne : nc (Sha.pad l) ≠ [] := by simp [nc, Sha.pad]
  obtain ⟨b, o, c, rfl⟩ := hv1.lb.real hne
  have hcap := Lb.cap hv1.lb
  have hl1 : (nc (Sha.pad l)).length = (Sha.pad l).length := by simp
  obtain ⟨n, hn2⟩ : ∃ n, n = (Sha.pad l).length / 64 := ⟨_, rfl⟩
  rw [← hn2] at hpl
  rw [hl1] at hcap
  have hlb := hv1.lb
  rw [hl1, hpl] at hlb hs2 ⊢
  refine .mk 25 #[.pointer (some ⟨c1, 0, none⟩), .pointer (some ⟨c2, 0, none⟩)] rfl rfl rfl (ι := Nat)
    (fun k mm => k ≤ n ∧ Split mm [blk1 c2 (.cells #[.int .i64 64] 3), blk1 c1 (.cells #[.slice (some ⟨b, o, none⟩) (64 * n) c] 22), p, blk1 b3 (st8 (Sha.blocks Sha.H0 k (Sha.pad l))), blk1 bo (dg32 (List.replicate 32 0)), m]) 0 ⟨by omega, hs2⟩
    (fun k x j => x = [piece b o k] ∧ j = k + 1 ∧ k < n) (fun k x j ⟨h1, _⟩ => by subst h1; rfl) ?_
    (fun mm => Split mm [blk1 c2 (.cells #[.int .i64 64] 3), blk1 c1 (.cells #[.slice (some ⟨b, o, none⟩) (64 * n) c] 22), p, blk1 b3 (st8 (Sha.blocks Sha.H0 n (Sha.pad l))), blk1 bo (dg32 (List.replicate 32 0)), m]) ?_ ?_
  · rintro k _ _ mm ⟨hk, hs⟩ ⟨rfl, rfl, hlt⟩
    conv => whnf
    have hw := blocks_w8 H0_w8 (Sha.pad l) k
    refine ⟨[.ints .u32 8 (nc (Sha.blocks Sha.H0 k (Sha.pad l)))], ⟨show (nc _).length = 8 by simp [hw.len], trivial⟩, rfl, MRange.mid [] [] (hs.get (a := blk1 b3 (st8 (Sha.blocks Sha.H0 k (Sha.pad l)))) (by simp) (blk1_same ..)) rfl, ?_⟩
    conv => whnf
    have hpc := Lb.piece (hlb.sub (hs.sub (a := p) (by simp))) (64 * k) 64 (by rw [hl1]; omega)
    have e1 : ((nc (Sha.pad l)).drop (64 * k)).take 64 = nc (((Sha.pad l).drop (64 * k)).take 64) := by simp only [nc, List.map_drop, List.map_take]
    rw [e1] at hpc
    first | refine xretk (block_spec (by simp; omega) (fun x hx => pad_byte h256 x (List.mem_of_mem_drop (List.mem_of_mem_take hx))) hpc (Nat.le_refl _) hw) ?_ | refine xret (block_spec (by simp; omega) (fun x hx => pad_byte h256 x (List.mem_of_mem_drop (List.mem_of_mem_take hx))) hpc (Nat.le_refl _) hw) ?_
    conv => whnf
    have hg := hs.get (a := blk1 b3 (st8 (Sha.blocks Sha.H0 k (Sha.pad l)))) (by simp) (blk1_same ..)
    have hsz : (LB.cells [.ints .u32 8 (nc (Sha.blocks Sha.H0 k (Sha.pad l)))]).length = 8 := by simp [LB.cells, Seg.cells, hw.len]
    refine ⟨_, _, _, hg, ⟨by show 0 + 8 ≤ (LB.cells _).toArray.size; simp only [List.size_toArray]; omega, fun j _ => by simp⟩, ?_⟩
    rw [over_obj (by show _ ≤ 8; omega)]
    conv => whnf
    refine ⟨hlt, ?_⟩
    have hs' := hs.setAt (i := 3) rfl (blk1_same ..) (st8 (Sha.blocks Sha.H0 (k + 1) (Sha.pad l)))
    rw [blk1_set] at hs'
    rw [← blocks_succ]
    exact hs'
  · intro lb ob _ hround
    refine (chunkIter_spec (I := fun k mm => ∃ m1, (k ≤ n ∧ Split m1 [blk1 c2 (.cells #[.int .i64 64] 3), blk1 c1 (.cells #[.slice (some ⟨b, o, none⟩) (64 * n) c] 22), p, blk1 b3 (st8 (Sha.blocks Sha.H0 k (Sha.pad l))), blk1 bo (dg32 (List.replicate 32 0)), m]) ∧ m1 lb = none ∧ mm = m1.set lb ob) (l := lb) (b1 := c1) (b2 := c2) (b := b) (o := o) (n := n) (c := c) (by omega) (by omega) ?_ ?_ ⟨_, ⟨Nat.zero_le _, hs2⟩, by assumption, rfl⟩).mono ?_
    · rintro k mm ⟨m1, ⟨_, hs⟩, hl, rfl⟩
      have g1 := hs.get (a := blk1 c1 (.cells #[.slice (some ⟨b, o, none⟩) (64 * n) c] 22)) (by simp) (blk1_same ..)
      have g2 := hs.get (a := blk1 c2 (.cells #[.int .i64 64] 3)) (by simp) (blk1_same ..)
      exact ⟨by rw [Mem.set_ne _ _ (by rintro rfl; rw [hl] at g1; cases g1)]; exact g1, by rw [Mem.set_ne _ _ (by rintro rfl; rw [hl] at g2; cases g2)]; exact g2⟩
    · rintro k mm hk ⟨m1, hi, hl, rfl⟩
      exact hround k _ _ m1 hi ⟨rfl, rfl, hk⟩ hl
    · rintro r m' ⟨rfl, m1, ⟨_, hs⟩, hl, rfl⟩
      exact ⟨m1, hs, hl, rfl⟩
  · intro mm hs
    conv => whnf
    have hw := blocks_w8 H0_w8 (Sha.pad l) n
    refine ⟨[.ints .u32 8 (nc (Sha.blocks Sha.H0 n (Sha.pad l)))], ⟨show (nc _).length = 8 by simp [hw.len], trivial⟩, rfl, MRange.mid [] [] (hs.get (a := blk1 b3 (st8 (Sha.blocks Sha.H0 n (Sha.pad l)))) (by simp) (blk1_same ..)) rfl, ?_⟩
    conv => whnf
    first | refine xretk (digest_spec) ?_ | refine xret (digest_spec) ?_
    conv => whnf
    have hg := hs.get (a := blk1 bo (dg32 (List.replicate 32 0))) (by simp) (blk1_same ..)
    refine ⟨_, _, _, hg, ⟨Nat.le_refl 32, fun j _ => by simp⟩, ?_⟩
    rw [over_obj (show (LB.cells [.ints .u8 32 (List.replicate 32 0)]).length ≤ LB.size [.ints .u8 32 (nc (Sha.digest (Sha.blocks Sha.H0 n (Sha.pad l))))] from Nat.le_refl 32)]
    have hs' := hs.setAt (i := 4) rfl (blk1_same ..) (dg32 (nc (Sha.digest (Sha.blocks Sha.H0 n (Sha.pad l)))))
    rw [blk1_set] at hs'
    change Split _ [_, _, _, _, _, _] at hs'
    conv => whnf
    refine ⟨[.ints .u8 32 (nc (Sha.digest (Sha.blocks Sha.H0 n (Sha.pad l))))], ⟨show (nc _).length = 32 by simp [Sha.digest], trivial⟩, rfl, MRange.mid [] [] (Mem.set_same ..) rfl, ?_⟩
    exact ⟨by rw [Sha.sum, ← hn2], hs'.sub (by simp)⟩
end Go.E.Ytodgjanekjefbaa

/-
  Contracts of sha: the point, the number of blocks.
-/
namespace Go.E.Ytodgjanekjefbaa
open Go.Proofs
set_option maxRecDepth 100000
theorem catB1 {v : Value} {l : List Nat} : catB [(v, nc l)] = nc l := by simp [catB]
theorem catB2 {v w : Value} {l k : List Nat} : catB [(v, nc l), (w, nc k)] = nc (l ++ k) := by simp [catB, nc]
/-- the point, step by step -/
def pt (l : List Nat) (i : Nat) : Nat := (List.range i).foldl (fun n i => n * 256 + (Sha.sum l).getD i 0) 0
theorem pt_succ (l : List Nat) (i : Nat) : pt l (i + 1) = pt l i * 256 + (Sha.sum l).getD i 0 := by simp [pt, List.range_succ]
theorem sum_lt (l : List Nat) (i : Nat) : (Sha.sum l).getD i 0 < 256 := by
  refine getD_lt (by decide) (fun x hx => ?_) i
  simp only [Sha.sum, Sha.digest, List.mem_map] at hx
  obtain ⟨i, _, rfl⟩ := hx
  exact Nat.mod_lt _ (by decide)
theorem pt_lt (l : List Nat) : ∀ i, pt l i < 256 ^ i
  | 0 => by simp [pt]
  | i + 1 => by
    have := pt_lt l i; have := sum_lt l i
    rw [pt_succ, Nat.pow_succ]; omega
theorem shl8 {x : Nat} (hx : x < 72057594037927936) : shlOf .u64 (x : Int) 8 = ((x * 256 : Nat) : Int) := by
  show IntKind.u64.wrap ((x : Int) * 2 ^ (min ((8 : Int).toNat) 64)) = _
  have : (min ((8 : Int).toNat) 64) = 8 := by decide
  rw [this, show ((2 : Int) ^ 8) = 256 from rfl, wu (by omega) (by omega)]; omega
theorem pt_or {l : List Nat} {i : Nat} (hi : i < 8) : bitsOf .or .u64 (shlOf .u64 ((pt l i : Nat) : Int) 8) (IntKind.u64.wrap (((Sha.sum l).getD i 0 : Nat) : Int)) = ((pt l (i + 1) : Nat) : Int) := by
  have h1 := pt_lt l i
  have h2 : (256 : Nat) ^ i ≤ 256 ^ 7 := Nat.pow_le_pow_right (by decide) (by omega)
  rw [show (256 : Nat) ^ 7 = 72057594037927936 from rfl] at h2
  have h3 := sum_lt l i
  rw [pt_succ]
  generalize pt l i = x at h1 ⊢
  generalize (Sha.sum l).getD i 0 = y at h3 ⊢
  have hx : x < 72057594037927936 := Nat.lt_of_lt_of_le h1 h2
  clear h1 h2
  rw [shl8 hx, wu (n := (y : Int)) (by omega) (by omega), or_u64 (Nat.lt_of_lt_of_le (show x * 256 < 18446744073709551616 by omega) (by decide)) (Nat.lt_of_lt_of_le h3 (by decide))]
  have := @or_low x y 8 (by simpa using h3)
  rw [show (2 : Nat) ^ 8 = 256 from rfl] at this
  rw [this]
set_option maxHeartbeats 2000000 in
theorem point_spec {m : Mem} {v : Value} {l : List Nat} (hv : La m v (nc l)) (hb : l.length ≤ 1000000) (h256 : ∀ x ∈ l, x < 256) :
    Spec Try.prog 10 [.v v] m fun r m' => r = [.v (.int .u64 ((Sha.point l : Nat) : Int))] ∧ Sub m m' := by
  refine en10 rfl (goY ?_)
  conv => whnf
  refine .mk _ (buildL1) ?_
  rintro _ _ ⟨b1, hb1, rfl, rfl⟩
  conv => whnf
  refine xcall (sum_spec (l := l) (Lists.blk (ps := [(v, nc l)]) (Mem.set_same ..) rfl (by simpa using hv.sub (Mem.sub_set _ hb1))) catB1 hb (by simp) h256) ?_
  rintro _ m1 ⟨rfl, hs1⟩
  conv => whnf
  intro b2 hb2
  conv => whnf
  have hd : (nc (Sha.sum l)).length = 32 := by simp [Sha.sum, Sha.digest]
  refine ⟨_, _, _, Mem.set_same .., ⟨Nat.le_refl 32, fun j _ => by simp⟩, ?_⟩
  rw [over_obj (show (LB.cells [.ints .u8 32 (List.replicate 32 0)]).length ≤ LB.size [.ints .u8 32 (nc (Sha.sum l))] from Nat.le_refl 32), Mem.set_set]
  have hs2 : Sub m1 (m1.set b2 (dg32 (nc (Sha.sum l)))) := Mem.sub_set _ hb2
  have hs0 : Sub m (m1.set b2 (dg32 (nc (Sha.sum l)))) := ((Mem.sub_set _ hb1).trans hs1).trans hs2
  have hg : (m1.set b2 (dg32 (nc (Sha.sum l)))) b2 = some (dg32 (nc (Sha.sum l))) := Mem.set_same ..
  conv => whnf
  change (0 ≤ (8 : Int) ∧ (8 : Int) ≤ ((32 : Nat) : Int)) ∧ _
  refine ⟨by omega, ?_⟩
  conv => whnf
  intro o' ho _
  obtain rfl : o' = 0 := by have := ho (by decide); simpa using this
  obtain ⟨M, hM⟩ : ∃ M, M = m1.set b2 (dg32 (nc (Sha.sum l))) := ⟨_, rfl⟩
  conv => whnf
  rw [← hM] at hg hs0
  refine .mk (ι := Nat) (fun i => 8 - i) (fun i mm => i ≤ 8 ∧ mm = M) (fun i => [(3, .c (.v (.int .u64 ((pt l i : Nat) : Int)))), (10, .c (.v (.slice (some ⟨b2, 0, none⟩) 8 32))), (11, .c (i64 8)), (12, .c (i64 i))]) (fun _ => []) 0 ⟨by omega, hM.symm⟩ ?_ ?_
  · conv => whnf
    repeat (refine And.intro (by first | with_reducible rfl | exact congrArg (Value.int _) (wi (by omega) (by omega)) | exact wi (by omega) (by omega) | rfl) ?_; conv => whnf)
    first | exact trivial | exact fun _ _ h => h
  rintro i mm ⟨hi, he⟩
  subst mm
  conv => whnf
  refine ⟨fun h1 => ?_, fun h1 => ?_⟩
  · have h1' := of_decide_eq_true h1
    have hlt : i < 8 := by omega
    conv => whnf
    repeat (refine And.intro (by first | omega | (simp only [times]; omega)) ?_; conv => whnf)
    have hgi : mcell M b2 (0 + i) = some (.int .u8 (((Sha.sum l).getD i 0 : Nat) : Int)) := by
      refine mcell_of hg ?_
      simp [LB.cells, Seg.cells, List.getD_eq_getElem?_getD, List.getElem?_eq_getElem (show i < (Sha.sum l).length by simp at hd; omega)]
    refine ⟨_, hgi, rfl, ?_⟩
    conv => whnf
    refine ⟨i + 1, ⟨by omega, by trivial⟩, by omega, ?_⟩
    conv => whnf
    repeat (refine And.intro (by first | with_reducible rfl | (first | exact congrArg (Value.int _) (iadd (by omega)) | exact congrArg (Value.int _) (pt_or hlt)) | exact congrArg (Value.int _) (wi (by omega) (by omega)) | exact wi (by omega) (by omega) | rfl) ?_; conv => whnf)
    first | exact trivial | exact fun _ _ h => h
  · have h1' := of_decide_eq_false h1
    obtain rfl : i = 8 := by omega
    conv => whnf
    exact ⟨rfl, hs0⟩
end Go.E.Ytodgjanekjefbaa

/-
  Contracts of sha: the number of blocks.
-/
namespace Go.E.Ytodgjanekjefbaa
open Go.Proofs
set_option maxRecDepth 100000
theorem shab_spec {m : Mem} {n : Int} (hn : -9223372036854775808 ≤ n ∧ n ≤ 9223372036854775807) : Ret Try.prog 12 [i64 n] m [.v (.int .u64 (if n < 0 then 0 else n / 64 + 1 + (n % 64) / 56))] := by
  refine en12 rfl (goY ?_)
  conv => whnf
  refine ⟨fun h => ?_, fun h => ?_⟩
  · have h' := of_decide_eq_true h
    conv => whnf
    exact ⟨by rw [if_pos h'], rfl⟩
  · have h' := of_decide_eq_false h
    conv => whnf
    repeat (refine And.intro (by first | omega | (simp only [times]; omega)) ?_; conv => whnf)
    refine ⟨?_, rfl⟩
    rw [if_neg h', wu (n := n) (by omega) (by omega)]
    rw [Int.tdiv_eq_ediv_of_nonneg (a := n) (by omega), Int.tmod_eq_emod_of_nonneg (a := n) (by omega), Int.tdiv_eq_ediv_of_nonneg (by omega), wu (n := n / 64) (by omega) (by omega), wi (by omega) (by omega), wu (n := n % 64 / 56) (by omega) (by omega), wu (n := n / 64 + 1) (by omega) (by omega), wu (by omega) (by omega)]
theorem refb_spec {m : Mem} {n : Int} (hn : -9223372036854775808 ≤ n ∧ n ≤ 9223372036854775807) : Ret Try.prog 13 [i64 n] m [.v (.int .u64 (if n < 0 then 0 else n / 64 + 1 + (n % 64) / 56))] := by
  refine en13 rfl (goY ?_)
  conv => whnf
  refine ⟨fun h => ?_, fun h => ?_⟩
  · have h' := of_decide_eq_true h
    conv => whnf
    exact ⟨by rw [if_pos h'], rfl⟩
  · have h' := of_decide_eq_false h
    conv => whnf
    repeat (refine And.intro (by first | omega | (simp only [times]; omega)) ?_; conv => whnf)
    refine ⟨fun h2 => ?_, fun h2 => ?_⟩
    · have h2' := of_decide_eq_true h2
      conv => whnf
      refine ⟨?_, rfl⟩
      rw [if_neg h', wu (n := n) (by omega) (by omega)]
      rw [Int.tmod_eq_emod_of_nonneg (a := n) (by omega)] at h2'
      rw [Int.tdiv_eq_ediv_of_nonneg (a := n) (by omega), wu (n := n / 64) (by omega) (by omega), wu (by omega) (by omega)]
      exact congrArg (fun x => [CV.v (Value.int .u64 x)]) (by omega)
    · have h2' := of_decide_eq_false h2
      conv => whnf
      refine ⟨?_, rfl⟩
      rw [if_neg h', wu (n := n) (by omega) (by omega)]
      rw [Int.tmod_eq_emod_of_nonneg (a := n) (by omega)] at h2'
      rw [Int.tdiv_eq_ediv_of_nonneg (a := n) (by omega), wu (n := n / 64) (by omega) (by omega), wu (by omega) (by omega)]
      exact congrArg (fun x => [CV.v (Value.int .u64 x)]) (by omega)
end Go.E.Ytodgjanekjefbaa

/-
  The digest of 'abc'; builds.
-/
namespace Go.E.Ytodgjanekjefbaa
open Go.Proofs
set_option maxRecDepth 100000
theorem abc_sum : Sha.sum [97, 98, 99] = [186, 120, 22, 191, 143, 1, 207, 234, 65, 65, 64, 222, 93, 174, 34, 35, 176, 3, 97, 163, 150, 23, 122, 156, 180, 16, 255, 97, 242, 0, 21, 173] := by
  rw [← Sha.sumK_eq]; decide +kernel
def abcD : List Int := [186, 120, 22, 191, 143, 1, 207, 234, 65, 65, 64, 222, 93, 174, 34, 35, 176, 3, 97, 163, 150, 23, 122, 156, 180, 16, 255, 97, 242, 0, 21, 173]
theorem sum_abc {m : Mem} {v : Value} {ps : List (Value × List Int)} (h : Lists m v ps) (hcat : catB ps = [97, 98, 99]) (hn : ps.length ≤ 10000000) :
    Spec Try.prog 8 [.v v] m fun r m' => r = [.a [.ints .u8 32 [186, 120, 22, 191, 143, 1, 207, 234, 65, 65, 64, 222, 93, 174, 34, 35, 176, 3, 97, 163, 150, 23, 122, 156, 180, 16, 255, 97, 242, 0, 21, 173]]] ∧ Sub m m' := by
  refine (sum_spec (l := [97, 98, 99]) h hcat (by decide) hn (by decide)).mono ?_
  rintro r m' ⟨rfl, h⟩
  rw [abc_sum]
  exact ⟨rfl, h⟩
theorem point_abc {m : Mem} {v : Value} (hv : La m v [97, 98, 99]) : Spec Try.prog 10 [.v v] m fun r m' => r = [.v (.int .u64 13436514500253700074)] ∧ Sub m m' := by
  refine (point_spec (l := [97, 98, 99]) hv (by decide) (by decide)).mono ?_
  rintro r m' ⟨rfl, h⟩
  have e : Sha.point [97, 98, 99] = 13436514500253700074 := by
    unfold Sha.point
    rw [abc_sum]; decide
  rw [e]
  exact ⟨rfl, h⟩
end Go.E.Ytodgjanekjefbaa

/-
  What must come of fixed calls (chapter 01).
-/
namespace Go.E.Ytodgjanekjefbaa
open Go.Proofs
set_option maxRecDepth 100000
set_option maxHeartbeats 8000000 in
theorem alive_spec : Spec Try.prog 7 [] emp fun r _ => r = [boolV true] := by
  refine en7 rfl (goY ?_)
  conv => whnf
  refine .mk _ (build3) ?_
  rintro _ _ ⟨b1, hb1, rfl, rfl⟩
  conv => whnf
  refine .mk _ (convConst_spec tt_ok hBs rfl hU8 rfl (Mem.set_same ..)) ?_
  rintro _ _ ⟨rfl, rfl⟩
  conv => whnf
  rw [Mem.set_set]
  refine .mk _ (buildL1) ?_
  rintro _ _ ⟨b2, hb2, rfl, rfl⟩
  conv => whnf
  refine xcall (sum_abc (Lists.one (Mem.set_same ..) (Lb.blkf (l := [97, 98, 99]) (Mem.sub_set _ hb2 _ _ (Mem.set_same ..)) rfl).la) rfl (by simp)) ?_
  rintro _ m1 ⟨rfl, hs1⟩
  conv => whnf
  refine ⟨fun _ => ?_, fun h => absurd h (by decide)⟩
  conv => whnf
  refine ⟨fun _ => ?_, fun h => absurd h (by decide)⟩
  conv => whnf
  refine ⟨fun _ => ?_, fun h => absurd h (by decide)⟩
  conv => whnf
  refine ⟨fun _ => ?_, fun h => absurd h (by decide)⟩
  conv => whnf
  conv => whnf
  refine ⟨?_, ?_⟩
  · conv => whnf
    refine .mk _ (build1) ?_
    rintro _ _ ⟨b3, hb3, rfl, rfl⟩
    conv => whnf
    first | refine ⟨fun _ h => (by cases h), ?_⟩ | skip
    conv => whnf
    refine ⟨?_, ?_⟩
    · conv => whnf
      refine .mk _ (conv_spec (b := b3) (l := [97]) (by first | exact Mem.set_same .. | simp [Mem.set, hne, Ne.symm hne])) ?_
      rintro _ _ ⟨rfl, rfl⟩
      conv => whnf
      first | refine ⟨fun _ h => (by cases h), ?_⟩ | skip
      conv => whnf
      refine .mk _ (build2) ?_
      rintro _ _ ⟨b4, hb4, rfl, rfl⟩
      conv => whnf
      first | refine ⟨fun _ h => (by cases h), ?_⟩ | skip
      conv => whnf
      have hne : b4 ≠ b3 := by rintro rfl; first | simp [Mem.set] at hb4; done | simp [Mem.set] at hb3; done
      have hne' : b3 ≠ b4 := Ne.symm hne
      refine .mk _ (conv_spec (b := b4) (l := [98, 99]) (by first | exact Mem.set_same .. | simp [Mem.set, hne, Ne.symm hne])) ?_
      rintro _ _ ⟨rfl, rfl⟩
      conv => whnf
      first | refine ⟨fun _ h => (by cases h), ?_⟩ | skip
      conv => whnf
      refine .mk _ (buildL2) ?_
      rintro _ _ ⟨b5, hb5, rfl, rfl⟩
      conv => whnf
      first | refine ⟨fun _ h => (by cases h), ?_⟩ | skip
      conv => whnf
      have g3 := Mem.sub_set (.cells #[.slice (some ⟨b3, 0, none⟩) 1 1, .slice (some ⟨b4, 0, none⟩) 2 2] 22) hb5 b3 (.cells (bc [97]).toArray 5 (1, 2)) (by first | exact Mem.set_same .. | exact (Mem.set_ne _ _ hne').trans (Mem.set_same ..) | exact (Mem.set_ne _ _ hne').trans ((Mem.set_ne _ _ hne').trans (Mem.set_same ..)))
      have g4 := Mem.sub_set (.cells #[.slice (some ⟨b3, 0, none⟩) 1 1, .slice (some ⟨b4, 0, none⟩) 2 2] 22) hb5 b4 (.cells (bc [98, 99]).toArray 5 (2, 3)) (by first | exact Mem.set_same .. | exact (Mem.set_ne _ _ hne).trans (Mem.set_same ..) | exact (Mem.set_ne _ _ hne).trans ((Mem.set_ne _ _ hne).trans (Mem.set_same ..)))
      refine xcall (sum_abc (Lists.two (Mem.set_same ..) (Lb.blkf (l := [97]) g3 rfl).la (Lb.blkf (l := [98, 99]) g4 rfl).la) rfl (by simp)) ?_
      rintro _ m2 ⟨rfl, hs2⟩
      conv => whnf
      first | refine ⟨fun _ h => (by cases h), ?_⟩ | skip
      conv => whnf
      refine ⟨fun _ => ?_, fun h => absurd h (by decide)⟩
      conv => whnf
      refine .mk _ (build3) ?_
      rintro _ _ ⟨b6, hb6, rfl, rfl⟩
      conv => whnf
      first | refine ⟨fun _ h => (by cases h), ?_⟩ | skip
      conv => whnf
      refine .mk _ (conv_spec (b := b6) (l := [97, 98, 99]) (Mem.set_same ..)) ?_
      rintro _ _ ⟨rfl, rfl⟩
      conv => whnf
      first | refine ⟨fun _ h => (by cases h), ?_⟩ | skip
      conv => whnf
      refine xcall (point_abc (Lb.blkf (l := [97, 98, 99]) (fr := (3, 4)) (Mem.set_same ..) rfl).la) ?_
      rintro _ m3 ⟨rfl, hs3⟩
      conv => whnf
      first | refine ⟨fun _ h => (by cases h), ?_⟩ | skip
      conv => whnf
      refine ⟨fun _ => ?_, fun h => absurd h (by decide)⟩
      conv => whnf
      first | refine xretk (shab_spec (n := 55) (by decide)) ?_ | refine xret (shab_spec (n := 55) (by decide)) ?_
      conv => whnf
      refine ⟨fun _ => ?_, fun h => absurd h (by decide)⟩
      conv => whnf
      first | refine xretk (shab_spec (n := 56) (by decide)) ?_ | refine xret (shab_spec (n := 56) (by decide)) ?_
      conv => whnf
      rfl
    · conv => whnf
      refine .mk _ (build2) ?_
      rintro _ _ ⟨b4, hb4, rfl, rfl⟩
      conv => whnf
      first | refine ⟨fun _ h => (by cases h), ?_⟩ | skip
      conv => whnf
      have hne : b4 ≠ b3 := by rintro rfl; first | simp [Mem.set] at hb4; done | simp [Mem.set] at hb3; done
      have hne' : b3 ≠ b4 := Ne.symm hne
      refine ⟨?_, ?_⟩
      · conv => whnf
        refine .mk _ (conv_spec (b := b3) (l := [97]) (by first | exact Mem.set_same .. | simp [Mem.set, hne, Ne.symm hne])) ?_
        rintro _ _ ⟨rfl, rfl⟩
        conv => whnf
        first | refine ⟨fun _ h => (by cases h), ?_⟩ | skip
        conv => whnf
        refine .mk _ (conv_spec (b := b4) (l := [98, 99]) (by first | exact Mem.set_same .. | simp [Mem.set, hne, Ne.symm hne])) ?_
        rintro _ _ ⟨rfl, rfl⟩
        conv => whnf
        first | refine ⟨fun _ h => (by cases h), ?_⟩ | skip
        conv => whnf
        refine .mk _ (buildL2) ?_
        rintro _ _ ⟨b5, hb5, rfl, rfl⟩
        conv => whnf
        first | refine ⟨fun _ h => (by cases h), ?_⟩ | skip
        conv => whnf
        have g3 := Mem.sub_set (.cells #[.slice (some ⟨b3, 0, none⟩) 1 1, .slice (some ⟨b4, 0, none⟩) 2 2] 22) hb5 b3 (.cells (bc [97]).toArray 5 (1, 2)) (by first | exact Mem.set_same .. | exact (Mem.set_ne _ _ hne').trans (Mem.set_same ..) | exact (Mem.set_ne _ _ hne').trans ((Mem.set_ne _ _ hne').trans (Mem.set_same ..)))
        have g4 := Mem.sub_set (.cells #[.slice (some ⟨b3, 0, none⟩) 1 1, .slice (some ⟨b4, 0, none⟩) 2 2] 22) hb5 b4 (.cells (bc [98, 99]).toArray 5 (2, 3)) (by first | exact Mem.set_same .. | exact (Mem.set_ne _ _ hne).trans (Mem.set_same ..) | exact (Mem.set_ne _ _ hne).trans ((Mem.set_ne _ _ hne).trans (Mem.set_same ..)))
        refine xcall (sum_abc (Lists.two (Mem.set_same ..) (Lb.blkf (l := [97]) g3 rfl).la (Lb.blkf (l := [98, 99]) g4 rfl).la) rfl (by simp)) ?_
        rintro _ m2 ⟨rfl, hs2⟩
        conv => whnf
        first | refine ⟨fun _ h => (by cases h), ?_⟩ | skip
        conv => whnf
        refine ⟨fun _ => ?_, fun h => absurd h (by decide)⟩
        conv => whnf
        refine .mk _ (build3) ?_
        rintro _ _ ⟨b6, hb6, rfl, rfl⟩
        conv => whnf
        first | refine ⟨fun _ h => (by cases h), ?_⟩ | skip
        conv => whnf
        refine .mk _ (conv_spec (b := b6) (l := [97, 98, 99]) (Mem.set_same ..)) ?_
        rintro _ _ ⟨rfl, rfl⟩
        conv => whnf
        first | refine ⟨fun _ h => (by cases h), ?_⟩ | skip
        conv => whnf
        refine xcall (point_abc (Lb.blkf (l := [97, 98, 99]) (fr := (3, 4)) (Mem.set_same ..) rfl).la) ?_
        rintro _ m3 ⟨rfl, hs3⟩
        conv => whnf
        first | refine ⟨fun _ h => (by cases h), ?_⟩ | skip
        conv => whnf
        refine ⟨fun _ => ?_, fun h => absurd h (by decide)⟩
        conv => whnf
        first | refine xretk (shab_spec (n := 55) (by decide)) ?_ | refine xret (shab_spec (n := 55) (by decide)) ?_
        conv => whnf
        refine ⟨fun _ => ?_, fun h => absurd h (by decide)⟩
        conv => whnf
        first | refine xretk (shab_spec (n := 56) (by decide)) ?_ | refine xret (shab_spec (n := 56) (by decide)) ?_
        conv => whnf
        rfl
      · conv => whnf
        refine .mk _ (conv_spec (b := b4) (l := [98, 99]) (by first | exact Mem.set_same .. | simp [Mem.set, hne, Ne.symm hne])) ?_
        rintro _ _ ⟨rfl, rfl⟩
        conv => whnf
        first | refine ⟨fun _ h => (by cases h), ?_⟩ | skip
        conv => whnf
        refine .mk _ (conv_spec (b := b3) (l := [97]) (by first | exact Mem.set_same .. | simp [Mem.set, hne, Ne.symm hne])) ?_
        rintro _ _ ⟨rfl, rfl⟩
        conv => whnf
        first | refine ⟨fun _ h => (by cases h), ?_⟩ | skip
        conv => whnf
        refine .mk _ (buildL2) ?_
        rintro _ _ ⟨b5, hb5, rfl, rfl⟩
        conv => whnf
        first | refine ⟨fun _ h => (by cases h), ?_⟩ | skip
        conv => whnf
        have g3 := Mem.sub_set (.cells #[.slice (some ⟨b3, 0, none⟩) 1 1, .slice (some ⟨b4, 0, none⟩) 2 2] 22) hb5 b3 (.cells (bc [97]).toArray 5 (1, 2)) (by first | exact Mem.set_same .. | exact (Mem.set_ne _ _ hne').trans (Mem.set_same ..) | exact (Mem.set_ne _ _ hne').trans ((Mem.set_ne _ _ hne').trans (Mem.set_same ..)))
        have g4 := Mem.sub_set (.cells #[.slice (some ⟨b3, 0, none⟩) 1 1, .slice (some ⟨b4, 0, none⟩) 2 2] 22) hb5 b4 (.cells (bc [98, 99]).toArray 5 (2, 3)) (by first | exact Mem.set_same .. | exact (Mem.set_ne _ _ hne).trans (Mem.set_same ..) | exact (Mem.set_ne _ _ hne).trans ((Mem.set_ne _ _ hne).trans (Mem.set_same ..)))
        refine xcall (sum_abc (Lists.two (Mem.set_same ..) (Lb.blkf (l := [97]) g3 rfl).la (Lb.blkf (l := [98, 99]) g4 rfl).la) rfl (by simp)) ?_
        rintro _ m2 ⟨rfl, hs2⟩
        conv => whnf
        first | refine ⟨fun _ h => (by cases h), ?_⟩ | skip
        conv => whnf
        refine ⟨fun _ => ?_, fun h => absurd h (by decide)⟩
        conv => whnf
        refine .mk _ (build3) ?_
        rintro _ _ ⟨b6, hb6, rfl, rfl⟩
        conv => whnf
        first | refine ⟨fun _ h => (by cases h), ?_⟩ | skip
        conv => whnf
        refine .mk _ (conv_spec (b := b6) (l := [97, 98, 99]) (Mem.set_same ..)) ?_
        rintro _ _ ⟨rfl, rfl⟩
        conv => whnf
        first | refine ⟨fun _ h => (by cases h), ?_⟩ | skip
        conv => whnf
        refine xcall (point_abc (Lb.blkf (l := [97, 98, 99]) (fr := (3, 4)) (Mem.set_same ..) rfl).la) ?_
        rintro _ m3 ⟨rfl, hs3⟩
        conv => whnf
        first | refine ⟨fun _ h => (by cases h), ?_⟩ | skip
        conv => whnf
        refine ⟨fun _ => ?_, fun h => absurd h (by decide)⟩
        conv => whnf
        first | refine xretk (shab_spec (n := 55) (by decide)) ?_ | refine xret (shab_spec (n := 55) (by decide)) ?_
        conv => whnf
        refine ⟨fun _ => ?_, fun h => absurd h (by decide)⟩
        conv => whnf
        first | refine xretk (shab_spec (n := 56) (by decide)) ?_ | refine xret (shab_spec (n := 56) (by decide)) ?_
        conv => whnf
        rfl
  · conv => whnf
    refine .mk _ (build2) ?_
    rintro _ _ ⟨b4, hb4, rfl, rfl⟩
    conv => whnf
    first | refine ⟨fun _ h => (by cases h), ?_⟩ | skip
    conv => whnf
    refine ⟨?_, ?_⟩
    · conv => whnf
      refine .mk _ (build1) ?_
      rintro _ _ ⟨b3, hb3, rfl, rfl⟩
      conv => whnf
      first | refine ⟨fun _ h => (by cases h), ?_⟩ | skip
      conv => whnf
      have hne : b4 ≠ b3 := by rintro rfl; first | simp [Mem.set] at hb4; done | simp [Mem.set] at hb3; done
      have hne' : b3 ≠ b4 := Ne.symm hne
      refine ⟨?_, ?_⟩
      · conv => whnf
        refine .mk _ (conv_spec (b := b3) (l := [97]) (by first | exact Mem.set_same .. | simp [Mem.set, hne, Ne.symm hne])) ?_
        rintro _ _ ⟨rfl, rfl⟩
        conv => whnf
        first | refine ⟨fun _ h => (by cases h), ?_⟩ | skip
        conv => whnf
        refine .mk _ (conv_spec (b := b4) (l := [98, 99]) (by first | exact Mem.set_same .. | simp [Mem.set, hne, Ne.symm hne])) ?_
        rintro _ _ ⟨rfl, rfl⟩
        conv => whnf
        first | refine ⟨fun _ h => (by cases h), ?_⟩ | skip
        conv => whnf
        refine .mk _ (buildL2) ?_
        rintro _ _ ⟨b5, hb5, rfl, rfl⟩
        conv => whnf
        first | refine ⟨fun _ h => (by cases h), ?_⟩ | skip
        conv => whnf
        have g3 := Mem.sub_set (.cells #[.slice (some ⟨b3, 0, none⟩) 1 1, .slice (some ⟨b4, 0, none⟩) 2 2] 22) hb5 b3 (.cells (bc [97]).toArray 5 (1, 2)) (by first | exact Mem.set_same .. | exact (Mem.set_ne _ _ hne').trans (Mem.set_same ..) | exact (Mem.set_ne _ _ hne').trans ((Mem.set_ne _ _ hne').trans (Mem.set_same ..)))
        have g4 := Mem.sub_set (.cells #[.slice (some ⟨b3, 0, none⟩) 1 1, .slice (some ⟨b4, 0, none⟩) 2 2] 22) hb5 b4 (.cells (bc [98, 99]).toArray 5 (2, 3)) (by first | exact Mem.set_same .. | exact (Mem.set_ne _ _ hne).trans (Mem.set_same ..) | exact (Mem.set_ne _ _ hne).trans ((Mem.set_ne _ _ hne).trans (Mem.set_same ..)))
        refine xcall (sum_abc (Lists.two (Mem.set_same ..) (Lb.blkf (l := [97]) g3 rfl).la (Lb.blkf (l := [98, 99]) g4 rfl).la) rfl (by simp)) ?_
        rintro _ m2 ⟨rfl, hs2⟩
        conv => whnf
        first | refine ⟨fun _ h => (by cases h), ?_⟩ | skip
        conv => whnf
        refine ⟨fun _ => ?_, fun h => absurd h (by decide)⟩
        conv => whnf
        refine .mk _ (build3) ?_
        rintro _ _ ⟨b6, hb6, rfl, rfl⟩
        conv => whnf
        first | refine ⟨fun _ h => (by cases h), ?_⟩ | skip
        conv => whnf
        refine .mk _ (conv_spec (b := b6) (l := [97, 98, 99]) (Mem.set_same ..)) ?_
        rintro _ _ ⟨rfl, rfl⟩
        conv => whnf
        first | refine ⟨fun _ h => (by cases h), ?_⟩ | skip
        conv => whnf
        refine xcall (point_abc (Lb.blkf (l := [97, 98, 99]) (fr := (3, 4)) (Mem.set_same ..) rfl).la) ?_
        rintro _ m3 ⟨rfl, hs3⟩
        conv => whnf
        first | refine ⟨fun _ h => (by cases h), ?_⟩ | skip
        conv => whnf
        refine ⟨fun _ => ?_, fun h => absurd h (by decide)⟩
        conv => whnf
        first | refine xretk (shab_spec (n := 55) (by decide)) ?_ | refine xret (shab_spec (n := 55) (by decide)) ?_
        conv => whnf
        refine ⟨fun _ => ?_, fun h => absurd h (by decide)⟩
        conv => whnf
        first | refine xretk (shab_spec (n := 56) (by decide)) ?_ | refine xret (shab_spec (n := 56) (by decide)) ?_
        conv => whnf
        rfl
      · conv => whnf
        refine .mk _ (conv_spec (b := b4) (l := [98, 99]) (by first | exact Mem.set_same .. | simp [Mem.set, hne, Ne.symm hne])) ?_
        rintro _ _ ⟨rfl, rfl⟩
        conv => whnf
        first | refine ⟨fun _ h => (by cases h), ?_⟩ | skip
        conv => whnf
        refine .mk _ (conv_spec (b := b3) (l := [97]) (by first | exact Mem.set_same .. | simp [Mem.set, hne, Ne.symm hne])) ?_
        rintro _ _ ⟨rfl, rfl⟩
        conv => whnf
        first | refine ⟨fun _ h => (by cases h), ?_⟩ | skip
        conv => whnf
        refine .mk _ (buildL2) ?_
        rintro _ _ ⟨b5, hb5, rfl, rfl⟩
        conv => whnf
        first | refine ⟨fun _ h => (by cases h), ?_⟩ | skip
        conv => whnf
        have g3 := Mem.sub_set (.cells #[.slice (some ⟨b3, 0, none⟩) 1 1, .slice (some ⟨b4, 0, none⟩) 2 2] 22) hb5 b3 (.cells (bc [97]).toArray 5 (1, 2)) (by first | exact Mem.set_same .. | exact (Mem.set_ne _ _ hne').trans (Mem.set_same ..) | exact (Mem.set_ne _ _ hne').trans ((Mem.set_ne _ _ hne').trans (Mem.set_same ..)))
        have g4 := Mem.sub_set (.cells #[.slice (some ⟨b3, 0, none⟩) 1 1, .slice (some ⟨b4, 0, none⟩) 2 2] 22) hb5 b4 (.cells (bc [98, 99]).toArray 5 (2, 3)) (by first | exact Mem.set_same .. | exact (Mem.set_ne _ _ hne).trans (Mem.set_same ..) | exact (Mem.set_ne _ _ hne).trans ((Mem.set_ne _ _ hne).trans (Mem.set_same ..)))
        refine xcall (sum_abc (Lists.two (Mem.set_same ..) (Lb.blkf (l := [97]) g3 rfl).la (Lb.blkf (l := [98, 99]) g4 rfl).la) rfl (by simp)) ?_
        rintro _ m2 ⟨rfl, hs2⟩
        conv => whnf
        first | refine ⟨fun _ h => (by cases h), ?_⟩ | skip
        conv => whnf
        refine ⟨fun _ => ?_, fun h => absurd h (by decide)⟩
        conv => whnf
        refine .mk _ (build3) ?_
        rintro _ _ ⟨b6, hb6, rfl, rfl⟩
        conv => whnf
        first | refine ⟨fun _ h => (by cases h), ?_⟩ | skip
        conv => whnf
        refine .mk _ (conv_spec (b := b6) (l := [97, 98, 99]) (Mem.set_same ..)) ?_
        rintro _ _ ⟨rfl, rfl⟩
        conv => whnf
        first | refine ⟨fun _ h => (by cases h), ?_⟩ | skip
        conv => whnf
        refine xcall (point_abc (Lb.blkf (l := [97, 98, 99]) (fr := (3, 4)) (Mem.set_same ..) rfl).la) ?_
        rintro _ m3 ⟨rfl, hs3⟩
        conv => whnf
        first | refine ⟨fun _ h => (by cases h), ?_⟩ | skip
        conv => whnf
        refine ⟨fun _ => ?_, fun h => absurd h (by decide)⟩
        conv => whnf
        first | refine xretk (shab_spec (n := 55) (by decide)) ?_ | refine xret (shab_spec (n := 55) (by decide)) ?_
        conv => whnf
        refine ⟨fun _ => ?_, fun h => absurd h (by decide)⟩
        conv => whnf
        first | refine xretk (shab_spec (n := 56) (by decide)) ?_ | refine xret (shab_spec (n := 56) (by decide)) ?_
        conv => whnf
        rfl
    · conv => whnf
      refine .mk _ (conv_spec (b := b4) (l := [98, 99]) (by first | exact Mem.set_same .. | simp [Mem.set, hne, Ne.symm hne])) ?_
      rintro _ _ ⟨rfl, rfl⟩
      conv => whnf
      first | refine ⟨fun _ h => (by cases h), ?_⟩ | skip
      conv => whnf
      refine .mk _ (build1) ?_
      rintro _ _ ⟨b3, hb3, rfl, rfl⟩
      conv => whnf
      first | refine ⟨fun _ h => (by cases h), ?_⟩ | skip
      conv => whnf
      have hne : b4 ≠ b3 := by rintro rfl; first | simp [Mem.set] at hb4; done | simp [Mem.set] at hb3; done
      have hne' : b3 ≠ b4 := Ne.symm hne
      refine .mk _ (conv_spec (b := b3) (l := [97]) (by first | exact Mem.set_same .. | simp [Mem.set, hne, Ne.symm hne])) ?_
      rintro _ _ ⟨rfl, rfl⟩
      conv => whnf
      first | refine ⟨fun _ h => (by cases h), ?_⟩ | skip
      conv => whnf
      refine .mk _ (buildL2) ?_
      rintro _ _ ⟨b5, hb5, rfl, rfl⟩
      conv => whnf
      first | refine ⟨fun _ h => (by cases h), ?_⟩ | skip
      conv => whnf
      have g3 := Mem.sub_set (.cells #[.slice (some ⟨b3, 0, none⟩) 1 1, .slice (some ⟨b4, 0, none⟩) 2 2] 22) hb5 b3 (.cells (bc [97]).toArray 5 (1, 2)) (by first | exact Mem.set_same .. | exact (Mem.set_ne _ _ hne').trans (Mem.set_same ..) | exact (Mem.set_ne _ _ hne').trans ((Mem.set_ne _ _ hne').trans (Mem.set_same ..)))
      have g4 := Mem.sub_set (.cells #[.slice (some ⟨b3, 0, none⟩) 1 1, .slice (some ⟨b4, 0, none⟩) 2 2] 22) hb5 b4 (.cells (bc [98, 99]).toArray 5 (2, 3)) (by first | exact Mem.set_same .. | exact (Mem.set_ne _ _ hne).trans (Mem.set_same ..) | exact (Mem.set_ne _ _ hne).trans ((Mem.set_ne _ _ hne).trans (Mem.set_same ..)))
      refine xcall (sum_abc (Lists.two (Mem.set_same ..) (Lb.blkf (l := [97]) g3 rfl).la (Lb.blkf (l := [98, 99]) g4 rfl).la) rfl (by simp)) ?_
      rintro _ m2 ⟨rfl, hs2⟩
      conv => whnf
      first | refine ⟨fun _ h => (by cases h), ?_⟩ | skip
      conv => whnf
      refine ⟨fun _ => ?_, fun h => absurd h (by decide)⟩
      conv => whnf
      refine .mk _ (build3) ?_
      rintro _ _ ⟨b6, hb6, rfl, rfl⟩
      conv => whnf
      first | refine ⟨fun _ h => (by cases h), ?_⟩ | skip
      conv => whnf
      refine .mk _ (conv_spec (b := b6) (l := [97, 98, 99]) (Mem.set_same ..)) ?_
      rintro _ _ ⟨rfl, rfl⟩
      conv => whnf
      first | refine ⟨fun _ h => (by cases h), ?_⟩ | skip
      conv => whnf
      refine xcall (point_abc (Lb.blkf (l := [97, 98, 99]) (fr := (3, 4)) (Mem.set_same ..) rfl).la) ?_
      rintro _ m3 ⟨rfl, hs3⟩
      conv => whnf
      first | refine ⟨fun _ h => (by cases h), ?_⟩ | skip
      conv => whnf
      refine ⟨fun _ => ?_, fun h => absurd h (by decide)⟩
      conv => whnf
      first | refine xretk (shab_spec (n := 55) (by decide)) ?_ | refine xret (shab_spec (n := 55) (by decide)) ?_
      conv => whnf
      refine ⟨fun _ => ?_, fun h => absurd h (by decide)⟩
      conv => whnf
      first | refine xretk (shab_spec (n := 56) (by decide)) ?_ | refine xret (shab_spec (n := 56) (by decide)) ?_
      conv => whnf
      rfl
end Go.E.Ytodgjanekjefbaa

/-
  Law ShaBlocks.
-/
namespace Go.E.Ytodgjanekjefbaa
open Go.Proofs
set_option maxRecDepth 100000
theorem alive_in {m : Mem} : Spec Try.prog 7 [] m fun r m' => r = [boolV true] ∧ Sub m m' :=
  (alive_spec.new (Split.one m)).mono fun _ _ ⟨p, h1, h2⟩ => ⟨h1, h2.sub (by simp)⟩
theorem shaBlocks_spec {m : Mem} {n : Int} (hn : -9223372036854775808 ≤ n ∧ n ≤ 9223372036854775807) : Spec Try.prog 4 [i64 n] m fun r m' => r = [boolV true] ∧ Sub m m' := by
  refine en4 rfl (goY ?_)
  conv => whnf
  refine xcall (alive_in) ?_
  rintro _ m1 ⟨rfl, hs⟩
  conv => whnf
  refine ⟨fun _ => ?_, fun h => absurd h (by decide)⟩
  conv => whnf
  first | refine xretk (shab_spec hn) ?_ | refine xret (shab_spec hn) ?_
  conv => whnf
  first | refine xretk (refb_spec hn) ?_ | refine xret (refb_spec hn) ?_
  conv => whnf
  exact ⟨by simp, hs⟩
end Go.E.Ytodgjanekjefbaa

/-
  From a contract to a law's row: what arguments are that were read; that they read the same behind the call.
-/
namespace Go.E
open Go.ChangeShapes Go.WideShapes Go.RowKit

/-- a cell that was read: of the kind of z, and as such a cell may be -/
def KW : Value → Value → Prop
  | .int k _, .int k' n => k = k' ∧ (Lit.int k n).wf = true
  | .bool _, .bool _ => True
  | .string _, .string s => s.size ≤ maxLen
  | _, _ => False
def KWs : List Value → List Value → Prop
  | [], [] => True
  | z :: zs, x :: xs => KW z x ∧ KWs zs xs
  | _, _ => False
theorem KWs.length : ∀ {z x : List Value}, KWs z x → z.length = x.length
  | [], [], _ => rfl
  | _ :: _, _ :: _, h => by simp [KWs.length h.2]
  | [], _ :: _, h => h.elim
  | _ :: _, [], h => h.elim
theorem KWs.append : ∀ {z x z' x' : List Value}, KWs z x → KWs z' x' → KWs (z ++ z') (x ++ x')
  | [], [], _, _, _, h => h
  | _ :: _, _ :: _, _, _, h, h' => ⟨h.1, KWs.append h.2 h'⟩
  | [], _ :: _, _, _, h, _ => h.elim
  | _ :: _, [], _, _, h, _ => h.elim

section
variable {H : Type} {enc : TypeId × Value → H} {P : Program} {w : World} {base : Nat} {spare : Nat → Bool} {held : Bool}

theorem kws_items {D : Nat} {e : TypeId} {s : Nat} {z cs : List Value} (IH : ∀ i, goodB P D e ((z.drop (i * s)).take s) = true → KWs ((z.drop (i * s)).take s) ((cs.drop (i * s)).take s)) : ∀ (n k : Nat), (n + k) * s = z.length → cs.length = z.length →
    (∀ i, i < n + k → goodB P D e ((z.drop (i * s)).take s) = true) → KWs (z.drop (k * s)) (cs.drop (k * s))
  | 0, k, hl, hc, _ => by
    have h1 : z.drop (k * s) = [] := List.drop_eq_nil_of_le (by rw [← hl]; simp)
    have h2 : cs.drop (k * s) = [] := List.drop_eq_nil_of_le (by rw [hc, ← hl]; simp)
    rw [h1, h2]; trivial
  | n + 1, k, hl, hc, hg => by
    have ih := kws_items IH n (k + 1) (by rw [← hl]; congr 1; omega) hc (fun i hi => hg i (by omega))
    have := (IH k (hg k (by omega))).append ih
    have e1 : (k + 1) * s = k * s + s := by rw [Nat.add_mul, Nat.one_mul]
    rw [e1, ← List.drop_drop, ← List.drop_drop, List.take_append_drop, List.take_append_drop] at this
    exact this
theorem kws_fields {D : Nat} {z cs : List Value} (IH : ∀ (f : TypeId) (off : Nat), off + P.cellsOf f ≤ z.length → goodB P D f ((z.drop off).take (P.cellsOf f)) = true → (∃ fuel x, DataW.trod enc P w base spare held fuel f ((cs.drop off).take (P.cellsOf f)) = some x) → KWs ((z.drop off).take (P.cellsOf f)) ((cs.drop off).take (P.cellsOf f))) :
    ∀ (fs : List Field) (off : Nat), cs.length = z.length → goodF P (goodB P D) fs z off = true → (∀ f ∈ fs, ∃ fuel x, DataW.trod enc P w base spare held fuel f.type ((cs.drop f.offset).take (P.cellsOf f.type)) = some x) → KWs (z.drop off) (cs.drop off)
  | [], off, hc, hg, _ => by
    simp only [goodF, beq_iff_eq] at hg
    have h1 : z.drop off = [] := List.drop_eq_nil_of_le (by omega)
    have h2 : cs.drop off = [] := List.drop_eq_nil_of_le (by omega)
    rw [h1, h2]; trivial
  | f :: fs, off, hc, hg, ht => by
    simp only [goodF, Bool.and_eq_true, bne_iff_ne, ne_eq, beq_iff_eq] at hg
    obtain ⟨⟨⟨⟨_, ho⟩, hle⟩, hgf⟩, hr⟩ := hg
    have hle := of_decide_eq_true hle
    have h0 := ht f (by simp)
    rw [ho] at h0
    have := (IH f.type off hle hgf h0).append (kws_fields IH fs (off + P.cellsOf f.type) hc hr (fun f' hf => ht f' (by simp [hf])))
    rw [← List.drop_drop, ← List.drop_drop, List.take_append_drop, List.take_append_drop] at this
    exact this

theorem mapM_all {α β : Type} {f : α → Option β} : ∀ {l : List α} {r : List β}, l.mapM f = some r → ∀ x ∈ l, ∃ y, f x = some y
  | [], _, _, x, hx => by cases hx
  | a :: l, r, h, x, hx => by
    rw [List.mapM_cons] at h
    simp only [bind, Option.bind_eq_some_iff, pure, Option.some.injEq] at h
    obtain ⟨y, hy, ys, hys, _⟩ := h
    rcases List.mem_cons.1 hx with rfl | hx
    · exact ⟨y, hy⟩
    · exact mapM_all hys x hx

theorem trod_kw : ∀ (D : Nat) (t : TypeId) (z cs : List Value) (fuel : Nat) (x : DataW H × List MemPlace), goodB P D t z = true → z.length = P.cellsOf t → DataW.trod enc P w base spare held fuel t cs = some x → KWs z cs
  | 0, _, _, _, _, _, h, _, _ => by simp [goodB] at h
  | D + 1, t, z, cs, 0, x, h, hz, ht => by simp [DataW.trod] at ht
  | D + 1, t, z, cs, fuel + 1, x, h, hz, ht => by
    have IH := trod_kw D
    unfold goodB at h
    cases hu : P.underlying t with
    | none => simp [hu] at h
    | some kd =>
      rw [hu] at h
      cases kd with
      | bool =>
        simp only at h
        split at h
        · obtain ⟨b, rfl, _⟩ := DataW.trod_bool hu ht
          exact ⟨trivial, trivial⟩
        · cases h
      | int q =>
        simp only at h
        split at h
        · rename_i k' v
          have := kEq_eq h; subst this
          obtain ⟨n, rfl, _, hw⟩ := DataW.trod_int hu ht
          exact ⟨⟨rfl, hw⟩, trivial⟩
        · cases h
      | string =>
        simp only at h
        split at h
        · obtain ⟨s, rfl, _, hs⟩ := DataW.trod_string hu ht
          exact ⟨hs, trivial⟩
        · cases h
      | array n e =>
        simp only [Bool.and_eq_true, beq_iff_eq, List.all_eq_true, List.mem_range] at h
        obtain ⟨⟨hi, hlen⟩, hall⟩ := h
        obtain ⟨xs, k, hk, _, hl, hxl, hp⟩ := DataW.trod_array hu ht
        have := kws_items (P := P) (D := D) (e := e) (s := P.cellsOf e) (z := z) (cs := cs) (fun i hg => by
          by_cases hin : i < n
          · have hy := hp i hin
            rw [List.getElem?_eq_getElem (by omega)] at hy
            refine IH e _ _ k _ hg ?_ hy
            simp only [List.length_take, List.length_drop]
            have hle : i * P.cellsOf e + P.cellsOf e ≤ z.length := by
              rw [hlen, show i * P.cellsOf e + P.cellsOf e = (i + 1) * P.cellsOf e by rw [Nat.add_mul, Nat.one_mul]]
              exact Nat.mul_le_mul_right _ hin
            omega
          · have hge : z.length ≤ i * P.cellsOf e := by
              rw [hlen]; exact Nat.mul_le_mul_right _ (Nat.le_of_not_lt hin)
            rw [List.drop_eq_nil_of_le hge, List.drop_eq_nil_of_le (by omega)]
            simp [KWs]) n 0 (by simp; omega) (by omega) (fun i hi => hall i (by omega))
        simpa using this
      | struct fs =>
        simp only [Bool.and_eq_true, Bool.not_eq_true'] at h
        obtain ⟨_, hf⟩ := h
        obtain ⟨xs, k, hk, _, hl, hxl, hp⟩ := DataW.trod_struct hu ht
        have hfit : ∀ (f : TypeId) (off : Nat), off + P.cellsOf f ≤ z.length → goodB P D f ((z.drop off).take (P.cellsOf f)) = true → (∃ fuel x, DataW.trod enc P w base spare held fuel f ((cs.drop off).take (P.cellsOf f)) = some x) → KWs ((z.drop off).take (P.cellsOf f)) ((cs.drop off).take (P.cellsOf f)) := by
          intro f off hle hg ⟨fu, y, hy⟩
          exact IH f _ _ fu y hg (by simp only [List.length_take, List.length_drop]; omega) hy
        have := kws_fields hfit fs.toList 0 (by omega) hf (fun f hf' => by
          obtain ⟨i, hi, he⟩ := List.getElem_of_mem hf'
          have hy := hp i f (by rw [← Array.getElem?_toList, List.getElem?_eq_getElem hi, he])
          rw [List.getElem?_eq_getElem (by simp at hi; omega)] at hy
          exact ⟨k, _, hy⟩)
        simpa using this
      | _ => simp at h

def InLB : LB → LB → Prop
  | [], [] => True
  | .one z :: zs, .one x :: xs => KW z x ∧ InLB zs xs
  | .ints k n _ :: zs, .ints k' n' l :: xs => (k' = k ∧ n' = n ∧ l.length = n ∧ ∀ x ∈ l, (Lit.int k x).wf = true) ∧ InLB zs xs
  | _, _ => False
def plainLB : LB → Bool
  | [] => true
  | .one _ :: r => plainLB r
  | .ints _ _ _ :: r => plainLB r
  | .vals _ _ :: _ => false
theorem kws_ints {k : IntKind} : ∀ (l : List Int) (z' cs : List Value), KWs (l.map (Value.int k) ++ z') cs → ∃ (l' : List Int) (r : List Value), cs = l'.map (Value.int k) ++ r ∧ l'.length = l.length ∧ (∀ x ∈ l', (Lit.int k x).wf = true) ∧ KWs z' r
  | [], z', cs, h => ⟨[], cs, rfl, rfl, by simp, h⟩
  | a :: l, z', [], h => h.elim
  | a :: l, z', c :: cs, h => by
    obtain ⟨h1, h2⟩ := h
    obtain ⟨l', r, rfl, h3, h4, h5⟩ := kws_ints l z' cs h2
    cases c <;> simp only [KW] at h1
    obtain ⟨rfl, h1⟩ := h1
    rename_i n
    refine ⟨n :: l', r, rfl, by simp [h3], ?_, h5⟩
    intro x hx
    rcases List.mem_cons.1 hx with rfl | hx
    · exact h1
    · exact h4 x hx
theorem KW.one {z x : Value} (h : KW z x) : x.oneCell' = true := by
  cases z <;> cases x <;> simp only [KW] at h <;> rfl
theorem inLB_of : ∀ {z : LB} {cs : List Value}, plainLB z = true → LB.ok z → KWs (LB.cells z) cs → ∃ c, LB.cells c = cs ∧ LB.ok c ∧ InLB z c
  | [], [], _, _, _ => ⟨[], rfl, trivial, trivial⟩
  | [], _ :: _, _, _, h => h.elim
  | .one z :: zs, [], _, _, h => h.elim
  | .one z :: zs, x :: xs, hp, hz, h => by
    obtain ⟨h1, h2⟩ := h
    obtain ⟨c, rfl, hc, h3⟩ := inLB_of (z := zs) hp hz.2 h2
    exact ⟨.one x :: c, rfl, ⟨h1.one, hc⟩, h1, h3⟩
  | .ints k n l :: zs, cs, hp, hz, h => by
    obtain ⟨l', r, rfl, h1, h2, h3⟩ := kws_ints l (LB.cells zs) cs h
    obtain ⟨c, rfl, hc, h4⟩ := inLB_of (z := zs) hp hz.2 h3
    have hl : l.length = n := hz.1
    exact ⟨.ints k n l' :: c, rfl, ⟨(by show l'.length = n; omega), hc⟩, ⟨rfl, rfl, by omega, h2⟩, h4⟩
  | .vals _ _ :: _, _, hp, _, _ => by simp [plainLB] at hp

/-- an argument that is a struct or an array of plain cells -/
theorem open_flat {T : Tab} (hT : TabOk P T) {t : TypeId} {ti : TI} (ht : T t = some ti) (he : ti.eq = true) (hp : plainLB ti.zero = true) {r : Reach} {b0 : Nat} {v : Value} {d : DataW H} {ps : List MemPlace}
    (hval : Value.okWide P w r b0 t v) (hd : DataW.Trod enc P w base spare held t v d ps) : ∃ c, v = .agg (LB.cells c).toArray ∧ LB.ok c ∧ InLB ti.zero c := by
  have ho := hT t ti ht
  obtain ⟨ha, hg, _, hsz⟩ := ho.eqOk he
  obtain ⟨ds, hds, hk⟩ := ho.desc
  obtain ⟨j, hj, hjs, _, z, hz, hzc⟩ := ho.inf
  have hv : ∃ cs, v = .agg cs := by
    unfold Value.okWide at hval
    rw [← hk] at ha
    rw [hds] at hval
    cases ds <;> simp [TK.of, TK.agg] at ha <;> (obtain ⟨cs, h, _⟩ := hval; exact ⟨cs, h⟩)
  obtain ⟨cs, rfl⟩ := hv
  obtain ⟨fuel, hf⟩ := hd
  have hf' : DataW.trod enc P w base spare held fuel t cs.toList = some (d, ps) := hf
  have hlen : (LB.cells ti.zero).length = P.cellsOf t := by
    rw [hsz, ← hjs]; simp [Program.cellsOf, hj]
  obtain ⟨c, h1, h2, h3⟩ := inLB_of hp ho.zok (trod_kw 50 t _ _ fuel _ hg hlen hf')
  exact ⟨c, by rw [h1], h2, h3⟩

theorem trodAll_stays (hl : laidOutB P = true) {W W' : World} (hb : Below W.heap.size W W') {sp : Nat → Bool} : ∀ {ts : List TypeId} {vs : List Value} {ds : List (DataW H)} {ps : List MemPlace}, (∀ t ∈ ts, P.readableRec t = true ∧ t < P.types.size) →
    DataW.TrodAll enc P W 0 (fun _ => true) true ts vs ds ps → (∀ p ∈ ps, p.block < W.heap.size) → (∀ p ∈ ps, sp p.block = true) → DataW.TrodAll enc P W' 0 sp true ts vs ds ps
  | [], [], [], ps, _, h, _, _ => h
  | t :: ts, v :: vs, d :: ds, ps, hr, h, hlt, hs => by
    obtain ⟨p, q, h1, h2, rfl⟩ := h
    refine ⟨p, q, WideElems.Trod_stays hl (hr t (by simp)).1 (hr t (by simp)).2 h1 (fun x hx => hb.same (hlt x (by simp [hx]))) (fun x hx => hs x (by simp [hx])),
      trodAll_stays hl hb (fun t' ht' => hr t' (by simp [ht'])) h2 (fun x hx => hlt x (by simp [hx])) (fun x hx => hs x (by simp [hx])), rfl⟩
  | [], _ :: _, _, _, _, h, _, _ => h.elim
  | [], [], _ :: _, _, _, h, _, _ => h.elim
  | _ :: _, [], _, _, _, h, _, _ => h.elim
  | _ :: _, _ :: _, [], _, _, h, _, _ => h.elim

/-- THE LAW's ROW IS SHUT: it returned true, and below the heap's old size nothing has turned. -/
theorem lawPost (hl : laidOutB P = true) {f : Func} {s : ChangeSpec} {W W' : World} {args : Array Value} {ds gs : List (DataW H)} {before : List MemPlace} {tb : TypeId} (hvars : s.vars = [])
    (hfn : s.fn H (ds ++ gs) = { results := [.lit (.bool true)], args := ds }) (hres : f.resultTypes = #[tb]) (hbool : P.underlying tb = some .bool) (hread : f.params.toList.all (fun t => P.readableRec t && decide (t < P.types.size)) = true)
    (hW : DataW.Whole enc P f.params.toList s.vars false W args.toList ds gs before) (hb : Below W.heap.size W W') : s.post enc P f false true false false W args (.bool true) W' := by
  have hlt := hW.lt
  have hW' := hW
  obtain ⟨p, q, hA, hV, rfl, hfz, hnd⟩ := hW
  rw [hvars] at hV
  obtain ⟨rfl, rfl⟩ := trodVars_none hV
  have hread' : ∀ t ∈ f.params.toList, P.readableRec t = true ∧ t < P.types.size := fun t ht => by
    have := List.all_eq_true.1 hread t ht
    simpa using this
  have hA' : DataW.TrodAll enc P W' 0 (fun b => decide (b < W.heap.size)) true f.params.toList args.toList ds p :=
    trodAll_stays hl hb hread' hA (fun x hx => hlt x (by simp [hx])) (fun x hx => by simpa using hlt x (by simp [hx]))
  refine ⟨ds, [], p ++ [], [], p, [], hW', ?_, ?_, ?_, World.keptBut_mono (fun x hx => ⟨hx, .inr (.inl (by simpa using hx))⟩) (hb.frame _), fun h => by cases h⟩
  · rw [hfn, hres]
    exact trodAll_cons_mk (shut_bool hbool _) trodAll_mk0
  · rw [hfn]; exact hA'
  · rw [hfn, hvars]; rfl
end
end Go.E

/-
  What arguments that are slices of plain cells are.
-/
namespace Go.E
open Go.ChangeShapes Go.WideShapes Go.RowKit
section
variable {H : Type} {enc : TypeId × Value → H} {P : Program} {w : World} {base : Nat} {spare : Nat → Bool} {held : Bool}

theorem chunks_flat {α : Type} (l : List α) (s : Nat) : ∀ (n k : Nat), (k + n) * s ≤ l.length → ((List.range' k n).map (fun i => (l.drop (i * s)).take s)).flatten = (l.drop (k * s)).take (n * s)
  | 0, k, _ => by simp
  | n + 1, k, h => by
    have ih := chunks_flat l s n (k + 1) (by rw [show k + 1 + n = k + (n + 1) by omega]; exact h)
    simp only [List.range'_succ, List.map_cons, List.flatten_cons, ih]
    rw [show (n + 1) * s = s + n * s by rw [Nat.add_mul]; omega, show (k + 1) * s = k * s + s by rw [Nat.add_mul]; omega]
    rw [List.take_add, List.drop_drop]
/-- a slice whose elements are plain: each element's cells, as they were read -/
theorem open_slice {T : Tab} (hT : TabOk P T) {t e : TypeId} {ti ei : TI} (ht : T t = some ti) (hk : ti.k = .slice e) (he : T e = some ei) (hg : goodB P 50 e (LB.cells ei.zero) = true) (hsz : (LB.cells ei.zero).length = ei.size) (hpos : 0 < ei.size)
    (hall : ∀ z ∈ LB.cells ei.zero, ∀ x, KW z x → x.oneCell' = true) {r : Reach} {b0 : Nat} {v : Value} {d : DataW H} {ps : List MemPlace}
    (hval : Value.okWide P w r b0 t v) (hd : DataW.Trod enc P w base spare held t v d ps) :
    ∃ els : List (List Value), Lies (fun b => w.heap[b]?) ei.size v els.flatten ∧ lenV v = els.length ∧ (∀ c ∈ els, KWs (LB.cells ei.zero) c) ∧ els.length ≤ maxLen ∧ v.oneCell' = true := by
  have hsl := (hT t ti ht).slice hk
  obtain ⟨j, hj, hjs, _, z, hz, hzc⟩ := (hT e ei he).inf
  have hcell : P.cellsOf e = ei.size := by simp [Program.cellsOf, hj, hjs]
  obtain ⟨fuel, hf⟩ := hd
  have hvc : ∃ v', v = v' ∧ v.cells.toList = [v'] ∧ v.oneCell' = true := by
    unfold Value.okWide at hval
    rw [hsl] at hval
    simp only [Cell.okWide, hsl, Cell.ok] at hval
    cases v <;> simp at hval
    exact ⟨_, rfl, rfl, rfl⟩
  obtain ⟨v', rfl, hc1, hone⟩ := hvc
  have hf' : DataW.trod enc P w base spare held fuel t v.cells.toList = some (d, ps) := hf
  rw [hc1] at hf'
  rcases DataW.trod_slice hsl hf' with ⟨h0, _⟩ | ⟨a, len, cap, elems, rest, n, _, h0, _, hb, hl, hm, hlen, hel, _, _⟩
  · simp only [List.cons.injEq, and_true] at h0
    subst h0
    exact ⟨[], .inl ⟨0, rfl, rfl⟩, rfl, by simp, by simp, rfl⟩
  · simp only [List.cons.injEq, and_true] at h0
    subst h0
    have hw : w.has P r b0 a e cap := by
      unfold Value.okWide at hval
      rw [hsl] at hval
      simp only [Cell.okWide, hsl, Cell.ok] at hval
      exact hval.2.2
    obtain ⟨_, hspot, row, cells, hshape, _⟩ := hw
    obtain ⟨b, o, spot⟩ := a
    simp only at hspot
    subst hspot
    have hblk : ∃ arr t' fr, w.heap[b]? = some (.cells arr t' fr) := by
      unfold World.shape? at hshape
      simp only at hshape
      cases hx : w.heap[b]? with
      | none => simp [hx] at hshape
      | some ob => cases ob <;> simp [hx] at hshape <;> exact ⟨_, _, _, rfl⟩
    obtain ⟨arr, t', fr, harr⟩ := hblk
    rw [hcell] at hel
    have each : ∀ i, i < len → ∃ cs y, KWs (LB.cells ei.zero) cs ∧ cs = ((arr.toList.drop o).drop (i * ei.size)).take ei.size ∧ DataW.trod enc P w base spare held n e cs = some y ∧ o + i * ei.size + ei.size ≤ arr.size := by
      intro i hi
      have h1 := hel i hi
      have h2 : ∃ y, elems[i]? = some y := ⟨elems[i]'(by omega), by simp [show i < elems.length by omega]⟩
      obtain ⟨y, hy⟩ := h2
      rw [hy, Option.bind_eq_some_iff] at h1
      obtain ⟨cs, g1, g2⟩ := h1
      obtain ⟨_, g3, g4⟩ := World.cells?_some g1
      have g5 : ∀ k, k < ei.size → arr[o + i * ei.size + k]? = cs[k]? := by
        intro k hk'
        have := g4 k hk'
        rw [add_none, add_none, cell_at harr] at this
        exact this
      have hlast : o + i * ei.size + ei.size ≤ arr.size := by
        have := g5 (ei.size - 1) (by omega)
        rw [List.getElem?_eq_getElem (by omega)] at this
        have := (Array.getElem?_eq_some_iff.1 this).1
        omega
      refine ⟨cs, y, trod_kw 50 e _ _ n _ hg (by rw [hsz, hcell]) g2, ?_, g2, hlast⟩
      apply List.ext_getElem?
      intro k
      by_cases hk' : k < ei.size
      · rw [← g5 k hk', List.getElem?_take, if_pos hk', List.getElem?_drop, List.getElem?_drop, Array.getElem?_toList]
        congr 1; omega
      · rw [List.getElem?_eq_none (by omega), List.getElem?_eq_none (by simp; omega)]
    have hbound : len * ei.size ≤ (arr.toList.drop o).length ∨ len = 0 := by
      by_cases h0 : len = 0
      · exact .inr h0
      · obtain ⟨_, _, _, _, _, g⟩ := each (len - 1) (by omega)
        left
        have : len * ei.size = (len - 1) * ei.size + ei.size := by
          rw [← Nat.succ_mul]; congr 1; omega
        simp
        omega
    have hflat := chunks_flat (arr.toList.drop o) ei.size len 0 (by
      rw [Nat.zero_add]
      rcases hbound with h | h
      · exact h
      · rw [h]; simp)
    refine ⟨(List.range' 0 len).map (fun i => ((arr.toList.drop o).drop (i * ei.size)).take ei.size), .inr ⟨b, o, cap, len, arr, t', fr, rfl, harr, ?_, hl, ?_, ?_⟩, by simp [lenV], ?_, by simp; omega, rfl⟩
    · rw [hflat]
      simp only [Nat.zero_mul, List.drop_zero, List.length_take]
      rcases hbound with h | h
      · omega
      · rw [h]; simp
    · intro j' u hu
      rw [hflat] at hu
      simp only [Nat.zero_mul, List.drop_zero, List.getElem?_take] at hu
      split at hu
      · rw [List.getElem?_drop, Array.getElem?_toList] at hu; exact hu
      · simp at hu
    · intro u hu
      obtain ⟨c, hc, huc⟩ := List.mem_flatten.1 hu
      obtain ⟨i, hi, rfl⟩ := List.mem_map.1 hc
      simp at hi
      obtain ⟨cs, y, k1, k2, _⟩ := each i hi
      rw [← k2] at huc
      have : ∀ (zs cs : List Value), KWs zs cs → (∀ z ∈ zs, ∀ x, KW z x → x.oneCell' = true) → ∀ u ∈ cs, u.oneCell' = true := by
        intro zs
        induction zs with
        | nil => intro cs h _ u hu; cases cs with
          | nil => simp at hu
          | cons => exact h.elim
        | cons z zs ih => intro cs h h' u hu; cases cs with
          | nil => exact h.elim
          | cons c cs =>
            rcases List.mem_cons.1 hu with rfl | hu
            · exact h' z (by simp) _ h.1
            · exact ih cs h.2 (fun z hz => h' z (by simp [hz])) u hu
      exact this _ _ k1 hall u huc
    · intro c hc
      obtain ⟨i, hi, rfl⟩ := List.mem_map.1 hc
      simp at hi
      obtain ⟨cs, y, k1, k2, _⟩ := each i hi
      rw [← k2]; exact k1
/-- numbers -/
theorem kws_one {k : IntKind} {c : List Value} {z : Int} (h : KWs [.int k z] c) : ∃ n, c = [.int k n] ∧ (Lit.int k n).wf = true := by
  match c, h with
  | [.int k' n], h => obtain ⟨⟨rfl, h⟩, _⟩ := h; exact ⟨n, rfl, h⟩
theorem els_ints {k : IntKind} {z : Int} : ∀ {els : List (List Value)}, (∀ c ∈ els, KWs [.int k z] c) → ∃ l : List Int, els.flatten = l.map (Value.int k) ∧ l.length = els.length ∧ ∀ n ∈ l, (Lit.int k n).wf = true
  | [], _ => ⟨[], rfl, rfl, by simp⟩
  | c :: els, h => by
    obtain ⟨n, rfl, hn⟩ := kws_one (h c (by simp))
    obtain ⟨l, h1, h2, h3⟩ := els_ints (els := els) (fun c hc => h c (by simp [hc]))
    refine ⟨n :: l, by simp [h1], by simp [h2], ?_⟩
    intro x hx
    rcases List.mem_cons.1 hx with rfl | hx
    · exact hn
    · exact h3 x hx
theorem els_vecs {k : IntKind} {z : List Int} : ∀ {els : List (List Value)}, (∀ c ∈ els, KWs (z.map (Value.int k)) c) → ∃ ls : List (List Int), els = ls.map (fun l => l.map (Value.int k)) ∧ ∀ l ∈ ls, l.length = z.length ∧ ∀ n ∈ l, (Lit.int k n).wf = true
  | [], _ => ⟨[], rfl, by simp⟩
  | c :: els, h => by
    have hc := h c (by simp)
    obtain ⟨l', r, h1, h2, h3, h4⟩ := kws_ints z [] c (by simpa using hc)
    have hr : r = [] := by cases r with
      | nil => rfl
      | cons => exact h4.elim
    subst hr
    obtain ⟨ls, g1, g2⟩ := els_vecs (els := els) (fun c hc => h c (by simp [hc]))
    refine ⟨l' :: ls, by simp [h1, g1], ?_⟩
    intro x hx
    rcases List.mem_cons.1 hx with rfl | hx
    · exact ⟨h2, h3⟩
    · exact g2 x hx
end
end Go.E

/-
  What arguments are that were read, by their shapes: numbers, texts, structs, arrays, and slices of these, as deep as they go.
-/
namespace Go.E
open Go.ChangeShapes Go.WideShapes Go.RowKit

inductive Sh where
  | int (k : IntKind)
  | bool
  | str
  | slice (e : Sh)
  | unit
  | pair (a b : Sh)
  | rep (n : Nat) (e : Sh)
def Sh.size : Sh → Nat
  | .unit => 0
  | .pair a b => a.size + b.size
  | .rep n e => n * e.size
  | _ => 1
def Dat (m : Mem) : Sh → List Value → Prop
  | .int k, cs => ∃ n, cs = [.int k n] ∧ (Lit.int k n).wf = true
  | .bool, cs => ∃ b, cs = [.bool b]
  | .str, cs => ∃ s, cs = [.string s] ∧ s.size ≤ maxLen
  | .slice e, cs => ∃ (v : Value) (els : List (List Value)), cs = [v] ∧ (Lies m e.size v els.flatten ∨ (els = [] ∧ ∃ a, v = .slice (some a) 0 0)) ∧ lenV v = els.length ∧ (∀ c ∈ els, Dat m e c) ∧ els.length ≤ maxLen
  | .unit, cs => cs = []
  | .pair a b, cs => ∃ x y, cs = x ++ y ∧ Dat m a x ∧ Dat m b y
  | .rep n e, cs => ∃ els : List (List Value), cs = els.flatten ∧ els.length = n ∧ ∀ c ∈ els, Dat m e c
def intB : Option TypeDesc → IntKind → Bool
  | some (.int k), q => kEq k q
  | _, _ => false
/-- is it the type's shape? and: are these fields, from an offset on? -/
def chk (P : Program) : Sh → (TypeId → Bool) × (List Field → Nat → Bool)
  | .int k => (fun t => intB (P.underlying t) k, fun _ _ => false)
  | .bool => (fun t => match P.underlying t with | some .bool => true | _ => false, fun _ _ => false)
  | .str => (fun t => match P.underlying t with | some .string => true | _ => false, fun _ _ => false)
  | .slice e => (fun t => match P.underlying t with | some (.slice et) => (chk P e).1 et && (P.cellsOf et == e.size && Nat.blt 0 e.size) | _ => false, fun _ _ => false)
  | .unit => (fun _ => false, fun fs _ => fs.isEmpty)
  | .pair a b =>
    let F : List Field → Nat → Bool := fun fs off => match fs with
      | f :: fs => f.offset == off && ((chk P a).1 f.type && (P.cellsOf f.type == a.size && (chk P b).2 fs (off + a.size)))
      | [] => false
    (fun t => match P.underlying t with | some (.struct fs) => P.cellsOf t == a.size + b.size && F fs.toList 0 | _ => false, F)
  | .rep n e => (fun t => match P.underlying t with | some (.array k et) => Nat.beq k n && ((chk P e).1 et && (P.cellsOf et == e.size && P.cellsOf t == n * e.size)) | _ => false, fun _ _ => false)

section
variable {H : Type} {enc : TypeId × Value → H} {P : Program} {w : World} {base : Nat} {spare : Nat → Bool} {held : Bool}
theorem Dat.one {m : Mem} : ∀ {sh : Sh} {cs : List Value}, Dat m sh cs → ∀ u ∈ cs, u.oneCell' = true
  | .int k, cs, h, u, hu => by obtain ⟨n, rfl, _⟩ := h; simp at hu; subst hu; rfl
  | .bool, cs, h, u, hu => by obtain ⟨n, rfl⟩ := h; simp at hu; subst hu; rfl
  | .str, cs, h, u, hu => by obtain ⟨n, rfl, _⟩ := h; simp at hu; subst hu; rfl
  | .slice e, cs, h, u, hu => by
    obtain ⟨v, els, rfl, h1, _⟩ := h
    simp at hu; subst hu
    rcases h1 with h1 | ⟨_, a, rfl⟩
    · exact h1.one
    · rfl
  | .unit, cs, h, u, hu => by simp only [Dat] at h; subst h; cases hu
  | .pair a b, cs, h, u, hu => by
    obtain ⟨x, y, rfl, h1, h2⟩ := h
    rcases List.mem_append.1 hu with hu | hu
    · exact Dat.one h1 u hu
    · exact Dat.one h2 u hu
  | .rep n e, cs, h, u, hu => by
    obtain ⟨els, rfl, _, h1⟩ := h
    obtain ⟨c, hc, huc⟩ := List.mem_flatten.1 hu
    exact Dat.one (h1 c hc) u huc
theorem flat_len {els : List (List Value)} {s : Nat} (h : ∀ c ∈ els, c.length = s) : els.flatten.length = els.length * s := by
  induction els with
  | nil => simp
  | cons a els ih =>
    simp only [List.flatten_cons, List.length_append, List.length_cons]
    rw [ih (fun c hc => h c (by simp [hc])), h a (by simp), Nat.add_mul]; omega
theorem Dat.length {m : Mem} : ∀ {sh : Sh} {cs : List Value}, Dat m sh cs → cs.length = sh.size
  | .int k, cs, h => by obtain ⟨n, rfl, _⟩ := h; rfl
  | .bool, cs, h => by obtain ⟨n, rfl⟩ := h; rfl
  | .str, cs, h => by obtain ⟨n, rfl, _⟩ := h; rfl
  | .slice e, cs, h => by obtain ⟨v, els, rfl, _⟩ := h; rfl
  | .unit, cs, h => by simp only [Dat] at h; subst h; rfl
  | .pair a b, cs, h => by
    obtain ⟨x, y, rfl, h1, h2⟩ := h
    simp only [List.length_append, Sh.size, Dat.length h1, Dat.length h2]
  | .rep n e, cs, h => by
    obtain ⟨els, rfl, h2, h1⟩ := h
    rw [flat_len (fun c hc => Dat.length (h1 c hc)), h2]; rfl

theorem chunk_list {α : Type} (l : List α) (s n : Nat) (h : l.length = n * s) : ((List.range' 0 n).map (fun i => (l.drop (i * s)).take s)).flatten = l := by
  rw [chunks_flat l s n 0 (by rw [Nat.zero_add, h]; exact Nat.le_refl _)]
  simp [← h]
theorem cell_some {a : Addr} {v : Value} (h : w.cell? a = some v) : ∃ b o arr t fr, a = ⟨b, o, none⟩ ∧ w.heap[b]? = some (.cells arr t fr) ∧ arr[o]? = some v := by
  obtain ⟨b, o, sp⟩ := a
  unfold World.cell? at h
  simp only at h
  split at h
  · rename_i arr t fr hb
    cases sp with
    | some _ => simp at h
    | none => exact ⟨b, o, arr, t, fr, rfl, hb, by simpa using h⟩
  · cases h
theorem add_zero (a : Addr) : a.add 0 = a := by simp [Addr.add]
/-- THE OPENING -/
theorem trod_dat (hsp : ∀ b, spare b = true) : ∀ (sh : Sh), (∀ (t : TypeId) (cs : List Value) (fuel : Nat) (x : DataW H × List MemPlace), (chk P sh).1 t = true → DataW.trod enc P w base spare held fuel t cs = some x → Dat (fun b => w.heap[b]?) sh cs) ∧
    (∀ (fs : List Field) (off : Nat) (cs : List Value), (chk P sh).2 fs off = true → cs.length = off + sh.size → (∀ f ∈ fs, ∃ fuel x, DataW.trod enc P w base spare held fuel f.type ((cs.drop f.offset).take (P.cellsOf f.type)) = some x) → Dat (fun b => w.heap[b]?) sh (cs.drop off)) := by
  intro sh
  induction sh with
  | int k =>
    refine ⟨fun t cs fuel x h ht => ?_, fun fs off cs h => by simp [chk] at h⟩
    simp only [chk] at h
    cases hu : P.underlying t with
    | none => rw [hu] at h; cases h
    | some d =>
      rw [hu] at h
      cases d <;> simp only [intB] at h <;> try cases h
      rename_i q
      have := kEq_eq h; subst this
      obtain ⟨n, rfl, _, hw⟩ := DataW.trod_int hu ht
      exact ⟨n, rfl, hw⟩
  | bool =>
    refine ⟨fun t cs fuel x h ht => ?_, fun fs off cs h => by simp [chk] at h⟩
    simp only [chk] at h
    split at h
    · rename_i hu; obtain ⟨b, rfl, _⟩ := DataW.trod_bool hu ht; exact ⟨b, rfl⟩
    · cases h
  | str =>
    refine ⟨fun t cs fuel x h ht => ?_, fun fs off cs h => by simp [chk] at h⟩
    simp only [chk] at h
    split at h
    · rename_i hu; obtain ⟨s, rfl, _, hs⟩ := DataW.trod_string hu ht; exact ⟨s, rfl, hs⟩
    · cases h
  | unit =>
    refine ⟨fun t cs fuel x h ht => by simp [chk] at h, fun fs off cs h hl _ => ?_⟩
    simp only [Sh.size] at hl
    exact List.drop_eq_nil_of_le (by omega)
  | pair a b iha ihb =>
    have F : ∀ (fs : List Field) (off : Nat) (cs : List Value), (chk P (.pair a b)).2 fs off = true → cs.length = off + (Sh.pair a b).size → (∀ f ∈ fs, ∃ fuel x, DataW.trod enc P w base spare held fuel f.type ((cs.drop f.offset).take (P.cellsOf f.type)) = some x) → Dat (fun b => w.heap[b]?) (.pair a b) (cs.drop off) := by
      intro fs off cs h hl hf
      cases fs with
      | nil => simp [chk] at h
      | cons f fs =>
        simp only [chk, Bool.and_eq_true, beq_iff_eq] at h
        obtain ⟨ho, h1, h2, h3⟩ := h
        simp only [Sh.size] at hl
        obtain ⟨fu, x, hx⟩ := hf f (by simp)
        rw [ho, h2] at hx
        refine ⟨(cs.drop off).take a.size, cs.drop (off + a.size), ?_, iha.1 _ _ _ _ h1 hx, ihb.2 fs (off + a.size) cs h3 (by omega) (fun g hg => hf g (by simp [hg]))⟩
        rw [← List.drop_drop, List.take_append_drop]
    refine ⟨fun t cs fuel x h ht => ?_, F⟩
    have h' : (match P.underlying t with | some (.struct fs) => P.cellsOf t == a.size + b.size && (chk P (.pair a b)).2 fs.toList 0 | _ => false) = true := h
    split at h'
    · rename_i fs hu
      simp only [Bool.and_eq_true, beq_iff_eq] at h'
      obtain ⟨xs, k, hk, _, hl, hxl, hp⟩ := DataW.trod_struct hu ht
      have := F fs.toList 0 cs h'.2 (by simp only [Sh.size]; omega) (fun f hf => by
        obtain ⟨i, hi, he⟩ := List.getElem_of_mem hf
        have hy := hp i f (by rw [← Array.getElem?_toList, List.getElem?_eq_getElem hi, he])
        rw [List.getElem?_eq_getElem (by simp at hi; omega)] at hy
        exact ⟨k, _, hy⟩)
      simpa using this
    · cases h'
  | rep n e ih =>
    refine ⟨fun t cs fuel x h ht => ?_, fun fs off cs h => by simp [chk] at h⟩
    simp only [chk] at h
    split at h
    · rename_i k et hu
      simp only [Bool.and_eq_true, beq_iff_eq] at h
      obtain ⟨hkn, h1, h2, h3⟩ := h
      have hkn := Nat.eq_of_beq_eq_true hkn
      subst hkn
      obtain ⟨xs, fu, hfu, _, hl, hxl, hp⟩ := DataW.trod_array hu ht
      rw [h2] at hp
      refine ⟨(List.range' 0 k).map (fun i => (cs.drop (i * e.size)).take e.size), (chunk_list cs e.size k (by omega)).symm, by simp, ?_⟩
      intro c hc
      obtain ⟨i, hi, rfl⟩ := List.mem_map.1 hc
      simp at hi
      have hy := hp i hi
      rw [List.getElem?_eq_getElem (by omega)] at hy
      exact ih.1 _ _ _ _ h1 hy
    · cases h
  | slice e ih =>
    refine ⟨fun t cs fuel x h ht => ?_, fun fs off cs h => by simp [chk] at h⟩
    simp only [chk] at h
    split at h
    · rename_i et hu
      simp only [Bool.and_eq_true, beq_iff_eq] at h
      obtain ⟨h1, h2, h3⟩ := h
      have hpos : 0 < e.size := by rw [Nat.blt_eq] at h3; exact h3
      rcases DataW.trod_slice hu ht with ⟨rfl, _⟩ | ⟨a, len, cap, elems, rest, n, _, rfl, _, hb, hl, hm, hlen, hel, hrest, _⟩
      · exact ⟨_, [], rfl, .inl (.inl ⟨0, rfl, rfl⟩), rfl, by simp, by simp⟩
      · rw [h2] at hel hrest
        have first : ∀ i, (∃ cs y, (w.cells? base (a.add (i * e.size)) e.size).bind (DataW.trod enc P w base spare held n et) = some y ∧ cs = y) → ∃ cs y, w.cells? base (a.add (i * e.size)) e.size = some cs ∧ DataW.trod enc P w base spare held n et cs = some y := by
          rintro i ⟨_, y, hy, _⟩
          rw [Option.bind_eq_some_iff] at hy
          obtain ⟨cs, g1, g2⟩ := hy
          exact ⟨cs, y, g1, g2⟩
        have hel' : ∀ i, i < len → ∃ cs y, w.cells? base (a.add (i * e.size)) e.size = some cs ∧ DataW.trod enc P w base spare held n et cs = some y := by
          intro i hi
          have := hel i hi
          rw [List.getElem?_eq_getElem (by omega)] at this
          exact first i ⟨_, _, this, rfl⟩
        have hblk : cap = 0 ∨ ∃ b o arr t fr, a = ⟨b, o, none⟩ ∧ w.heap[b]? = some (.cells arr t fr) := by
          by_cases hc : cap = 0
          · exact .inl hc
          · right
            have : ∃ cs y, w.cells? base (a.add (0 * e.size)) e.size = some cs ∧ DataW.trod enc P w base spare held n et cs = some y := by
              by_cases hl0 : len = 0
              · obtain ⟨hr1, hr2⟩ := hrest (hsp _)
                have h0 := hr2 0 (by omega)
                obtain ⟨z, hz⟩ : ∃ z, rest[0]? = some z := ⟨_, List.getElem?_eq_getElem (by omega)⟩
                rw [hz, hl0] at h0
                exact first 0 ⟨_, _, h0, rfl⟩
              · exact hel' 0 (by omega)
            obtain ⟨cs, y, g1, _⟩ := this
            obtain ⟨_, g3, g4⟩ := World.cells?_some g1
            have := g4 0 hpos
            rw [Nat.zero_mul, add_zero, add_zero, List.getElem?_eq_getElem (by omega)] at this
            obtain ⟨b, o, arr, t, fr, e1, e2, _⟩ := cell_some this
            exact ⟨b, o, arr, t, fr, e1, e2⟩
        rcases hblk with rfl | ⟨b, o, arr, t', fr, rfl, harr⟩
        · obtain rfl : len = 0 := by omega
          exact ⟨_, [], rfl, .inr ⟨rfl, a, rfl⟩, rfl, by simp, by simp⟩
        · have each : ∀ i, i < len → ∃ cs y, cs = ((arr.toList.drop o).drop (i * e.size)).take e.size ∧ DataW.trod enc P w base spare held n et cs = some y ∧ o + i * e.size + e.size ≤ arr.size := by
            intro i hi
            obtain ⟨cs, y, g1, g2⟩ := hel' i hi
            obtain ⟨_, g3, g4⟩ := World.cells?_some g1
            have g5 : ∀ k, k < e.size → arr[o + i * e.size + k]? = cs[k]? := by
              intro k hk'
              have := g4 k hk'
              rw [add_none, add_none, cell_at harr] at this
              exact this
            have hlast : o + i * e.size + e.size ≤ arr.size := by
              have := g5 (e.size - 1) (by omega)
              rw [List.getElem?_eq_getElem (by omega)] at this
              have := (Array.getElem?_eq_some_iff.1 this).1
              omega
            refine ⟨cs, y, ?_, g2, hlast⟩
            apply List.ext_getElem?
            intro k
            by_cases hk' : k < e.size
            · rw [← g5 k hk', List.getElem?_take, if_pos hk', List.getElem?_drop, List.getElem?_drop, Array.getElem?_toList]
              congr 1; omega
            · rw [List.getElem?_eq_none (by omega), List.getElem?_eq_none (by simp; omega)]
          have hbound : len * e.size ≤ (arr.toList.drop o).length ∨ len = 0 := by
            by_cases h0 : len = 0
            · exact .inr h0
            · obtain ⟨_, _, _, _, g⟩ := each (len - 1) (by omega)
              left
              have : len * e.size = (len - 1) * e.size + e.size := by
                rw [← Nat.succ_mul]; congr 1; omega
              simp
              omega
          have hflat := chunks_flat (arr.toList.drop o) e.size len 0 (by
            rw [Nat.zero_add]
            rcases hbound with h | h
            · exact h
            · rw [h]; simp)
          have hdat : ∀ c ∈ (List.range' 0 len).map (fun i => ((arr.toList.drop o).drop (i * e.size)).take e.size), Dat (fun b => w.heap[b]?) e c := by
            intro c hc
            obtain ⟨i, hi, rfl⟩ := List.mem_map.1 hc
            simp at hi
            obtain ⟨cs, y, k1, k2, _⟩ := each i hi
            rw [← k1]
            exact ih.1 _ _ _ _ h1 k2
          refine ⟨_, (List.range' 0 len).map (fun i => ((arr.toList.drop o).drop (i * e.size)).take e.size), rfl, .inl (.inr ⟨b, o, cap, len, arr, t', fr, rfl, harr, ?_, hl, ?_, ?_⟩), by simp [lenV], hdat, by simp; omega⟩
          · rw [flat_len (fun c hc => (hdat c hc).length)]; simp
          · intro j' u hu
            rw [hflat] at hu
            simp only [Nat.zero_mul, List.drop_zero, List.getElem?_take] at hu
            split at hu
            · rw [List.getElem?_drop, Array.getElem?_toList] at hu; exact hu
            · simp at hu
          · intro u hu
            obtain ⟨c, hc, huc⟩ := List.mem_flatten.1 hu
            exact (hdat c hc).one u huc
    · cases h
theorem flat_at : ∀ {els : List (List Value)} {s i j : Nat} {c : List Value} {u : Value}, (∀ c ∈ els, c.length = s) → els[i]? = some c → c[j]? = some u → els.flatten[i * s + j]? = some u
  | [], _, _, _, _, _, _, hi, _ => by simp at hi
  | a :: els, s, 0, j, c, u, hl, hi, hj => by
    simp at hi; subst hi
    have := (List.getElem?_eq_some_iff.1 hj).1
    rw [Nat.zero_mul, Nat.zero_add, List.flatten_cons, List.getElem?_append_left this]; exact hj
  | a :: els, s, i + 1, j, c, u, hl, hi, hj => by
    have ha := hl a (by simp)
    have ih := flat_at (els := els) (s := s) (fun c hc => hl c (by simp [hc])) (by simpa using hi) hj
    rw [List.flatten_cons, List.getElem?_append_right (by rw [ha, Nat.add_mul]; omega), ha, show (i + 1) * s + j - s = i * s + j by rw [Nat.add_mul]; omega]
    exact ih
/-- an element of a slice of equal parts -/
theorem Lies.elem {m : Mem} {s : Nat} {v : Value} {els : List (List Value)} (h : Lies m s v els.flatten) (hl : ∀ c ∈ els, c.length = s) (hp : 0 < s) (hv : lenV v = els.length) {i : Nat} (hi : i < els.length) :
    ∃ b o c, v = .slice (some ⟨b, o, none⟩) els.length c ∧ ∀ i c, els[i]? = some c → MRange m b (o + i * s) c := by
  rcases h with ⟨c, rfl, h⟩ | ⟨b, o, c, n, arr, t, fr, rfl, h1, h2, h3, h4, h5⟩
  · simp [lenV] at hv; omega
  · simp only [lenV] at hv; subst hv
    refine ⟨b, o, c, rfl, fun i c hc => ⟨arr, t, fr, h1, fun j u hu => ?_⟩⟩
    have := h4 _ u (flat_at hl hc hu)
    rw [show o + i * s + j = o + (i * s + j) by omega]; exact this
theorem dat_ints {m : Mem} {k : IntKind} {n : Nat} {cs : List Value} (h : Dat m (.rep n (.int k)) cs) : ∃ l : List Int, cs = l.map (Value.int k) ∧ l.length = n ∧ ∀ x ∈ l, (Lit.int k x).wf = true := by
  obtain ⟨els, rfl, rfl, h⟩ := h
  have := @els_ints k 0 els (fun c hc => by obtain ⟨n, rfl, hw⟩ := h c hc; exact ⟨⟨rfl, hw⟩, trivial⟩)
  obtain ⟨l, h1, h2, h3⟩ := this
  exact ⟨l, h1, h2, h3⟩
/-- a slice of numbers -/
theorem dat_sints {m : Mem} {k : IntKind} {cs : List Value} (h : Dat m (.slice (.int k)) cs) : ∃ (v : Value) (l : List Int), cs = [v] ∧ (Lies m 1 v (l.map (Value.int k)) ∨ (l = [] ∧ ∃ a, v = .slice (some a) 0 0)) ∧ lenV v = l.length ∧ (∀ x ∈ l, (Lit.int k x).wf = true) ∧ l.length ≤ maxLen := by
  obtain ⟨v, els, rfl, h1, h2, h3, h4⟩ := h
  obtain ⟨l, g1, g2, g3⟩ := @els_ints k 0 els (fun c hc => by obtain ⟨n, rfl, hw⟩ := h3 c hc; exact ⟨⟨rfl, hw⟩, trivial⟩)
  refine ⟨v, l, rfl, ?_, by omega, g3, by omega⟩
  rcases h1 with h1 | ⟨rfl, a, rfl⟩
  · rw [g1] at h1; exact .inl h1
  · exact .inr ⟨by apply List.eq_nil_of_length_eq_zero; simpa using g2, a, rfl⟩
theorem open_dat (hsp : ∀ b, spare b = true) {sh : Sh} {t : TypeId} {v : Value} {d : DataW H} {ps : List MemPlace} (hc : (chk P sh).1 t = true) (hd : DataW.Trod enc P w base spare held t v d ps) : Dat (fun b => w.heap[b]?) sh v.cells.toList := by
  obtain ⟨fuel, hf⟩ := hd
  exact (trod_dat hsp sh).1 _ _ _ _ hc hf
theorem val_slice {r : Reach} {b0 : Nat} {t e : TypeId} {v : Value} (hu : P.underlying t = some (.slice e)) (h : Value.okWide P w r b0 t v) : v.cells.toList = [v] ∧ v.oneCell' = true := by
  unfold Value.okWide at h
  rw [hu] at h
  simp only [Cell.okWide, hu, Cell.ok] at h
  cases v <;> simp at h
  exact ⟨rfl, rfl⟩
theorem val_string {r : Reach} {b0 : Nat} {t : TypeId} {v : Value} (hu : P.underlying t = some .string) (h : Value.okWide P w r b0 t v) : v.cells.toList = [v] ∧ v.oneCell' = true := by
  unfold Value.okWide at h
  rw [hu] at h
  simp only [Cell.okWide, hu, Cell.ok] at h
  cases v <;> simp at h
  exact ⟨rfl, rfl⟩
theorem val_int {k : IntKind} {r : Reach} {b0 : Nat} {t : TypeId} {v : Value} (hu : P.underlying t = some (.int k)) (h : Value.okWide P w r b0 t v) : v.cells.toList = [v] ∧ v.oneCell' = true := by
  unfold Value.okWide at h
  rw [hu] at h
  simp only [Cell.okWide, hu, Cell.ok] at h
  cases v <;> simp at h
  exact ⟨rfl, rfl⟩
theorem wf_i64 {n : Int} (h : (Lit.int .i64 n).wf = true) : -9223372036854775808 ≤ n ∧ n ≤ 9223372036854775807 := by
  simpa [Lit.wf, IntKind.min, IntKind.max, IntKind.signed, IntKind.bits] using h
theorem wf_u64 {n : Int} (h : (Lit.int .u64 n).wf = true) : 0 ≤ n ∧ n < 18446744073709551616 := by
  have : 0 ≤ n ∧ n ≤ 18446744073709551615 := by simpa [Lit.wf, IntKind.min, IntKind.max, IntKind.signed, IntKind.bits] using h
  omega
theorem wf_u8 {n : Int} (h : (Lit.int .u8 n).wf = true) : 0 ≤ n ∧ n < 256 := by
  have : 0 ≤ n ∧ n ≤ 255 := by simpa [Lit.wf, IntKind.min, IntKind.max, IntKind.signed, IntKind.bits] using h
  omega
theorem wf_u32 {n : Int} (h : (Lit.int .u32 n).wf = true) : 0 ≤ n ∧ n < 4294967296 := by
  have : 0 ≤ n ∧ n ≤ 4294967295 := by simpa [Lit.wf, IntKind.min, IntKind.max, IntKind.signed, IntKind.bits] using h
  omega
end
end Go.E
