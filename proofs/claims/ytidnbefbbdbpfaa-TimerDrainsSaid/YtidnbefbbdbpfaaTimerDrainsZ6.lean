/-
  Cat, Ints, E26, E27, E28, E29, Tm1, Tm2, Bits, Tm3, Tm4, Tm5, Tm6
-/
import Derived.Test.YtidnbefbbdbpfaaTimerDrainsZ5
import Derived.Lib.ConvBytes
import Derived.Laws.LoneSync
import Derived.Lib.Overlaps
/-
  Bytes: room made; lists of bytes, one behind the other.
-/
namespace Go.E.Ytidnbefbbdbpfaa
open Go.Proofs
set_option maxRecDepth 100000
theorem hI : tt.get 3 = some ⟨.int .i64, 1, 8, [.one (.int .i64 0)], false⟩ := by rfl
/-- a list of bytes -/
structure Lists (m : Mem) (v : Value) (ps : List (Value × List Int)) : Prop where
  lies : Lies m 1 v (ps.map (·.1))
  la : ∀ p ∈ ps, La m p.1 p.2
theorem Lists.sub {m m' : Mem} {v : Value} {ps : List (Value × List Int)} (h : Lists m v ps) (hs : Sub m m') : Lists m' v ps := ⟨h.lies.sub hs, fun p hp => (h.la p hp).sub hs⟩
theorem Lists.shape {m : Mem} {v : Value} {ps : List (Value × List Int)} (h : Lists m v ps) : ∃ a c, v = .slice a ps.length c := by
  rcases h.lies with ⟨c, rfl, e⟩ | ⟨b, o, c, n, arr, t, fr, rfl, _, e, _⟩
  · have : ps.length = 0 := by simpa using congrArg List.length e
    exact ⟨none, c, by rw [this]⟩
  · have : ps.length = n := by simpa using e
    exact ⟨_, c, by rw [this]⟩
theorem Lists.real {m : Mem} {v : Value} {ps : List (Value × List Int)} (h : Lists m v ps) {i : Nat} (hi : i < ps.length) : ∃ b o c, v = .slice (some ⟨b, o, none⟩) ps.length c ∧ ∀ (i : Nat) (hi : i < ps.length), mcell m b (o + i) = some ps[i].1 := by
  rcases h.lies with ⟨c, rfl, e⟩ | ⟨b, o, c, n, arr, t, fr, rfl, g1, e, _, g2, _⟩
  · have : ps.length = 0 := by simpa using congrArg List.length e
    omega
  · have : ps.length = n := by simpa using e
    exact ⟨b, o, c, by rw [this], fun j hj => mcell_of g1 (g2 j _ (by simp [hj]))⟩
def catB (ps : List (Value × List Int)) : List Int := (ps.map (·.2)).flatten
theorem catB_take {ps : List (Value × List Int)} {i : Nat} (h : i < ps.length) : catB (ps.take i) ++ ps[i].2 = catB (ps.take (i + 1)) := by
  rw [List.take_succ_eq_append_getElem h, catB, catB, List.map_append, List.flatten_append]; simp
theorem catB_le {ps : List (Value × List Int)} (i : Nat) : (catB (ps.take i)).length ≤ (catB ps).length := by
  have e : catB ps = catB (ps.take i) ++ catB (ps.drop i) := by
    rw [catB, catB, catB, ← List.flatten_append, ← List.map_append, List.take_append_drop]
  rw [e, List.length_append]; omega
theorem iadd' {i : Nat} (h : i < 1000000000000) : IntKind.i64.wrap ((i : Int) + 1) = ((i + 1 : Nat) : Int) := by rw [wi (by omega) (by omega)]; omega
theorem Lists.blk {m : Mem} {b n : Nat} {ps : List (Value × List Int)} {t : TypeId} {fr : Nat × Nat} (h : m b = some (.cells (ps.map (·.1)).toArray t fr)) (hn : ps.length = n) (hl : ∀ p ∈ ps, La m p.1 p.2) : Lists m (.slice (some ⟨b, 0, none⟩) n n) ps := by
  refine ⟨.inr ⟨b, 0, n, n, _, _, _, rfl, h, by simp [hn], Nat.le_refl _, fun j u hu => by simpa using hu, fun u hu => ?_⟩, fun p hp => hl p hp⟩
  obtain ⟨p, hp, rfl⟩ := List.mem_map.1 hu
  exact (hl p hp).one
theorem Lists.one {m : Mem} {b : Nat} {v : Value} {l : List Int} {t : TypeId} {fr : Nat × Nat} (h : m b = some (.cells #[v] t fr)) (hl : La m v l) : Lists m (.slice (some ⟨b, 0, none⟩) 1 1) [(v, l)] :=
  Lists.blk (ps := [(v, l)]) h rfl (by simpa using hl)
theorem Lists.two {m : Mem} {b : Nat} {v w : Value} {l k : List Int} {t : TypeId} {fr : Nat × Nat} (h : m b = some (.cells #[v, w] t fr)) (hl : La m v l) (hk : La m w k) : Lists m (.slice (some ⟨b, 0, none⟩) 2 2) [(v, l), (w, k)] :=
  Lists.blk (ps := [(v, l), (w, k)]) h rfl (by simpa using ⟨hl, hk⟩)
theorem Lists.three {m : Mem} {b : Nat} {v w u : Value} {l k j : List Int} {t : TypeId} {fr : Nat × Nat} (h : m b = some (.cells #[v, w, u] t fr)) (hl : La m v l) (hk : La m w k) (hj : La m u j) : Lists m (.slice (some ⟨b, 0, none⟩) 3 3) [(v, l), (w, k), (u, j)] :=
  Lists.blk (ps := [(v, l), (w, k), (u, j)]) h rfl (by simpa using ⟨hl, hk, hj⟩)
end Go.E.Ytidnbefbbdbpfaa

/-
  Lists of whole numbers.
-/
namespace Go.E.Ytidnbefbbdbpfaa
open Go.Proofs
set_option maxRecDepth 100000
theorem hIs : tt.get 31 = some ⟨.slice 3, 1, 24, [.one (.slice none 0 0)], false⟩ := by rfl
theorem hI' : tt.get 3 = some ⟨.int .i64, 1, 8, [.one (.int .i64 0)], false⟩ := by rfl
abbrev ic (l : List Int) : List Value := l.map (Value.int .i64)
theorem ic_one {l : List Int} : ∀ u ∈ ic l, u.oneCell' = true := by
  intro u hu; obtain ⟨a, _, rfl⟩ := List.mem_map.1 hu; rfl
/-- numbers that lie somewhere; owned -/
def Il (m : Mem) (v : Value) (l : List Int) : Prop := Lies m 1 v (ic l)
def Io (m : Mem) (v : Value) (l : List Int) : Prop := Own m 3 1 v (ic l)
/-- numbers that lie somewhere; or none, wherever -/
def Ia (m : Mem) (v : Value) (l : List Int) : Prop := Il m v l ∨ (l = [] ∧ ∃ a, v = .slice (some a) 0 0)
theorem Il.sub {m m' : Mem} {v : Value} {l : List Int} (h : Il m v l) (hs : Sub m m') : Il m' v l := Lies.sub h hs
theorem Io.sub {m m' : Mem} {v : Value} {l : List Int} (h : Io m v l) (hs : Sub m m') : Io m' v l := Own.sub h hs
theorem Io.il {m : Mem} {v : Value} {l : List Int} (h : Io m v l) : Il m v l := Own.lies h
theorem Il.ia {m : Mem} {v : Value} {l : List Int} (h : Il m v l) : Ia m v l := .inl h
theorem Ia.sub {m m' : Mem} {v : Value} {l : List Int} (h : Ia m v l) (hs : Sub m m') : Ia m' v l := h.imp (·.sub hs) id
theorem Io.nil (m : Mem) : Io m (.slice none 0 0) [] := .inl ⟨rfl, rfl⟩
theorem Il.shape {m : Mem} {v : Value} {l : List Int} (h : Il m v l) : ∃ a c, v = .slice a l.length c := by
  rcases h with ⟨c, rfl, e⟩ | ⟨b, o, c, n, arr, t, fr, rfl, _, e, _⟩
  · have : l.length = 0 := by simpa using congrArg List.length e
    exact ⟨none, c, by rw [this]⟩
  · have : l.length = n := by simpa using e
    exact ⟨_, c, by rw [this]⟩
theorem Ia.shape {m : Mem} {v : Value} {l : List Int} (h : Ia m v l) : ∃ a c, v = .slice a l.length c := by
  rcases h with h | ⟨rfl, a, rfl⟩
  · exact h.shape
  · exact ⟨_, _, rfl⟩
theorem Ia.one {m : Mem} {v : Value} {l : List Int} (h : Ia m v l) : v.oneCell' = true := by obtain ⟨a, c, rfl⟩ := h.shape; rfl
theorem Ia.il {m : Mem} {v : Value} {l : List Int} (h : Ia m v l) (hl : l ≠ []) : Il m v l := h.elim id fun h => absurd h.1 hl
theorem Il.real {m : Mem} {v : Value} {l : List Int} (h : Il m v l) {i : Nat} (hi : i < l.length) : ∃ b o c, v = .slice (some ⟨b, o, none⟩) l.length c ∧ ∀ j (hj : j < l.length), mcell m b (o + j) = some (.int .i64 l[j]) := by
  rcases h with ⟨c, rfl, e⟩ | ⟨b, o, c, n, arr, t, fr, rfl, g1, e, _, g2, _⟩
  · have : l.length = 0 := by simpa using congrArg List.length e
    omega
  · have : l.length = n := by simpa using e
    exact ⟨b, o, c, by rw [this], fun j hj => mcell_of g1 (g2 j _ (by simp [hj]))⟩
theorem Ia.real {m : Mem} {v : Value} {l : List Int} (h : Ia m v l) {i : Nat} (hi : i < l.length) : ∃ b o c, v = .slice (some ⟨b, o, none⟩) l.length c ∧ ∀ j (hj : j < l.length), mcell m b (o + j) = some (.int .i64 l[j]) :=
  (h.il (by rintro rfl; simp at hi)).real hi
theorem Ia.lenV {m : Mem} {v : Value} {l : List Int} (h : Ia m v l) : lenV v = l.length := by obtain ⟨a, c, rfl⟩ := h.shape; rfl
theorem buildI1 {m : Mem} {x : Int} : PrimSpec Try.prog (.buildSlice 31 1 [0]) [.v (.int .i64 x)] m fun r m' => ∃ b, m b = none ∧ r = [.v (.slice (some ⟨b, 0, none⟩) 1 1)] ∧ m' = m.set b (.cells #[.int .i64 x] 3) :=
  buildSlice_spec (n := 1) tt_ok hIs rfl hI' rfl rfl (by simp [CV.cs]) (by simp) (by simp)
theorem Ia.gives {m : Mem} {v : Value} {l : List Int} {e : TypeId} (h : Ia m v l) : Gives m 1 (.slice e) v (ic l) := .inl ⟨e, rfl, h.imp id fun ⟨h1, h2⟩ => ⟨by rw [h1]; rfl, h2⟩⟩
/-- append of numbers onto the i-th part -/
theorem appendIat {m p : Mem} {ls : List Mem} {i : Nat} {v x : Value} {l news : List Int} (hs : Split m ls) (hi : ls[i]? = some p) (hv : Io p v l) (hg : Ia m x news) (hb : l.length + news.length ≤ 1000000000) :
    PrimSpec Try.prog (.builtin .append [31, 31]) [.v v, .v x] m fun r m' => ∃ v' p', r = [.v v'] ∧ Split m' (ls.set i p') ∧ Io p' v' (l ++ news) := by
  have e1 := hv.il.ia.lenV
  have e2 := hg.lenV
  refine (append_at tt_ok hIs rfl hI' hIs rfl hs hi hv hg.gives (by rw [e1, e2]; simp only; omega) (by rw [e1, e2]; omega)).mono fun r m' ⟨v', p', h1, h2, h3⟩ => ⟨v', p', h1, h2, ?_⟩
  have := h3.own
  rw [show ic l ++ ic news = ic (l ++ news) by simp [ic]] at this
  exact this
theorem Il.blk1 {m : Mem} {b : Nat} {x : Int} {t : TypeId} {fr : Nat × Nat} (h : m b = some (.cells #[.int .i64 x] t fr)) : Il m (.slice (some ⟨b, 0, none⟩) 1 1) [x] :=
  .inr ⟨b, 0, 1, 1, _, _, _, rfl, h, rfl, Nat.le_refl _, fun j u hu => by simpa [ic] using hu, by simp [ic, Value.oneCell']⟩
/-- one number more -/
theorem pushI {m p : Mem} {ls : List Mem} {b' : Nat} {x : Int} {y : Value} {l : List Int} (hs : Split m (p :: ls)) (hb : m b' = none) (hy : Io p y l) (hl : l.length ≤ 100000000) :
    PrimSpec Try.prog (.builtin .append [31, 31]) [.v y, .v (.slice (some ⟨b', 0, none⟩) 1 1)] (m.set b' (.cells #[.int .i64 x] 3)) fun r m' => ∃ y' p', r = [.v y'] ∧ Split m' (p' :: ls) ∧ Io p' y' (l ++ [x]) := by
  have hs1 := hs.new hb (.cells #[.int .i64 x] 3)
  refine (appendIat (i := 1) hs1 rfl hy (Il.blk1 (Mem.set_same ..)).ia (by simp; omega)).mono fun r m' ⟨v', p', h1, h2, h3⟩ => ⟨v', p', h1, h2.erase 0, h3⟩
end Go.E.Ytidnbefbbdbpfaa

/-
  More operations: the bytes of a text that is no constant.
-/
namespace Go.E
/-- the bytes of a text, as numbers -/
def chs (s : ByteArray) : List Nat := s.data.toList.map UInt8.toNat
theorem chs_len (s : ByteArray) : (chs s).length = s.size := by simp [chs]
theorem chs_lt (s : ByteArray) : ∀ x ∈ chs s, x < 256 := by
  intro x hx
  simp only [chs, List.mem_map] at hx
  obtain ⟨a, _, rfl⟩ := hx
  exact a.toNat_lt
section
variable {P : Program} {T : Tab}
theorem convStr_spec (hT : TabOk P T) {t t' e : TypeId} {ti' ti ei : TI} (ht' : T t' = some ti') (ht : T t = some ti) (hk : ti.k = .slice e) (he : T e = some ei) (hek : ei.k = .int .u8) {m : Mem} {s : ByteArray} :
    PrimSpec P (.conv t' t) [.v (.string s)] m fun r m' => ∃ b c o, m b = none ∧ r = [.v (.slice (some ⟨b, 0, none⟩) s.size c)] ∧ m' = m.set b o ∧ Lb m' (.slice (some ⟨b, 0, none⟩) s.size c) ((chs s).map fun (n : Nat) => (n : Int)) := by
  intro hok ty W hW
  have hu := (hT t ti ht).slice hk
  have hue : P.underlying e = some (.int .u8) := by
    obtain ⟨d, h1, h2⟩ := (hT e ei he).desc
    rw [hek] at h2
    cases d <;> simp [TK.of] at h2
    rw [h1, h2]
  obtain ⟨d', hs, _⟩ := (hT t' ti' ht').desc
  have hr := Lib.run_convert_string_bytes (P := P) W t' t e s hs hu hue
  have hsz := Lib.bytesWorld_size W e s
  refine ⟨_, m.set W.heap.size (.cells (Lib.bytesCells W e s) e ((Lib.bytesCells W e s).size, (Lib.bytesCells W e s).size + 1)), Lib.bytesWorld W e s, ?_, ?_, ⟨W.heap.size, grownCap W s.size 0 e, _, hW.none (Nat.le_refl _), rfl, rfl, ?_⟩, ?_⟩
  · simpa [Prim.run, resVal, CV.val] using hr
  · intro x hx
    simp at hx; subst hx; rfl
  · have hcap := grownCap_ge W s.size 0 e
    refine Lb.mk (Mem.set_same ..) (by simp [chs]) hcap (fun j n hj => ?_)
    rw [List.getElem?_map] at hj
    obtain ⟨x, hx, rfl⟩ := Option.map_eq_some_iff.1 hj
    simp only [chs, List.getElem?_map] at hx
    obtain ⟨y, hy, rfl⟩ := Option.map_eq_some_iff.1 hx
    have hl := (List.getElem?_eq_some_iff.1 hy).1
    rw [Nat.zero_add, Lib.bytesCells, Array.getElem?_append_left (by simpa using hl), Array.getElem?_map]
    rw [← Array.getElem?_toList, hy]; rfl
  · refine ⟨?_, by rw [hsz]; omega, rfl, rfl, rfl, ?_⟩
    · intro x u hx
      by_cases ex : x = W.heap.size
      · subst ex; rw [Mem.set_same] at hx; cases hx; exact Lib.bytesWorld_at_new W e s
      · rw [Mem.set_ne _ _ ex] at hx
        rw [Lib.bytesWorld_at_old W e s x (hW.lt hx)]; exact hW _ _ hx
    · intro x hx hm
      exact ⟨by rw [Mem.set_ne _ _ (by omega)]; exact hm, Lib.bytesWorld_at_old W e s x hx⟩
end
end Go.E

/-
  Calls that the model answers itself: numbers that are loaded and added to, whole.
-/
namespace Go.E
section
variable {P : Program} {f : FuncId} {fn : Func}
theorem xext {args : List CV} {m : Mem} {R K : List CV → Mem → Prop} (h : ExtSpec P f args m R) (k : ∀ r m', R r m' → K r m') : XCall P f args m K := .ext R h k
theorem ext_load (hf : P.funcs[f]? = some fn) (hname : (fn.name == "runtime.NumGoroutine") = false) (hb : fn.body.isNone = true) (hn : Extern.findNext fn = none) (k : IntKind)
    (he : Extern.find fn = some (Extern.Atomic.loadT (.int k))) {m : Mem} {b off : Nat} {x : Int} (hc : mcell m b off = some (.int k x)) :
    ExtSpec P f [.v (.pointer (some ⟨b, off, none⟩))] m fun r m' => r = [.v (.int k x)] ∧ m' = m := by
  intro _ W hW
  have hcell : W.cell? ⟨b, off, none⟩ = some (.int k x) := by
    unfold mcell at hc
    cases hm : m b with
    | none => simp [hm] at hc
    | some o =>
      cases o with
      | cells arr t fr =>
        simp only [hm] at hc
        rw [cell_at (hW _ _ hm)]; exact hc
      | _ => simp [hm] at hc
  exact ⟨[.v (.int k x)], m, W, run_call_load hf hname hb hn k he hcell, (by intro y hy; simp at hy; subst hy; rfl), ⟨rfl, rfl⟩, After.refl hW⟩
theorem ext_add (hf : P.funcs[f]? = some fn) (hname : (fn.name == "runtime.NumGoroutine") = false) (hb : fn.body.isNone = true) (hn : Extern.findNext fn = none)
    (he : Extern.find fn = some (Extern.Atomic.update (Op.intArith .add) .u64 true)) {m : Mem} {b off : Nat} {x y : Int} {arr : Array Value} {t : TypeId} (hm : m b = some (.cells arr t (0, 0))) (hx : arr[off]? = some (.int .u64 x)) :
    ExtSpec P f [.v (.pointer (some ⟨b, off, none⟩)), .v (.int .u64 y)] m fun r m' => r = [.v (.int .u64 (IntKind.u64.wrap (x + y)))] ∧ m' = m.set b (.cells (arr.setIfInBounds off (.int .u64 (IntKind.u64.wrap (x + y)))) t (0, 0)) := by
  intro _ W hW
  have hg := hW _ _ hm
  have hcell : W.cell? ⟨b, off, none⟩ = some (.int .u64 x) := by rw [cell_at hg]; exact hx
  have hz : W.frozen? ⟨b, off, none⟩ = false := by simp [World.frozen?, hg]
  have hset : W.setCell ⟨b, off, none⟩ (.int .u64 (IntKind.u64.wrap (x + y))) = W.setRow b (arr.setIfInBounds off (.int .u64 (IntKind.u64.wrap (x + y)))) := setCell_eq_setRow W b off arr t (0, 0) _ hg
  have hs : (Op.intArith .add .u64 x y).run P W = .ok (.int .u64 (IntKind.u64.wrap (x + y))) W := by simp [Op.intArith]
  have hr := run_call_add hf hname hb hn .u64 he hcell hz hs
  rw [hset] at hr
  exact ⟨[.v (.int .u64 (IntKind.u64.wrap (x + y)))], _, _, hr, (by intro y hy; simp at hy; subst hy; rfl), ⟨rfl, rfl⟩, (After.refl hW).setRow hm _⟩
end
end Go.E

/-
  More operations: copy and clear of elements of any size; slices.overlaps.
-/
namespace Go.E
section
variable {P : Program} {T : Tab}
theorem take_mul_len {α : Type} {l : List α} {k n s : Nat} (h : l.length = k * s) : (l.take (n * s)).length = min k n * s := by
  rw [List.length_take, h]
  rcases Nat.le_total k n with h1 | h1
  · rw [Nat.min_eq_left h1, Nat.min_eq_right (Nat.mul_le_mul_right _ h1)]
  · rw [Nat.min_eq_right h1, Nat.min_eq_left (Nat.mul_le_mul_right _ h1)]
/-- copy of whole elements -/
theorem copyN_spec (hT : TabOk P T) {t e tx : TypeId} {ti ei : TI} (ht : T t = some ti) (hk : ti.k = .slice e) (he : T e = some ei) {m : Mem} {b o n c : Nat} {arr : Array Value} {te : TypeId} (hb : m b = some (.cells arr te)) (hfit : o + n * ei.size ≤ arr.size)
    {x : Value} {news : List Value} (hx : Lies m ei.size x news) :
    PrimSpec P (.builtin .copy [t, tx]) [.v (.slice (some ⟨b, o, none⟩) n c), .v x] m fun r m' => r = [.v (.int .i64 ((min (lenV x) n : Nat) : Int))] ∧ m' = m.set b (.cells (arr.toList.take o ++ news.take (n * ei.size) ++ arr.toList.drop (o + (news.take (n * ei.size)).length)).toArray te) := by
  intro hok ty W hW
  obtain ⟨j, hj, hjs, _⟩ := (hT e ei he).inf
  have hu := (hT t ti ht).slice hk
  have hWb := hW _ _ hb
  rcases hx with ⟨c', rfl, rfl⟩ | ⟨b', o', c', n', arr', t', fr', rfl, h1, h2, h3, h4, h5⟩
  · refine ⟨[.v (.int .i64 0)], _, W, ?_, ?_, ⟨by simp [lenV], rfl⟩, ?_⟩
    · simp [Prim.run, CV.val, resVal, Builtin.copy_, run_underlying hu, Builtin.lenOf, Builtin.firstCells, sizeOf, typeInfo, hj, storeCells]
      rfl
    · intro y hy; simp at hy; subst hy; rfl
    · simp only [List.take_nil, List.append_nil, List.length_nil, Nat.add_zero, List.take_append_drop, Array.toArray_toList]
      rw [Mem.set_same_eq hb]
      exact After.refl hW
  · have hlen : (news.take (n * ei.size)).length = min n' n * ei.size := take_mul_len h2
    have hld := run_loadCells_list (P := P) W ⟨b', o', none⟩ (news.take (n * ei.size)) (fun j v hv => by
      rw [add_none, cell_at (hW _ _ h1)]
      refine h4 j v ?_
      have hl := (List.getElem?_eq_some_iff.1 hv).1
      rw [hlen] at hl
      rw [List.getElem?_take] at hv
      split at hv
      · exact hv
      · cases hv)
    rw [hlen] at hld
    have hst := run_storeCells_at P b o te (news.take (n * ei.size)) 0 arr W hWb (by rw [hlen]; have := Nat.mul_le_mul_right ei.size (Nat.min_le_right n' n); omega) (fun v hv => h5 v (List.mem_of_mem_take hv))
    refine ⟨[.v (.int .i64 ((min n' n : Nat) : Int))], _, _, ?_, ?_, ⟨rfl, rfl⟩, (After.refl hW).setRow hb _⟩
    · simp only [Prim.run, List.map_cons, List.map_nil, CV.val, resVal]
      have hm : Nat.min n' n = min n' n := rfl
      simp only [Nat.add_zero] at hst
      simp [Builtin.copy_, run_underlying hu, Builtin.lenOf, Builtin.firstCells, sizeOf, typeInfo, hj, hjs, hm, hld, hst]
      rfl
    · intro y hy; simp at hy; subst hy; rfl
/-- copy of whole elements, of which as many are known as are copied -/
theorem copyP_spec (hT : TabOk P T) {t e tx : TypeId} {ti ei : TI} (ht : T t = some ti) (hk : ti.k = .slice e) (he : T e = some ei) {m : Mem} {b o n c b' o' n' c' : Nat} {arr arr' : Array Value} {te t' : TypeId} {fr' : Nat × Nat} (hb : m b = some (.cells arr te)) (hfit : o + min n' n * ei.size ≤ arr.size)
    {news : List Value} (hb' : m b' = some (.cells arr' t' fr')) (hlen : news.length = min n' n * ei.size) (h4 : ∀ j u, news[j]? = some u → arr'[o' + j]? = some u) (h5 : ∀ u ∈ news, u.oneCell' = true) :
    PrimSpec P (.builtin .copy [t, tx]) [.v (.slice (some ⟨b, o, none⟩) n c), .v (.slice (some ⟨b', o', none⟩) n' c')] m fun r m' => r = [.v (.int .i64 ((min n' n : Nat) : Int))] ∧ m' = m.set b (.cells (arr.toList.take o ++ (news ++ arr.toList.drop (o + news.length))).toArray te) := by
  intro hok ty W hW
  obtain ⟨j, hj, hjs, _⟩ := (hT e ei he).inf
  have hu := (hT t ti ht).slice hk
  have hWb := hW _ _ hb
  have hld := run_loadCells_list (P := P) W ⟨b', o', none⟩ news (fun j v hv => by rw [add_none, cell_at (hW _ _ hb')]; exact h4 j v hv)
  rw [hlen] at hld
  have hst := run_storeCells_at P b o te news 0 arr W hWb (by rw [hlen]; omega) h5
  refine ⟨[.v (.int .i64 ((min n' n : Nat) : Int))], _, _, ?_, ?_, ⟨rfl, rfl⟩, (After.refl hW).setRow hb _⟩
  · simp only [Prim.run, List.map_cons, List.map_nil, CV.val, resVal]
    have hm : Nat.min n' n = min n' n := rfl
    simp only [Nat.add_zero, List.append_assoc] at hst
    simp [Builtin.copy_, run_underlying hu, Builtin.lenOf, Builtin.firstCells, sizeOf, typeInfo, hj, hjs, hm, hld, hst]
    rfl
  · intro y hy; simp at hy; subst hy; rfl
/-- clear of no elements -/
theorem clear0_spec (hT : TabOk P T) {t e : TypeId} {ti : TI} (ht : T t = some ti) (hk : ti.k = .slice e) {m : Mem} {a : Option Addr} {c : Nat} :
    PrimSpec P (.builtin .clear [t]) [.v (.slice a 0 c)] m fun r m' => r = [] ∧ m' = m := by
  intro hok ty W hW
  have hu := (hT t ti ht).slice hk
  refine ⟨[], m, W, ?_, (by intro y hy; cases hy), ⟨rfl, rfl⟩, After.refl hW⟩
  cases a <;> simp [Prim.run, CV.val, resVal, Builtin.clear_, run_underlying hu]
/-- clear of elements -/
theorem clearN_spec (hT : TabOk P T) {t e : TypeId} {ti ei : TI} (ht : T t = some ti) (hk : ti.k = .slice e) (he : T e = some ei) (hz : (LB.cells ei.zero).length = ei.size) (hone : ∀ u ∈ LB.cells ei.zero, u.oneCell' = true) {m : Mem} {b o n c : Nat} {arr : Array Value} {te : TypeId} (hb : m b = some (.cells arr te)) (hn : 0 < n) (hfit : o + n * ei.size ≤ arr.size) :
    PrimSpec P (.builtin .clear [t]) [.v (.slice (some ⟨b, o, none⟩) n c)] m fun r m' => r = [] ∧ ∃ zs, zs.length = n * ei.size ∧ (∀ u ∈ zs, u.oneCell' = true) ∧ m' = m.set b (.cells (arr.toList.take o ++ zs ++ arr.toList.drop (o + n * ei.size)).toArray te) := by
  intro hok ty W hW
  obtain ⟨j, hj, hjs, _, z, hjz, hzc⟩ := (hT e ei he).inf
  have hu := (hT t ti ht).slice hk
  have hWb := hW _ _ hb
  have hzsz : z.cells.size = ei.size := by rw [hzc]; simpa using hz
  have hzl : (Builtin.zeroCells z.cells n).toList.length = n * ei.size := by rw [Array.length_toList, zeroCells_size, hzsz]
  have hzo : ∀ u ∈ (Builtin.zeroCells z.cells n).toList, u.oneCell' = true := by
    intro u hu
    rw [Array.mem_toList_iff, Builtin.zeroCells, Array.mem_map] at hu
    obtain ⟨i, hi, rfl⟩ := hu
    have hi2 := Array.mem_range.1 hi
    have hlt : i % z.cells.size < z.cells.size := Nat.mod_lt _ (by rcases Nat.eq_zero_or_pos z.cells.size with h | h; simp [h] at hi2; exact h)
    refine hone _ ?_
    have : z.cells[i % z.cells.size]! ∈ z.cells.toList := by
      rw [Array.mem_toList_iff, getElem!_pos z.cells _ hlt]; exact Array.getElem_mem hlt
    rw [hzc] at this ⊢
    exact this
  have hst := run_storeCells_at P b o te (Builtin.zeroCells z.cells n).toList 0 arr W hWb (by rw [hzl]; omega) hzo
  simp only [Nat.add_zero] at hst
  obtain ⟨k, rfl⟩ : ∃ k, n = k + 1 := ⟨n - 1, by omega⟩
  have hzv : (zeroValue e).run P W = .ok z W := by simp [zeroValue, typeInfo, hj, hjz]
  rw [hzl] at hst
  refine ⟨[], _, _, ?_, (by intro y hy; cases hy), ⟨rfl, (Builtin.zeroCells z.cells (k + 1)).toList, hzl, hzo, rfl⟩, (After.refl hW).setRow hb _⟩
  simp only [Prim.run, List.map_cons, List.map_nil, CV.val, resVal]
  simp [Builtin.clear_, run_underlying hu, hzv, hst]
/-- slices.overlaps: two blocks, the first of which is plain -/
theorem ext_apart {f : FuncId} {fn : Func} (hT : TabOk P T) (hf : P.funcs[f]? = some fn) (hname : (fn.name == "runtime.NumGoroutine") = false) (hb : fn.body.isNone = true) (hn : Extern.findNext fn = none)
    {t tr e : TypeId} {ti ei : TI} (ht : T t = some ti) (hk : ti.k = .slice e) (he : T e = some ei) (hx : Extern.find fn = some (Extern.SlicesOverlaps.overlaps #[t, t] #[tr]))
    {m : Mem} {b b' o o' n n' c c' : Nat} {arr arr' : Array Value} {te te' : TypeId} {fr' : Nat × Nat} (h1 : m b = some (.cells arr te)) (h2 : m b' = some (.cells arr' te' fr')) (hne : b ≠ b') (hpos : arr'.size ≠ 0) :
    ExtSpec P f [.v (.slice (some ⟨b, o, none⟩) n c), .v (.slice (some ⟨b', o', none⟩) n' c')] m fun r m' => r = [.v (.bool false)] ∧ m' = m := by
  intro _ W hW
  obtain ⟨j, hj, hjs, _⟩ := (hT e ei he).inf
  have hu := (hT t ti ht).slice hk
  have g1 := hW _ _ h1
  have g2 := hW _ _ h2
  have hr := Lib.run_overlaps_apart (P := P) W t tr e hu j.size (fun w => by simp [sizeOf, typeInfo, hj]) ⟨b, o, none⟩ ⟨b', o', none⟩ n c n' c' hne te te' arr.size arr'.size
    (by unfold World.shape?; rw [g1]) (by unfold World.shape?; rw [g2]) hpos (by simp [World.frozen?, g1]) (by simp [World.frozen?, g1])
  exact ⟨[.v (.bool false)], m, W, by simp only [List.map_cons, List.map_nil, CV.val, resVal]; rw [run_callFunc_extern hf hname hb hn hx]; exact congrArg (fun r : Result Value => r.andThen fun v w' => Result.ok (Next.value v) w') hr, (by intro y hy; simp at hy; subst hy; rfl), ⟨rfl, rfl⟩, After.refl hW⟩
end
end Go.E

/-
  Lists of elements of any one size, laid one behind the other.
-/
namespace Go.E
section
variable {α : Type} {enc : α → List Value} {s : Nat}
/-- each element has this many cells, of one cell each -/
structure EncOk (enc : α → List Value) (s : Nat) : Prop where
  len : ∀ x, (enc x).length = s
  one : ∀ x, ∀ u ∈ enc x, u.oneCell' = true
  pos : 0 < s
theorem EncOk.flen (h : EncOk enc s) : ∀ (E : List α), (E.flatMap enc).length = E.length * s
  | [] => by simp
  | x :: E => by rw [List.flatMap_cons, List.length_append, h.len, h.flen E, List.length_cons, Nat.succ_mul]; omega
theorem EncOk.fone (h : EncOk enc s) {E : List α} : ∀ u ∈ E.flatMap enc, u.oneCell' = true := fun u hu => by
  obtain ⟨x, _, hx⟩ := List.mem_flatMap.1 hu
  exact h.one x u hx
theorem EncOk.at (h : EncOk enc s) : ∀ {E : List α} {i j : Nat} {u : Value} (hi : i < E.length), (enc E[i])[j]? = some u → (E.flatMap enc)[i * s + j]? = some u
  | x :: E, 0, j, u, _, hu => by
    have hl := (List.getElem?_eq_some_iff.1 hu).1
    rw [List.flatMap_cons, List.getElem?_append_left (by simpa using hl)]
    simpa using hu
  | x :: E, i + 1, j, u, hi, hu => by
    have ih := h.at (E := E) (i := i) (j := j) (u := u) (by simpa using hi) (by simpa using hu)
    rw [List.flatMap_cons, List.getElem?_append_right (by rw [h.len, Nat.succ_mul]; omega), h.len, Nat.succ_mul, show i * s + s + j - s = i * s + j by omega]
    exact ih
theorem EncOk.take (h : EncOk enc s) : ∀ (E : List α) (i : Nat), (E.flatMap enc).take (i * s) = (E.take i).flatMap enc
  | [], i => by simp
  | x :: E, 0 => by simp
  | x :: E, i + 1 => by
    rw [List.flatMap_cons, List.take_succ_cons, List.flatMap_cons, Nat.succ_mul, List.take_append, h.len, List.take_of_length_le (by rw [h.len]; omega), show i * s + s - s = i * s by omega, h.take E i]
theorem EncOk.drop (h : EncOk enc s) : ∀ (E : List α) (i : Nat), (E.flatMap enc).drop (i * s) = (E.drop i).flatMap enc
  | [], i => by simp
  | x :: E, 0 => by simp
  | x :: E, i + 1 => by
    rw [List.flatMap_cons, List.drop_succ_cons, Nat.succ_mul, List.drop_append, h.len, List.drop_of_length_le (by rw [h.len]; omega), List.nil_append, show i * s + s - s = i * s by omega, h.drop E i]
theorem EncOk.count (h : EncOk enc s) {E : List α} {n : Nat} (e : (E.flatMap enc).length = n * s) : E.length = n := by
  rw [h.flen] at e
  exact Nat.eq_of_mul_eq_mul_right h.pos e
theorem EncOk.shape (h : EncOk enc s) {m : Mem} {v : Value} {E : List α} (hl : Lies m s v (E.flatMap enc)) : ∃ a c, v = .slice a E.length c := by
  rcases hl with ⟨c, rfl, e⟩ | ⟨b, o, c, n, arr, t, fr, rfl, _, e, _⟩
  · have : E.length = 0 := h.count (n := 0) (by rw [e]; simp)
    exact ⟨none, c, by rw [this]⟩
  · exact ⟨_, c, by rw [h.count e]⟩
theorem EncOk.real (h : EncOk enc s) {m : Mem} {v : Value} {E : List α} (hl : Lies m s v (E.flatMap enc)) {i : Nat} (hi : i < E.length) : ∃ b o c, v = .slice (some ⟨b, o, none⟩) E.length c ∧ ∀ j (hj : j < E.length), MRange m b (o + j * s) (enc E[j]) := by
  rcases hl with ⟨c, rfl, e⟩ | ⟨b, o, c, n, arr, t, fr, rfl, g1, e, _, g2, _⟩
  · have : E.length = 0 := h.count (n := 0) (by rw [e]; simp)
    omega
  · refine ⟨b, o, c, by rw [h.count e], fun j hj => ⟨arr, t, fr, g1, fun k u hu => ?_⟩⟩
    rw [Nat.add_assoc]
    exact g2 _ _ (h.at hj hu)
/-- an owned slice that is not nil, and its row -/
theorem EncOk.row (h : EncOk enc s) {p : Mem} {T : TypeId} {b o n c : Nat} {E : List α} (hl : Own p T s (.slice (some ⟨b, o, none⟩) n c) (E.flatMap enc)) : ∃ arr, p b = some (.cells arr T (0, 0)) ∧ E.length = n ∧ n ≤ c ∧ o + c * s ≤ arr.size ∧ (∀ j u, (E.flatMap enc)[j]? = some u → arr[o + j]? = some u) := by
  rcases hl with ⟨e, _⟩ | ⟨b', o', c', n', arr, e, h1, h2, h3, h4, h5, _⟩
  · cases e
  · cases e
    exact ⟨arr, h1, h.count h2, h3, h4, h5⟩
theorem EncOk.mk' (h : EncOk enc s) {p : Mem} {T : TypeId} {b o n c : Nat} {arr : Array Value} {E : List α} (h1 : p b = some (.cells arr T (0, 0))) (h2 : E.length = n) (h3 : n ≤ c) (h4 : o + c * s ≤ arr.size) (h5 : ∀ j u, (E.flatMap enc)[j]? = some u → arr[o + j]? = some u) : Own p T s (.slice (some ⟨b, o, none⟩) n c) (E.flatMap enc) :=
  .inr ⟨b, o, c, n, arr, rfl, h1, by rw [h.flen, h2], h3, h4, h5, h.fone⟩
/-- a beginning of an owned slice -/
theorem EncOk.cut (h : EncOk enc s) {p : Mem} {T : TypeId} {b o n c : Nat} {E : List α} (hl : Own p T s (.slice (some ⟨b, o, none⟩) n c) (E.flatMap enc)) {i : Nat} (hi : i ≤ n) : Own p T s (.slice (some ⟨b, o, none⟩) i c) ((E.take i).flatMap enc) := by
  obtain ⟨arr, h1, h2, h3, h4, h5⟩ := h.row hl
  refine h.mk' h1 (by rw [List.length_take]; omega) (by omega) h4 fun j u hu => h5 j u ?_
  rw [← h.take] at hu
  rw [List.getElem?_take] at hu
  split at hu
  · exact hu
  · cases hu
/-- a beginning of a slice -/
theorem EncOk.pre (h : EncOk enc s) {m : Mem} {b o n c c' : Nat} {E : List α} (hl : Lies m s (.slice (some ⟨b, o, none⟩) n c) (E.flatMap enc)) {i : Nat} (hi : i ≤ n) (hc : i ≤ c' := by omega) : Lies m s (.slice (some ⟨b, o, none⟩) i c') ((E.take i).flatMap enc) := by
  rcases hl with ⟨c', e, _⟩ | ⟨b', o2, c2, n', arr, t, fr, e, g1, g2, g3, g4, g5⟩
  · cases e
  · cases e
    refine .inr ⟨b, o, c', i, arr, t, fr, rfl, g1, by rw [h.flen, List.length_take, h.count g2, Nat.min_eq_left hi], hc, fun j u hu => g4 j u ?_, h.fone⟩
    rw [← h.take, List.getElem?_take] at hu
    split at hu
    · exact hu
    · cases hu
/-- how much room there is, at least -/
theorem lies_cap {m : Mem} {a : Option Addr} {n c : Nat} {l : List Value} (hp : 0 < s) (hl : Lies m s (.slice a n c) l) : n ≤ c ∨ n = 0 := by
  rcases hl with ⟨c', e, h⟩ | ⟨b', o2, c2, n', arr, t, fr, e, g1, g2, g3, g4, g5⟩
  · cases e; exact .inr rfl
  · cases e; exact .inl g3
/-- what a store of one element's cells at a place leaves -/
theorem put_cells {arr : Array Value} {cs : List Value} {a j : Nat} {u : Value} (hfit : a + cs.length ≤ arr.size) : (arr.toList.take a ++ (cs ++ arr.toList.drop (a + cs.length))).toArray[j]? = some u ↔ if j < a then arr[j]? = some u else if j < a + cs.length then cs[j - a]? = some u else arr[j]? = some u := by
  rw [List.getElem?_toArray]
  have hl : (arr.toList.take a).length = a := by rw [List.length_take, Array.length_toList]; omega
  by_cases h1 : j < a
  · rw [if_pos h1, List.getElem?_append_left (by omega), List.getElem?_take, if_pos h1, Array.getElem?_toList]
  · rw [if_neg h1, List.getElem?_append_right (by omega), hl]
    by_cases h2 : j < a + cs.length
    · rw [if_pos h2, List.getElem?_append_left (by omega)]
    · rw [if_neg h2, List.getElem?_append_right (by omega), List.getElem?_drop, Array.getElem?_toList, show a + cs.length + (j - a - cs.length) = j by omega]
theorem EncOk.set (h : EncOk enc s) {p : Mem} {T : TypeId} {b o n c : Nat} {E : List α} (hl : Own p T s (.slice (some ⟨b, o, none⟩) n c) (E.flatMap enc)) {i : Nat} (hi : i < E.length) (x : α) :
    ∃ arr, p b = some (.cells arr T (0, 0)) ∧ o + i * s + s ≤ arr.size ∧ Own (p.set b (.cells (arr.toList.take (o + i * s) ++ (enc x ++ arr.toList.drop (o + i * s + s))).toArray T (0, 0))) T s (.slice (some ⟨b, o, none⟩) n c) ((E.set i x).flatMap enc) := by
  obtain ⟨arr, h1, h2, h3, h4, h5⟩ := h.row hl
  have hmul : i * s + s ≤ c * s := by rw [← Nat.succ_mul]; exact Nat.mul_le_mul_right _ (by omega)
  refine ⟨arr, h1, by omega, h.mk' (Mem.set_same ..) (by rw [List.length_set]; omega) h3 ?_ fun j u hu => ?_⟩
  · simp only [List.size_toArray, List.length_append, List.length_take, List.length_drop, Array.length_toList, h.len]; omega
  · have hp := put_cells (arr := arr) (cs := enc x) (a := o + i * s) (j := o + j) (u := u) (by rw [h.len]; omega)
    rw [h.len] at hp
    rw [hp]
    have hjl := (List.getElem?_eq_some_iff.1 hu).1
    rw [h.flen, List.length_set] at hjl
    -- the element in which j lies
    have hs := h.pos
    have hq : j / s < E.length := Nat.div_lt_of_lt_mul (by rw [Nat.mul_comm]; exact hjl)
    have hjd : j = j / s * s + j % s := by rw [Nat.mul_comm]; exact (Nat.div_add_mod j s).symm
    have hml := Nat.mod_lt j hs
    have key : ∀ (F : List α) (hF : j / s < F.length), (F.flatMap enc)[j]? = (enc F[j / s])[j % s]? := fun F hF => by
      cases hx : (enc F[j / s])[j % s]? with
      | none => have := List.getElem?_eq_none_iff.1 hx; rw [h.len] at this; omega
      | some w => have := h.at hF hx; rw [← hjd] at this; exact this
    rw [key _ (by rw [List.length_set]; exact hq)] at hu
    by_cases e : j / s = i
    · subst e
      rw [List.getElem_set_self] at hu
      rw [if_neg (by omega), if_pos (by omega), show o + j - (o + j / s * s) = j % s by omega]
      exact hu
    · rw [List.getElem_set_ne (Ne.symm e)] at hu
      have h5' := h5 j u (by rw [key _ hq]; exact hu)
      by_cases hlt : j / s < i
      · have : j / s * s + s ≤ i * s := by rw [← Nat.succ_mul]; exact Nat.mul_le_mul_right _ hlt
        rw [if_pos (by omega)]; exact h5'
      · have : i * s + s ≤ j / s * s := by rw [← Nat.succ_mul]; exact Nat.mul_le_mul_right _ (by omega)
        rw [if_neg (by omega), if_neg (by omega)]; exact h5'
/-- the rest of a slice, from an element on -/
theorem EncOk.post (h : EncOk enc s) {m : Mem} {b o n c : Nat} {E : List α} (hl : Lies m s (.slice (some ⟨b, o, none⟩) n c) (E.flatMap enc)) {i : Nat} (hi : i ≤ n) {o' : Nat} (ho : i < n → o' = o + i * s) : Lies m s (.slice (some ⟨b, o', none⟩) (n - i) (c - i)) ((E.drop i).flatMap enc) := by
  rcases hl with ⟨c', e, _⟩ | ⟨b', o2, c', n', arr, t, fr, e, g1, g2, g3, g4, g5⟩
  · cases e
  · cases e
    have hn := h.count g2
    refine .inr ⟨b, o', c - i, n - i, arr, t, fr, rfl, g1, by rw [h.flen, List.length_drop, hn], by omega, fun j u hu => ?_, h.fone⟩
    have hjl := (List.getElem?_eq_some_iff.1 hu).1
    rw [h.flen, List.length_drop, hn] at hjl
    have hlt : i < n := by
      by_cases e : i < n
      · exact e
      · rw [show n - i = 0 by omega] at hjl; simp at hjl
    rw [← h.drop, List.getElem?_drop] at hu
    have := g4 _ _ hu
    rw [ho hlt, Nat.add_assoc]; exact this
end
theorem Split.grow {m m' : Mem} {l : List Mem} (h : Split m l) (hs : Sub m m') : Split m' l := ⟨h.1.trans hs, h.2⟩
/-- a row has these cells from a place on -/
def RowHas (arr : Array Value) (o : Nat) (l : List Value) : Prop := ∀ j u, l[j]? = some u → arr[o + j]? = some u
theorem RowHas.append {arr : Array Value} {o : Nat} {a b : List Value} (ha : RowHas arr o a) (hb : RowHas arr (o + a.length) b) : RowHas arr o (a ++ b) := fun j u hu => by
  by_cases h : j < a.length
  · rw [List.getElem?_append_left h] at hu; exact ha j u hu
  · rw [List.getElem?_append_right (by omega)] at hu
    have := hb _ _ hu
    rw [show o + a.length + (j - a.length) = o + j by omega] at this
    exact this
theorem RowHas.left {arr : Array Value} {o : Nat} {a b : List Value} (h : RowHas arr o (a ++ b)) : RowHas arr o a := fun j u hu => h j u (by rw [List.getElem?_append_left (List.getElem?_eq_some_iff.1 hu).1]; exact hu)
theorem RowHas.right {arr : Array Value} {o : Nat} {a b : List Value} (h : RowHas arr o (a ++ b)) : RowHas arr (o + a.length) b := fun j u hu => by
  rw [Nat.add_assoc]
  exact h (a.length + j) u (by rw [List.getElem?_append_right (by omega), show a.length + j - a.length = j by omega]; exact hu)
theorem RowHas.putSame {arr : Array Value} {a : Nat} {cs : List Value} (hfit : a + cs.length ≤ arr.size) : RowHas (arr.toList.take a ++ (cs ++ arr.toList.drop (a + cs.length))).toArray a cs := fun j u hu => by
  have hl := (List.getElem?_eq_some_iff.1 hu).1
  rw [put_cells hfit, if_neg (by omega), if_pos (by omega), show a + j - a = j by omega]; exact hu
theorem RowHas.putOther {arr : Array Value} {a o : Nat} {cs l : List Value} (h : RowHas arr o l) (hfit : a + cs.length ≤ arr.size) (hd : o + l.length ≤ a ∨ a + cs.length ≤ o) : RowHas (arr.toList.take a ++ (cs ++ arr.toList.drop (a + cs.length))).toArray o l := fun j u hu => by
  have hl := (List.getElem?_eq_some_iff.1 hu).1
  rw [put_cells hfit]
  rcases hd with hd | hd
  · rw [if_pos (by omega)]; exact h j u hu
  · rw [if_neg (by omega), if_neg (by omega)]; exact h j u hu
theorem put_size {arr : Array Value} {a : Nat} {cs : List Value} (hfit : a + cs.length ≤ arr.size) : (arr.toList.take a ++ (cs ++ arr.toList.drop (a + cs.length))).toArray.size = arr.size := by
  simp only [List.size_toArray, List.length_append, List.length_take, List.length_drop, Array.length_toList]; omega
/-- a store over the whole of a new block -/
theorem storeAll {mm : Mem} {b : Nat} {old : Array Value} {t : TypeId} {fr : Nat × Nat} {v : LB} (hsz : LB.size v = old.size) :
    (mm.set b (.cells old t fr)).set b (.cells (old.toList.take 0 ++ (LB.cells v ++ old.toList.drop (0 + LB.size v))).toArray t fr) = mm.set b (.cells (LB.cells v).toArray t fr) := by
  rw [Mem.set_set]
  have e : (old.toList.take 0 ++ (LB.cells v ++ old.toList.drop (0 + LB.size v))).toArray = (LB.cells v).toArray := by
    rw [List.drop_of_length_le (by rw [Array.length_toList]; omega)]; simp
  rw [e]
theorem noFr {n k : Nat} : ∀ j, j < n → ¬ (((0, 0) : Nat × Nat).1 ≤ k + j ∧ k + j < ((0, 0) : Nat × Nat).2) := fun j _ h => by simp only at h; omega
end Go.E

/-
  Contracts of timer: entries, their order, closures, searches.
-/
namespace Go.E.Ytidnbefbbdbpfaa
open Go.Proofs
set_option maxRecDepth 100000
abbrev Ent := Int × Int
abbrev eV (e : Ent) : CV := .a [.one (.int .i64 e.1), .one (.int .i64 e.2)]
abbrev eC (e : Ent) : List Value := [.int .i64 e.1, .int .i64 e.2]
theorem eOk : EncOk eC 2 := ⟨fun _ => rfl, fun x u hu => by simp [eC] at hu; rcases hu with rfl | rfl <;> rfl, by decide⟩
theorem hEs : ∃ ti, tt.get 22 = some ti ∧ ti.k = .slice 37 := ⟨_, rfl, rfl⟩
theorem hEn : ∃ ti, tt.get 37 = some ti ∧ ti.size = 2 ∧ ti.bytes = 16 ∧ LB.cells ti.zero = eC (0, 0) := ⟨_, rfl, rfl, rfl, rfl⟩
/-- entries that lie somewhere; owned; or none, wherever -/
def El (m : Mem) (v : Value) (E : List Ent) : Prop := Lies m 2 v (E.flatMap eC)
def Eo (m : Mem) (v : Value) (E : List Ent) : Prop := Own m 37 2 v (E.flatMap eC)
def Ea (m : Mem) (v : Value) (E : List Ent) : Prop := El m v E ∨ (E = [] ∧ ∃ a, v = .slice (some a) 0 0)
theorem El.sub {m m' : Mem} {v : Value} {E : List Ent} (h : El m v E) (hs : Sub m m') : El m' v E := Lies.sub h hs
theorem Eo.sub {m m' : Mem} {v : Value} {E : List Ent} (h : Eo m v E) (hs : Sub m m') : Eo m' v E := Own.sub h hs
theorem Eo.el {m : Mem} {v : Value} {E : List Ent} (h : Eo m v E) : El m v E := Own.lies h
theorem El.ea {m : Mem} {v : Value} {E : List Ent} (h : El m v E) : Ea m v E := .inl h
theorem Ea.sub {m m' : Mem} {v : Value} {E : List Ent} (h : Ea m v E) (hs : Sub m m') : Ea m' v E := h.imp (·.sub hs) id
theorem Eo.nil (m : Mem) : Eo m (.slice none 0 0) [] := .inl ⟨rfl, rfl⟩
theorem El.shape {m : Mem} {v : Value} {E : List Ent} (h : El m v E) : ∃ a c, v = .slice a E.length c := eOk.shape h
theorem Ea.shape {m : Mem} {v : Value} {E : List Ent} (h : Ea m v E) : ∃ a c, v = .slice a E.length c := by
  rcases h with h | ⟨rfl, a, rfl⟩
  · exact h.shape
  · exact ⟨_, _, rfl⟩
theorem Ea.el {m : Mem} {v : Value} {E : List Ent} (h : Ea m v E) (hl : 0 < E.length) : El m v E := h.elim id fun h => by rw [h.1] at hl; simp at hl
theorem Ea.real {m : Mem} {v : Value} {E : List Ent} (h : Ea m v E) {i : Nat} (hi : i < E.length) : ∃ b o c, v = .slice (some ⟨b, o, none⟩) E.length c ∧ ∀ j (hj : j < E.length), MRange m b (o + j * 2) (eC E[j]) := by
  rcases h with h | ⟨rfl, _⟩
  · exact eOk.real h hi
  · simp at hi
/-! ### the order -/
def cmpI (x y : Int) : Int := if x < y then -1 else if y < x then 1 else 0
def ordE (a b : Ent) : Int := if cmpI a.2 b.2 = 0 then cmpI a.1 b.1 else cmpI a.2 b.2
theorem isNaN_spec {m : Mem} {x : Int} : Ret Try.prog 29 [i64 x] m [boolV false] := by
  refine en29 rfl (goY ?_)
  conv => whnf
  exact ⟨by simp, rfl⟩
theorem compare_spec {m : Mem} {x y : Int} : Ret Try.prog 26 [i64 x, i64 y] m [i64 (cmpI x y)] := by
  refine en26 rfl (goY ?_)
  conv => whnf
  first | refine xretk (isNaN_spec) ?_ | refine xret (isNaN_spec) ?_
  conv => whnf
  first | refine xretk (isNaN_spec) ?_ | refine xret (isNaN_spec) ?_
  conv => whnf
  refine ⟨fun h => absurd h (by decide), fun _ => ?_⟩
  conv => whnf
  refine ⟨fun h => absurd h (by decide), fun _ => ?_⟩
  conv => whnf
  refine ⟨fun h => ?_, fun h => ?_⟩
  · conv => whnf
    exact ⟨by rw [cmpI, if_pos (of_decide_eq_true h)], rfl⟩
  have h1 := of_decide_eq_false h
  conv => whnf
  refine ⟨fun h => ?_, fun h => ?_⟩
  · conv => whnf
    exact ⟨by rw [cmpI, if_neg h1, if_pos (of_decide_eq_true h)], rfl⟩
  · conv => whnf
    exact ⟨by rw [cmpI, if_neg h1, if_neg (of_decide_eq_false h)], rfl⟩
theorem or_spec {m : Mem} {v : Value} {x y : Int} (hv : Il m v [x, y]) : Ret Try.prog 25 [.v v] m [i64 (if x = 0 then y else x)] := by
  obtain ⟨b, o, c, rfl, hg⟩ := hv.real (i := 0) (by simp)
  have g0 := hg 0 (by simp)
  have g1 := hg 1 (by simp)
  refine en25 rfl (goY ?_)
  conv => whnf
  refine .mk (ι := Nat) (fun i => 2 - i) (fun i mm => i ≤ 2 ∧ (1 ≤ i → x = 0) ∧ (2 ≤ i → y = 0) ∧ mm = m) (fun i => [(3, .c (i64 0)), (6, .c (.v (.slice (some ⟨b, o, none⟩) 2 c))), (7, .c (i64 2)), (8, .c (i64 i))]) (fun _ => []) 0 ⟨by omega, by omega, by omega, rfl⟩ ?_ ?_
  · conv => whnf
    repeat (refine And.intro (by first | with_reducible rfl | exact congrArg (Value.int _) (wi (by omega) (by omega)) | exact wi (by omega) (by omega) | rfl) ?_; conv => whnf)
    first | exact trivial | exact fun _ _ h => h
  rintro i mm ⟨hi, h1, h2, he⟩
  subst mm
  conv => whnf
  refine ⟨fun h => ?_, fun h => ?_⟩
  · have h' := of_decide_eq_true h
    have hlt : i < 2 := by omega
    have hgi : mcell m b (o + i) = some (.int .i64 (if i = 0 then x else y)) := by
      obtain rfl | rfl : i = 0 ∨ i = 1 := by omega
      · exact g0
      · exact g1
    conv => whnf
    repeat (refine And.intro (by first | omega | (simp only [times]; omega)) ?_; conv => whnf)
    refine ⟨_, by simp only [times, Int.toNat_natCast, Nat.mul_one]; exact hgi, rfl, ?_⟩
    conv => whnf
    refine ⟨fun h => ?_, fun h => ?_⟩
    · have hne : (if i = 0 then x else y) ≠ 0 := by simpa using h
      conv => whnf
      refine ⟨?_, rfl⟩
      obtain rfl | rfl : i = 0 ∨ i = 1 := by omega
      · simp only [if_true] at hne ⊢
        rw [if_neg hne]
      · rw [h1 (by omega)]; simp
    · have hz : (if i = 0 then x else y) = 0 := by simpa using h
      conv => whnf
      refine ⟨i + 1, ⟨by omega, fun _ => ?_, fun _ => ?_, rfl⟩, by omega, ?_⟩
      · by_cases h0 : i = 0
        · rw [if_pos h0] at hz; exact hz
        · exact h1 (by omega)
      · rw [if_neg (by omega)] at hz; exact hz
      · conv => whnf
        repeat (refine And.intro (by first | with_reducible rfl | (first | exact congrArg (Value.int _) (iadd (by omega))) | exact congrArg (Value.int _) (wi (by omega) (by omega)) | exact wi (by omega) (by omega) | rfl) ?_; conv => whnf)
        first | exact trivial | exact fun _ _ h => h
  · have h' := of_decide_eq_false h
    conv => whnf
    exact ⟨by rw [h1 (by omega), h2 (by omega)]; simp, rfl⟩
theorem buildI2 {m : Mem} {x y : Int} : PrimSpec Try.prog (.buildSlice 31 2 [0, 1]) [.v (.int .i64 x), .v (.int .i64 y)] m fun r m' => ∃ b, m b = none ∧ r = [.v (.slice (some ⟨b, 0, none⟩) 2 2)] ∧ m' = m.set b (.cells (ic [x, y]).toArray 3) :=
  buildSlice_spec (n := 2) tt_ok hIs rfl hI' rfl rfl (by simp [CV.cs]) (by simp) (by simp)
theorem order_spec {m : Mem} {a b : Ent} : Spec Try.prog 15 [eV a, eV b] m fun r m' => r = [i64 (ordE a b)] ∧ Sub m m' := by
  refine en15 rfl (goY ?_)
  conv => whnf
  first | refine xretk (compare_spec) ?_ | refine xret (compare_spec) ?_
  conv => whnf
  first | refine xretk (compare_spec) ?_ | refine xret (compare_spec) ?_
  conv => whnf
  refine .mk _ (buildI2) ?_
  rintro _ _ ⟨b1, hb1, rfl, rfl⟩
  conv => whnf
  first | refine xretk (or_spec (.inr ⟨b1, 0, 2, 2, _, _, _, rfl, Mem.set_same .., rfl, Nat.le_refl _, fun j u hu => by rw [Nat.zero_add, List.getElem?_toArray]; exact hu, ic_one⟩)) ?_ | refine xret (or_spec (.inr ⟨b1, 0, 2, 2, _, _, _, rfl, Mem.set_same .., rfl, Nat.le_refl _, fun j u hu => by rw [Nat.zero_add, List.getElem?_toArray]; exact hu, ic_one⟩)) ?_
  conv => whnf
  exact ⟨rfl, Mem.sub_set _ hb1⟩
def isE (e : Ent) : Bool := decide (1 ≤ e.1) && decide (e.1 ≤ 1099511627776) && decide (0 ≤ e.2) && decide (e.2 ≤ 1099511627776)
theorem isEntry_spec {m : Mem} {e : Ent} : Ret Try.prog 13 [eV e] m [boolV (isE e)] := by
  refine en13 rfl (goY ?_)
  conv => whnf
  repeat' (first | (refine ⟨fun h => ?_, fun h => ?_⟩ <;> conv => whnf) | fail)
  all_goals (refine ⟨?_, rfl⟩; simp [isE] at *; try omega)
theorem beqD (x y : Int) : (x == y) = decide (x = y) := by by_cases h : x = y <;> simp [h]
theorem right1_spec {m : Mem} {e x : Ent} {b : Nat} (hb : m b = some (.cells (eC x).toArray 37)) : Ret Try.prog 17 [eV e, ptrV b] m [boolV (decide (e.1 = x.1))] := by
  refine en17 rfl (goY ?_)
  conv => whnf
  refine ⟨_, mcell_of hb rfl, rfl, ?_⟩
  conv => whnf
  exact ⟨by rw [beqD], rfl⟩
theorem find1_spec {m : Mem} {e : Ent} {id : Int} {b : Nat} (hb : m b = some (.cells #[.int .i64 id] 3)) : Ret Try.prog 20 [eV e, ptrV b] m [boolV (decide (e.1 = id))] := by
  refine en20 rfl (goY ?_)
  conv => whnf
  refine ⟨_, mcell_of hb rfl, rfl, ?_⟩
  conv => whnf
  exact ⟨by rw [beqD], rfl⟩
theorem clear1_spec {m : Mem} {e : Ent} {id : Int} {b : Nat} (hb : m b = some (.cells #[.int .i64 id] 3)) : Ret Try.prog 24 [eV e, ptrV b] m [boolV (decide (e.1 = id))] := by
  refine en24 rfl (goY ?_)
  conv => whnf
  refine ⟨_, mcell_of hb rfl, rfl, ?_⟩
  conv => whnf
  exact ⟨by rw [beqD], rfl⟩
/-- a function that closes over a block -/
abbrev fnV (F b : Nat) : CV := .v (.func (.func F) #[] #[.pointer (some ⟨b, 0, none⟩)])
/-- where the first one is of which p holds; -1 for none -/
def idx (p : Ent → Bool) (E : List Ent) : Int := if E.any p then (E.findIdx p : Int) else -1
theorem idx_at {p : Ent → Bool} {E : List Ent} {i : Nat} (hi : i < E.length) (hall : ∀ x ∈ E.take i, p x = false) (h : p E[i] = true) : idx p E = i := by
  have h1 : E.any p = true := List.any_eq_true.2 ⟨_, List.getElem_mem hi, h⟩
  rw [idx, if_pos h1]
  have : E.findIdx p = i := by
    rw [List.findIdx_eq hi]
    refine ⟨h, fun j hj => ?_⟩
    have := hall E[j] (List.mem_take_iff_getElem.2 ⟨j, by omega, rfl⟩)
    simpa using this
  rw [this]
theorem idx_none {p : Ent → Bool} {E : List Ent} (hall : ∀ x ∈ E, p x = false) : idx p E = -1 := by
  rw [idx, if_neg]
  intro h
  obtain ⟨x, hx, hp⟩ := List.any_eq_true.1 h
  rw [hall x hx] at hp; cases hp
set_option maxHeartbeats 1000000 in
theorem index_spec {m : Mem} {v : Value} {E : List Ent} {F b : Nat} {p : Ent → Bool} (hv : Ea m v E) (hF : ∀ e, Ret Try.prog F [eV e, ptrV b] m [boolV (p e)]) (hl : E.length ≤ 100000000) : Ret Try.prog 19 [.v v, fnV F b] m [i64 (idx p E)] := by
  obtain ⟨a, c, rfl⟩ := hv.shape
  refine en19 rfl (goY ?_)
  conv => whnf
  refine .mk (ι := Nat) (fun i => E.length - i) (fun i mm => i ≤ E.length ∧ (∀ x ∈ E.take i, p x = false) ∧ mm = m) (fun i => [(0, .c (.v (.slice a E.length c))), (1, .c (fnV F b)), (7, .c (i64 E.length)), (8, .c (i64 i))]) (fun _ => []) 0 ⟨by omega, by simp, rfl⟩ ?_ ?_
  · conv => whnf
    repeat (refine And.intro (by first | with_reducible rfl | exact congrArg (Value.int _) (wi (by omega) (by omega)) | exact wi (by omega) (by omega) | rfl) ?_; conv => whnf)
    first | exact trivial | exact fun _ _ h => h
  rintro i mm ⟨hi, hall, he⟩
  subst mm
  conv => whnf
  refine ⟨fun h => ?_, fun h => ?_⟩
  · have h' := of_decide_eq_true h
    have hlt : i < E.length := by omega
    obtain ⟨bl, ol, c', hh, hg⟩ := hv.real hlt
    injection hh with hh1 _ hh3
    subst hh1
    clear hh3 c'
    have hg := hg i hlt
    conv => whnf
    repeat (refine And.intro (by first | omega | (simp only [times]; omega)) ?_; conv => whnf)
    refine ⟨[.one (.int .i64 E[i].1), .one (.int .i64 E[i].2)], ⟨rfl, rfl, trivial⟩, rfl, by simp only [times, Int.toNat_natCast]; exact hg, ?_⟩
    conv => whnf
    first | refine xretk ((hF E[i])) ?_ | refine xret ((hF E[i])) ?_
    conv => whnf
    have hst : E.take (i + 1) = E.take i ++ [E[i]] := List.take_succ_eq_append_getElem hlt
    refine ⟨fun h => ?_, fun h => ?_⟩
    · conv => whnf
      exact ⟨by rw [idx_at hlt hall h], rfl⟩
    · conv => whnf
      refine ⟨i + 1, ⟨by omega, fun x hx => ?_, rfl⟩, by omega, ?_⟩
      · rw [hst] at hx
        rcases List.mem_append.1 hx with hx | hx
        · exact hall x hx
        · rw [List.mem_singleton.1 hx]; exact h
      · conv => whnf
        repeat (refine And.intro (by first | with_reducible rfl | (first | exact congrArg (Value.int _) (iadd (by omega))) | exact congrArg (Value.int _) (wi (by omega) (by omega)) | exact wi (by omega) (by omega) | rfl) ?_; conv => whnf)
        first | exact trivial | exact fun _ _ h => h
  · have h' := of_decide_eq_false h
    obtain rfl : i = E.length := by omega
    rw [List.take_length] at hall
    conv => whnf
    exact ⟨by rw [idx_none hall], rfl⟩
theorem idx_cases (p : Ent → Bool) (E : List Ent) : (idx p E = -1 ∧ E.find? p = none) ∨ ∃ (i : Nat) (h : i < E.length), idx p E = i ∧ E.find? p = some E[i] := by
  by_cases h : E.any p = true
  · refine .inr ?_
    have hlt : E.findIdx p < E.length := List.findIdx_lt_length.2 (List.any_eq_true.1 h)
    refine ⟨E.findIdx p, hlt, by rw [idx, if_pos h], ?_⟩
    rw [List.find?_eq_some_iff_getElem]
    exact ⟨List.findIdx_getElem, E.findIdx p, hlt, rfl, fun j hj => by simpa using List.not_of_lt_findIdx hj⟩
  · refine .inl ⟨by rw [idx, if_neg h], ?_⟩
    rw [List.find?_eq_none]
    intro x hx hp
    exact h (List.any_eq_true.2 ⟨x, hx, hp⟩)
theorem mcell_range {m : Mem} {b o j : Nat} {l : List Value} {u : Value} (h : MRange m b o l) (hj : l[j]? = some u) : mcell m b (o + j) = some u := by
  obtain ⟨arr, t, fr, h1, h2⟩ := h
  exact mcell_of h1 (h2 j u hj)
theorem idx_nonneg (p : Ent → Bool) (E : List Ent) : decide (0 ≤ idx p E) = E.any p := by
  unfold idx
  split
  · rename_i h; rw [h]; exact decide_eq_true (by omega)
  · rename_i h
    have : E.any p = false := by simpa using h
    rw [this]; exact decide_eq_false (by omega)
theorem contains_spec {m : Mem} {v : Value} {E : List Ent} {F b : Nat} {p : Ent → Bool} (hv : Ea m v E) (hF : ∀ e, Ret Try.prog F [eV e, ptrV b] m [boolV (p e)]) (hl : E.length ≤ 100000000) : Ret Try.prog 18 [.v v, fnV F b] m [boolV (E.any p)] := by
  obtain ⟨a, c, rfl⟩ := hv.shape
  refine en18 rfl (goY ?_)
  conv => whnf
  first | refine xretk (index_spec hv hF hl) ?_ | refine xret (index_spec hv hF hl) ?_
  conv => whnf
  exact ⟨by rw [idx_nonneg], rfl⟩
/-- the tick of a timer -/
def atOf (E : List Ent) (id : Int) : Option Int := (E.find? fun e => decide (e.1 = id)).map (·.2)
theorem find_spec {m : Mem} {v : Value} {E : List Ent} {id : Int} (hv : Ea m v E) (hl : E.length ≤ 100000000) : Spec Try.prog 9 [.v v, i64 id] m fun r m' => r = [i64 ((atOf E id).getD 0), boolV (atOf E id).isSome] ∧ Sub m m' := by
  obtain ⟨a, c, rfl⟩ := hv.shape
  refine en9 rfl (goY ?_)
  conv => whnf
  intro b hb
  conv => whnf
  refine .mk _ (makeFunc_spec (cs := [.pointer (some ⟨b, 0, none⟩)]) (by simp [Value.oneCell'])) ?_
  rintro _ _ ⟨rfl, rfl⟩
  conv => whnf
  have hs := Mem.sub_set (.cells #[.int .i64 id] 3) hb
  first | refine xretk (index_spec (p := fun e => decide (e.1 = id)) (hv.sub hs) (fun e => find1_spec (Mem.set_same ..)) hl) ?_ | refine xret (index_spec (p := fun e => decide (e.1 = id)) (hv.sub hs) (fun e => find1_spec (Mem.set_same ..)) hl) ?_
  conv => whnf
  rcases idx_cases (fun e => decide (e.1 = id)) E with ⟨e1, e2⟩ | ⟨i, hi, e1, e2⟩
  · rw [e1]
    refine ⟨fun _ => ?_, fun h => absurd h (by decide)⟩
    conv => whnf
    exact ⟨by rw [atOf, e2]; rfl, hs⟩
  · rw [e1]
    refine ⟨fun h => absurd h (by simp), fun _ => ?_⟩
    conv => whnf
    obtain ⟨bl, ol, c', hh, hg⟩ := hv.real hi
    injection hh with hh1 _ hh3
    subst hh1
    clear hh3 c'
    have hg' := mcell_range (j := 1) ((hg i hi).sub hs) rfl
    conv => whnf
    repeat (refine And.intro (by first | omega | (simp only [times]; omega)) ?_; conv => whnf)
    refine ⟨_, by simp only [times, Int.toNat_natCast]; exact hg', rfl, ?_⟩
    conv => whnf
    exact ⟨by rw [atOf, e2]; rfl, hs⟩
def eAt (E : List Ent) (i : Nat) : Ent := E.getD i (0, 0)
theorem eAt_eq {E : List Ent} {i : Nat} (h : i < E.length) : E[i] = eAt E i := by rw [eAt, List.getD_eq_getElem?_getD, List.getElem?_eq_getElem h]; rfl
/-- may the i-th timer stand there? -/
def okAt (E : List Ent) (i : Nat) : Bool := isE (eAt E i) && ((decide (i = 0) || decide (ordE (eAt E (i - 1)) (eAt E i) ≤ 0)) && !((E.take i).any fun x => decide (x.1 = (eAt E i).1)))
def rightE (E : List Ent) : Bool := (List.range E.length).all (okAt E) && decide (E.length ≤ 200)
set_option maxHeartbeats 2000000 in
theorem right_tspec {m : Mem} {v : Value} {E : List Ent} (hv : Ea m v E) (hl : E.length ≤ 100000000) : Spec Try.prog 8 [.v v] m fun r m' => r = [boolV (rightE E)] ∧ Sub m m' := by
  obtain ⟨a, c, rfl⟩ := hv.shape
  refine en8 rfl (goY ?_)
  conv => whnf
  refine .mk (ι := Nat) (fun i => E.length - i) (fun i mm => i ≤ E.length ∧ (∀ j, j < i → okAt E j = true) ∧ Sub m mm) (fun i => [(0, .c (.v (.slice a E.length c))), (6, .c (.v (.slice a E.length c))), (7, .c (i64 E.length)), (8, .c (i64 i))]) (fun _ => []) 0 ⟨by omega, by omega, Sub.refl _⟩ ?_ ?_
  · conv => whnf
    repeat (refine And.intro (by first | with_reducible rfl | exact congrArg (Value.int _) (wi (by omega) (by omega)) | exact wi (by omega) (by omega) | rfl) ?_; conv => whnf)
    first | exact trivial | exact fun _ _ h => h
  rintro i mm ⟨hi, hall, hs⟩
  conv => whnf
  refine ⟨fun h => ?_, fun h => ?_⟩
  · have h' := of_decide_eq_true h
    have hlt : i < E.length := by omega
    have hv' := hv
    obtain ⟨bl, ol, c', hh, hg⟩ := hv.real hlt
    injection hh with hh1 _ hh3
    subst hh1
    clear hh3 c'
    have hcap : E.length ≤ c := by rcases lies_cap (s := 2) (by decide) (hv'.el (by omega)) with h | h <;> omega
    have hg' := hg i hlt
    rw [eAt_eq hlt] at hg'
    have hbad : okAt E i = false → rightE E = false := fun e => by
      have : (List.range E.length).all (okAt E) = false := by
        rw [List.all_eq_false]; exact ⟨i, List.mem_range.2 hlt, by rw [e]; decide⟩
      rw [rightE, this]; rfl
    have hok : okAt E i = (isE (eAt E i) && ((decide (i = 0) || decide (ordE (eAt E (i - 1)) (eAt E i) ≤ 0)) && !((E.take i).any fun x => decide (x.1 = (eAt E i).1)))) := rfl
    have hone := hg (i - 1) (by omega)
    rw [eAt_eq (by omega)] at hone
    generalize eAt E i = x at hg' hok
    clear h
    conv => whnf
    repeat (refine And.intro (by first | omega | (simp only [times]; omega)) ?_; conv => whnf)
    refine ⟨[.one (.int .i64 x.1), .one (.int .i64 x.2)], ⟨rfl, rfl, trivial⟩, rfl, by simp only [times, Int.toNat_natCast]; exact hg'.sub hs, ?_⟩
    conv => whnf
    intro b hb
    conv => whnf
    refine ⟨_, _, _, Mem.set_same .., ⟨Nat.le_refl 2, noFr⟩, ?_⟩
    rw [storeAll (by rfl)]
    conv => whnf
    have hb2 : (mm.set b (.cells (LB.cells [.one (.int .i64 x.1), .one (.int .i64 x.2)]).toArray 37)) b = some (.cells (eC x).toArray 37) := Mem.set_same ..
    have hs2 := Mem.sub_set (.cells (LB.cells [.one (.int .i64 x.1), .one (.int .i64 x.2)]).toArray 37) hb
    generalize mm.set b (.cells (LB.cells [.one (.int .i64 x.1), .one (.int .i64 x.2)]).toArray 37) = m2 at hb2 hs2 ⊢
    refine .mk _ (makeFunc_spec (cs := [.pointer (some ⟨b, 0, none⟩)]) (by simp [Value.oneCell'])) ?_
    rintro _ _ ⟨rfl, rfl⟩
    conv => whnf
    have hr2 : MRange m2 b 0 (eC x) := ⟨_, _, _, hb2, fun j u hu => by rw [Nat.zero_add, List.getElem?_toArray]; exact hu⟩
    refine ⟨[.one (.int .i64 x.1), .one (.int .i64 x.2)], ⟨rfl, rfl, trivial⟩, rfl, hr2, ?_⟩
    conv => whnf
    first | refine xretk (isEntry_spec (e := x)) ?_ | refine xret (isEntry_spec (e := x)) ?_
    conv => whnf
    by_cases hE : isE x = true
    rotate_left
    · have hE : isE x = false := by simpa using hE
      rw [hE] at hok ⊢
      refine ⟨fun _ => ?_, fun h => absurd h (by decide)⟩
      conv => whnf
      exact ⟨by rw [hbad hok], hs.trans hs2⟩
    rw [hE] at hok ⊢
    refine ⟨fun h => absurd h (by decide), fun _ => ?_⟩
    conv => whnf
    have hpre : Ea m2 (.slice (some ⟨bl, ol, none⟩) i c) (E.take i) := .inl (eOk.pre ((hv'.sub (hs.trans hs2)).el (by omega)) (by omega) (by omega))
    have hlt2 : (E.take i).length = i := by rw [List.length_take]; omega
    refine ⟨fun h1 => ?_, fun h1 => ?_⟩
    · have h1' := of_decide_eq_true h1
      clear h1
      have ew : IntKind.i64.wrap ((i : Int) - 1) = ((i - 1 : Nat) : Int) := by rw [wi (by omega) (by omega)]; omega
      conv => whnf
      rw [ew]
      repeat (refine And.intro (by first | omega | (simp only [times]; omega)) ?_; conv => whnf)
      generalize eAt E (i - 1) = y at hone hok
      refine ⟨[.one (.int .i64 y.1), .one (.int .i64 y.2)], ⟨rfl, rfl, trivial⟩, rfl, by simp only [times, Int.toNat_natCast]; exact (hone.sub hs).sub hs2, ?_⟩
      conv => whnf
      refine ⟨[.one (.int .i64 x.1), .one (.int .i64 x.2)], ⟨rfl, rfl, trivial⟩, rfl, hr2, ?_⟩
      conv => whnf
      refine xcall (order_spec (a := y) (b := x)) ?_
      rintro _ m3 ⟨rfl, hs3⟩
      conv => whnf
      first | refine ⟨fun _ h => (by cases h), ?_⟩ | skip
      conv => whnf
      have hm3 : Sub m m3 := (hs.trans hs2).trans hs3
      refine ⟨fun h2 => ?_, fun h2 => ?_⟩
      · have h2' := of_decide_eq_true h2
        have : decide (ordE y x ≤ 0) = false := decide_eq_false (by omega)
        rw [this, decide_eq_false (show ¬ i = 0 by omega)] at hok
        conv => whnf
        exact ⟨by rw [hbad hok], hm3⟩
      have h2' := of_decide_eq_false h2
      have h2e : decide (ordE y x ≤ 0) = true := decide_eq_true (by omega)
      clear h2
      conv => whnf
      repeat (refine And.intro (by first | omega | (simp only [times]; omega)) ?_; conv => whnf)
      repeat (refine And.intro (by first | omega | (simp only [times]; omega)) ?_; conv => whnf)
      intro o' q1 q2
      obtain rfl : o' = ol := by have := q1 (by omega); simpa [times] using this
      conv => whnf
      first | refine xretk (contains_spec (p := fun e => decide (e.1 = x.1)) (hpre.sub hs3) (fun e => right1_spec (e := e) (x := x) (hs3 _ _ hb2)) (by omega)) ?_ | refine xret (contains_spec (p := fun e => decide (e.1 = x.1)) (hpre.sub hs3) (fun e => right1_spec (e := e) (x := x) (hs3 _ _ hb2)) (by omega)) ?_
      conv => whnf
      refine ⟨fun h3 => ?_, fun h3 => ?_⟩
      · rw [h2e, h3] at hok
        conv => whnf
        exact ⟨by rw [hbad (by rw [hok]; simp)], hm3⟩
      · rw [h2e, h3] at hok
        conv => whnf
        refine ⟨i + 1, ⟨by omega, fun j hj => ?_, hm3⟩, by omega, ?_⟩
        · by_cases e : j = i
          · subst e; rw [hok]; simp
          · exact hall j (by omega)
        · conv => whnf
          repeat (refine And.intro (by first | with_reducible rfl | (first | exact congrArg (Value.int _) (iadd (by omega))) | exact congrArg (Value.int _) (wi (by omega) (by omega)) | exact wi (by omega) (by omega) | rfl) ?_; conv => whnf)
          first | exact trivial | exact fun _ _ h => h
    · have h1' := of_decide_eq_false h1
      clear h1
      have h2e : decide (i = 0) = true := decide_eq_true (by omega)
      conv => whnf
      repeat (refine And.intro (by first | omega | (simp only [times]; omega)) ?_; conv => whnf)
      repeat (refine And.intro (by first | omega | (simp only [times]; omega)) ?_; conv => whnf)
      intro o' q1 q2
      obtain rfl : o' = ol := by have := q1 (by omega); simpa [times] using this
      conv => whnf
      first | refine xretk (contains_spec (p := fun e => decide (e.1 = x.1)) (hpre) (fun e => right1_spec (e := e) (x := x) (hb2)) (by omega)) ?_ | refine xret (contains_spec (p := fun e => decide (e.1 = x.1)) (hpre) (fun e => right1_spec (e := e) (x := x) (hb2)) (by omega)) ?_
      conv => whnf
      refine ⟨fun h3 => ?_, fun h3 => ?_⟩
      · rw [h2e, h3] at hok
        conv => whnf
        exact ⟨by rw [hbad (by rw [hok]; simp)], hs.trans hs2⟩
      · rw [h2e, h3] at hok
        conv => whnf
        refine ⟨i + 1, ⟨by omega, fun j hj => ?_, hs.trans hs2⟩, by omega, ?_⟩
        · by_cases e : j = i
          · subst e; rw [hok]; simp
          · exact hall j (by omega)
        · conv => whnf
          repeat (refine And.intro (by first | with_reducible rfl | (first | exact congrArg (Value.int _) (iadd (by omega))) | exact congrArg (Value.int _) (wi (by omega) (by omega)) | exact wi (by omega) (by omega) | rfl) ?_; conv => whnf)
          first | exact trivial | exact fun _ _ h => h
  · have h' := of_decide_eq_false h
    obtain rfl : i = E.length := by omega
    conv => whnf
    refine ⟨?_, hs⟩
    have : (List.range E.length).all (okAt E) = true := List.all_eq_true.2 fun j hj => hall j (List.mem_range.1 hj)
    rw [rightE, this, Bool.true_and]
    simp
    omega
end Go.E.Ytidnbefbbdbpfaa

/-
  Contracts of timer: lists that grow.
-/
namespace Go.E.Ytidnbefbbdbpfaa
open Go.Proofs
set_option maxRecDepth 100000
theorem Ea.lenV {m : Mem} {v : Value} {E : List Ent} (h : Ea m v E) : lenV v = E.length := by obtain ⟨a, c, rfl⟩ := h.shape; rfl
theorem Ea.one {m : Mem} {v : Value} {E : List Ent} (h : Ea m v E) : v.oneCell' = true := by obtain ⟨a, c, rfl⟩ := h.shape; rfl
theorem Ea.gives {m : Mem} {v : Value} {E : List Ent} {e : TypeId} (h : Ea m v E) : Gives m 2 (.slice e) v (E.flatMap eC) := .inl ⟨e, rfl, h.imp id fun ⟨h1, h2⟩ => ⟨by rw [h1]; rfl, h2⟩⟩
/-- append of entries onto the i-th part -/
theorem appendEat {m p : Mem} {ls : List Mem} {i : Nat} {v x : Value} {E news : List Ent} (hs : Split m ls) (hi : ls[i]? = some p) (hv : Eo p v E) (hg : Ea m x news) (hb : E.length + news.length ≤ 100000000) :
    PrimSpec Try.prog (.builtin .append [22, 22]) [.v v, .v x] m fun r m' => ∃ v' p', r = [.v v'] ∧ Split m' (ls.set i p') ∧ Eo p' v' (E ++ news) := by
  obtain ⟨ti, h1, h2⟩ := hEs
  obtain ⟨ei, g1, g2, g3, g4⟩ := hEn
  have e1 := hv.el.ea.lenV
  have e2 := hg.lenV
  have hv' : Own p 37 ei.size v (E.flatMap eC) := by rw [g2]; exact hv
  refine (append_at (news := news.flatMap eC) tt_ok h1 h2 g1 h1 (by rw [g4, g2]; rfl) hs hi hv' (by rw [h2, g2]; exact hg.gives) (by rw [e1, e2, g3]; omega) (by rw [e1, e2]; omega)).mono fun r m' ⟨v', p', q1, q2, q3⟩ => ⟨v', p', q1, q2, ?_⟩
  have := q3.own
  rw [g2, ← List.flatMap_append] at this
  exact this
theorem buildE0 {m : Mem} : PrimSpec Try.prog (.buildSlice 22 0 []) [] m fun r m' => ∃ b, m b = none ∧ r = [.v (.slice (some ⟨b, 0, none⟩) 0 0)] ∧ m' = m.set b (.cells #[] 37) := by
  obtain ⟨ti, h1, h2⟩ := hEs
  obtain ⟨ei, g1, g2, g3, g4⟩ := hEn
  exact buildSlice0_spec tt_ok h1 h2 g1
theorem buildE1 {m : Mem} {e : Ent} : PrimSpec Try.prog (.buildSlice 22 1 [0]) [eV e] m fun r m' => ∃ b, m b = none ∧ r = [.v (.slice (some ⟨b, 0, none⟩) 1 1)] ∧ m' = m.set b (.cells (eC e).toArray 37) := by
  obtain ⟨ti, h1, h2⟩ := hEs
  obtain ⟨ei, g1, g2, g3, g4⟩ := hEn
  exact (buildSlice_spec (n := 1) tt_ok h1 h2 g1 rfl rfl (by simp [CV.cs, LB.cells, Seg.cells, g2]) (by omega) (by omega)).mono fun r m' ⟨b, e1, e2, e3⟩ => ⟨b, e1, e2, e3⟩
theorem Eo.blk1 {m : Mem} {b : Nat} {e : Ent} (h : m b = some (.cells (eC e).toArray 37)) : Eo m (.slice (some ⟨b, 0, none⟩) 1 1) [e] :=
  .inr ⟨b, 0, 1, 1, _, rfl, h, rfl, Nat.le_refl _, Nat.le_refl _, fun j u hu => by rw [Nat.zero_add, List.getElem?_toArray]; exact hu, eOk.fone⟩
theorem Eo.blk0 {m : Mem} {b : Nat} (h : m b = some (.cells #[] 37)) : Eo m (.slice (some ⟨b, 0, none⟩) 0 0) [] :=
  .inr ⟨b, 0, 0, 0, _, rfl, h, rfl, Nat.le_refl _, Nat.le_refl _, fun j u hu => by simp at hu, eOk.fone⟩
/-- one entry more -/
theorem pushE {m p : Mem} {ls : List Mem} {i b' : Nat} {x : Ent} {y : Value} {E : List Ent} (hs : Split m ls) (hi : ls[i]? = some p) (hb : m b' = none) (hy : Eo p y E) (hl : E.length ≤ 10000000) :
    PrimSpec Try.prog (.builtin .append [22, 22]) [.v y, .v (.slice (some ⟨b', 0, none⟩) 1 1)] (m.set b' (.cells (eC x).toArray 37)) fun r m' => ∃ y' p', r = [.v y'] ∧ Split m' (ls.set i p') ∧ Eo p' y' (E ++ [x]) := by
  have hs1 := hs.new hb (.cells (eC x).toArray 37)
  exact (appendEat (i := i + 1) hs1 (by simpa using hi) hy (Eo.blk1 (Mem.set_same ..)).el.ea (by simp; omega)).mono fun r m' ⟨v', p', h1, h2, h3⟩ => ⟨v', p', h1, h2.erase 0, h3⟩
theorem pushIx {m p : Mem} {ls : List Mem} {i b' : Nat} {x : Int} {y : Value} {l : List Int} (hs : Split m ls) (hi : ls[i]? = some p) (hb : m b' = none) (hy : Io p y l) (hl : l.length ≤ 100000000) :
    PrimSpec Try.prog (.builtin .append [31, 31]) [.v y, .v (.slice (some ⟨b', 0, none⟩) 1 1)] (m.set b' (.cells #[.int .i64 x] 3)) fun r m' => ∃ y' p', r = [.v y'] ∧ Split m' (ls.set i p') ∧ Io p' y' (l ++ [x]) := by
  have hs1 := hs.new hb (.cells #[.int .i64 x] 3)
  exact (appendIat (i := i + 1) hs1 (by simpa using hi) hy (Il.blk1 (Mem.set_same ..)).ia (by simp; omega)).mono fun r m' ⟨v', p', h1, h2, h3⟩ => ⟨v', p', h1, h2.erase 0, h3⟩
theorem clone_spec {m : Mem} {v : Value} {E : List Ent} (hv : Ea m v E) (hl : E.length ≤ 10000000) : Spec Try.prog 23 [.v v] m fun r m' => ∃ v' p, r = [.v v'] ∧ Split m' [p, m] ∧ Eo p v' E := by
  obtain ⟨a, c, rfl⟩ := hv.shape
  cases a with
  | none =>
    have hE : E = [] := by
      rcases hv with (⟨c', e, h⟩ | ⟨b, o, c', n, arr, t, fr, e, _⟩) | ⟨h, _⟩
      · exact List.eq_nil_of_length_eq_zero (eOk.count (n := 0) (by rw [h]; rfl))
      · cases e
      · exact h
    subst hE
    refine en23 rfl (goY ?_)
    conv => whnf
    refine ⟨fun _ => ?_, fun h => absurd h (by decide)⟩
    conv => whnf
    exact ⟨_, emp, rfl, (Split.one m).addEmp, Eo.nil _⟩
  | some a =>
    refine en23 rfl (goY ?_)
    conv => whnf
    refine ⟨fun h => absurd h (by decide), fun _ => ?_⟩
    conv => whnf
    refine .mk _ (buildE0) ?_
    rintro _ _ ⟨b, hb, rfl, rfl⟩
    conv => whnf
    refine .mk _ (appendEat (i := 0) ((Split.one m).new hb _) rfl (Eo.blk0 (blk1_same ..)) (hv.sub (Mem.sub_set _ hb)) (by simp; omega)) ?_
    rintro _ m' ⟨v', p, rfl, hs, hv'⟩
    conv => whnf
    exact ⟨v', p, rfl, hs, hv'⟩
def dueI (E : List Ent) (now : Int) : List Int := (E.filter fun e => decide (e.2 ≤ now)).map (·.1)
def dueR (E : List Ent) (now : Int) : List Ent := E.filter fun e => decide (now < e.2)
set_option maxHeartbeats 1000000 in
theorem due_tspec {m : Mem} {v : Value} {E : List Ent} {now : Int} (hv : Ea m v E) (hl : E.length ≤ 10000000) : Spec Try.prog 10 [.v v, i64 now] m fun r m' => ∃ v1 v2 p1 p2, r = [.v v1, .v v2] ∧ Split m' [p1, p2, m] ∧ Io p1 v1 (dueI E now) ∧ Eo p2 v2 (dueR E now) := by
  obtain ⟨a, c, rfl⟩ := hv.shape
  refine en10 rfl (goY ?_)
  conv => whnf
  refine .mk (ι := Nat × Value × Value) (fun i => E.length - i.1) (fun ⟨i, v1, v2⟩ mm => i ≤ E.length ∧ ∃ p1 p2, Split mm [p1, p2, m] ∧ Io p1 v1 (dueI (E.take i) now) ∧ Eo p2 v2 (dueR (E.take i) now)) (fun ⟨i, v1, v2⟩ => [(1, .c (i64 now)), (6, .c (.v v1)), (7, .c (.v v2)), (10, .c (.v (.slice a E.length c))), (11, .c (i64 E.length)), (12, .c (i64 i))]) (fun _ => []) (0, .slice none 0 0, .slice none 0 0)
    ⟨by omega, emp, emp, (Split.one m).addEmp.addEmp, Io.nil _, Eo.nil _⟩ ?_ ?_
  · conv => whnf
    repeat (refine And.intro (by first | with_reducible rfl | exact congrArg (Value.int _) (wi (by omega) (by omega)) | exact wi (by omega) (by omega) | rfl) ?_; conv => whnf)
    first | exact trivial | exact fun _ _ h => h
  rintro ⟨i, v1, v2⟩ mm ⟨hi, p1, p2, hs, h1, h2⟩
  conv => whnf
  refine ⟨fun h => ?_, fun h => ?_⟩
  · have h' := of_decide_eq_true h
    have hlt : i < E.length := by omega
    obtain ⟨bl, ol, c', hh, hg⟩ := hv.real hlt
    injection hh with hh1 _ hh3
    subst hh1
    clear hh3 c' h
    have hg' := hg i hlt
    have hst : E.take (i + 1) = E.take i ++ [E[i]] := List.take_succ_eq_append_getElem hlt
    have hle1 : (dueI (E.take i) now).length ≤ i := by
      rw [dueI, List.length_map]; refine Nat.le_trans (List.length_filter_le _ _) ?_; rw [List.length_take]; omega
    have hle2 : (dueR (E.take i) now).length ≤ i := by
      refine Nat.le_trans (List.length_filter_le _ _) ?_; rw [List.length_take]; omega
    generalize E[i] = x at hg' hst
    conv => whnf
    repeat (refine And.intro (by first | omega | (simp only [times]; omega)) ?_; conv => whnf)
    refine ⟨[.one (.int .i64 x.1), .one (.int .i64 x.2)], ⟨rfl, rfl, trivial⟩, rfl, by simp only [times, Int.toNat_natCast]; exact hg'.sub (hs.sub (by simp)), ?_⟩
    conv => whnf
    refine ⟨fun h => ?_, fun h => ?_⟩
    · have hx := of_decide_eq_true h
      have e1 : dueI (E.take (i + 1)) now = dueI (E.take i) now ++ [x.1] := by rw [hst, dueI, dueI, List.filter_append, List.map_append]; simp [hx]
      have e2 : dueR (E.take (i + 1)) now = dueR (E.take i) now := by
        rw [hst, dueR, dueR, List.filter_append]
        have : ¬ now < x.2 := by omega
        simp [this]
      conv => whnf
      refine .mk _ (buildI1) ?_
      rintro _ _ ⟨b, hb, rfl, rfl⟩
      conv => whnf
      refine .mk _ (pushIx (i := 0) hs rfl hb h1 (by omega)) ?_
      rintro _ m' ⟨v', p', rfl, hs', hv'⟩
      conv => whnf
      refine ⟨(i + 1, v', v2), ⟨by omega, p', p2, hs', by rw [e1]; exact hv', by rw [e2]; exact h2⟩, by simp only; omega, ?_⟩
      conv => whnf
      repeat (refine And.intro (by first | with_reducible rfl | (first | exact congrArg (Value.int _) (iadd (by omega))) | exact congrArg (Value.int _) (wi (by omega) (by omega)) | exact wi (by omega) (by omega) | rfl) ?_; conv => whnf)
      first | exact trivial | exact fun _ _ h => h
    · have hx := of_decide_eq_false h
      have e1 : dueI (E.take (i + 1)) now = dueI (E.take i) now := by rw [hst, dueI, dueI, List.filter_append, List.map_append]; simp [hx]
      have e2 : dueR (E.take (i + 1)) now = dueR (E.take i) now ++ [x] := by
        rw [hst, dueR, dueR, List.filter_append]
        have : now < x.2 := by omega
        simp [this]
      conv => whnf
      refine .mk _ (buildE1 (e := x)) ?_
      rintro _ _ ⟨b, hb, rfl, rfl⟩
      conv => whnf
      refine .mk _ (pushE (i := 1) hs rfl hb h2 (by omega)) ?_
      rintro _ m' ⟨v', p', rfl, hs', hv'⟩
      conv => whnf
      refine ⟨(i + 1, v1, v'), ⟨by omega, p1, p', hs', by rw [e1]; exact h1, by rw [e2]; exact hv'⟩, by simp only; omega, ?_⟩
      conv => whnf
      repeat (refine And.intro (by first | with_reducible rfl | (first | exact congrArg (Value.int _) (iadd (by omega))) | exact congrArg (Value.int _) (wi (by omega) (by omega)) | exact wi (by omega) (by omega) | rfl) ?_; conv => whnf)
      first | exact trivial | exact fun _ _ h => h
  · have h' := of_decide_eq_false h
    obtain rfl : i = E.length := by omega
    rw [List.take_length] at h1 h2
    conv => whnf
    exact ⟨v1, v2, p1, p2, rfl, hs, h1, h2⟩
end Go.E.Ytidnbefbbdbpfaa

/-
  Bits of numbers, plainly.
-/
namespace Go.E
theorem ofInt_nat (w a : Nat) : BitVec.ofInt w (a : Int) = BitVec.ofNat w a := by simp
theorem toNat_ofInt {w a : Nat} (h : a < 2 ^ w) : (BitVec.ofInt w (a : Int)).toNat = a := by
  rw [ofInt_nat, BitVec.toNat_ofNat, Nat.mod_eq_of_lt h]
theorem or_u64 {a b : Nat} (ha : a < 2 ^ 64) (hb : b < 2 ^ 64) : bitsOf .or .u64 a b = ((a ||| b : Nat) : Int) := by
  have h := Nat.or_lt_two_pow ha hb
  show IntKind.u64.wrap ((BitVec.ofInt 64 a ||| BitVec.ofInt 64 b).toNat : Int) = _
  rw [BitVec.toNat_or, toNat_ofInt ha, toNat_ofInt hb, wu (by omega) (by omega)]
theorem and_u64 {a b : Nat} (ha : a < 2 ^ 64) (hb : b < 2 ^ 64) : bitsOf .and .u64 a b = ((a &&& b : Nat) : Int) := by
  have h := Nat.and_lt_two_pow a hb
  show IntKind.u64.wrap ((BitVec.ofInt 64 a &&& BitVec.ofInt 64 b).toNat : Int) = _
  rw [BitVec.toNat_and, toNat_ofInt ha, toNat_ofInt hb, wu (by omega) (by omega)]
theorem xor_u64 {a b : Nat} (ha : a < 2 ^ 64) (hb : b < 2 ^ 64) : bitsOf .xor .u64 a b = ((a ^^^ b : Nat) : Int) := by
  have h := Nat.xor_lt_two_pow ha hb
  show IntKind.u64.wrap ((BitVec.ofInt 64 a ^^^ BitVec.ofInt 64 b).toNat : Int) = _
  rw [BitVec.toNat_xor, toNat_ofInt ha, toNat_ofInt hb, wu (by omega) (by omega)]
theorem wu32 {n : Int} (h0 : 0 ≤ n) (h1 : n < 4294967296) : IntKind.u32.wrap n = n := by rw [IntKind.wrap_u32, Int.emod_eq_of_lt h0 h1]
theorem wu8 {n : Int} (h0 : 0 ≤ n) (h1 : n < 256) : IntKind.u8.wrap n = n := by rw [IntKind.wrap_u8, Int.emod_eq_of_lt h0 h1]
theorem or_u32 {a b : Nat} (ha : a < 2 ^ 32) (hb : b < 2 ^ 32) : bitsOf .or .u32 a b = ((a ||| b : Nat) : Int) := by
  have h := Nat.or_lt_two_pow ha hb
  show IntKind.u32.wrap ((BitVec.ofInt 32 a ||| BitVec.ofInt 32 b).toNat : Int) = _
  rw [BitVec.toNat_or, toNat_ofInt ha, toNat_ofInt hb, wu32 (by omega) (by omega)]
theorem and_u32 {a b : Nat} (ha : a < 2 ^ 32) (hb : b < 2 ^ 32) : bitsOf .and .u32 a b = ((a &&& b : Nat) : Int) := by
  have h := Nat.and_lt_two_pow a hb
  show IntKind.u32.wrap ((BitVec.ofInt 32 a &&& BitVec.ofInt 32 b).toNat : Int) = _
  rw [BitVec.toNat_and, toNat_ofInt ha, toNat_ofInt hb, wu32 (by omega) (by omega)]
theorem xor_u32 {a b : Nat} (ha : a < 2 ^ 32) (hb : b < 2 ^ 32) : bitsOf .xor .u32 a b = ((a ^^^ b : Nat) : Int) := by
  have h := Nat.xor_lt_two_pow ha hb
  show IntKind.u32.wrap ((BitVec.ofInt 32 a ^^^ BitVec.ofInt 32 b).toNat : Int) = _
  rw [BitVec.toNat_xor, toNat_ofInt ha, toNat_ofInt hb, wu32 (by omega) (by omega)]
theorem xor_u8 {a b : Nat} (ha : a < 2 ^ 8) (hb : b < 2 ^ 8) : bitsOf .xor .u8 a b = ((a ^^^ b : Nat) : Int) := by
  have h := Nat.xor_lt_two_pow ha hb
  show IntKind.u8.wrap ((BitVec.ofInt 8 a ^^^ BitVec.ofInt 8 b).toNat : Int) = _
  rw [BitVec.toNat_xor, toNat_ofInt ha, toNat_ofInt hb, wu8 (by omega) (by omega)]
/-- low bits below, the rest above -/
theorem or_low {a c : Nat} (k : Nat) (hc : c < 2 ^ k) : (a * 2 ^ k) ||| c = a * 2 ^ k + c := by
  rw [Nat.mul_comm, Nat.two_pow_add_eq_or_of_lt hc]
/-- all bits turned -/
theorem not_i64 {n : Int} (h0 : -9223372036854775808 ≤ n) (h1 : n ≤ 9223372036854775807) : bitsOf .xor .i64 (if IntKind.i64.signed = true then -1 else IntKind.i64.max) n = -n - 1 := by
  show IntKind.i64.wrap ((BitVec.ofInt 64 (-1) ^^^ BitVec.ofInt 64 n).toNat : Int) = _
  have e : BitVec.ofInt 64 (-1) = BitVec.allOnes 64 := by rfl
  have e2 : BitVec.allOnes 64 ^^^ BitVec.ofInt 64 n = ~~~ (BitVec.ofInt 64 n) := BitVec.allOnes_xor
  rw [e, e2, BitVec.toNat_not, BitVec.toNat_ofInt, IntKind.wrap_i64]
  omega
theorem not_u32 {n : Nat} (h1 : n < 2 ^ 32) : bitsOf .xor .u32 (if IntKind.u32.signed = true then -1 else IntKind.u32.max) n = ((4294967295 - n : Nat) : Int) := by
  show IntKind.u32.wrap ((BitVec.ofInt 32 4294967295 ^^^ BitVec.ofInt 32 n).toNat : Int) = _
  have e : BitVec.ofInt 32 4294967295 = BitVec.allOnes 32 := by rfl
  have e2 : BitVec.allOnes 32 ^^^ BitVec.ofInt 32 n = ~~~ (BitVec.ofInt 32 n) := BitVec.allOnes_xor
  rw [e, e2, BitVec.toNat_not, toNat_ofInt h1, wu32 (by omega) (by omega)]
theorem shr_nat {k : IntKind} {x n : Nat} (hn : n ≤ k.bits) : shrOf k (x : Int) (n : Int) = ((x / 2 ^ n : Nat) : Int) := by
  show (x : Int).fdiv (2 ^ (min ((n : Int).toNat) k.bits)) = _
  rw [Int.toNat_natCast, Nat.min_eq_left hn, Int.fdiv_eq_ediv_of_nonneg _ (Int.le_of_lt (Int.pow_pos (by decide)))]
  simp
theorem shl_u64 {x n : Nat} (hn : n ≤ 64) (hx : x * 2 ^ n < 18446744073709551616) : shlOf .u64 (x : Int) (n : Int) = ((x * 2 ^ n : Nat) : Int) := by
  show IntKind.u64.wrap ((x : Int) * 2 ^ (min ((n : Int).toNat) 64)) = _
  have : ((x : Int) * 2 ^ n) = ((x * 2 ^ n : Nat) : Int) := by simp
  rw [Int.toNat_natCast, Nat.min_eq_left hn, this, wu (by omega) (by omega)]
theorem tmod_nat (a b : Nat) : Int.tmod (a : Int) (b : Int) = ((a % b : Nat) : Int) := by rw [Int.tmod_eq_emod_of_nonneg (by omega)]; omega
theorem tdiv_nat (a b : Nat) : Int.tdiv (a : Int) (b : Int) = ((a / b : Nat) : Int) := by rw [Int.tdiv_eq_ediv_of_nonneg (by omega)]; omega
end Go.E

/-
  Contracts of timer: the least one; where one belongs.
-/
namespace Go.E.Ytidnbefbbdbpfaa
open Go.Proofs
set_option maxRecDepth 100000
abbrev ordV : CV := .v (.func (.func 15) #[] #[])
def minF (E : List Ent) : Nat → Ent
  | 0 => eAt E 0
  | i + 1 => if ordE (eAt E (i + 1)) (minF E i) < 0 then eAt E (i + 1) else minF E i
set_option maxHeartbeats 1000000 in
theorem min_spec {m : Mem} {v : Value} {E : List Ent} (hv : Ea m v E) (h0 : 0 < E.length) (hl : E.length ≤ 10000000) : Spec Try.prog 21 [.v v, ordV] m fun r m' => r = [eV (minF E (E.length - 1))] ∧ Sub m m' := by
  have hv0 := hv
  obtain ⟨bl, ol, c, rfl, hg⟩ := hv.real h0
  have hg0 := hg 0 h0
  rw [eAt_eq h0] at hg0
  have e0 : minF E 0 = eAt E 0 := rfl
  rw [← e0] at hg0
  refine en21 rfl (goY ?_)
  conv => whnf
  refine ⟨fun h => absurd h (by (simp; omega)), fun _ => ?_⟩
  conv => whnf
  repeat (refine And.intro (by first | omega | (simp only [times]; omega)) ?_; conv => whnf)
  refine ⟨[.one (.int .i64 (minF E 0).1), .one (.int .i64 (minF E 0).2)], ⟨rfl, rfl, trivial⟩, rfl, by exact hg0, ?_⟩
  conv => whnf
  refine .mk (ι := Nat) (fun i => E.length - i) (fun i mm => i + 1 ≤ E.length ∧ Sub m mm) (fun i => [(0, .c (.v (.slice (some ⟨bl, ol, none⟩) E.length c))), (1, .c ordV), (4, .p 0 0), (5, .p 1 0), (6, .c (i64 (i + 1 : Nat)))]) (fun i => [(37, [.one (.int .i64 0), .one (.int .i64 0)]), (37, [.one (.int .i64 (minF E i).1), .one (.int .i64 (minF E i).2)])]) 0 ⟨by omega, Sub.refl _⟩ ?_ ?_
  · conv => whnf
    repeat (refine And.intro (by first | with_reducible rfl | exact congrArg (Value.int _) (wi (by omega) (by omega)) | exact wi (by omega) (by omega) | rfl) ?_; conv => whnf)
    first | exact trivial | exact fun _ _ h => h
  rintro i mm ⟨hi, hs⟩
  conv => whnf
  refine ⟨fun h => ?_, fun h => ?_⟩
  · have h' := of_decide_eq_true h
    have hlt : i + 1 < E.length := by omega
    have hg' := (hg (i + 1) hlt).sub hs
    rw [eAt_eq hlt] at hg'
    have hst : minF E (i + 1) = if ordE (eAt E (i + 1)) (minF E i) < 0 then eAt E (i + 1) else minF E i := rfl
    clear h
    generalize minF E i = y at hst ⊢
    generalize eAt E (i + 1) = x at hg' hst
    conv => whnf
    repeat (refine And.intro (by first | omega | (simp only [times]; omega)) ?_; conv => whnf)
    refine ⟨[.one (.int .i64 x.1), .one (.int .i64 x.2)], ⟨rfl, rfl, trivial⟩, rfl, by simp only [times, Int.toNat_natCast]; exact hg', ?_⟩
    conv => whnf
    refine xcall (order_spec (a := x) (b := y)) ?_
    rintro _ m3 ⟨rfl, hs3⟩
    conv => whnf
    first | refine ⟨fun _ h => (by cases h), ?_⟩ | skip
    conv => whnf
    refine ⟨fun h => ?_, fun h => ?_⟩
    · have hx := of_decide_eq_true h
      rw [if_pos hx] at hst
      conv => whnf
      repeat (refine And.intro (by first | omega | (simp only [times]; omega)) ?_; conv => whnf)
      refine ⟨[.one (.int .i64 x.1), .one (.int .i64 x.2)], ⟨rfl, rfl, trivial⟩, rfl, by simp only [times, Int.toNat_natCast]; exact hg'.sub hs3, ?_⟩
      conv => whnf
      refine ⟨i + 1, ⟨by omega, hs.trans hs3⟩, by omega, ?_⟩
      rw [hst]
      conv => whnf
      repeat (refine And.intro (by first | with_reducible rfl | (first | exact congrArg (Value.int _) (iadd (by omega))) | exact congrArg (Value.int _) (wi (by omega) (by omega)) | exact wi (by omega) (by omega) | rfl) ?_; conv => whnf)
      first | exact trivial | exact fun _ _ h => h
    · have hx := of_decide_eq_false h
      rw [if_neg hx] at hst
      conv => whnf
      refine ⟨i + 1, ⟨by omega, hs.trans hs3⟩, by omega, ?_⟩
      rw [hst]
      conv => whnf
      repeat (refine And.intro (by first | with_reducible rfl | (first | exact congrArg (Value.int _) (iadd (by omega))) | exact congrArg (Value.int _) (wi (by omega) (by omega)) | exact wi (by omega) (by omega) | rfl) ?_; conv => whnf)
      first | exact trivial | exact fun _ _ h => h
  · have h' := of_decide_eq_false h
    obtain rfl : i = E.length - 1 := by omega
    conv => whnf
    exact ⟨rfl, hs⟩
def firstE (E : List Ent) : Int := if E.length = 0 then 0 else (minF E (E.length - 1)).2
theorem first_spec {m : Mem} {v : Value} {E : List Ent} (hv : Ea m v E) (hl : E.length ≤ 10000000) : Spec Try.prog 11 [.v v] m fun r m' => r = [i64 (firstE E), boolV (decide (0 < E.length))] ∧ Sub m m' := by
  obtain ⟨a, c, rfl⟩ := hv.shape
  refine en11 rfl (goY ?_)
  conv => whnf
  refine ⟨fun h => ?_, fun h => ?_⟩
  · have h' : E.length = 0 := by simpa using h
    conv => whnf
    exact ⟨by rw [firstE, if_pos h', h']; rfl, Sub.refl _⟩
  · have h' : E.length ≠ 0 := by simpa using h
    conv => whnf
    refine xcall (min_spec hv (by omega) hl) ?_
    rintro _ m' ⟨rfl, hs⟩
    conv => whnf
    exact ⟨by rw [firstE, if_neg h', decide_eq_true (by omega)], hs⟩
set_option maxHeartbeats 2000000 in
theorem bin_spec {m : Mem} {v : Value} {E : List Ent} {x : Ent} (hv : Ea m v E) (hl : E.length ≤ 10000000) : Spec Try.prog 14 [.v v, eV x, ordV] m fun r m' => ∃ (k : Nat) (bb : Bool), r = [i64 k, boolV bb] ∧ k ≤ E.length ∧ (0 < k → ordE (eAt E (k - 1)) x < 0) ∧ (k < E.length → 0 ≤ ordE (eAt E k) x) ∧ Sub m m' := by
  obtain ⟨a, c, rfl⟩ := hv.shape
  refine en14 rfl (goY ?_)
  conv => whnf
  refine .mk (ι := Nat × Nat) (fun i => i.2 - i.1) (fun ⟨i, j⟩ mm => i ≤ j ∧ j ≤ E.length ∧ (0 < i → ordE (eAt E (i - 1)) x < 0) ∧ (j < E.length → 0 ≤ ordE (eAt E j) x) ∧ Sub m mm) (fun ⟨i, j⟩ => [(0, .c (.v (.slice a E.length c))), (2, .c ordV), (4, .p 0 0), (8, .c (i64 E.length)), (9, .c (i64 i)), (10, .c (i64 j))]) (fun _ => [(37, [.one (.int .i64 x.1), .one (.int .i64 x.2)])]) (0, E.length) ⟨by omega, by omega, by omega, by omega, Sub.refl _⟩ ?_ ?_
  · conv => whnf
    repeat (refine And.intro (by first | with_reducible rfl | exact congrArg (Value.int _) (wi (by omega) (by omega)) | exact wi (by omega) (by omega) | rfl) ?_; conv => whnf)
    first | exact trivial | exact fun _ _ h => h
  rintro ⟨i, j⟩ mm ⟨hij, hj, hA, hB, hs⟩
  conv => whnf
  refine ⟨fun h => ?_, fun h => ?_⟩
  · have h' := of_decide_eq_true h
    have hlt : i < j := by omega
    clear h
    have ew1 : IntKind.i64.wrap ((i : Int) + (j : Int)) = ((i + j : Nat) : Int) := by rw [wi (by omega) (by omega)]; omega
    have ew2 : IntKind.u64.wrap ((i + j : Nat) : Int) = ((i + j : Nat) : Int) := wu (by omega) (by omega)
    have ew3 : shrOf .u64 ((i + j : Nat) : Int) 1 = (((i + j) / 2 : Nat) : Int) := shr_nat (k := .u64) (x := i + j) (n := 1) (by decide)
    have ew4 : IntKind.i64.wrap (((i + j) / 2 : Nat) : Int) = (((i + j) / 2 : Nat) : Int) := wi (by omega) (by omega)
    have hh2 : i ≤ (i + j) / 2 ∧ (i + j) / 2 < j := by omega
    generalize (i + j) / 2 = k at ew3 ew4 hh2
    have hlk : k < E.length := by omega
    obtain ⟨bl, ol, c', hh, hg⟩ := hv.real hlk
    injection hh with hh1 _ hh3
    subst hh1
    clear hh3 c'
    have hg' := (hg k hlk).sub hs
    rw [eAt_eq hlk] at hg'
    conv => whnf
    rw [ew1, ew2, ew3, ew4]
    generalize hy : eAt E k = y at hg'
    conv => whnf
    repeat (refine And.intro (by first | omega | (simp only [times]; omega)) ?_; conv => whnf)
    refine ⟨[.one (.int .i64 y.1), .one (.int .i64 y.2)], ⟨rfl, rfl, trivial⟩, rfl, by simp only [times, Int.toNat_natCast]; exact hg', ?_⟩
    conv => whnf
    refine xcall (order_spec (a := y) (b := x)) ?_
    rintro _ m3 ⟨rfl, hs3⟩
    conv => whnf
    first | refine ⟨fun _ h => (by cases h), ?_⟩ | skip
    conv => whnf
    refine ⟨fun h => ?_, fun h => ?_⟩
    · have hx := of_decide_eq_true h
      conv => whnf
      refine ⟨(k + 1, j), ⟨by omega, hj, fun _ => by rw [Nat.add_sub_cancel, hy]; exact hx, hB, hs.trans hs3⟩, by simp only; omega, ?_⟩
      conv => whnf
      repeat (refine And.intro (by first | with_reducible rfl | (first | exact congrArg (Value.int _) (iadd (by omega))) | exact congrArg (Value.int _) (wi (by omega) (by omega)) | exact wi (by omega) (by omega) | rfl) ?_; conv => whnf)
      first | exact trivial | exact fun _ _ h => h
    · have hx := of_decide_eq_false h
      conv => whnf
      refine ⟨(i, k), ⟨by omega, by omega, hA, fun _ => by rw [hy]; omega, hs.trans hs3⟩, by simp only; omega, ?_⟩
      conv => whnf
      repeat (refine And.intro (by first | with_reducible rfl | (first | exact congrArg (Value.int _) (iadd (by omega))) | exact congrArg (Value.int _) (wi (by omega) (by omega)) | exact wi (by omega) (by omega) | rfl) ?_; conv => whnf)
      first | exact trivial | exact fun _ _ h => h
  · have h' := of_decide_eq_false h
    obtain rfl : i = j := by omega
    clear h
    conv => whnf
    refine ⟨fun h => ?_, fun h => ?_⟩
    · have h' := of_decide_eq_true h
      have hlt : i < E.length := by omega
      obtain ⟨bl, ol, c', hh, hg⟩ := hv.real hlt
      injection hh with hh1 _ hh3
      subst hh1
      clear hh3 c' h
      have hg' := (hg i hlt).sub hs
      rw [eAt_eq hlt] at hg'
      generalize hy : eAt E i = y at hg'
      conv => whnf
      repeat (refine And.intro (by first | omega | (simp only [times]; omega)) ?_; conv => whnf)
      refine ⟨[.one (.int .i64 y.1), .one (.int .i64 y.2)], ⟨rfl, rfl, trivial⟩, rfl, by simp only [times, Int.toNat_natCast]; exact hg', ?_⟩
      conv => whnf
      refine xcall (order_spec (a := y) (b := x)) ?_
      rintro _ m3 ⟨rfl, hs3⟩
      conv => whnf
      first | refine ⟨fun _ h => (by cases h), ?_⟩ | skip
      conv => whnf
      exact ⟨i, _, rfl, hj, hA, hB, hs.trans hs3⟩
    · have h' := of_decide_eq_false h
      conv => whnf
      exact ⟨i, _, rfl, hj, hA, hB, hs⟩
end Go.E.Ytidnbefbbdbpfaa

/-
  Contracts of timer: entries taken out.
-/
namespace Go.E.Ytidnbefbbdbpfaa
open Go.Proofs
set_option maxRecDepth 100000
theorem idx_split (p : Ent → Bool) (E : List Ent) : (idx p E = -1 ∧ ∀ x ∈ E, p x = false) ∨ ∃ (i : Nat) (h : i < E.length), idx p E = i ∧ p E[i] = true ∧ ∀ x ∈ E.take i, p x = false := by
  by_cases h : E.any p = true
  · refine .inr ?_
    have hlt : E.findIdx p < E.length := List.findIdx_lt_length.2 (List.any_eq_true.1 h)
    refine ⟨E.findIdx p, hlt, by rw [idx, if_pos h], List.findIdx_getElem, fun x hx => ?_⟩
    obtain ⟨j, hj, rfl⟩ := List.mem_take_iff_getElem.1 hx
    simpa using List.not_of_lt_findIdx (p := p) (xs := E) (i := j) (by omega)
  · refine .inl ⟨by rw [idx, if_neg h], fun x hx => ?_⟩
    cases hp : p x with
    | false => rfl
    | true => exact absurd (List.any_eq_true.2 ⟨x, hx, hp⟩) h
theorem clearE {m : Mem} {b o n c : Nat} {arr : Array Value} {te : TypeId} (hb : m b = some (.cells arr te)) (hn : 0 < n) (hfit : o + n * 2 ≤ arr.size) :
    PrimSpec Try.prog (.builtin .clear [22]) [.v (.slice (some ⟨b, o, none⟩) n c)] m fun r m' => r = [] ∧ ∃ zs, zs.length = n * 2 ∧ (∀ u ∈ zs, u.oneCell' = true) ∧ m' = m.set b (.cells (arr.toList.take o ++ zs ++ arr.toList.drop (o + n * 2)).toArray te) := by
  obtain ⟨ti, h1, h2⟩ := hEs
  obtain ⟨ei, g1, g2, g3, g4⟩ := hEn
  have := clearN_spec (P := Try.prog) tt_ok h1 h2 g1 (by rw [g4, g2]; rfl) (by rw [g4]; exact eOk.one _) (c := c) hb hn (by rw [g2]; exact hfit)
  rw [g2] at this
  exact this
set_option maxHeartbeats 2000000 in
theorem delete_spec {mm m p : Mem} {v : Value} {E : List Ent} {F b : Nat} {pr : Ent → Bool} (hs : Split mm [p, m]) (hv : Eo p v E) (hF : ∀ m', Sub m m' → ∀ e, Ret Try.prog F [eV e, ptrV b] m' [boolV (pr e)]) (hl : E.length ≤ 10000000) :
    Spec Try.prog 22 [.v v, fnV F b] mm fun r m' => ∃ v' p', r = [.v v'] ∧ Split m' [p', m] ∧ Eo p' v' (E.filter fun e => !pr e) := by
  obtain ⟨a, c, rfl⟩ := hv.el.shape
  refine en22 rfl (goY ?_)
  conv => whnf
  first | refine xretk (index_spec (p := pr) (hv.el.ea.sub (hs.sub (by simp))) (hF _ (hs.sub (by simp))) (by omega)) ?_ | refine xret (index_spec (p := pr) (hv.el.ea.sub (hs.sub (by simp))) (hF _ (hs.sub (by simp))) (by omega)) ?_
  conv => whnf
  rcases idx_split pr E with ⟨e1, e2⟩ | ⟨i0, hi0, e1, e2, e3⟩
  · rw [e1]
    refine ⟨fun _ => ?_, fun h => absurd h (by decide)⟩
    conv => whnf
    refine ⟨_, p, rfl, hs, ?_⟩
    have : E.filter (fun e => !pr e) = E := List.filter_eq_self.2 fun x hx => by rw [e2 x hx]; rfl
    rw [this]; exact hv
  rw [e1]
  obtain ⟨bl, ol, c', hh, hg⟩ := hv.el.ea.real hi0
  injection hh with hh1 _ hh3
  subst hh1
  clear hh3 c' hg
  have hne : ((i0 : Int) == -1) = false := by rw [beqD]; exact decide_eq_false (by omega)
  refine ⟨fun h => absurd h (by rw [hne]; decide), fun _ => ?_⟩
  have ew : IntKind.i64.wrap ((i0 : Int) + 1) = ((i0 + 1 : Nat) : Int) := iadd (by omega)
  conv => whnf
  rw [ew]
  refine .mk (ι := Nat × Nat) (fun i => E.length - i.2) (fun ⟨i, j⟩ mm => ∃ p Z, Split mm [p, m] ∧ Eo p (.slice (some ⟨bl, ol, none⟩) E.length c) Z ∧ Z.take i = (E.take j).filter (fun e => !pr e) ∧ Z.drop j = E.drop j ∧ i < j ∧ j ≤ E.length)
    (fun ⟨i, j⟩ => [(0, .c (.v (.slice (some ⟨bl, ol, none⟩) E.length c))), (1, .c (fnV F b)), (5, .c (i64 i)), (6, .c (i64 j))]) (fun _ => []) (i0, i0 + 1) ⟨p, E, hs, hv, ?_, rfl, by omega, by omega⟩ ?_ ?_
  · rw [List.take_succ_eq_append_getElem hi0, List.filter_append]
    have : (E.take i0).filter (fun e => !pr e) = E.take i0 := List.filter_eq_self.2 fun x hx => by rw [e3 x hx]; rfl
    rw [this]; simp [e2]
  · conv => whnf
    repeat (refine And.intro (by first | with_reducible rfl | exact congrArg (Value.int _) (wi (by omega) (by omega)) | exact wi (by omega) (by omega) | rfl) ?_; conv => whnf)
    first | exact trivial | exact fun _ _ h => h
  rintro ⟨i, j⟩ mm ⟨p, Z, hs, hZ, ht, hd, hij, hj⟩
  have hZl : Z.length = E.length := (eOk.row hZ).choose_spec.2.1
  conv => whnf
  refine ⟨fun h => ?_, fun h => ?_⟩
  · have h' := of_decide_eq_true h
    have hlt : j < E.length := by omega
    clear h
    have hZE : Z[j]'(by omega) = E[j] := by
      have := congrArg (fun l : List Ent => l[0]?) hd
      simp only [List.getElem?_drop, Nat.add_zero] at this
      rw [List.getElem?_eq_getElem (by omega), List.getElem?_eq_getElem hlt] at this
      exact Option.some.inj this
    obtain ⟨bl', ol', c', hh, hg⟩ := hZ.el.ea.real (i := j) (by omega)
    injection hh with hh1 _ hh3
    injection hh1 with hh1
    injection hh1 with hb1 ho1
    subst hb1
    subst ho1
    clear hh3 c'
    have hg' := hg j (by omega)
    have hst : E.take (j + 1) = E.take j ++ [E[j]] := List.take_succ_eq_append_getElem hlt
    have hd1 : Z.drop (j + 1) = E.drop (j + 1) := by
      rw [← List.drop_drop, ← List.drop_drop, hd]
    rw [hZE] at hg'
    generalize E[j] = x at hg' hst
    conv => whnf
    repeat (refine And.intro (by first | omega | (simp only [times]; omega)) ?_; conv => whnf)
    refine ⟨[.one (.int .i64 x.1), .one (.int .i64 x.2)], ⟨rfl, rfl, trivial⟩, rfl, by simp only [times, Int.toNat_natCast]; exact hg'.sub (hs.sub (by simp)), ?_⟩
    conv => whnf
    first | refine xretk ((hF _ (hs.sub (by simp)) x)) ?_ | refine xret ((hF _ (hs.sub (by simp)) x)) ?_
    conv => whnf
    cases hp : pr x with
    | true =>
      refine ⟨fun h => absurd h (by decide), fun _ => ?_⟩
      conv => whnf
      refine ⟨(i, j + 1), ⟨p, Z, hs, hZ, by rw [hst, List.filter_append, ht]; simp [hp], hd1, by omega, by omega⟩, by simp only; omega, ?_⟩
      conv => whnf
      repeat (refine And.intro (by first | with_reducible rfl | (first | exact congrArg (Value.int _) (iadd (by omega))) | exact congrArg (Value.int _) (wi (by omega) (by omega)) | exact wi (by omega) (by omega) | rfl) ?_; conv => whnf)
      first | exact trivial | exact fun _ _ h => h
    | false =>
      refine ⟨fun _ => ?_, fun h => absurd h (by decide)⟩
      conv => whnf
      repeat (refine And.intro (by first | omega | (simp only [times]; omega)) ?_; conv => whnf)
      obtain ⟨arr, k1, k2, k3⟩ := eOk.set hZ (i := i) (by omega) x
      refine ⟨arr, _, _, hs.sub (a := p) (by simp) _ _ k1, ⟨by simp only [times, Int.toNat_natCast]; exact k2, noFr⟩, ?_⟩
      have hs2 := hs.set k1 (.cells (arr.toList.take (ol + i * 2) ++ (eC x ++ arr.toList.drop (ol + i * 2 + 2))).toArray 37)
      simp only [times, Int.toNat_natCast]
      have hk1 : IntKind.i64.wrap ((i : Int) + 1) = ((i + 1 : Nat) : Int) := iadd (by omega)
      conv => whnf
      refine ⟨(i + 1, j + 1), ⟨_, Z.set i x, hs2, k3, ?_, ?_, by omega, by omega⟩, by simp only; omega, ?_⟩
      · rw [hst, List.filter_append, ← ht, List.take_succ_eq_append_getElem (by rw [List.length_set]; omega), List.getElem_set_self, List.take_set_of_le (by omega)]
        simp [hp]
      · rw [List.drop_set_of_lt (by omega)]; exact hd1
      · conv => whnf
        repeat (refine And.intro (by first | with_reducible rfl | (first | exact congrArg (Value.int _) (iadd (by omega))) | exact congrArg (Value.int _) (wi (by omega) (by omega)) | exact wi (by omega) (by omega) | rfl) ?_; conv => whnf)
        first | exact trivial | exact fun _ _ h => h
  · have h' := of_decide_eq_false h
    obtain rfl : j = E.length := by omega
    rw [List.take_length] at ht
    obtain ⟨arr, k1, k2, k3, k4, k5⟩ := eOk.row hZ
    clear h
    conv => whnf
    repeat (refine And.intro (by first | omega | (simp only [times]; omega)) ?_; conv => whnf)
    intro o' q1 q2
    have ho : o' = ol + i * 2 := by simpa using q1 (by omega)
    have ei : (i : Int).toNat = i := by omega
    clear q1 q2
    subst ho
    conv => whnf
    rw [ei]
    refine .mk _ (clearE (hs.sub (a := p) (by simp) _ _ k1) (by omega) (by omega)) ?_
    rintro _ m' ⟨rfl, zs, hz1, hz2, rfl⟩
    conv => whnf
    have hs2 := hs.set k1 (.cells (arr.toList.take (ol + i * 2) ++ zs ++ arr.toList.drop (ol + i * 2 + (E.length - i) * 2)).toArray 37)
    repeat (refine And.intro (by first | omega | (simp only [times]; omega)) ?_; conv => whnf)
    intro o' q1 q2
    obtain rfl : o' = ol := by have := q1 (by omega); simpa [times] using this
    conv => whnf
    rw [ei]
    refine ⟨_, _, rfl, hs2, ?_⟩
    rw [← ht]
    refine eOk.mk' (Mem.set_same ..) (by rw [List.length_take]; omega) (by omega) ?_ fun j u hu => ?_
    · simp only [List.size_toArray, List.length_append, List.length_take, List.length_drop, Array.length_toList, hz1]; omega
    · have hjl := (List.getElem?_eq_some_iff.1 hu).1
      rw [eOk.flen, List.length_take] at hjl
      have hj2 : o' + j < o' + i * 2 := by have := Nat.mul_le_mul_right 2 (Nat.min_le_left i Z.length); omega
      rw [← eOk.take, List.getElem?_take] at hu
      split at hu
      · have := k5 j u hu
        rw [List.getElem?_toArray, List.append_assoc, List.getElem?_append_left (by rw [List.length_take, Array.length_toList]; omega), List.getElem?_take, if_pos hj2, Array.getElem?_toList]
        exact this
      · cases hu
theorem clear_tspec {m : Mem} {v : Value} {E : List Ent} {id : Int} (hv : Ea m v E) (hl : E.length ≤ 10000000) : Spec Try.prog 12 [.v v, i64 id] m fun r m' => ∃ v' p, r = [.v v'] ∧ Split m' [p, m] ∧ Eo p v' (E.filter fun e => !decide (e.1 = id)) := by
  obtain ⟨a, c, rfl⟩ := hv.shape
  refine en12 rfl (goY ?_)
  conv => whnf
  intro b hb
  conv => whnf
  have hsb := Mem.sub_set (.cells #[.int .i64 id] 3) hb
  refine xcall (clone_spec (hv.sub hsb) hl) ?_
  rintro _ m1 ⟨v1, p1, rfl, hs1, hv1⟩
  conv => whnf
  refine .mk _ (makeFunc_spec (cs := [.pointer (some ⟨b, 0, none⟩)]) (by simp [Value.oneCell'])) ?_
  rintro _ _ ⟨rfl, rfl⟩
  conv => whnf
  refine xcall (delete_spec hs1 hv1 (fun m' hm e => clear1_spec (hm _ _ (Mem.set_same ..))) hl) ?_
  rintro _ m2 ⟨v2, p2, rfl, hs2, hv2⟩
  conv => whnf
  exact ⟨v2, p2, rfl, (hs2.under (a := [p2]) ((Split.one m).new hb _)).erase 1, hv2⟩
end Go.E.Ytidnbefbbdbpfaa

/-
  Contracts of timer: one put in.
-/
namespace Go.E.Ytidnbefbbdbpfaa
open Go.Proofs
set_option maxRecDepth 100000
def insE (E : List Ent) (k : Nat) (x : Ent) : List Ent := E.take k ++ (x :: E.drop k)
theorem insE_flat (E : List Ent) (k : Nat) (x : Ent) : (insE E k x).flatMap eC = (E.take k).flatMap eC ++ (eC x ++ (E.drop k).flatMap eC) := by rw [insE, List.flatMap_append, List.flatMap_cons]
abbrev copyE {m : Mem} {b o n c b' o' n' c' : Nat} {arr arr' : Array Value} {te t' : TypeId} {fr' : Nat × Nat} {news : List Value} (hb : m b = some (.cells arr te)) (hfit : o + min n' n * 2 ≤ arr.size) (hb' : m b' = some (.cells arr' t' fr')) (hlen : news.length = min n' n * 2) (h4 : RowHas arr' o' news) (h5 : ∀ u ∈ news, u.oneCell' = true) :
    PrimSpec Try.prog (.builtin .copy [22, 22]) [.v (.slice (some ⟨b, o, none⟩) n c), .v (.slice (some ⟨b', o', none⟩) n' c')] m fun r m' => r = [.v (.int .i64 ((min n' n : Nat) : Int))] ∧ m' = m.set b (.cells (arr.toList.take o ++ (news ++ arr.toList.drop (o + news.length))).toArray te) := by
  obtain ⟨ti, h1, h2⟩ := hEs
  obtain ⟨ei, g1, g2, g3, g4⟩ := hEn
  exact copyP_spec tt_ok h1 h2 g1 hb (by rw [g2]; exact hfit) hb' (by rw [g2]; exact hlen) h4 h5
theorem appendZE {m : Mem} {a : Option Addr} {n c k : Nat} {E : List Ent} (hl : El m (.slice a n c) E) (h0 : 0 < k) (hg : c < n + k) (hb : n + k ≤ 10000000) :
    PrimSpec Try.prog (.builtin .append [22, 3]) [.v (.slice a n c), .v (.int .i64 k)] m fun r m' => ∃ b C, m b = none ∧ n + k ≤ C ∧ r = [.v (.slice (some ⟨b, 0, none⟩) (n + k) C)] ∧ ∃ arr : Array Value, RowHas arr 0 (E.flatMap eC) ∧ arr.size = C * 2 ∧ m' = m.set b (.cells arr 37) := by
  obtain ⟨ti, h1, h2⟩ := hEs
  obtain ⟨ei, g1, g2, g3, g4⟩ := hEn
  have hn : E.length = n := by obtain ⟨a', c', e⟩ := hl.shape; cases e; rfl
  have hl' : Lies m ei.size (.slice a n c) (E.flatMap eC) := by rw [g2]; exact hl
  refine (appendZeros_spec tt_ok h1 h2 g1 hI' rfl (by rw [g2]; decide) rfl hl' h0 hg (by rw [g3]; omega) (by omega)).mono fun r m' ⟨b, C, q1, q2, q3, q4⟩ => ⟨b, C, q1, q2, q3, _, ?_, ?_, q4⟩
  · intro j u hu
    have hjl := (List.getElem?_eq_some_iff.1 hu).1
    rw [Nat.zero_add, Array.append_assoc, Array.getElem?_append_left (by simpa using hjl), List.getElem?_toArray]
    exact hu
  · simp only [Array.size_append, zeroCells_size, List.size_toArray, eOk.flen, g4, hn]
    have : (eC (0, 0)).length = 2 := rfl
    rw [this]; omega
set_option maxHeartbeats 4000000 in
theorem insert_spec {mm m p : Mem} {v : Value} {E : List Ent} {x : Ent} {k b' : Nat} (hs : Split mm [p, blk1 b' (.cells (eC x).toArray 37), m]) (hv : Eo p v E) (hk : k ≤ E.length) (hl : E.length ≤ 1000000) :
    Spec Try.prog 16 [.v v, i64 k, .v (.slice (some ⟨b', 0, none⟩) 1 1)] mm fun r m' => ∃ v' p', r = [.v v'] ∧ Split m' [p', m] ∧ Eo p' v' (insE E k x) := by
  have hx := (Eo.blk1 (e := x) (m := blk1 b' (.cells (eC x).toArray 37)) (blk1_same ..)).el.ea
  have happ : E.length = k → insE E k x = E ++ [x] := fun e => by rw [insE, List.take_of_length_le (by omega), List.drop_of_length_le (by omega)]
  rcases hv with ⟨rfl, hE⟩ | ⟨b, o, c, n, arr, rfl, h1, h2, h3, h4, h5, h6⟩
  · have hE0 : E.length = 0 := eOk.count (n := 0) (by rw [hE]; rfl)
    obtain rfl : k = 0 := by omega
    have hE' : E = [] := List.eq_nil_of_length_eq_zero hE0
    subst hE'
    refine en16 rfl (goY ?_)
    conv => whnf
    repeat (refine And.intro (by first | omega | (simp only [times]; omega)) ?_; conv => whnf)
    refine ⟨fun h => absurd h (by decide), fun _ => ?_⟩
    conv => whnf
    refine ⟨fun _ => ?_, fun h => absurd h (by decide)⟩
    conv => whnf
    refine .mk _ (appendEat (i := 0) hs rfl (Eo.nil _) (hx.sub (hs.sub (by simp))) (by simp)) ?_
    rintro _ m' ⟨v', p', rfl, hs', hv'⟩
    conv => whnf
    exact ⟨v', p', rfl, hs'.erase 1, hv'⟩
  have hn : E.length = n := eOk.count h2
  subst hn
  have hv : Eo p (.slice (some ⟨b, o, none⟩) E.length c) E := .inr ⟨b, o, c, E.length, arr, rfl, h1, h2, h3, h4, h5, h6⟩
  refine en16 rfl (goY ?_)
  conv => whnf
  repeat (refine And.intro (by first | omega | (simp only [times]; omega)) ?_; conv => whnf)
  intro o1 _ _
  refine ⟨fun h => absurd h (by decide), fun _ => ?_⟩
  conv => whnf
  refine ⟨fun h => ?_, fun h => ?_⟩
  · have h' : E.length = k := by simp at h; omega
    conv => whnf
    refine .mk _ (appendEat (i := 0) hs rfl hv (hx.sub (hs.sub (by simp))) (by simp; omega)) ?_
    rintro _ m' ⟨v', p', rfl, hs', hv'⟩
    conv => whnf
    exact ⟨v', p', rfl, hs'.erase 1, by rw [happ h']; exact hv'⟩
  have hlt : k < E.length := by simp at h; omega
  clear h
  have ew1 : IntKind.i64.wrap ((E.length : Int) + ((1 : Nat) : Int)) = ((E.length + 1 : Nat) : Int) := by rw [wi (by omega) (by omega)]; omega
  conv => whnf
  refine .mk _ (cap_spec tt_ok (by rfl) rfl) ?_
  rintro _ _ ⟨rfl, rfl⟩
  conv => whnf
  rw [ew1]
  have hx' : mm b' = some (.cells (eC x).toArray 37) := hs.sub (a := blk1 b' (.cells (eC x).toArray 37)) (by simp) _ _ (blk1_same ..)
  have h1' : mm b = some (.cells arr 37) := hs.sub (a := p) (by simp) _ _ h1
  have hrow : RowHas arr o (E.flatMap eC) := h5
  have hsplit : E.flatMap eC = (E.take k).flatMap eC ++ (E.drop k).flatMap eC := by rw [← List.flatMap_append, List.take_append_drop]
  have hA : ((E.take k).flatMap eC).length = k * 2 := by rw [eOk.flen, List.length_take]; omega
  have hB : ((E.drop k).flatMap eC).length = (E.length - k) * 2 := by rw [eOk.flen, List.length_drop]
  rw [hsplit] at hrow
  have hrA := hrow.left
  have hrB := hrow.right
  rw [hA] at hrB
  have ek : (k : Int).toNat = k := by omega
  have ew2 : IntKind.i64.wrap (((E.length + 1 : Nat) : Int) - (k : Int)) = ((E.length + 1 - k : Nat) : Int) := by rw [wi (by omega) (by omega)]; omega
  have ew3 : IntKind.i64.wrap ((k : Int) + ((1 : Nat) : Int)) = ((k + 1 : Nat) : Int) := by rw [wi (by omega) (by omega)]; omega
  refine ⟨fun h => ?_, fun h => ?_⟩
  · have hc : c = E.length := by have := of_decide_eq_true h; omega
    subst hc
    clear h
    conv => whnf
    repeat (refine And.intro (by first | omega | (simp only [times]; omega)) ?_; conv => whnf)
    intro o2 q1 q2
    obtain rfl : o2 = o := by have := q1 (by omega); simpa [times] using this
    clear q1 q2
    conv => whnf
    rw [ew1, ew2, ek]
    refine .mk _ (appendZE (E := E.take k) (eOk.pre (hv.el.sub (hs.sub (by simp))) (by omega) (by omega)) (by omega) (by omega) (by omega)) ?_
    rintro _ m' ⟨b2, C, hb2, hC, rfl, arr2, r0, hsz, rfl⟩
    conv => whnf
    rw [show k - 0 + (E.length + 1 - k) = E.length + 1 by omega] at hC ⊢
    have hne1 : b' ≠ b2 := fun e => by rw [e, hb2] at hx'; cases hx'
    have hne2 : b ≠ b2 := fun e => by rw [e, hb2] at h1'; cases h1'
    repeat (refine And.intro (by first | omega | (simp only [times]; omega)) ?_; conv => whnf)
    intro o3 q1 q2
    obtain rfl : o3 = k * 2 := by have := q1 (by omega); simpa using this
    clear q1 q2
    conv => whnf
    rw [ek]
    refine .mk _ (copyE (news := eC x) (Mem.set_same ..) (by omega) ((Mem.set_ne _ _ hne1).trans hx') (by simp; omega) (fun j u hu => by rw [Nat.zero_add, List.getElem?_toArray]; exact hu) (eOk.one x)) ?_
    rintro _ _ ⟨rfl, rfl⟩
    conv => whnf
    rw [Mem.set_set]
    have hf1 : k * 2 + (eC x).length ≤ arr2.size := by simp; omega
    have r1 : RowHas _ (k * 2) (eC x) := RowHas.putSame hf1
    have r2 := r0.putOther hf1 (.inl (by rw [hA]; omega))
    have hsz3 := put_size hf1
    rw [hsz] at hsz3
    clear r0
    generalize (arr2.toList.take (k * 2) ++ (eC x ++ arr2.toList.drop (k * 2 + (eC x).length))).toArray = arr3 at r1 r2 hsz3 ⊢
    rw [ew3]
    repeat (refine And.intro (by first | omega | (simp only [times]; omega)) ?_; conv => whnf)
    intro o4 q1 q2
    have ek1 : ((k + 1 : Nat) : Int).toNat = k + 1 := by omega
    rw [ek1] at q1
    obtain rfl : o4 = (k + 1) * 2 := by have := q1 (by omega); simpa using this
    clear q1 q2
    conv => whnf
    rw [ek1]
    repeat (refine And.intro (by first | omega | (simp only [times]; omega)) ?_; conv => whnf)
    intro o5 q1 q2
    rw [ek] at q1
    obtain rfl : o5 = o2 + k * 2 := by have := q1 (by omega); simpa using this
    clear q1 q2
    conv => whnf
    rw [ek]
    refine .mk _ (copyE (news := (E.drop k).flatMap eC) (Mem.set_same ..) (by omega) ((Mem.set_ne _ _ hne2).trans h1') (by rw [hB]; omega) hrB eOk.fone) ?_
    rintro _ m4 ⟨rfl, rfl⟩
    conv => whnf
    first | refine ⟨fun _ h => (by cases h), ?_⟩ | skip
    conv => whnf
    rw [Mem.set_set]
    have hf2 : (k + 1) * 2 + ((E.drop k).flatMap eC).length ≤ arr3.size := by rw [hB, hsz3]; omega
    have r3 := RowHas.putSame hf2
    have r4 := r1.putOther hf2 (.inl (by simp; omega))
    have r5 := r2.putOther hf2 (.inl (by rw [hA]; omega))
    have hsz4 := put_size hf2
    generalize (arr3.toList.take ((k + 1) * 2) ++ ((E.drop k).flatMap eC ++ arr3.toList.drop ((k + 1) * 2 + ((E.drop k).flatMap eC).length))).toArray = arr4 at r3 r4 r5 hsz4 ⊢
    refine ⟨_, _, rfl, ((hs.new hb2 (.cells arr4 37)).erase 1).erase 1, ?_⟩
    refine eOk.mk' (blk1_same ..) (by simp [insE]; omega) hC (by rw [hsz4, hsz3]; omega) ?_
    rw [insE_flat]
    exact r5.append (by rw [hA, Nat.zero_add]; exact r4.append (by rw [show k * 2 + (eC x).length = (k + 1) * 2 by simp; omega]; exact r3))
  · have hc : E.length + 1 ≤ c := by have := of_decide_eq_false h; omega
    clear h
    conv => whnf
    rw [ew1]
    repeat (refine And.intro (by first | omega | (simp only [times]; omega)) ?_; conv => whnf)
    intro o2 q1 q2
    obtain rfl : o2 = o := by have := q1 (by omega); simpa [times] using this
    clear q1 q2
    have en1 : ((E.length + 1 : Nat) : Int).toNat = E.length + 1 := by omega
    conv => whnf
    rw [ew3, en1]
    repeat (refine And.intro (by first | omega | (simp only [times]; omega)) ?_; conv => whnf)
    intro o3 _ _
    conv => whnf
    have hbne : b' ≠ b := fun e => by
      have hd := (List.pairwise_cons.1 hs.2).1 (blk1 b' (.cells (eC x).toArray 37)) (by simp) b
      rcases hd with hd | hd
      · rw [h1] at hd; cases hd
      · rw [e, blk1_same] at hd; cases hd
    obtain ⟨ti, t1, t2⟩ := hEs
    obtain ⟨ei, g1, g2, g3, g4⟩ := hEn
    refine xext (ext_apart (P := Try.prog) (t := 22) (tr := 4) tt_ok Try.func27 (by rfl) (by rfl) (by kernel_rfl) t1 t2 g1 (by kernel_rfl) hx' h1' hbne (by omega)) ?_
    rintro _ _ ⟨rfl, rfl⟩
    conv => whnf
    refine ⟨fun _ => ?_, fun h => absurd h (by decide)⟩
    conv => whnf
    rw [ew3]
    repeat (refine And.intro (by first | omega | (simp only [times]; omega)) ?_; conv => whnf)
    intro o4 q1 q2
    rw [show ((k + 1 : Nat) : Int).toNat = k + 1 by omega] at q1
    obtain rfl : o4 = o2 + (k + 1) * 2 := by have := q1 (by omega); simpa using this
    clear q1 q2
    conv => whnf
    repeat (refine And.intro (by first | omega | (simp only [times]; omega)) ?_; conv => whnf)
    intro o5 q1 q2
    rw [ek] at q1
    obtain rfl : o5 = o2 + k * 2 := by have := q1 (by omega); simpa using this
    clear q1 q2
    conv => whnf
    rw [ek, show ((k + 1 : Nat) : Int).toNat = k + 1 by omega]
    rw [show E.length + 1 - 0 = E.length + 1 by omega, show c - 0 = c by omega]
    have emin : min (E.length + 1 - k) (E.length + 1 - (k + 1)) = E.length - k := by omega
    refine .mk _ (copyE (news := (E.drop k).flatMap eC) h1' (by rw [emin]; omega) h1' (by rw [hB, emin]) hrB eOk.fone) ?_
    rintro _ m4 ⟨rfl, rfl⟩
    conv => whnf
    first | refine ⟨fun _ h => (by cases h), ?_⟩ | skip
    conv => whnf
    have hf1 : o2 + (k + 1) * 2 + ((E.drop k).flatMap eC).length ≤ arr.size := by rw [hB]; omega
    have r1 := RowHas.putSame hf1
    have r2 := hrA.putOther hf1 (.inl (by rw [hA]; omega))
    have hsz1 := put_size hf1
    have hsp := fun o' => hs.set h1 (o' : Obj)
    generalize (arr.toList.take (o2 + (k + 1) * 2) ++ ((E.drop k).flatMap eC ++ arr.toList.drop (o2 + (k + 1) * 2 + ((E.drop k).flatMap eC).length))).toArray = arr1 at r1 r2 hsz1 ⊢
    repeat (refine And.intro (by first | omega | (simp only [times]; omega)) ?_; conv => whnf)
    intro o6 q1 q2
    rw [ek] at q1
    obtain rfl : o6 = o2 + k * 2 := by have := q1 (by omega); simpa using this
    clear q1 q2
    conv => whnf
    rw [ek]
    refine .mk _ (copyE (news := eC x) (Mem.set_same ..) (by omega) ((Mem.set_ne _ _ hbne).trans hx') (by simp; omega) (fun j u hu => by rw [Nat.zero_add, List.getElem?_toArray]; exact hu) (eOk.one x)) ?_
    rintro _ _ ⟨rfl, rfl⟩
    conv => whnf
    rw [Mem.set_set]
    have hf2 : o2 + k * 2 + (eC x).length ≤ arr1.size := by simp; omega
    have r3 := RowHas.putSame hf2
    have r4 := r1.putOther hf2 (.inr (by simp; omega))
    have r5 := r2.putOther hf2 (.inl (by rw [hA]; omega))
    have hsz2 := put_size hf2
    generalize (arr1.toList.take (o2 + k * 2) ++ (eC x ++ arr1.toList.drop (o2 + k * 2 + (eC x).length))).toArray = arr2 at r3 r4 r5 hsz2 ⊢
    refine ⟨_, _, rfl, (hsp _).erase 1, ?_⟩
    refine eOk.mk' (Mem.set_same ..) (by simp [insE]; omega) hc (by rw [hsz2, hsz1]; exact h4) ?_
    rw [insE_flat]
    exact r5.append (by rw [hA]; exact r3.append (by rw [show o2 + k * 2 + (eC x).length = o2 + (k + 1) * 2 by simp; omega]; exact r4))
end Go.E.Ytidnbefbbdbpfaa

/-
  Contracts of timer: Set.
-/
namespace Go.E.Ytidnbefbbdbpfaa
open Go.Proofs
set_option maxRecDepth 100000
def clr (E : List Ent) (id : Int) : List Ent := E.filter fun e => !decide (e.1 = id)
/-- where x belongs -/
structure Fit (E : List Ent) (x : Ent) (k : Nat) : Prop where
  le : k ≤ E.length
  lo : 0 < k → ordE (eAt E (k - 1)) x < 0
  hi : k < E.length → 0 ≤ ordE (eAt E k) x
/-- what Set answers -/
def SetR (E : List Ent) (x : Ent) (e : Int) (M : List Ent) : Prop :=
  if rightE E = false then e = 3 ∧ M = [] else if isE x = false then e = 1 ∧ M = [] else if 200 ≤ (clr E x.1).length then e = 5 ∧ M = [] else e = 0 ∧ ∃ k, M = insE (clr E x.1) k x ∧ Fit (clr E x.1) x k
set_option maxHeartbeats 1000000 in
theorem set_spec {m : Mem} {v : Value} {E : List Ent} {id at' : Int} (hv : Ea m v E) (hl : E.length ≤ 100000) : Spec Try.prog 6 [.v v, i64 id, i64 at'] m fun r m' => ∃ v' p e M, r = [.v v', i64 e] ∧ Split m' [p, m] ∧ Eo p v' M ∧ SetR E (id, at') e M := by
  obtain ⟨a, c, rfl⟩ := hv.shape
  have hcl : (clr E id).length ≤ 100000 := Nat.le_trans (List.length_filter_le _ _) hl
  refine en6 rfl (goY ?_)
  conv => whnf
  refine xcall (clear_tspec hv (by omega)) ?_
  rintro _ m1 ⟨v1, p1, rfl, hs1, hv1⟩
  conv => whnf
  change Eo p1 v1 (clr E id) at hv1
  have hm1 : Sub m m1 := hs1.sub (by simp)
  refine xcall (right_tspec (hv.sub hm1) (by omega)) ?_
  rintro _ m2 ⟨rfl, hs2⟩
  conv => whnf
  have hs1 := hs1.grow hs2
  cases hr : rightE E with
  | false =>
    refine ⟨fun _ => ?_, fun h => absurd h (by decide)⟩
    conv => whnf
    exact ⟨_, emp, 3, [], rfl, (hs1.erase 0).addEmp, Eo.nil _, by unfold SetR; rw [hr]; exact ⟨rfl, rfl⟩⟩
  | true =>
    refine ⟨fun h => absurd h (by decide), fun _ => ?_⟩
    conv => whnf
    first | refine xretk (isEntry_spec (e := (id, at'))) ?_ | refine xret (isEntry_spec (e := (id, at'))) ?_
    conv => whnf
    cases hi : isE (id, at') with
    | false =>
      refine ⟨fun _ => ?_, fun h => absurd h (by decide)⟩
      conv => whnf
      exact ⟨_, emp, 1, [], rfl, (hs1.erase 0).addEmp, Eo.nil _, by unfold SetR; rw [hr, hi]; exact ⟨rfl, rfl⟩⟩
    | true =>
      refine ⟨fun h => absurd h (by decide), fun _ => ?_⟩
      conv => whnf
      obtain ⟨a1, c1, rfl⟩ := hv1.el.shape
      conv => whnf
      refine ⟨fun h => ?_, fun h => ?_⟩
      · have h' := of_decide_eq_true h
        conv => whnf
        exact ⟨_, emp, 5, [], rfl, (hs1.erase 0).addEmp, Eo.nil _, by unfold SetR; rw [hr, hi, if_neg (by decide), if_neg (by decide), if_pos (by simp only; omega)]; exact ⟨rfl, rfl⟩⟩
      · have h' := of_decide_eq_false h
        clear h
        conv => whnf
        refine xcall (bin_spec (x := (id, at')) (hv1.el.ea.sub (hs1.sub (by simp))) (by omega)) ?_
        rintro _ m3 ⟨k, bb, rfl, k1, k2, k3, hs3⟩
        conv => whnf
        have hs1 := hs1.grow hs3
        refine .mk _ (buildE1 (e := (id, at'))) ?_
        rintro _ _ ⟨b, hb, rfl, rfl⟩
        conv => whnf
        have hs4 := (hs1.new hb (.cells (eC (id, at')).toArray 37)).perm (List.Perm.swap _ _ _)
        refine xcall (insert_spec (x := (id, at')) hs4 hv1 k1 (by omega)) ?_
        rintro _ m5 ⟨v5, p5, rfl, hs5, hv5⟩
        conv => whnf
        refine ⟨v5, p5, 0, _, rfl, hs5, hv5, ?_⟩
        unfold SetR
        rw [hr, hi, if_neg (by decide), if_neg (by decide), if_neg (by simp only; omega)]
        exact ⟨rfl, k, rfl, k1, k2, k3⟩
end Go.E.Ytidnbefbbdbpfaa
