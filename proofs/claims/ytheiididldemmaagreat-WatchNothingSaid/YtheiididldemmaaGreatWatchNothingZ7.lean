/-
  TallyL2, TallyL3, Vec, E26, E27, E28, E29, CaF, Cmp, Fnv, SrtK, SbN, SrN, SxN, SeN, SbD, SxD, SeD, SrD
-/
import Derived.Test.YtheiididldemmaaGreatWatchNothingZ6
import Derived.Lib.ConvBytes
import Derived.Laws.LoneSync
import Derived.Lib.Overlaps
import Derived.Shelf.SlSortCmp.NoneTotal
/-
  The laws of tally, on: joins.
-/
namespace Go.E.YtheiididldemmaaGreat
open Go.Proofs
set_option maxRecDepth 100000

theorem zip_comm : ∀ (u v : List Int), List.zipWith max u v = List.zipWith max v u
  | [], [] => rfl
  | [], _ :: _ => rfl
  | _ :: _, [] => rfl
  | a :: u, b :: v => by simp only [List.zipWith_cons_cons, zip_comm u v]; rw [Int.max_comm]
theorem zip_assoc : ∀ (u v w : List Int), List.zipWith max (List.zipWith max u v) w = List.zipWith max u (List.zipWith max v w)
  | [], _, _ => by simp
  | _ :: _, [], _ => by simp
  | _ :: _, _ :: _, [] => by simp
  | a :: u, b :: v, c :: w => by simp only [List.zipWith_cons_cons, zip_assoc u v w]; rw [Int.max_assoc]
theorem zip_self : ∀ (u : List Int), List.zipWith max u u = u
  | [] => rfl
  | a :: u => by simp only [List.zipWith_cons_cons, zip_self u]; rw [Int.max_self]
theorem zip_in : ∀ (u v : List Int), List.zipWith max (List.zipWith max u v) u = List.zipWith max u v
  | [], _ => by simp
  | _ :: _, [] => by simp
  | a :: u, b :: v => by simp only [List.zipWith_cons_cons, zip_in u v]; congr 1; omega
theorem zip_set : ∀ (u : List Int) (i : Nat) (x : Int), u.getD i 0 ≤ x → List.zipWith max u (u.set i x) = u.set i x
  | [], _, _, _ => rfl
  | a :: u, 0, x, h => by
    simp only [List.set_cons_zero, List.zipWith_cons_cons, zip_self]
    simp at h
    congr 1; omega
  | a :: u, i + 1, x, h => by
    simp only [List.set_cons_succ, List.zipWith_cons_cons, Int.max_self]
    rw [zip_set u i x (by simpa using h)]
/-- what Count answers holds the counter, if it answers OK -/
theorem countR_ok {u d : List Int} (hu : V8 u) (hd : V8 d) {node n : Int} (hn : I n) : ∃ a b e, countR u d node n = [cnt2 a b, i64 e] ∧ a.length = 8 ∧ b.length = 8 ∧ (e = 0 → List.zipWith max u a = a ∧ List.zipWith max d b = b) := by
  unfold countR
  split
  · exact ⟨_, _, _, rfl, rfl, rfl, by simp⟩
  · split
    · exact ⟨_, _, _, rfl, rfl, rfl, by simp⟩
    · refine ⟨_, _, _, rfl, by simp [hu.1], by simp [hd.1], fun _ => ⟨zip_set _ _ _ ?_, zip_set _ _ _ ?_⟩⟩
      · have := (ofUp_U hn).1; omega
      · have := (ofDown_U hn).1; omega
end Go.E.YtheiididldemmaaGreat

/-
  The laws of tally, on: totals.
-/
namespace Go.E.YtheiididldemmaaGreat
open Go.Proofs
set_option maxRecDepth 100000

theorem u16_of {n : Int} (h : (Lit.int .u16 n).wf = true) : 0 ≤ n ∧ n < 65536 := by
  have : 0 ≤ n ∧ n ≤ 65535 := by simpa [Lit.wf, IntKind.min, IntKind.max, IntKind.signed, IntKind.bits] using h
  exact ⟨this.1, by omega⟩
theorem sumTo_mono {u v : List Int} (h : ∀ i, u.getD i 0 ≤ v.getD i 0) : ∀ i, sumTo i u ≤ sumTo i v
  | 0 => by simp [sumTo]
  | i + 1 => by
    have := sumTo_mono h i
    have := h i
    simp only [sumTo, more, M62]
    omega
theorem sumTo_le (u : List Int) : ∀ i, sumTo i u ≤ M62
  | 0 => by simp [sumTo]
  | i + 1 => by simp only [sumTo, more]; omega
theorem zip_getD {u v : List Int} (h : u.length = v.length) (i : Nat) : (List.zipWith max u v).getD i 0 = max (u.getD i 0) (v.getD i 0) := by
  by_cases hi : i < u.length
  · simp [List.getD_eq_getElem?_getD, List.getElem?_zipWith, ← h, hi]
  · simp [List.getD_eq_getElem?_getD, List.getElem?_zipWith, ← h, hi]
theorem zip_geL {u v : List Int} (h : u.length = v.length) (i : Nat) : u.getD i 0 ≤ (List.zipWith max u v).getD i 0 := by rw [zip_getD h]; omega
theorem zip_geR {u v : List Int} (h : u.length = v.length) (i : Nat) : v.getD i 0 ≤ (List.zipWith max u v).getD i 0 := by rw [zip_getD h]; omega
theorem countR_zero {node n : Int} (h0 : 0 ≤ n) (h1 : n < 65536) : ∃ a b e, countR (List.replicate 8 0) (List.replicate 8 0) node n = [cnt2 a b, i64 e] ∧ V8 a ∧ V8 b ∧ (e = 0 → sumTo 8 a = n ∧ sumTo 8 b = 0) := by
  unfold countR
  split
  · exact ⟨_, _, _, rfl, V8.of rfl rfl, V8.of rfl rfl, by simp⟩
  · rename_i hn
    have hc : node = 1 ∨ node = 2 ∨ node = 3 ∨ node = 4 ∨ node = 5 ∨ node = 6 ∨ node = 7 ∨ node = 8 := by omega
    have hu : ofUp n = n := by simp only [ofUp, if_neg (Int.not_lt.2 h0)]
    have hd : ofDown n = 0 := by simp only [ofDown, if_neg (Int.not_lt.2 h0)]
    rw [hu, hd]
    split
    · exact ⟨_, _, _, rfl, V8.of rfl rfl, V8.of rfl rfl, by simp⟩
    · refine ⟨_, _, _, rfl, ?_, ?_, fun _ => ⟨?_, ?_⟩⟩
      · refine V8.of (by simp) ?_
        rcases hc with rfl | rfl | rfl | rfl | rfl | rfl | rfl | rfl <;> simp [List.replicate] <;> omega
      · refine V8.of (by simp) ?_
        rcases hc with rfl | rfl | rfl | rfl | rfl | rfl | rfl | rfl <;> simp [List.replicate]
      · rcases hc with rfl | rfl | rfl | rfl | rfl | rfl | rfl | rfl <;> simp [List.replicate, sumTo, more, M62] <;> omega
      · rcases hc with rfl | rfl | rfl | rfl | rfl | rfl | rfl | rfl <;> rfl
end Go.E.YtheiididldemmaaGreat

/-
  Contracts of the functions of vec, of the document's, and of the law's own.
-/
namespace Go.E.YtheiididldemmaaGreat
open Go.Proofs
set_option maxRecDepth 100000

abbrev vecV (a : List Int) : CV := .a [.ints .u64 8 a]
abbrev dotV (n k : Int) : CV := .a [.one (.int .i64 n), .one (.int .u64 k)]
def isN (n : Int) : Bool := decide (1 ≤ n) && decide (n ≤ 8)
def rightN (n k : Int) : Bool := isN n && decide (0 < k)
def getN (v : List Int) (n : Int) : Int := if isN n = true then v.getD (n - 1).toNat 0 else 0
def withN (v : List Int) (n k : Int) : List Int := if isN n = true then v.set (n - 1).toNat (max (v.getD (n - 1).toNat 0) k) else v
def covN (a b : List Int) : Bool := eqLB [.ints .u64 8 (List.zipWith min a b)] [.ints .u64 8 b]

theorem isN_iff {n : Int} : isN n = true ↔ 1 ≤ n ∧ n ≤ 8 := by simp [isN]
theorem isN_not {n : Int} : isN n = false ↔ n < 1 ∨ 8 < n := by simp [isN]; omega
theorem isNode_spec {m : Mem} {n : Int} : Ret Tryz.prog 52 [i64 n] m [boolV (isN n)] := by
  refine en52 rfl ?_
  conv => whnf
  refine ⟨fun h => ?_, fun h => ?_⟩
  · conv => whnf
    refine ⟨?_, rfl⟩
    simp only [isN, h, Bool.true_and]
  · conv => whnf
    refine ⟨?_, rfl⟩
    simp only [isN, h, Bool.false_and]
theorem right3_spec {m : Mem} {n k : Int} : Ret Tryz.prog 30 [dotV n k] m [boolV (rightN n k)] := by
  refine en30 rfl ?_
  conv => whnf
  first | refine xretk (isNode_spec) ?_ | refine xret (isNode_spec) ?_
  conv => whnf
  refine ⟨fun h => ?_, fun h => ?_⟩
  · conv => whnf
    refine ⟨?_, rfl⟩
    simp only [rightN, h, Bool.true_and]
  · conv => whnf
    refine ⟨?_, rfl⟩
    simp only [rightN, h, Bool.false_and]
theorem get_spec {m : Mem} {v : List Int} {n : Int} (hn : I n) : Ret Tryz.prog 77 [vecV v, i64 n] m [u64 (getN v n)] := by
  obtain ⟨_, _⟩ := hn
  refine en77 rfl ?_
  conv => whnf
  first | refine xretk (isNode_spec) ?_ | refine xret (isNode_spec) ?_
  conv => whnf
  refine ⟨fun h => ?_, fun h => ?_⟩
  · have h' : isN n = false := by simpa using h
    conv => whnf
    refine ⟨?_, rfl⟩
    rw [getN, if_neg (by rw [h']; simp)]
  · have h' : isN n = true := by simpa using h
    have hb := isN_iff.1 h'
    have hw : IntKind.i64.wrap (n - 1) = n - 1 := wi (by omega) (by omega)
    conv => whnf
    repeat (refine And.intro (by first | omega | (simp only [times, hw]; omega)) ?_; conv => whnf)
    refine ⟨?_, rfl⟩
    rw [getN, if_pos h']
    simp only [times, hw]
theorem with_spec {m : Mem} {v : List Int} {n k : Int} (hn : I n) : Ret Tryz.prog 61 [vecV v, dotV n k] m [vecV (withN v n k)] := by
  obtain ⟨_, _⟩ := hn
  refine en61 rfl ?_
  conv => whnf
  first | refine xretk (isNode_spec) ?_ | refine xret (isNode_spec) ?_
  conv => whnf
  refine ⟨fun h => ?_, fun h => ?_⟩
  · have hb := isN_iff.1 h
    have hw : IntKind.i64.wrap (n - 1) = n - 1 := wi (by omega) (by omega)
    conv => whnf
    repeat (refine And.intro (by first | omega | (simp only [times, hw]; omega)) ?_; conv => whnf)
    refine ⟨?_, rfl⟩
    rw [withN, if_pos h]
    simp only [times, hw]
  · conv => whnf
    refine ⟨?_, rfl⟩
    rw [withN, if_neg (by rw [h]; simp)]
theorem has_spec {m : Mem} {v : List Int} {n k : Int} (hn : I n) : Ret Tryz.prog 46 [vecV v, dotV n k] m [boolV (rightN n k && decide (k ≤ getN v n))] := by
  refine en46 rfl ?_
  conv => whnf
  first | refine xretk (right3_spec) ?_ | refine xret (right3_spec) ?_
  conv => whnf
  refine ⟨fun h => ?_, fun h => ?_⟩
  · conv => whnf
    first | refine xretk (get_spec hn) ?_ | refine xret (get_spec hn) ?_
    conv => whnf
    refine ⟨?_, rfl⟩
    simp only [h, Bool.true_and]
  · conv => whnf
    refine ⟨?_, rfl⟩
    simp only [h, Bool.false_and]
def nextR (v : List Int) (n : Int) : List CV :=
  if isN n = false then [dotV 0 0, i64 11] else if getN v n = 18446744073709551615 then [dotV 0 0, i64 13] else [dotV n (getN v n + 1), i64 0]
theorem getN_U {v : List Int} (hv : V8 v) (n : Int) : U (getN v n) := by
  unfold getN; split
  · exact hv.2 _
  · exact ⟨by decide, by decide⟩
theorem next_spec {m : Mem} {v : List Int} {n : Int} (hv : V8 v) (hn : I n) : Ret Tryz.prog 87 [vecV v, i64 n] m (nextR v n) := by
  have hU := getN_U hv n
  obtain ⟨hU0, hU1⟩ := hU
  refine en87 rfl ?_
  conv => whnf
  first | refine xretk (isNode_spec) ?_ | refine xret (isNode_spec) ?_
  conv => whnf
  refine ⟨fun h => ?_, fun h => ?_⟩
  · have h' : isN n = false := by simpa using h
    conv => whnf
    refine ⟨?_, rfl⟩
    rw [nextR, if_pos h']
  · have h' : isN n = true := by simpa using h
    conv => whnf
    first | refine xretk (get_spec hn) ?_ | refine xret (get_spec hn) ?_
    conv => whnf
    refine ⟨fun h2 => ?_, fun h2 => ?_⟩
    · have h2' : getN v n = 18446744073709551615 := by simpa using h2
      conv => whnf
      refine ⟨?_, rfl⟩
      rw [nextR, if_neg (by rw [h']; simp), if_pos h2']
    · have h2' : ¬ getN v n = 18446744073709551615 := by simpa using h2
      conv => whnf
      first | refine xretk (get_spec hn) ?_ | refine xret (get_spec hn) ?_
      conv => whnf
      refine ⟨?_, rfl⟩
      rw [nextR, if_neg (by rw [h']; simp), if_neg h2', wu (by omega) (by omega)]
end Go.E.YtheiididldemmaaGreat

/-
  More operations: the bytes of a text that is no constant.
-/
namespace Go.E
/-- the bytes of a text, as numbers -/
def chs (s : ByteArray) : List Nat := s.data.toList.map UInt8.toNat
theorem chs_len (s : ByteArray) : (chs s).length = s.size := by simp [chs]
theorem chs_lt (s : ByteArray) : ∀ x ∈ chs s, x < 256 := by
  intro x hx
  simp only [chs, List.mem_map] at hx
  obtain ⟨a, _, rfl⟩ := hx
  exact a.toNat_lt
section
variable {P : Program} {T : Tab}
theorem convStr_spec (hT : TabOk P T) {t t' e : TypeId} {ti' ti ei : TI} (ht' : T t' = some ti') (ht : T t = some ti) (hk : ti.k = .slice e) (he : T e = some ei) (hek : ei.k = .int .u8) {m : Mem} {s : ByteArray} :
    PrimSpec P (.conv t' t) [.v (.string s)] m fun r m' => ∃ b c o, m b = none ∧ r = [.v (.slice (some ⟨b, 0, none⟩) s.size c)] ∧ m' = m.set b o ∧ Lb m' (.slice (some ⟨b, 0, none⟩) s.size c) ((chs s).map fun (n : Nat) => (n : Int)) := by
  intro hok ty W hW
  have hu := (hT t ti ht).slice hk
  have hue : P.underlying e = some (.int .u8) := by
    obtain ⟨d, h1, h2⟩ := (hT e ei he).desc
    rw [hek] at h2
    cases d <;> simp [TK.of] at h2
    rw [h1, h2]
  obtain ⟨d', hs, _⟩ := (hT t' ti' ht').desc
  have hr := Lib.run_convert_string_bytes (P := P) W t' t e s hs hu hue
  have hsz := Lib.bytesWorld_size W e s
  refine ⟨_, m.set W.heap.size (.cells (Lib.bytesCells W e s) e ((Lib.bytesCells W e s).size, (Lib.bytesCells W e s).size + 1)), Lib.bytesWorld W e s, ?_, ?_, ⟨W.heap.size, grownCap W s.size 0 e, _, hW.none (Nat.le_refl _), rfl, rfl, ?_⟩, ?_⟩
  · simpa [Prim.run, Prim.out, Prim.tup, cond_false, resVal, CV.val] using hr
  · intro x hx
    simp at hx; subst hx; rfl
  · have hcap := grownCap_ge W s.size 0 e
    refine Lb.mk (Mem.set_same ..) (by simp [chs]) hcap (fun j n hj => ?_)
    rw [List.getElem?_map] at hj
    obtain ⟨x, hx, rfl⟩ := Option.map_eq_some_iff.1 hj
    simp only [chs, List.getElem?_map] at hx
    obtain ⟨y, hy, rfl⟩ := Option.map_eq_some_iff.1 hx
    have hl := (List.getElem?_eq_some_iff.1 hy).1
    rw [Nat.zero_add, Lib.bytesCells, Array.getElem?_append_left (by simpa using hl), Array.getElem?_map]
    rw [← Array.getElem?_toList, hy]; rfl
  · refine ⟨?_, by rw [hsz]; omega, rfl, rfl, rfl, ?_, fun _ => Nat.le_succ _⟩
    · intro x u hx
      by_cases ex : x = W.heap.size
      · subst ex; rw [Mem.set_same] at hx; cases hx; exact Lib.bytesWorld_at_new W e s
      · rw [Mem.set_ne _ _ ex] at hx
        rw [Lib.bytesWorld_at_old W e s x (hW.lt hx)]; exact hW _ _ hx
    · intro x hx hm
      exact ⟨by rw [Mem.set_ne _ _ (by omega)]; exact hm, Lib.bytesWorld_at_old W e s x hx⟩
end
end Go.E

/-
  Calls that the model answers itself: numbers that are loaded and added to, whole.
-/
namespace Go.E
section
variable {P : Program} {f : FuncId} {fn : Func}
theorem xext {args : List CV} {m : Mem} {R K : List CV → Mem → Prop} (h : ExtSpec P f args m R) (k : ∀ r m', R r m' → K r m') : XCall P f args m K := .ext R h k
theorem ext_load (hf : P.funcs[f]? = some fn) (hname : (fn.name == "runtime.NumGoroutine") = false) (hb : fn.body.isNone = true) (hn : Extern.findNext fn = none) (k : IntKind)
    (he : Extern.find fn = some (Extern.Atomic.loadT (.int k))) {m : Mem} {b off : Nat} {x : Int} (hc : mcell m b off = some (.int k x)) :
    ExtSpec P f [.v (.pointer (some ⟨b, off, none⟩))] m fun r m' => r = [.v (.int k x)] ∧ m' = m := by
  intro _ W hW
  have hcell : W.cell? ⟨b, off, none⟩ = some (.int k x) := by
    unfold mcell at hc
    cases hm : m b with
    | none => simp [hm] at hc
    | some o =>
      cases o with
      | cells arr t fr =>
        simp only [hm] at hc
        rw [cell_at (hW _ _ hm)]; exact hc
      | _ => simp [hm] at hc
  exact ⟨[.v (.int k x)], m, W, run_call_load hf hname hb hn k he hcell, (by intro y hy; simp at hy; subst hy; rfl), ⟨rfl, rfl⟩, After.refl hW⟩
theorem ext_add (hf : P.funcs[f]? = some fn) (hname : (fn.name == "runtime.NumGoroutine") = false) (hb : fn.body.isNone = true) (hn : Extern.findNext fn = none)
    (he : Extern.find fn = some (Extern.Atomic.update (Op.intArith .add) .u64 true)) {m : Mem} {b off : Nat} {x y : Int} {arr : Array Value} {t : TypeId} (hm : m b = some (.cells arr t (0, 0))) (hx : arr[off]? = some (.int .u64 x)) :
    ExtSpec P f [.v (.pointer (some ⟨b, off, none⟩)), .v (.int .u64 y)] m fun r m' => r = [.v (.int .u64 (IntKind.u64.wrap (x + y)))] ∧ m' = m.set b (.cells (arr.setIfInBounds off (.int .u64 (IntKind.u64.wrap (x + y)))) t (0, 0)) := by
  intro _ W hW
  have hg := hW _ _ hm
  have hcell : W.cell? ⟨b, off, none⟩ = some (.int .u64 x) := by rw [cell_at hg]; exact hx
  have hz : W.frozen? ⟨b, off, none⟩ = false := by simp [World.frozen?, hg]
  have hset : W.setCell ⟨b, off, none⟩ (.int .u64 (IntKind.u64.wrap (x + y))) = W.setRow b (arr.setIfInBounds off (.int .u64 (IntKind.u64.wrap (x + y)))) := setCell_eq_setRow W b off arr t (0, 0) _ hg
  have hs : (Op.intArith .add .u64 x y).run P W = .ok (.int .u64 (IntKind.u64.wrap (x + y))) W := by simp [Op.intArith]
  have hr := run_call_add hf hname hb hn .u64 he hcell hz hs
  rw [hset] at hr
  exact ⟨[.v (.int .u64 (IntKind.u64.wrap (x + y)))], _, _, hr, (by intro y hy; simp at hy; subst hy; rfl), ⟨rfl, rfl⟩, (After.refl hW).setRow hm _⟩
end
end Go.E

/-
  More operations: copy and clear of elements of any size; slices.overlaps.
-/
namespace Go.E
section
variable {P : Program} {T : Tab}
theorem take_mul_len {α : Type} {l : List α} {k n s : Nat} (h : l.length = k * s) : (l.take (n * s)).length = min k n * s := by
  rw [List.length_take, h]
  rcases Nat.le_total k n with h1 | h1
  · rw [Nat.min_eq_left h1, Nat.min_eq_right (Nat.mul_le_mul_right _ h1)]
  · rw [Nat.min_eq_right h1, Nat.min_eq_left (Nat.mul_le_mul_right _ h1)]
/-- copy of whole elements -/
theorem copyN_spec (hT : TabOk P T) {t e tx : TypeId} {ti ei : TI} (ht : T t = some ti) (hk : ti.k = .slice e) (he : T e = some ei) {m : Mem} {b o n c : Nat} {arr : Array Value} {te : TypeId} (hb : m b = some (.cells arr te)) (hfit : o + n * ei.size ≤ arr.size)
    {x : Value} {news : List Value} (hx : Lies m ei.size x news) :
    PrimSpec P (.builtin .copy [t, tx]) [.v (.slice (some ⟨b, o, none⟩) n c), .v x] m fun r m' => r = [.v (.int .i64 ((min (lenV x) n : Nat) : Int))] ∧ m' = m.set b (.cells (arr.toList.take o ++ news.take (n * ei.size) ++ arr.toList.drop (o + (news.take (n * ei.size)).length)).toArray te) := by
  intro hok ty W hW
  obtain ⟨j, hj, hjs, _⟩ := (hT e ei he).inf
  have hu := (hT t ti ht).slice hk
  have hWb := hW _ _ hb
  rcases hx with ⟨c', rfl, rfl⟩ | ⟨b', o', c', n', arr', t', fr', rfl, h1, h2, h3, h4, h5⟩
  · refine ⟨[.v (.int .i64 0)], _, W, ?_, ?_, ⟨by simp [lenV], rfl⟩, ?_⟩
    · simp [Prim.run, Prim.out, Prim.tup, cond_false, CV.val, resVal, Builtin.copy_, run_underlying hu, Builtin.lenOf, Builtin.firstCells, sizeOf, typeInfo, hj, storeCells]
      rfl
    · intro y hy; simp at hy; subst hy; rfl
    · simp only [List.take_nil, List.append_nil, List.length_nil, Nat.add_zero, List.take_append_drop, Array.toArray_toList]
      rw [Mem.set_same_eq hb]
      exact After.refl hW
  · have hlen : (news.take (n * ei.size)).length = min n' n * ei.size := take_mul_len h2
    have hld := run_loadCells_list (P := P) W ⟨b', o', none⟩ (news.take (n * ei.size)) (fun j v hv => by
      rw [add_none, cell_at (hW _ _ h1)]
      refine h4 j v ?_
      have hl := (List.getElem?_eq_some_iff.1 hv).1
      rw [hlen] at hl
      rw [List.getElem?_take] at hv
      split at hv
      · exact hv
      · cases hv)
    rw [hlen] at hld
    have hst := run_storeCells_at P b o te (news.take (n * ei.size)) 0 arr W hWb (by rw [hlen]; have := Nat.mul_le_mul_right ei.size (Nat.min_le_right n' n); omega) (fun v hv => h5 v (List.mem_of_mem_take hv))
    refine ⟨[.v (.int .i64 ((min n' n : Nat) : Int))], _, _, ?_, ?_, ⟨rfl, rfl⟩, (After.refl hW).setRow hb _⟩
    · simp only [Prim.run, Prim.out, Prim.tup, cond_false, List.map_cons, List.map_nil, CV.val, resVal]
      have hm : Nat.min n' n = min n' n := rfl
      simp only [Nat.add_zero] at hst
      simp [Builtin.copy_, run_underlying hu, Builtin.lenOf, Builtin.firstCells, sizeOf, typeInfo, hj, hjs, hm, hld, hst]
      rfl
    · intro y hy; simp at hy; subst hy; rfl
/-- copy of whole elements, of which as many are known as are copied -/
theorem copyP_spec (hT : TabOk P T) {t e tx : TypeId} {ti ei : TI} (ht : T t = some ti) (hk : ti.k = .slice e) (he : T e = some ei) {m : Mem} {b o n c b' o' n' c' : Nat} {arr arr' : Array Value} {te t' : TypeId} {fr' : Nat × Nat} (hb : m b = some (.cells arr te)) (hfit : o + min n' n * ei.size ≤ arr.size)
    {news : List Value} (hb' : m b' = some (.cells arr' t' fr')) (hlen : news.length = min n' n * ei.size) (h4 : ∀ j u, news[j]? = some u → arr'[o' + j]? = some u) (h5 : ∀ u ∈ news, u.oneCell' = true) :
    PrimSpec P (.builtin .copy [t, tx]) [.v (.slice (some ⟨b, o, none⟩) n c), .v (.slice (some ⟨b', o', none⟩) n' c')] m fun r m' => r = [.v (.int .i64 ((min n' n : Nat) : Int))] ∧ m' = m.set b (.cells (arr.toList.take o ++ (news ++ arr.toList.drop (o + news.length))).toArray te) := by
  intro hok ty W hW
  obtain ⟨j, hj, hjs, _⟩ := (hT e ei he).inf
  have hu := (hT t ti ht).slice hk
  have hWb := hW _ _ hb
  have hld := run_loadCells_list (P := P) W ⟨b', o', none⟩ news (fun j v hv => by rw [add_none, cell_at (hW _ _ hb')]; exact h4 j v hv)
  rw [hlen] at hld
  have hst := run_storeCells_at P b o te news 0 arr W hWb (by rw [hlen]; omega) h5
  refine ⟨[.v (.int .i64 ((min n' n : Nat) : Int))], _, _, ?_, ?_, ⟨rfl, rfl⟩, (After.refl hW).setRow hb _⟩
  · simp only [Prim.run, Prim.out, Prim.tup, cond_false, List.map_cons, List.map_nil, CV.val, resVal]
    have hm : Nat.min n' n = min n' n := rfl
    simp only [Nat.add_zero, List.append_assoc] at hst
    simp [Builtin.copy_, run_underlying hu, Builtin.lenOf, Builtin.firstCells, sizeOf, typeInfo, hj, hjs, hm, hld, hst]
    rfl
  · intro y hy; simp at hy; subst hy; rfl
/-- clear of no elements -/
theorem clear0_spec (hT : TabOk P T) {t e : TypeId} {ti : TI} (ht : T t = some ti) (hk : ti.k = .slice e) {m : Mem} {a : Option Addr} {c : Nat} :
    PrimSpec P (.builtin .clear [t]) [.v (.slice a 0 c)] m fun r m' => r = [] ∧ m' = m := by
  intro hok ty W hW
  have hu := (hT t ti ht).slice hk
  refine ⟨[], m, W, ?_, (by intro y hy; cases hy), ⟨rfl, rfl⟩, After.refl hW⟩
  cases a <;> simp [Prim.run, Prim.out, Prim.tup, cond_false, CV.val, resVal, Builtin.clear_, run_underlying hu]
/-- clear of elements -/
theorem clearN_spec (hT : TabOk P T) {t e : TypeId} {ti ei : TI} (ht : T t = some ti) (hk : ti.k = .slice e) (he : T e = some ei) (hz : (LB.cells ei.zero).length = ei.size) (hone : ∀ u ∈ LB.cells ei.zero, u.oneCell' = true) {m : Mem} {b o n c : Nat} {arr : Array Value} {te : TypeId} (hb : m b = some (.cells arr te)) (hn : 0 < n) (hfit : o + n * ei.size ≤ arr.size) :
    PrimSpec P (.builtin .clear [t]) [.v (.slice (some ⟨b, o, none⟩) n c)] m fun r m' => r = [] ∧ ∃ zs, zs.length = n * ei.size ∧ (∀ u ∈ zs, u.oneCell' = true) ∧ m' = m.set b (.cells (arr.toList.take o ++ zs ++ arr.toList.drop (o + n * ei.size)).toArray te) := by
  intro hok ty W hW
  obtain ⟨j, hj, hjs, _, z, hjz, hzc⟩ := (hT e ei he).inf
  have hu := (hT t ti ht).slice hk
  have hWb := hW _ _ hb
  have hzsz : z.cells.size = ei.size := by rw [hzc]; simpa using hz
  have hzl : (Builtin.zeroCells z.cells n).toList.length = n * ei.size := by rw [Array.length_toList, zeroCells_size, hzsz]
  have hzo : ∀ u ∈ (Builtin.zeroCells z.cells n).toList, u.oneCell' = true := by
    intro u hu
    rw [Array.mem_toList_iff, Builtin.zeroCells, Array.mem_map] at hu
    obtain ⟨i, hi, rfl⟩ := hu
    have hi2 := Array.mem_range.1 hi
    have hlt : i % z.cells.size < z.cells.size := Nat.mod_lt _ (by rcases Nat.eq_zero_or_pos z.cells.size with h | h; simp [h] at hi2; exact h)
    refine hone _ ?_
    have : z.cells[i % z.cells.size]! ∈ z.cells.toList := by
      rw [Array.mem_toList_iff, getElem!_pos z.cells _ hlt]; exact Array.getElem_mem hlt
    rw [hzc] at this ⊢
    exact this
  have hst := run_storeCells_at P b o te (Builtin.zeroCells z.cells n).toList 0 arr W hWb (by rw [hzl]; omega) hzo
  simp only [Nat.add_zero] at hst
  obtain ⟨k, rfl⟩ : ∃ k, n = k + 1 := ⟨n - 1, by omega⟩
  have hzv : (zeroValue e).run P W = .ok z W := by simp [zeroValue, typeInfo, hj, hjz]
  rw [hzl] at hst
  refine ⟨[], _, _, ?_, (by intro y hy; cases hy), ⟨rfl, (Builtin.zeroCells z.cells (k + 1)).toList, hzl, hzo, rfl⟩, (After.refl hW).setRow hb _⟩
  simp only [Prim.run, Prim.out, Prim.tup, cond_false, List.map_cons, List.map_nil, CV.val, resVal]
  simp [Builtin.clear_, run_underlying hu, hzv, hst]
/-- slices.overlaps: two blocks, the first of which is plain -/
theorem ext_apart {f : FuncId} {fn : Func} (hT : TabOk P T) (hf : P.funcs[f]? = some fn) (hname : (fn.name == "runtime.NumGoroutine") = false) (hb : fn.body.isNone = true) (hn : Extern.findNext fn = none)
    {t tr e : TypeId} {ti ei : TI} (ht : T t = some ti) (hk : ti.k = .slice e) (he : T e = some ei) (hx : Extern.find fn = some (Extern.SlicesOverlaps.overlaps #[t, t] #[tr]))
    {m : Mem} {b b' o o' n n' c c' : Nat} {arr arr' : Array Value} {te te' : TypeId} {fr' : Nat × Nat} (h1 : m b = some (.cells arr te)) (h2 : m b' = some (.cells arr' te' fr')) (hne : b ≠ b') (hpos : arr'.size ≠ 0) :
    ExtSpec P f [.v (.slice (some ⟨b, o, none⟩) n c), .v (.slice (some ⟨b', o', none⟩) n' c')] m fun r m' => r = [.v (.bool false)] ∧ m' = m := by
  intro _ W hW
  obtain ⟨j, hj, hjs, _⟩ := (hT e ei he).inf
  have hu := (hT t ti ht).slice hk
  have g1 := hW _ _ h1
  have g2 := hW _ _ h2
  have hr := Lib.run_overlaps_apart (P := P) W t tr e hu j.size (fun w => by simp [sizeOf, typeInfo, hj]) ⟨b, o, none⟩ ⟨b', o', none⟩ n c n' c' hne te te' arr.size arr'.size
    (by unfold World.shape?; rw [g1]) (by unfold World.shape?; rw [g2]) hpos (by simp [World.frozen?, g1]) (by simp [World.frozen?, g1])
  exact ⟨[.v (.bool false)], m, W, by simp only [List.map_cons, List.map_nil, CV.val, resVal]; rw [run_callFunc_extern hf hname hb hn hx]; exact congrArg (fun r : Result Value => r.andThen fun v w' => Result.ok (Next.value v) w') hr, (by intro y hy; simp at hy; subst hy; rfl), ⟨rfl, rfl⟩, After.refl hW⟩
end
end Go.E

/-
  Lists of elements of any one size, laid one behind the other.
-/
namespace Go.E
section
variable {α : Type} {enc : α → List Value} {s : Nat}
/-- each element has this many cells, of one cell each -/
structure EncOk (enc : α → List Value) (s : Nat) : Prop where
  len : ∀ x, (enc x).length = s
  one : ∀ x, ∀ u ∈ enc x, u.oneCell' = true
  pos : 0 < s
theorem EncOk.flen (h : EncOk enc s) : ∀ (E : List α), (E.flatMap enc).length = E.length * s
  | [] => by simp
  | x :: E => by rw [List.flatMap_cons, List.length_append, h.len, h.flen E, List.length_cons, Nat.succ_mul]; omega
theorem EncOk.fone (h : EncOk enc s) {E : List α} : ∀ u ∈ E.flatMap enc, u.oneCell' = true := fun u hu => by
  obtain ⟨x, _, hx⟩ := List.mem_flatMap.1 hu
  exact h.one x u hx
theorem EncOk.at (h : EncOk enc s) : ∀ {E : List α} {i j : Nat} {u : Value} (hi : i < E.length), (enc E[i])[j]? = some u → (E.flatMap enc)[i * s + j]? = some u
  | x :: E, 0, j, u, _, hu => by
    have hl := (List.getElem?_eq_some_iff.1 hu).1
    rw [List.flatMap_cons, List.getElem?_append_left (by simpa using hl)]
    simpa using hu
  | x :: E, i + 1, j, u, hi, hu => by
    have ih := h.at (E := E) (i := i) (j := j) (u := u) (by simpa using hi) (by simpa using hu)
    rw [List.flatMap_cons, List.getElem?_append_right (by rw [h.len, Nat.succ_mul]; omega), h.len, Nat.succ_mul, show i * s + s + j - s = i * s + j by omega]
    exact ih
theorem EncOk.take (h : EncOk enc s) : ∀ (E : List α) (i : Nat), (E.flatMap enc).take (i * s) = (E.take i).flatMap enc
  | [], i => by simp
  | x :: E, 0 => by simp
  | x :: E, i + 1 => by
    rw [List.flatMap_cons, List.take_succ_cons, List.flatMap_cons, Nat.succ_mul, List.take_append, h.len, List.take_of_length_le (by rw [h.len]; omega), show i * s + s - s = i * s by omega, h.take E i]
theorem EncOk.drop (h : EncOk enc s) : ∀ (E : List α) (i : Nat), (E.flatMap enc).drop (i * s) = (E.drop i).flatMap enc
  | [], i => by simp
  | x :: E, 0 => by simp
  | x :: E, i + 1 => by
    rw [List.flatMap_cons, List.drop_succ_cons, Nat.succ_mul, List.drop_append, h.len, List.drop_of_length_le (by rw [h.len]; omega), List.nil_append, show i * s + s - s = i * s by omega, h.drop E i]
theorem EncOk.count (h : EncOk enc s) {E : List α} {n : Nat} (e : (E.flatMap enc).length = n * s) : E.length = n := by
  rw [h.flen] at e
  exact Nat.eq_of_mul_eq_mul_right h.pos e
theorem EncOk.shape (h : EncOk enc s) {m : Mem} {v : Value} {E : List α} (hl : Lies m s v (E.flatMap enc)) : ∃ a c, v = .slice a E.length c := by
  rcases hl with ⟨c, rfl, e⟩ | ⟨b, o, c, n, arr, t, fr, rfl, _, e, _⟩
  · have : E.length = 0 := h.count (n := 0) (by rw [e]; simp)
    exact ⟨none, c, by rw [this]⟩
  · exact ⟨_, c, by rw [h.count e]⟩
theorem EncOk.real (h : EncOk enc s) {m : Mem} {v : Value} {E : List α} (hl : Lies m s v (E.flatMap enc)) {i : Nat} (hi : i < E.length) : ∃ b o c, v = .slice (some ⟨b, o, none⟩) E.length c ∧ ∀ j (hj : j < E.length), MRange m b (o + j * s) (enc E[j]) := by
  rcases hl with ⟨c, rfl, e⟩ | ⟨b, o, c, n, arr, t, fr, rfl, g1, e, _, g2, _⟩
  · have : E.length = 0 := h.count (n := 0) (by rw [e]; simp)
    omega
  · refine ⟨b, o, c, by rw [h.count e], fun j hj => ⟨arr, t, fr, g1, fun k u hu => ?_⟩⟩
    rw [Nat.add_assoc]
    exact g2 _ _ (h.at hj hu)
/-- an owned slice that is not nil, and its row -/
theorem EncOk.row (h : EncOk enc s) {p : Mem} {T : TypeId} {b o n c : Nat} {E : List α} (hl : Own p T s (.slice (some ⟨b, o, none⟩) n c) (E.flatMap enc)) : ∃ arr, p b = some (.cells arr T (0, 0)) ∧ E.length = n ∧ n ≤ c ∧ o + c * s ≤ arr.size ∧ (∀ j u, (E.flatMap enc)[j]? = some u → arr[o + j]? = some u) := by
  rcases hl with ⟨e, _⟩ | ⟨b', o', c', n', arr, e, h1, h2, h3, h4, h5, _⟩
  · cases e
  · cases e
    exact ⟨arr, h1, h.count h2, h3, h4, h5⟩
theorem EncOk.mk' (h : EncOk enc s) {p : Mem} {T : TypeId} {b o n c : Nat} {arr : Array Value} {E : List α} (h1 : p b = some (.cells arr T (0, 0))) (h2 : E.length = n) (h3 : n ≤ c) (h4 : o + c * s ≤ arr.size) (h5 : ∀ j u, (E.flatMap enc)[j]? = some u → arr[o + j]? = some u) : Own p T s (.slice (some ⟨b, o, none⟩) n c) (E.flatMap enc) :=
  .inr ⟨b, o, c, n, arr, rfl, h1, by rw [h.flen, h2], h3, h4, h5, h.fone⟩
/-- a beginning of an owned slice -/
theorem EncOk.cut (h : EncOk enc s) {p : Mem} {T : TypeId} {b o n c : Nat} {E : List α} (hl : Own p T s (.slice (some ⟨b, o, none⟩) n c) (E.flatMap enc)) {i : Nat} (hi : i ≤ n) : Own p T s (.slice (some ⟨b, o, none⟩) i c) ((E.take i).flatMap enc) := by
  obtain ⟨arr, h1, h2, h3, h4, h5⟩ := h.row hl
  refine h.mk' h1 (by rw [List.length_take]; omega) (by omega) h4 fun j u hu => h5 j u ?_
  rw [← h.take] at hu
  rw [List.getElem?_take] at hu
  split at hu
  · exact hu
  · cases hu
/-- a beginning of a slice -/
theorem EncOk.pre (h : EncOk enc s) {m : Mem} {b o n c c' : Nat} {E : List α} (hl : Lies m s (.slice (some ⟨b, o, none⟩) n c) (E.flatMap enc)) {i : Nat} (hi : i ≤ n) (hc : i ≤ c' := by omega) : Lies m s (.slice (some ⟨b, o, none⟩) i c') ((E.take i).flatMap enc) := by
  rcases hl with ⟨c', e, _⟩ | ⟨b', o2, c2, n', arr, t, fr, e, g1, g2, g3, g4, g5⟩
  · cases e
  · cases e
    refine .inr ⟨b, o, c', i, arr, t, fr, rfl, g1, by rw [h.flen, List.length_take, h.count g2, Nat.min_eq_left hi], hc, fun j u hu => g4 j u ?_, h.fone⟩
    rw [← h.take, List.getElem?_take] at hu
    split at hu
    · exact hu
    · cases hu
/-- how much room there is, at least -/
theorem lies_cap {m : Mem} {a : Option Addr} {n c : Nat} {l : List Value} (hp : 0 < s) (hl : Lies m s (.slice a n c) l) : n ≤ c ∨ n = 0 := by
  rcases hl with ⟨c', e, h⟩ | ⟨b', o2, c2, n', arr, t, fr, e, g1, g2, g3, g4, g5⟩
  · cases e; exact .inr rfl
  · cases e; exact .inl g3
/-- what a store of one element's cells at a place leaves -/
theorem put_cells {arr : Array Value} {cs : List Value} {a j : Nat} {u : Value} (hfit : a + cs.length ≤ arr.size) : (arr.toList.take a ++ (cs ++ arr.toList.drop (a + cs.length))).toArray[j]? = some u ↔ if j < a then arr[j]? = some u else if j < a + cs.length then cs[j - a]? = some u else arr[j]? = some u := by
  rw [List.getElem?_toArray]
  have hl : (arr.toList.take a).length = a := by rw [List.length_take, Array.length_toList]; omega
  by_cases h1 : j < a
  · rw [if_pos h1, List.getElem?_append_left (by omega), List.getElem?_take, if_pos h1, Array.getElem?_toList]
  · rw [if_neg h1, List.getElem?_append_right (by omega), hl]
    by_cases h2 : j < a + cs.length
    · rw [if_pos h2, List.getElem?_append_left (by omega)]
    · rw [if_neg h2, List.getElem?_append_right (by omega), List.getElem?_drop, Array.getElem?_toList, show a + cs.length + (j - a - cs.length) = j by omega]
theorem EncOk.set (h : EncOk enc s) {p : Mem} {T : TypeId} {b o n c : Nat} {E : List α} (hl : Own p T s (.slice (some ⟨b, o, none⟩) n c) (E.flatMap enc)) {i : Nat} (hi : i < E.length) (x : α) :
    ∃ arr, p b = some (.cells arr T (0, 0)) ∧ o + i * s + s ≤ arr.size ∧ Own (p.set b (.cells (arr.toList.take (o + i * s) ++ (enc x ++ arr.toList.drop (o + i * s + s))).toArray T (0, 0))) T s (.slice (some ⟨b, o, none⟩) n c) ((E.set i x).flatMap enc) := by
  obtain ⟨arr, h1, h2, h3, h4, h5⟩ := h.row hl
  have hmul : i * s + s ≤ c * s := by rw [← Nat.succ_mul]; exact Nat.mul_le_mul_right _ (by omega)
  refine ⟨arr, h1, by omega, h.mk' (Mem.set_same ..) (by rw [List.length_set]; omega) h3 ?_ fun j u hu => ?_⟩
  · simp only [List.size_toArray, List.length_append, List.length_take, List.length_drop, Array.length_toList, h.len]; omega
  · have hp := put_cells (arr := arr) (cs := enc x) (a := o + i * s) (j := o + j) (u := u) (by rw [h.len]; omega)
    rw [h.len] at hp
    rw [hp]
    have hjl := (List.getElem?_eq_some_iff.1 hu).1
    rw [h.flen, List.length_set] at hjl
    -- the element in which j lies
    have hs := h.pos
    have hq : j / s < E.length := Nat.div_lt_of_lt_mul (by rw [Nat.mul_comm]; exact hjl)
    have hjd : j = j / s * s + j % s := by rw [Nat.mul_comm]; exact (Nat.div_add_mod j s).symm
    have hml := Nat.mod_lt j hs
    have key : ∀ (F : List α) (hF : j / s < F.length), (F.flatMap enc)[j]? = (enc F[j / s])[j % s]? := fun F hF => by
      cases hx : (enc F[j / s])[j % s]? with
      | none => have := List.getElem?_eq_none_iff.1 hx; rw [h.len] at this; omega
      | some w => have := h.at hF hx; rw [← hjd] at this; exact this
    rw [key _ (by rw [List.length_set]; exact hq)] at hu
    by_cases e : j / s = i
    · subst e
      rw [List.getElem_set_self] at hu
      rw [if_neg (by omega), if_pos (by omega), show o + j - (o + j / s * s) = j % s by omega]
      exact hu
    · rw [List.getElem_set_ne (Ne.symm e)] at hu
      have h5' := h5 j u (by rw [key _ hq]; exact hu)
      by_cases hlt : j / s < i
      · have : j / s * s + s ≤ i * s := by rw [← Nat.succ_mul]; exact Nat.mul_le_mul_right _ hlt
        rw [if_pos (by omega)]; exact h5'
      · have : i * s + s ≤ j / s * s := by rw [← Nat.succ_mul]; exact Nat.mul_le_mul_right _ (by omega)
        rw [if_neg (by omega), if_neg (by omega)]; exact h5'
/-- the rest of a slice, from an element on -/
theorem EncOk.post (h : EncOk enc s) {m : Mem} {b o n c : Nat} {E : List α} (hl : Lies m s (.slice (some ⟨b, o, none⟩) n c) (E.flatMap enc)) {i : Nat} (hi : i ≤ n) {o' : Nat} (ho : i < n → o' = o + i * s) : Lies m s (.slice (some ⟨b, o', none⟩) (n - i) (c - i)) ((E.drop i).flatMap enc) := by
  rcases hl with ⟨c', e, _⟩ | ⟨b', o2, c', n', arr, t, fr, e, g1, g2, g3, g4, g5⟩
  · cases e
  · cases e
    have hn := h.count g2
    refine .inr ⟨b, o', c - i, n - i, arr, t, fr, rfl, g1, by rw [h.flen, List.length_drop, hn], by omega, fun j u hu => ?_, h.fone⟩
    have hjl := (List.getElem?_eq_some_iff.1 hu).1
    rw [h.flen, List.length_drop, hn] at hjl
    have hlt : i < n := by
      by_cases e : i < n
      · exact e
      · rw [show n - i = 0 by omega] at hjl; simp at hjl
    rw [← h.drop, List.getElem?_drop] at hu
    have := g4 _ _ hu
    rw [ho hlt, Nat.add_assoc]; exact this
end
theorem Split.grow {m m' : Mem} {l : List Mem} (h : Split m l) (hs : Sub m m') : Split m' l := ⟨h.1.trans hs, h.2⟩
/-- a row has these cells from a place on -/
def RowHas (arr : Array Value) (o : Nat) (l : List Value) : Prop := ∀ j u, l[j]? = some u → arr[o + j]? = some u
theorem RowHas.append {arr : Array Value} {o : Nat} {a b : List Value} (ha : RowHas arr o a) (hb : RowHas arr (o + a.length) b) : RowHas arr o (a ++ b) := fun j u hu => by
  by_cases h : j < a.length
  · rw [List.getElem?_append_left h] at hu; exact ha j u hu
  · rw [List.getElem?_append_right (by omega)] at hu
    have := hb _ _ hu
    rw [show o + a.length + (j - a.length) = o + j by omega] at this
    exact this
theorem RowHas.left {arr : Array Value} {o : Nat} {a b : List Value} (h : RowHas arr o (a ++ b)) : RowHas arr o a := fun j u hu => h j u (by rw [List.getElem?_append_left (List.getElem?_eq_some_iff.1 hu).1]; exact hu)
theorem RowHas.right {arr : Array Value} {o : Nat} {a b : List Value} (h : RowHas arr o (a ++ b)) : RowHas arr (o + a.length) b := fun j u hu => by
  rw [Nat.add_assoc]
  exact h (a.length + j) u (by rw [List.getElem?_append_right (by omega), show a.length + j - a.length = j by omega]; exact hu)
theorem RowHas.putSame {arr : Array Value} {a : Nat} {cs : List Value} (hfit : a + cs.length ≤ arr.size) : RowHas (arr.toList.take a ++ (cs ++ arr.toList.drop (a + cs.length))).toArray a cs := fun j u hu => by
  have hl := (List.getElem?_eq_some_iff.1 hu).1
  rw [put_cells hfit, if_neg (by omega), if_pos (by omega), show a + j - a = j by omega]; exact hu
theorem RowHas.putOther {arr : Array Value} {a o : Nat} {cs l : List Value} (h : RowHas arr o l) (hfit : a + cs.length ≤ arr.size) (hd : o + l.length ≤ a ∨ a + cs.length ≤ o) : RowHas (arr.toList.take a ++ (cs ++ arr.toList.drop (a + cs.length))).toArray o l := fun j u hu => by
  have hl := (List.getElem?_eq_some_iff.1 hu).1
  rw [put_cells hfit]
  rcases hd with hd | hd
  · rw [if_pos (by omega)]; exact h j u hu
  · rw [if_neg (by omega), if_neg (by omega)]; exact h j u hu
theorem put_size {arr : Array Value} {a : Nat} {cs : List Value} (hfit : a + cs.length ≤ arr.size) : (arr.toList.take a ++ (cs ++ arr.toList.drop (a + cs.length))).toArray.size = arr.size := by
  simp only [List.size_toArray, List.length_append, List.length_take, List.length_drop, Array.length_toList]; omega
/-- a store over the whole of a new block -/
theorem storeAll {mm : Mem} {b : Nat} {old : Array Value} {t : TypeId} {fr : Nat × Nat} {v : LB} (hsz : LB.size v = old.size) :
    (mm.set b (.cells old t fr)).set b (.cells (old.toList.take 0 ++ (LB.cells v ++ old.toList.drop (0 + LB.size v))).toArray t fr) = mm.set b (.cells (LB.cells v).toArray t fr) := by
  rw [Mem.set_set]
  have e : (old.toList.take 0 ++ (LB.cells v ++ old.toList.drop (0 + LB.size v))).toArray = (LB.cells v).toArray := by
    rw [List.drop_of_length_le (by rw [Array.length_toList]; omega)]; simp
  rw [e]
theorem noFr {n k : Nat} : ∀ j, j < n → ¬ (((0, 0) : Nat × Nat).1 ≤ k + j ∧ k + j < ((0, 0) : Nat × Nat).2) := fun j _ h => by simp only at h; omega
end Go.E

/-
  Dots, entries, carts and events as data: what the functions of the packages compute.
-/
namespace Go.E.YtheiididldemmaaGreat
open Go.Proofs
set_option maxRecDepth 100000
abbrev Dt := Int × Int
abbrev En := Int × Int × Int × Int
abbrev Ct := List Int × List En
abbrev Ev := (Int × Int × Int) × Dt × List Dt
def enDot (e : En) : Dt := (e.2.1, e.2.2.1)
def encD (d : Dt) : List Value := [.int .i64 d.1, .int .u64 d.2]
def encE (e : En) : List Value := [.int .i64 e.1, .int .i64 e.2.1, .int .u64 e.2.2.1, .int .i64 e.2.2.2]
theorem encD_ok : EncOk encD 2 := ⟨fun _ => rfl, fun x u hu => by simp [encD] at hu; rcases hu with rfl | rfl <;> rfl, by decide⟩
theorem encE_ok : EncOk encE 4 := ⟨fun _ => rfl, fun x u hu => by simp [encE] at hu; rcases hu with rfl | rfl | rfl | rfl <;> rfl, by decide⟩
theorem encD_inj {a b : Dt} (h : encD a = encD b) : a = b := by
  obtain ⟨a1, a2⟩ := a; obtain ⟨b1, b2⟩ := b
  simp [encD] at h; rw [h.1, h.2]
theorem encE_inj {a b : En} (h : encE a = encE b) : a = b := by
  obtain ⟨a1, a2, a3, a4⟩ := a; obtain ⟨b1, b2, b3, b4⟩ := b
  simp [encE] at h; rw [h.1, h.2.1, h.2.2.1, h.2.2.2]
def okD (d : Dt) : Prop := I d.1 ∧ U d.2
def okE (e : En) : Prop := I e.1 ∧ I e.2.1 ∧ U e.2.2.1 ∧ I e.2.2.2
def zeros : List Int := List.replicate 8 0
/-! ### orders -/
def cmpI (a b : Int) : Int := if a < b then -1 else if b < a then 1 else 0
def orI : List Int → Int
  | [] => 0
  | x :: r => if x = 0 then orI r else x
def dLess (a b : Dt) : Bool := decide (a.1 < b.1 ∨ (a.1 = b.1 ∧ a.2 < b.2))
def dOrd (a b : Dt) : Int := if dLess a b then -1 else if dLess b a then 1 else 0
def eOrd (a b : En) : Int := orI [cmpI a.1 b.1, cmpI a.2.1 b.2.1, cmpI a.2.2.1 b.2.2.1, cmpI a.2.2.2 b.2.2.2]
def eLess (a b : En) : Bool := decide (eOrd a b < 0)
theorem eLess_iff {a b : En} : eLess a b = true ↔ a.1 < b.1 ∨ (a.1 = b.1 ∧ (a.2.1 < b.2.1 ∨ (a.2.1 = b.2.1 ∧ (a.2.2.1 < b.2.2.1 ∨ (a.2.2.1 = b.2.2.1 ∧ a.2.2.2 < b.2.2.2))))) := by
  unfold eLess eOrd
  simp only [orI, cmpI, decide_eq_true_eq]
  by_cases h1 : a.1 < b.1
  · simp [h1]
  by_cases h2 : b.1 < a.1
  · simp [h1, h2]; omega
  by_cases h3 : a.2.1 < b.2.1
  · simp [h1, h2, h3]; omega
  by_cases h4 : b.2.1 < a.2.1
  · simp [h1, h2, h3, h4]; omega
  by_cases h5 : a.2.2.1 < b.2.2.1
  · simp [h1, h2, h3, h4, h5]; omega
  by_cases h6 : b.2.2.1 < a.2.2.1
  · simp [h1, h2, h3, h4, h5, h6]; omega
  by_cases h7 : a.2.2.2 < b.2.2.2
  · simp [h1, h2, h3, h4, h5, h6, h7]; omega
  by_cases h8 : b.2.2.2 < a.2.2.2
  · simp [h1, h2, h3, h4, h5, h6, h7, h8]
  · simp [h1, h2, h3, h4, h5, h6, h7, h8]
/-! ### sets of dots -/
def rightD (d : Dt) : Bool := rightN d.1 d.2
def sortD (l : List Dt) : List Dt := l.mergeSort fun x y => !dLess y x
def compD : List Dt → List Dt
  | [] => []
  | [a] => [a]
  | a :: b :: r => if a = b then compD (b :: r) else a :: compD (b :: r)
def setF (l : List Dt) : List Dt := (compD (sortD (l.filter rightD))).take 2000
def ascD : List Dt → Bool
  | a :: b :: r => dLess a b && ascD (b :: r)
  | _ => true
def rightsD (l : List Dt) : Bool := l.all rightD && ascD l && decide (l.length ≤ 2000)
def withD (v : List Int) (d : Dt) : List Int := withN v d.1 d.2
def spanFrom (v : List Int) (l : List Dt) : List Int := l.foldl (fun v d => if rightD d then withD v d else v) v
def spanD (l : List Dt) : List Int := spanFrom zeros l
def hasV (v : List Int) (d : Dt) : Bool := rightD d && decide (d.2 ≤ getN v d.1)
def nextOk (v : List Int) (d : Dt) : Bool := isN d.1 && !decide (getN v d.1 = 18446744073709551615) && decide (d.2 = getN v d.1 + 1)
def wholeFrom (v : List Int) : List Dt → Bool
  | [] => true
  | d :: r => nextOk v d && wholeFrom (withD v d) r
def wholeD (l : List Dt) : Bool := wholeFrom zeros l && rightsD l
/-! ### carts -/
def sortE (l : List En) : List En := l.mergeSort fun x y => !eLess y x
def isOff (c : Ct) (d : Dt) : Bool := hasV c.1 d && !c.2.any fun e => decide (enDot e = d)
/-! ### ops, events -/
def mayF (k i q : Int) : Bool :=
  if k = 4 then decide (i = 0) && decide (q = 0)
  else if ¬ (1 ≤ i ∧ i ≤ 60) then false
  else if k = 1 then !decide (q = 0) && decide (-1000 ≤ q ∧ q ≤ 1000)
  else if k = 2 then decide (0 ≤ q ∧ q ≤ 1000)
  else decide (k = 3) && decide (q = 0)
def addsE (x : Ev) : Bool := decide (x.1.1 = 1) || decide (x.1.1 = 2)
def rightE (x : Ev) : Bool :=
  if rightsD x.2.2 = false ∨ x.2.2.contains x.2.1 = true ∨ (x.1.1 = 1 ∧ 0 < x.2.2.length) then false
  else if addsE x then mayF x.1.1 x.1.2.1 x.1.2.2 && rightD x.2.1
  else (decide (x.1.1 = 3) || decide (x.1.1 = 4)) && decide (x.1.2.1 = 0) && decide (x.1.2.2 = 0) && decide (x.2.1 = (0, 0))
def unionFrom (out : List Ev) : List Ev → List Ev
  | [] => out
  | x :: r => if out.contains x then unionFrom out r else unionFrom (out ++ [x]) r
def unionE (a b : List Ev) : List Ev := unionFrom [] (a ++ b)
def dotsL (l : List Ev) : List Dt := (l.filter fun x => addsE x && rightE x).map (·.2.1)
def dotsE (l : List Ev) : List Dt := setF (dotsL l)
def offE (l : List Ev) : List Dt := l.flatMap (·.2.2)
def clashes (x y : Ev) : Bool := addsE y && decide (x.2.1 = y.2.1) && !decide (x = y)
def clashFrom (pre : List Ev) : List Ev → Bool
  | [] => false
  | x :: r => (addsE x && pre.any (clashes x)) || clashFrom (pre ++ [x]) r
def wholeE (l : List Ev) : Bool := (l.all rightE && !clashFrom [] l) && (wholeD (dotsE l) && (offE l).all fun d => (dotsE l).contains d)
def entE (x : Ev) : En := (x.1.2.1, x.2.1.1, x.2.1.2, x.1.2.2)
def liveE (l : List Ev) : List En := ((unionE l []).filter fun x => addsE x && !(offE l).contains x.2.1).map entE
def cartE (l : List Ev) : Ct × Int :=
  if wholeE l = false then ((zeros, []), 7)
  else if 400 < (liveE l).length then ((zeros, []), 5)
  else ((spanD (dotsE l), sortE (liveE l)), 0)
def knowsE (c : Ct) (x : Ev) : Bool :=
  if rightD x.2.1 then hasV c.1 x.2.1 else decide (0 < x.2.2.length) && x.2.2.all fun d => isOff c d
/-! ### the law: what nothing knows, and all of it -/
theorem hasV_zeros (d : Dt) : hasV zeros d = false := by
  unfold hasV rightD rightN
  have : getN zeros d.1 = 0 := by
    unfold getN zeros
    split
    · rw [List.getD_eq_getElem?_getD, List.getElem?_replicate]; split <;> rfl
    · rfl
  rw [this]
  by_cases h : 0 < d.2
  · have : ¬ d.2 ≤ 0 := by omega
    simp [this]
  · simp [h]
theorem knows_none (x : Ev) : knowsE (zeros, []) x = false := by
  unfold knowsE
  split
  · exact hasV_zeros _
  · cases h : x.2.2 with
    | nil => simp
    | cons d r =>
      have : isOff (zeros, []) d = false := by unfold isOff; rw [hasV_zeros]; rfl
      simp [this]
theorem filter_none (l : List Ev) : l.filter (knowsE (zeros, [])) = [] := by
  rw [List.filter_eq_nil_iff]
  intro x _; rw [knows_none]; simp
theorem compD_mem : ∀ {l : List Dt} {d : Dt}, d ∈ compD l ↔ d ∈ l
  | [], d => Iff.rfl
  | [a], d => Iff.rfl
  | a :: b :: r, d => by
    have ih := compD_mem (l := b :: r) (d := d)
    unfold compD
    split
    · rename_i h; subst h; rw [ih]; simp
    · rw [List.mem_cons, ih, List.mem_cons (a := d) (b := a)]
theorem compD_len : ∀ (l : List Dt), (compD l).length ≤ l.length
  | [] => Nat.le_refl _
  | [a] => Nat.le_refl _
  | a :: b :: r => by
    have ih := compD_len (b :: r)
    unfold compD
    split <;> simp only [List.length_cons] at * <;> omega
theorem setF_mem {l : List Dt} (hl : l.length ≤ 2000) {d : Dt} : d ∈ setF l ↔ d ∈ l ∧ rightD d = true := by
  unfold setF
  have h1 := compD_len (sortD (l.filter rightD))
  have h2 : (sortD (l.filter rightD)).length ≤ l.length := by
    unfold sortD; rw [List.length_mergeSort]; exact List.length_filter_le ..
  rw [List.take_of_length_le (by omega), compD_mem]
  unfold sortD
  rw [List.mem_mergeSort, List.mem_filter]
theorem getN_with {v : List Int} (hv : v.length = 8) {d : Dt} (n : Int) : getN v n ≤ getN (withD v d) n := by
  unfold withD withN
  split
  · rename_i h
    unfold getN
    split
    · rw [List.getD_eq_getElem?_getD, List.getD_eq_getElem?_getD, List.getElem?_set]
      split
      · split
        · rename_i e _
          rw [← e]; simp only [List.getD_eq_getElem?_getD, Option.getD_some]; omega
        · rename_i e1 e2
          have := isN_iff.1 h; omega
      · exact Int.le_refl _
    · exact Int.le_refl _
  · exact Int.le_refl _
theorem withD_len {v : List Int} {d : Dt} : (withD v d).length = v.length := by
  unfold withD withN; split <;> simp
theorem getN_own {v : List Int} (hv : v.length = 8) {d : Dt} (hd : isN d.1 = true) : d.2 ≤ getN (withD v d) d.1 := by
  have hb := isN_iff.1 hd
  unfold withD withN getN
  rw [if_pos hd, if_pos hd, List.getD_eq_getElem?_getD, List.getElem?_set, if_pos rfl, if_pos (by omega)]
  simp only [Option.getD_some]; omega
theorem span_ge : ∀ (l : List Dt) (v : List Int), v.length = 8 → ∀ n, getN v n ≤ getN (spanFrom v l) n
  | [], v, _, n => Int.le_refl _
  | d :: r, v, hv, n => by
    simp only [spanFrom, List.foldl_cons]
    split
    · exact Int.le_trans (getN_with hv n) (span_ge r _ (by rw [withD_len]; exact hv) n)
    · exact span_ge r v hv n
theorem span_has : ∀ (l : List Dt) (v : List Int), v.length = 8 → ∀ d ∈ l, rightD d = true → hasV (spanFrom v l) d = true
  | [], _, _, d, h, _ => by cases h
  | a :: r, v, hv, d, h, hd => by
    simp only [spanFrom, List.foldl_cons]
    rcases List.mem_cons.1 h with rfl | h
    · rw [if_pos hd]
      have hn : isN d.1 = true := by unfold rightD rightN at hd; simp at hd; exact hd.1
      have h1 := getN_own hv hn
      have h2 := span_ge r (withD v d) (by rw [withD_len]; exact hv) d.1
      unfold hasV
      have : d.2 ≤ getN (spanFrom (withD v d) r) d.1 := by omega
      rw [hd, Bool.true_and]
      exact decide_eq_true this
    · split
      · exact span_has r _ (by rw [withD_len]; exact hv) d h hd
      · exact span_has r v hv d h hd
theorem clash_pair : ∀ (l pre : List Ev), clashFrom pre l = false ↔ (∀ y ∈ l, ∀ x ∈ pre, (addsE y && clashes y x) = false) ∧ l.Pairwise fun x y => (addsE y && clashes y x) = false
  | [], pre => by simp [clashFrom]
  | x :: r, pre => by
    rw [clashFrom, Bool.or_eq_false_iff, clash_pair r (pre ++ [x]), List.pairwise_cons]
    constructor
    · rintro ⟨h1, h2, h3⟩
      refine ⟨fun y hy u hu => ?_, fun y hy => ?_, h3⟩
      · rcases List.mem_cons.1 hy with rfl | hy
        · cases ha : addsE y with
          | false => rfl
          | true =>
            rw [ha, Bool.true_and] at h1
            have := List.any_eq_false.1 h1 u hu
            simpa using this
        · exact h2 y hy u (by simp [hu])
      · exact h2 y hy x (by simp)
    · rintro ⟨h1, h2, h3⟩
      refine ⟨?_, fun y hy u hu => ?_, h3⟩
      · cases ha : addsE x with
        | false => rfl
        | true =>
          rw [Bool.true_and, List.any_eq_false]
          intro u hu
          have := h1 x (by simp) u hu
          rw [ha, Bool.true_and] at this
          rw [this]; simp
      · rcases List.mem_append.1 hu with hu | hu
        · exact h1 y (by simp [hy]) u hu
        · rw [List.mem_singleton.1 hu]; exact h2 y hy
theorem unionFrom_nodup : ∀ (l out : List Ev), (out ++ l).Nodup → unionFrom out l = out ++ l
  | [], out, _ => by simp [unionFrom]
  | x :: r, out, h => by
    have hx : out.contains x = false := by
      rw [List.contains_eq_mem]
      refine decide_eq_false fun hm => ?_
      rw [List.nodup_append] at h
      exact h.2.2 x hm x (by simp) rfl
    rw [unionFrom, hx, if_neg (by simp), unionFrom_nodup r (out ++ [x]) (by simpa using h)]
    simp
theorem unionFrom_is : ∀ (l out : List Ev), out.Nodup → (unionFrom out l).Nodup
  | [], out, h => h
  | x :: r, out, h => by
    rw [unionFrom]
    split
    · exact unionFrom_is r out h
    · rename_i hx
      refine unionFrom_is r _ ?_
      rw [List.nodup_append]
      refine ⟨h, by simp, fun a ha b hb => ?_⟩
      rw [List.mem_singleton.1 hb]
      intro e
      subst e
      exact hx (by simpa using ha)
theorem unionE_nodup (a b : List Ev) : (unionE a b).Nodup := unionFrom_is _ _ (by simp)
theorem unionE_same {l : List Ev} (h : l.Nodup) : unionE l [] = l := by
  unfold unionE
  rw [List.append_nil, unionFrom_nodup l [] (by simpa using h), List.nil_append]
theorem flat_filter (p : Ev → Bool) : ∀ (l : List Ev), (∀ x ∈ l, p x = false → x.2.2 = []) → (l.filter p).flatMap (·.2.2) = l.flatMap (·.2.2)
  | [], _ => rfl
  | x :: r, h => by
    have ih := flat_filter p r fun y hy => h y (by simp [hy])
    cases hp : p x with
    | true => rw [List.filter_cons_of_pos hp, List.flatMap_cons, List.flatMap_cons, ih]
    | false => rw [List.filter_cons_of_neg (by rw [hp]; simp), List.flatMap_cons, ih, h x (by simp) hp, List.nil_append]
theorem rightE_adds {x : Ev} (h : rightE x = true) (ha : addsE x = true) : rightD x.2.1 = true := by
  unfold rightE at h
  split at h
  · cases h
  simp only [ha, if_true, Bool.and_eq_true] at h; exact h.2
theorem rightE_not {x : Ev} (h : rightE x = true) (ha : addsE x = false) : rightD x.2.1 = false := by
  unfold rightE at h
  split at h
  · cases h
  simp only [ha, Bool.false_eq_true, if_false, Bool.and_eq_true, decide_eq_true_eq] at h
  rw [h.2]; decide
theorem whole_stays {l : List Ev} {c : Ct} (hl : l.length ≤ 2000) (hn : l.Nodup) (h : cartE l = (c, 0)) : cartE (l.filter (knowsE c)) = (c, 0) := by
  unfold cartE at h
  split at h
  · cases h
  rename_i hw
  split at h
  · cases h
  rename_i hlen
  have hw : wholeE l = true := by simpa using hw
  have hc : c = (spanD (dotsE l), sortE (liveE l)) := by cases h; rfl
  clear h
  have hW := hw
  unfold wholeE at hW
  simp only [Bool.and_eq_true, Bool.not_eq_true', List.all_eq_true, List.contains_eq_mem, decide_eq_true_eq] at hW
  obtain ⟨⟨hR, hC⟩, hD, hO⟩ := hW
  have hdl : (dotsL l).length ≤ 2000 := by
    unfold dotsL; rw [List.length_map]; exact Nat.le_trans (List.length_filter_le ..) hl
  have hdm : ∀ d, d ∈ dotsE l ↔ d ∈ dotsL l ∧ rightD d = true := fun d => setF_mem hdl
  have hspan : ∀ d ∈ dotsE l, hasV c.1 d = true := fun d hd => by
    rw [hc]; exact span_has _ _ rfl d hd ((hdm d).1 hd).2
  have hadd : ∀ x ∈ l, addsE x = true → knowsE c x = true := fun x hx ha => by
    have hr := rightE_adds (hR x hx) ha
    unfold knowsE
    rw [if_pos hr]
    refine hspan _ ((hdm _).2 ⟨?_, hr⟩)
    unfold dotsL
    exact List.mem_map.2 ⟨x, List.mem_filter.2 ⟨hx, by rw [ha, hR x hx]; rfl⟩, rfl⟩
  have hun : unionE l [] = l := unionE_same hn
  have hoff : ∀ d ∈ offE l, isOff c d = true := fun d hd => by
    unfold isOff
    rw [hspan d (hO d hd), Bool.true_and, Bool.not_eq_true', List.any_eq_false]
    intro e he
    rw [hc] at he
    have he : e ∈ liveE l := by unfold sortE at he; exact List.mem_mergeSort.1 he
    unfold liveE at he
    obtain ⟨x, hx, rfl⟩ := List.mem_map.1 he
    have hx := (List.mem_filter.1 hx).2
    simp only [Bool.and_eq_true, Bool.not_eq_true', List.contains_eq_mem, decide_eq_false_iff_not] at hx
    simp only [decide_eq_true_eq]
    intro e
    have e : x.2.1 = d := e
    rw [e] at hx
    exact hx.2 hd
  have hnot : ∀ x ∈ l, knowsE c x = false → x.2.2 = [] := fun x hx hk => by
    cases ha : addsE x with
    | true => rw [hadd x hx ha] at hk; cases hk
    | false =>
      have hr := rightE_not (hR x hx) ha
      unfold knowsE at hk
      rw [if_neg (by rw [hr]; simp)] at hk
      have hall : (x.2.2.all fun d => isOff c d) = true := List.all_eq_true.2 fun d hd => hoff d (List.mem_flatMap.2 ⟨x, hx, hd⟩)
      rw [hall, Bool.and_true] at hk
      have := of_decide_eq_false hk
      exact List.eq_nil_of_length_eq_zero (by omega)
  have k1 : dotsL (l.filter (knowsE c)) = dotsL l := by
    unfold dotsL
    rw [List.filter_filter]
    congr 1
    refine List.filter_congr fun x hx => ?_
    cases ha : addsE x with
    | true => rw [hadd x hx ha]; simp
    | false => simp
  have k2 : offE (l.filter (knowsE c)) = offE l := flat_filter _ _ hnot
  have k3 : unionE (l.filter (knowsE c)) [] = l.filter (knowsE c) := unionE_same (hn.filter _)
  have k4 : liveE (l.filter (knowsE c)) = liveE l := by
    unfold liveE
    rw [k3, k2, hun, List.filter_filter]
    congr 1
    refine List.filter_congr fun x hx => ?_
    cases ha : addsE x with
    | true => rw [hadd x hx ha]; simp
    | false => simp
  have k5 : dotsE (l.filter (knowsE c)) = dotsE l := by unfold dotsE; rw [k1]
  have k6 : wholeE (l.filter (knowsE c)) = true := by
    unfold wholeE
    rw [k5, k2]
    simp only [Bool.and_eq_true, Bool.not_eq_true', List.all_eq_true, List.contains_eq_mem, decide_eq_true_eq]
    refine ⟨⟨fun x hx => hR x (List.mem_filter.1 hx).1, ?_⟩, hD, hO⟩
    rw [clash_pair] at hC ⊢
    exact ⟨by simp, hC.2.sublist List.filter_sublist⟩
  unfold cartE
  rw [if_neg (by rw [k6]; simp), k4, if_neg hlen, k5, hc]
theorem cart_nil : cartE [] = ((zeros, []), 0) := by
  unfold cartE
  have h : wholeE [] = true := by decide +kernel
  have h2 : liveE [] = [] := rfl
  have h3 : dotsE [] = [] := by unfold dotsE setF sortD; simp [dotsL, compD]
  rw [if_neg (by rw [h]; simp), h2, if_neg (by decide), h3]
  simp [sortE, spanD, spanFrom]
end Go.E.YtheiididldemmaaGreat

/-
  Contracts of cmp.Compare, cmp.Or; lists of whole numbers that are built.
-/
namespace Go.E.YtheiididldemmaaGreat
open Go.Proofs
set_option maxRecDepth 100000
theorem isNaNi_spec {m : Mem} {x : Int} : Ret Tryz.prog 108 [i64 x] m [boolV false] := by
  refine en108 rfl (goY ?_)
  conv => whnf
  exact ⟨by simp, rfl⟩
theorem isNaNu_spec {m : Mem} {x : Int} : Ret Tryz.prog 109 [u64 x] m [boolV false] := by
  refine en109 rfl (goY ?_)
  conv => whnf
  exact ⟨by simp, rfl⟩
theorem cmpInt_spec {m : Mem} {x y : Int} : Ret Tryz.prog 94 [i64 x, i64 y] m [i64 (cmpI x y)] := by
  refine en94 rfl (goY ?_)
  conv => whnf
  first | refine xretk (isNaNi_spec) ?_ | refine xret (isNaNi_spec) ?_
  conv => whnf
  first | refine xretk (isNaNi_spec) ?_ | refine xret (isNaNi_spec) ?_
  conv => whnf
  refine ⟨fun h => absurd h (by first | decide | simp), fun _ => ?_⟩
  conv => whnf
  refine ⟨fun h => absurd h (by first | decide | simp), fun _ => ?_⟩
  conv => whnf
  refine ⟨fun h => ?_, fun h => ?_⟩
  · conv => whnf
    exact ⟨by rw [cmpI, if_pos (of_decide_eq_true h)], rfl⟩
  have h1 := of_decide_eq_false h
  conv => whnf
  refine ⟨fun h => ?_, fun h => ?_⟩
  · conv => whnf
    exact ⟨by rw [cmpI, if_neg h1, if_pos (of_decide_eq_true h)], rfl⟩
  · conv => whnf
    exact ⟨by rw [cmpI, if_neg h1, if_neg (of_decide_eq_false h)], rfl⟩
theorem cmpUint_spec {m : Mem} {x y : Int} : Ret Tryz.prog 95 [u64 x, u64 y] m [i64 (cmpI x y)] := by
  refine en95 rfl (goY ?_)
  conv => whnf
  first | refine xretk (isNaNu_spec) ?_ | refine xret (isNaNu_spec) ?_
  conv => whnf
  first | refine xretk (isNaNu_spec) ?_ | refine xret (isNaNu_spec) ?_
  conv => whnf
  refine ⟨fun h => absurd h (by first | decide | simp), fun _ => ?_⟩
  conv => whnf
  refine ⟨fun h => absurd h (by first | decide | simp), fun _ => ?_⟩
  conv => whnf
  refine ⟨fun h => ?_, fun h => ?_⟩
  · conv => whnf
    exact ⟨by rw [cmpI, if_pos (of_decide_eq_true h)], rfl⟩
  have h1 := of_decide_eq_false h
  conv => whnf
  refine ⟨fun h => ?_, fun h => ?_⟩
  · conv => whnf
    exact ⟨by rw [cmpI, if_neg h1, if_pos (of_decide_eq_true h)], rfl⟩
  · conv => whnf
    exact ⟨by rw [cmpI, if_neg h1, if_neg (of_decide_eq_false h)], rfl⟩
theorem orI_zero : ∀ {l : List Int}, (∀ x ∈ l, x = 0) → orI l = 0
  | [], _ => rfl
  | x :: r, h => by rw [orI, if_pos (h x (by simp)), orI_zero fun y hy => h y (by simp [hy])]
theorem orI_at : ∀ {l : List Int} {i : Nat} (hi : i < l.length), (∀ x ∈ l.take i, x = 0) → l[i] ≠ 0 → orI l = l[i]
  | x :: r, 0, _, _, hne => by
    have hne : x ≠ 0 := hne
    rw [orI, if_neg hne]; rfl
  | x :: r, i + 1, hi, h, hne => by
    rw [orI, if_pos (h x (by simp))]
    exact orI_at (l := r) (by simpa using hi) (fun y hy => h y (by simp [hy])) hne
theorem orInt_spec {m : Mem} {v : Value} {l : List Int} (hv : Il m v l) (hl : l.length ≤ 1000000) : Ret Tryz.prog 93 [.v v] m [i64 (orI l)] := by
  obtain ⟨a, c, rfl⟩ := hv.shape
  refine en93 rfl (goY ?_)
  conv => whnf
  refine .mk (ι := Nat) (fun i => l.length - i) (fun i mm => i ≤ l.length ∧ (∀ x ∈ l.take i, x = 0) ∧ mm = m) (fun i => [(3, .c (i64 0)), (6, .c (.v (.slice a l.length c))), (7, .c (i64 l.length)), (8, .c (i64 i))]) (fun _ => []) 0 ⟨by omega, by simp, rfl⟩ ?_ ?_
  · conv => whnf
    repeat (refine And.intro (by first | with_reducible rfl | exact congrArg (Value.int _) (wi (by omega) (by omega)) | exact wi (by omega) (by omega) | rfl) ?_; conv => whnf)
    first | exact trivial | exact fun _ _ h => h
  rintro i mm ⟨hi, hall, he⟩
  subst mm
  conv => whnf
  refine ⟨fun h => ?_, fun h => ?_⟩
  · have h' := of_decide_eq_true h
    have hlt : i < l.length := by omega
    obtain ⟨bl, ol, c', hh, hg⟩ := hv.real hlt
    injection hh with hh1 _ hh3
    subst hh1
    clear hh3 c'
    have hg := hg i hlt
    conv => whnf
    repeat (refine And.intro (by first | omega | (simp only [times]; omega)) ?_; conv => whnf)
    refine ⟨_, by simp only [times, Int.toNat_natCast, Nat.mul_one]; exact hg, rfl, ?_⟩
    conv => whnf
    have hst : l.take (i + 1) = l.take i ++ [l[i]] := List.take_succ_eq_append_getElem hlt
    refine ⟨fun h => ?_, fun h => ?_⟩
    · have hne : l[i] ≠ 0 := by simpa using h
      conv => whnf
      exact ⟨by rw [orI_at hlt hall hne], rfl⟩
    · have hz : l[i] = 0 := by simpa using h
      conv => whnf
      refine ⟨i + 1, ⟨by omega, fun x hx => ?_, rfl⟩, by omega, ?_⟩
      · rw [hst] at hx
        rcases List.mem_append.1 hx with hx | hx
        · exact hall x hx
        · rw [List.mem_singleton.1 hx]; exact hz
      · conv => whnf
        repeat (refine And.intro (by first | with_reducible rfl | (first | exact congrArg (Value.int _) (iadd1 (by omega))) | exact congrArg (Value.int _) (wi (by omega) (by omega)) | exact wi (by omega) (by omega) | rfl) ?_; conv => whnf)
        first | exact trivial | exact fun _ _ h => h
  · have h' := of_decide_eq_false h
    obtain rfl : i = l.length := by omega
    rw [List.take_length] at hall
    conv => whnf
    exact ⟨by rw [orI_zero hall], rfl⟩
theorem buildI_2 {m : Mem} {x y : Int} : PrimSpec Tryz.prog (.buildSlice 148 2 [0, 1]) [i64 x, i64 y] m fun r m' => ∃ b, m b = none ∧ r = [.v (.slice (some ⟨b, 0, none⟩) 2 2)] ∧ m' = m.set b (.cells (ic [x, y]).toArray 3) :=
  buildSlice_spec (n := 2) tt_ok hIs rfl hI' rfl rfl (by simp [CV.cs]) (by simp) (by simp)
theorem buildI_4 {m : Mem} {x y z u : Int} : PrimSpec Tryz.prog (.buildSlice 148 4 [0, 1, 2, 3]) [i64 x, i64 y, i64 z, i64 u] m fun r m' => ∃ b, m b = none ∧ r = [.v (.slice (some ⟨b, 0, none⟩) 4 4)] ∧ m' = m.set b (.cells (ic [x, y, z, u]).toArray 3) :=
  buildSlice_spec (n := 4) tt_ok hIs rfl hI' rfl rfl (by simp [CV.cs]) (by simp) (by simp)
theorem Il.blk {m : Mem} {b : Nat} {l : List Int} {t : TypeId} {fr : Nat × Nat} (h : m b = some (.cells (ic l).toArray t fr)) : Il m (.slice (some ⟨b, 0, none⟩) l.length l.length) l :=
  .inr ⟨b, 0, l.length, l.length, _, _, _, rfl, h, by simp, Nat.le_refl _, fun j u hu => by rw [Nat.zero_add, List.getElem?_toArray]; exact hu, ic_one⟩
end Go.E.YtheiididldemmaaGreat

/-
  Function values with captured places; the place of the first element of which something is true.
-/
namespace Go.E
abbrev fn0V (F : Nat) : CV := .v (.func (.func F) #[] #[])
abbrev fnP1V (F b : Nat) : CV := .v (.func (.func F) #[] #[.pointer (some ⟨b, 0, none⟩)])
abbrev fnP2V (F b b2 : Nat) : CV := .v (.func (.func F) #[] #[.pointer (some ⟨b, 0, none⟩), .pointer (some ⟨b2, 0, none⟩)])
theorem beqG (x y : Int) : (x == y) = decide (x = y) := by by_cases h : x = y <;> simp [h]
section
variable {α : Type}
/-- where the first one is of which p holds; -1 for none -/
def idxG (p : α → Bool) (E : List α) : Int := if E.any p then (E.findIdx p : Int) else -1
theorem idxG_at {p : α → Bool} {E : List α} {i : Nat} (hi : i < E.length) (hall : ∀ x ∈ E.take i, p x = false) (h : p E[i] = true) : idxG p E = i := by
  have h1 : E.any p = true := List.any_eq_true.2 ⟨_, List.getElem_mem hi, h⟩
  rw [idxG, if_pos h1]
  have : E.findIdx p = i := by
    rw [List.findIdx_eq hi]
    refine ⟨h, fun j hj => ?_⟩
    have := hall E[j] (List.mem_take_iff_getElem.2 ⟨j, by omega, rfl⟩)
    simpa using this
  rw [this]
theorem idxG_none {p : α → Bool} {E : List α} (hall : ∀ x ∈ E, p x = false) : idxG p E = -1 := by
  rw [idxG, if_neg]
  intro h
  obtain ⟨x, hx, hp⟩ := List.any_eq_true.1 h
  rw [hall x hx] at hp; cases hp
theorem idxG_nonneg (p : α → Bool) (E : List α) : decide (0 ≤ idxG p E) = E.any p := by
  unfold idxG
  split
  · rename_i h; rw [h]; exact decide_eq_true (by omega)
  · rename_i h
    have : E.any p = false := by simpa using h
    rw [this]; exact decide_eq_false (by omega)
theorem idxG_split (p : α → Bool) (E : List α) : (idxG p E = -1 ∧ ∀ x ∈ E, p x = false) ∨ ∃ (i : Nat) (h : i < E.length), idxG p E = i ∧ p E[i] = true ∧ ∀ x ∈ E.take i, p x = false := by
  by_cases h : E.any p = true
  · refine .inr ?_
    have hlt : E.findIdx p < E.length := List.findIdx_lt_length.2 (List.any_eq_true.1 h)
    refine ⟨E.findIdx p, hlt, by rw [idxG, if_pos h], List.findIdx_getElem, fun x hx => ?_⟩
    obtain ⟨j, hj, rfl⟩ := List.mem_take_iff_getElem.1 hx
    simpa using List.not_of_lt_findIdx (p := p) (xs := E) (i := j) (by omega)
  · refine .inl ⟨by rw [idxG, if_neg h], fun x hx => ?_⟩
    cases hp : p x with
    | false => rfl
    | true => exact absurd (List.any_eq_true.2 ⟨x, hx, hp⟩) h
end
/-- what leaves all that was known, and more, as it was -/
theorem Spec.ret {P : Program} {f : FuncId} {args r : List CV} {m : Mem} {R : List CV → Mem → Prop} (h : Spec P f args m R) (k : ∀ r' m', R r' m' → r' = r ∧ Sub m m') : Ret P f args m r := by
  refine ⟨h.1, fun ha W hW => (h.2 ha W hW).mono fun e W' ⟨r', m', h1, h2, h3, h4⟩ => ?_⟩
  obtain ⟨rfl, hs⟩ := k _ _ h3
  exact ⟨_, m, h1, h2, ⟨rfl, rfl⟩, h4.forget hs⟩
end Go.E

/-
  slices.SortFunc at structs, out of the library's contract: of memory that is owned.
-/
namespace Go.E
open Go.Proofs Go.Shelf Go.RowKit Go.Lib Go.Sort
set_option maxRecDepth 100000
/-- what leaves all as it was: new blocks, draws -/
theorem After.grown {W W' : World} {m' : Mem} (h : After emp W m' W') (hd : W.drawn ≤ W'.drawn) : ∃ q os, W' = grow (W.drewN q) os := by
  refine ⟨W'.drawn - W.drawn, W'.heap.extract W.heap.size W'.heap.size, ?_⟩
  have e1 : W'.heap = W.heap ++ W'.heap.extract W.heap.size W'.heap.size := by
    refine Array.ext_getElem? fun i => ?_
    by_cases hi : i < W.heap.size
    · rw [Array.getElem?_append_left hi]; exact (h.frame i hi rfl).2
    · rw [Array.getElem?_append_right (by omega), Array.getElem?_extract]
      have := h.size
      split
      · congr 1; omega
      · rw [Array.getElem?_eq_none]; omega
  have e2 : W'.drawn = W.drawn + (W'.drawn - W.drawn) := by omega
  have h1 := h.tape
  have h2 := h.os
  have h3 := h.output
  cases W' with
  | mk heap tape drawn os output =>
    simp only at e1 e2 h1 h2 h3
    subst h1 h2 h3
    show World.mk _ _ _ _ _ = World.mk _ _ _ _ _
    rw [World.mk.injEq]
    exact ⟨e1, rfl, e2, rfl, rfl⟩
theorem after_sortedK {m : Mem} {W : World} (hW : Over m W) {b o k : Nat} {arr : Array Value} {T : TypeId} {fr : Nat × Nat} (hb : m b = some (.cells arr T fr)) (d : Array Value) (os : Array Obj) :
    After m W (m.set b (.cells (Sort.putCells id o d arr) T fr)) (Sort.grow (Sort.putRow id (Sort.ahead W k) b o d) os) := by
  have hWb := hW _ _ hb
  have hlt := hW.lt hb
  have hold : ∀ x, x < W.heap.size → (Sort.grow (Sort.putRow id (Sort.ahead W k) b o d) os).heap[x]? = if b = x then some (.cells (Sort.putCells id o d arr) T fr) else W.heap[x]? := fun x hx => by
    have e : (Sort.grow (Sort.putRow id (Sort.ahead W k) b o d) os).heap = W.heap.modify b (Sort.onCells (Sort.putCells id o d)) ++ os := rfl
    rw [e, Array.getElem?_append_left (by simpa using hx), Array.getElem?_modify]
    by_cases h : b = x
    · subst h; simp [hWb, Sort.onCells]
    · simp [h]
  refine ⟨fun x u hx => ?_, ?_, rfl, rfl, rfl, fun x hx hn => ?_, fun _ => Nat.le_add_right _ _⟩
  · by_cases h : x = b
    · subst h; rw [Mem.set_same] at hx; rw [hold _ hlt, if_pos rfl]; exact hx
    · rw [Mem.set_ne _ _ h] at hx
      rw [hold _ (hW.lt hx), if_neg (Ne.symm h)]; exact hW _ _ hx
  · show W.heap.size ≤ (W.heap.modify b (Sort.onCells (Sort.putCells id o d)) ++ os).size
    simp
  · have h : x ≠ b := fun e => by subst e; rw [hb] at hn; cases hn
    exact ⟨by rw [Mem.set_ne _ _ h]; exact hn, by rw [hold _ hx, if_neg (Ne.symm h)]⟩
theorem flatK_at {α : Type} [Inhabited α] {enc : α → List Value} {k : Nat} (h : EncOk enc k) {E : List α} {t : Nat} (ht : t < E.length * k) : (E.flatMap enc)[t]? = some (flatK enc k E.toArray)[t]! := by
  have hpos := h.pos
  have hq : t / k < E.length := Nat.div_lt_of_lt_mul (by rw [Nat.mul_comm]; exact ht)
  have hr := Nat.mod_lt t hpos
  have hl : t % k < (enc E[t / k]).length := by rw [h.len]; exact hr
  have e1 := h.at hq (List.getElem?_eq_getElem hl)
  rw [Nat.mul_comm, Nat.div_add_mod] at e1
  rw [e1, get_flatK _ _ _ _ (by simpa using ht)]
  congr 1
  have e2 : E.toArray[t / k]! = E[t / k] := by simp [hq]
  rw [e2]
  simp [hl]
section
variable {P : Program} {ρ : Ren} {α : Type} [Inhabited α]
theorem sortK_spec (hS : Strict) (L : SlLaysF0.n6 P ρ) {k : Nat} (aE : ∀ w, (isAgg (ρ.t 24)).run P w = .ok true w) (zE : ∀ w, (Go.sizeOf (ρ.t 24)).run P w = .ok k w) {enc : α → List Value} (hk : EncOk enc k) {cf : α → α → Int} (hO : SWO (ltOf cf)) (hT : ∀ x y, (ltOf cf) x y = false → (ltOf cf) y x = false → x = y) {g : Nat} (es : Enters P (ρ.f 6))
    {parts : α → LB} (hp : ∀ x, LB.cells (parts x) = enc x) (hpo : ∀ x, LB.ok (parts x)) (hcf : ∀ x y, Spec P g [.a (parts x), .a (parts y)] emp fun r _ => r = [i64 (cf x y)])
    {m : Mem} {e : TypeId} {v : Value} {E : List α} (hv : Own m e k v (E.flatMap enc)) (hl : E.length ≤ 1000000000) :
    Spec P (ρ.f 6) [.v v, fn0V g] m fun r m' => r = [] ∧ Own m' e k v ((E.mergeSort fun x y => !ltOf cf y x).flatMap enc) := by
  refine ⟨es, fun _ W hW => ?_⟩
  rcases hv with ⟨rfl, e0⟩ | ⟨b, o, c, n, arr, rfl, h1, h2, h3, h4, h5, h6⟩
  · have hE : E = [] := List.eq_nil_of_length_eq_zero (hk.count (n := 0) (by rw [e0]; simp))
    subst hE
    exact (AnyF.slices_SortFunc_none L none 0 _ W).mono fun e W' ⟨h1, h2⟩ => ⟨[], m, h1, by simp, ⟨rfl, .inl ⟨rfl, by simp⟩⟩, by subst h2; exact After.refl hW⟩
  · have hn : E.length = n := hk.count h2
    subst hn
    have hWb := hW _ _ h1
    have hlt : b < W.heap.size := hW.lt h1
    have hH : HoldsK enc k W b o E.toArray := fun j hj => by
      have hj' : j < E.length * k := by simpa [size_flatK] using hj
      refine ⟨?_, by simp [World.frozen?, hWb]⟩
      rw [cell_at hWb]
      exact h5 j _ (flatK_at hk hj')
    have hcmp : CmpLays P g #[] enc k cf b o E.toArray.size W := fun n1 os1 dk1 _ x y => by
      have hc := (hcf x y).2 (by intro z hz; simp at hz; rcases hz with rfl | rfl <;> exact hpo _) (sortWorldK enc k W b o n1 dk1 os1) (fun _ _ h => by cases h)
      simp only [List.map_cons, List.map_nil, CV.val, hp] at hc
      refine Calls.mono hc ?_
      rintro e W' ⟨r, m', rfl, _, rfl, ha⟩
      exact ⟨rfl, ha.grown (ha.drawn hS)⟩
    have hc := AnyQ.slices_SortFunc_total L k aE zE enc hk.len hk.one cf hO g #[] b o c E.toArray W (hcf default default).1 hcmp hH hlt (by simp; omega) hT
    simp only [List.size_toArray] at hc
    refine hc.mono fun e W' ⟨he, q, os, hw⟩ => ?_
    subst he
    subst hw
    have hsz : (flatK enc k (E.mergeSort fun x y => !ltOf cf y x).toArray).size = E.length * k := by rw [size_flatK]; simp [List.length_mergeSort]
    refine ⟨[], _, rfl, by simp, ⟨rfl, .inr ⟨b, o, c, E.length, _, rfl, Mem.set_same .., by rw [hk.flen, List.length_mergeSort], h3, ?_, fun j u hu => ?_, hk.fone⟩⟩, after_sortedK hW h1 _ _⟩
    · simp only [Sort.putCells, Array.size_mapIdx]; exact h4
    · have hjl : j < E.length * k := by have := (List.getElem?_eq_some_iff.1 hu).1; rw [hk.flen, List.length_mergeSort] at this; exact this
      have hmul : E.length * k ≤ c * k := Nat.mul_le_mul_right _ h3
      have hoj : o + j < arr.size := by omega
      rw [Sort.putCells, Array.getElem?_mapIdx, Array.getElem?_eq_getElem hoj, Option.map_some, if_pos ⟨by omega, by omega⟩, show o + j - o = j by omega]
      rw [flatK_at hk (by rw [List.length_mergeSort]; exact hjl)] at hu
      exact hu
end
end Go.E

/-
  Slices of maund/cart.Entry: that lie somewhere, that are owned; append, slices.Clone.
-/
namespace Go.E.YtheiididldemmaaGreat
open Go.Proofs
set_option maxRecDepth 100000
abbrev Nv (x : En) : CV := .a [.one (.int .i64 x.1), .one (.int .i64 x.2.1), .one (.int .u64 x.2.2.1), .one (.int .i64 x.2.2.2)]
theorem hNs : ∃ ti, tt.get 39 = some ti ∧ ti.k = .slice 47 := ⟨_, rfl, rfl⟩
theorem hNn : ∃ ti, tt.get 47 = some ti ∧ ti.size = 4 ∧ ti.bytes = 32 ∧ LB.cells ti.zero = encE (0, 0, 0, 0) := ⟨_, rfl, rfl, rfl, rfl⟩
def Nl (m : Mem) (v : Value) (E : List En) : Prop := Lies m 4 v (E.flatMap encE)
def No (m : Mem) (v : Value) (E : List En) : Prop := Own m 47 4 v (E.flatMap encE)
def Na (m : Mem) (v : Value) (E : List En) : Prop := Nl m v E ∨ (E = [] ∧ ∃ a, v = .slice (some a) 0 0)
theorem Nl.sub {m m' : Mem} {v : Value} {E : List En} (h : Nl m v E) (hs : Sub m m') : Nl m' v E := Lies.sub h hs
theorem No.sub {m m' : Mem} {v : Value} {E : List En} (h : No m v E) (hs : Sub m m') : No m' v E := Own.sub h hs
theorem No.el {m : Mem} {v : Value} {E : List En} (h : No m v E) : Nl m v E := Own.lies h
theorem Nl.ea {m : Mem} {v : Value} {E : List En} (h : Nl m v E) : Na m v E := .inl h
theorem No.ea {m : Mem} {v : Value} {E : List En} (h : No m v E) : Na m v E := h.el.ea
theorem Na.sub {m m' : Mem} {v : Value} {E : List En} (h : Na m v E) (hs : Sub m m') : Na m' v E := h.imp (·.sub hs) id
theorem No.nil (m : Mem) : No m (.slice none 0 0) [] := .inl ⟨rfl, rfl⟩
theorem Na.nil (m : Mem) : Na m (.slice none 0 0) [] := (No.nil m).ea
theorem Nl.shape {m : Mem} {v : Value} {E : List En} (h : Nl m v E) : ∃ a c, v = .slice a E.length c := encE_ok.shape h
theorem Na.shape {m : Mem} {v : Value} {E : List En} (h : Na m v E) : ∃ a c, v = .slice a E.length c := by
  rcases h with h | ⟨rfl, a, rfl⟩
  · exact h.shape
  · exact ⟨_, _, rfl⟩
theorem Na.el {m : Mem} {v : Value} {E : List En} (h : Na m v E) (hl : 0 < E.length) : Nl m v E := h.elim id fun h => by rw [h.1] at hl; simp at hl
theorem Na.real {m : Mem} {v : Value} {E : List En} (h : Na m v E) {i : Nat} (hi : i < E.length) : ∃ b o c, v = .slice (some ⟨b, o, none⟩) E.length c ∧ ∀ j (hj : j < E.length), MRange m b (o + j * 4) (encE E[j]) := by
  rcases h with h | ⟨rfl, _⟩
  · exact encE_ok.real h hi
  · simp at hi
theorem Na.lenV {m : Mem} {v : Value} {E : List En} (h : Na m v E) : lenV v = E.length := by obtain ⟨a, c, rfl⟩ := h.shape; rfl
theorem Na.one {m : Mem} {v : Value} {E : List En} (h : Na m v E) : v.oneCell' = true := by obtain ⟨a, c, rfl⟩ := h.shape; rfl
theorem Na.gives {m : Mem} {v : Value} {E : List En} {e : TypeId} (h : Na m v E) : Gives m 4 (.slice e) v (E.flatMap encE) := .inl ⟨e, rfl, h.imp id fun ⟨h1, h2⟩ => ⟨by rw [h1]; rfl, h2⟩⟩
theorem appendNat {m p : Mem} {ls : List Mem} {i : Nat} {v x : Value} {E news : List En} (hs : Split m ls) (hi : ls[i]? = some p) (hv : No p v E) (hg : Na m x news) (hb : E.length + news.length ≤ 100000000) :
    PrimSpec Tryz.prog (.builtin .append [39, 39]) [.v v, .v x] m fun r m' => ∃ v' p', r = [.v v'] ∧ Split m' (ls.set i p') ∧ No p' v' (E ++ news) := by
  obtain ⟨ti, h1, h2⟩ := hNs
  obtain ⟨ei, g1, g2, g3, g4⟩ := hNn
  have e1 := hv.el.ea.lenV
  have e2 := hg.lenV
  have hv' : Own p 47 ei.size v (E.flatMap encE) := by rw [g2]; exact hv
  refine (append_at (news := news.flatMap encE) tt_ok h1 h2 g1 h1 (by rw [g4, g2]; rfl) hs hi hv' (by rw [h2, g2]; exact hg.gives) (by rw [e1, e2, g3]; omega) (by rw [e1, e2]; omega)).mono fun r m' ⟨v', p', q1, q2, q3⟩ => ⟨v', p', q1, q2, ?_⟩
  have := q3.own
  rw [g2, ← List.flatMap_append] at this
  exact this
theorem buildN0 {m : Mem} : PrimSpec Tryz.prog (.buildSlice 39 0 []) [] m fun r m' => ∃ b, m b = none ∧ r = [.v (.slice (some ⟨b, 0, none⟩) 0 0)] ∧ m' = m.set b (.cells #[] 47) := by
  obtain ⟨ti, h1, h2⟩ := hNs
  obtain ⟨ei, g1, g2, g3, g4⟩ := hNn
  exact buildSlice0_spec tt_ok h1 h2 g1
theorem buildN1 {m : Mem} {e : En} : PrimSpec Tryz.prog (.buildSlice 39 1 [0]) [Nv e] m fun r m' => ∃ b, m b = none ∧ r = [.v (.slice (some ⟨b, 0, none⟩) 1 1)] ∧ m' = m.set b (.cells (encE e).toArray 47) := by
  obtain ⟨ti, h1, h2⟩ := hNs
  obtain ⟨ei, g1, g2, g3, g4⟩ := hNn
  exact (buildSlice_spec (n := 1) tt_ok h1 h2 g1 rfl rfl (by simp [CV.cs, LB.cells, Seg.cells, g2]) (by omega) (by omega)).mono fun r m' ⟨b, e1, e2, e3⟩ => ⟨b, e1, e2, e3⟩
theorem No.blk1 {m : Mem} {b : Nat} {e : En} (h : m b = some (.cells (encE e).toArray 47)) : No m (.slice (some ⟨b, 0, none⟩) 1 1) [e] :=
  .inr ⟨b, 0, 1, 1, _, rfl, h, rfl, Nat.le_refl _, Nat.le_refl _, fun j u hu => by rw [Nat.zero_add, List.getElem?_toArray]; simpa using hu, encE_ok.fone⟩
theorem No.blk0 {m : Mem} {b : Nat} (h : m b = some (.cells #[] 47)) : No m (.slice (some ⟨b, 0, none⟩) 0 0) [] :=
  .inr ⟨b, 0, 0, 0, _, rfl, h, rfl, Nat.le_refl _, Nat.le_refl _, fun j u hu => by simp at hu, encE_ok.fone⟩
theorem pushN {m p : Mem} {ls : List Mem} {i b' : Nat} {x : En} {y : Value} {E : List En} (hs : Split m ls) (hi : ls[i]? = some p) (hb : m b' = none) (hy : No p y E) (hl : E.length ≤ 10000000) :
    PrimSpec Tryz.prog (.builtin .append [39, 39]) [.v y, .v (.slice (some ⟨b', 0, none⟩) 1 1)] (m.set b' (.cells (encE x).toArray 47)) fun r m' => ∃ y' p', r = [.v y'] ∧ Split m' (ls.set i p') ∧ No p' y' (E ++ [x]) := by
  have hs1 := hs.new hb (.cells (encE x).toArray 47)
  exact (appendNat (i := i + 1) hs1 (by simpa using hi) hy (No.blk1 (Mem.set_same ..)).el.ea (by simp; omega)).mono fun r m' ⟨v', p', h1, h2, h3⟩ => ⟨v', p', h1, h2.erase 0, h3⟩
end Go.E.YtheiididldemmaaGreat

/-
  slices.SortFunc at maund/cart.Entry: the library's contract, laid at this program.
-/
namespace Go.E.YtheiididldemmaaGreat
open Go.Proofs Go.Shelf Go.Sort Go.Lib
set_option maxRecDepth 100000
def renN : Go.Shelf.Ren := ⟨fun n => if n = 6 then 91 else if n = 14 then 107 else if n = 15 then 44 else if n = 20 then 112 else if n = 21 then 113 else if n = 22 then 114 else if n = 23 then 115 else if n = 24 then 116 else if n = 25 then 117 else if n = 26 then 118 else if n = 27 then 119 else if n = 28 then 75 else if n = 29 then 76 else if n = 46 then 128 else if n = 47 then 97 else if n = 48 then 98 else if n = 49 then 129 else if n = 50 then 130 else if n = 57 then 134 else 0, fun n => if n = 0 then 0 else if n = 3 then 3 else if n = 4 then 4 else if n = 5 then 5 else if n = 9 then 9 else if n = 22 then 39 else if n = 24 then 47 else if n = 25 then 105 else if n = 39 then 88 else if n = 45 then 107 else if n = 46 then 108 else if n = 50 then 113 else if n = 53 then 116 else if n = 55 then 29 else if n = 66 then 138 else if n = 70 then 142 else if n = 76 then 150 else if n = 77 then 151 else 0, fun n => n⟩
theorem laysN : SlLaysF0.n6 Tryz.prog renN where
  mixed := by kernel_rfl
  f6 := ⟨Tryz.f91.name, by kernel_rfl, by kernel_rfl⟩
  f14 := ⟨Tryz.f107.name, by kernel_rfl, by kernel_rfl⟩
  f15 := by kernel_rfl
  f20 := ⟨Tryz.f112.name, by kernel_rfl, by kernel_rfl⟩
  f21 := ⟨Tryz.f113.name, by kernel_rfl, by kernel_rfl⟩
  f22 := ⟨Tryz.f114.name, by kernel_rfl, by kernel_rfl⟩
  f23 := ⟨Tryz.f115.name, by kernel_rfl, by kernel_rfl⟩
  f24 := ⟨Tryz.f116.name, by kernel_rfl, by kernel_rfl⟩
  f25 := ⟨Tryz.f117.name, by kernel_rfl, by kernel_rfl⟩
  f26 := ⟨Tryz.f118.name, by kernel_rfl, by kernel_rfl⟩
  f27 := ⟨Tryz.f119.name, by kernel_rfl, by kernel_rfl⟩
  f28 := by kernel_rfl
  f29 := by kernel_rfl
  f46 := ⟨Tryz.f128.name, by kernel_rfl, by kernel_rfl⟩
  f47 := by kernel_rfl
  f48 := by kernel_rfl
  f49 := ⟨Tryz.f129.name, by kernel_rfl, by kernel_rfl⟩
  f50 := ⟨Tryz.f130.name, by kernel_rfl, by kernel_rfl⟩
  f57 := ⟨Tryz.f134.name, by kernel_rfl, by kernel_rfl⟩
  t0 := Tryz.underlying0
  a0 := Tryz.isAgg0
  z0 := Tryz.sizeOf0
  v0 := Tryz.zeroValue0
  t3 := Tryz.underlying3
  a3 := Tryz.isAgg3
  z3 := Tryz.sizeOf3
  v3 := Tryz.zeroValue3
  t4 := Tryz.underlying4
  a4 := Tryz.isAgg4
  z4 := Tryz.sizeOf4
  v4 := Tryz.zeroValue4
  t5 := Tryz.underlying5
  a5 := Tryz.isAgg5
  z5 := Tryz.sizeOf5
  v5 := Tryz.zeroValue5
  t9 := Tryz.underlying9
  a9 := Tryz.isAgg9
  z9 := Tryz.sizeOf9
  v9 := Tryz.zeroValue9
  t22 := Tryz.underlying39
  a22 := Tryz.isAgg39
  z22 := Tryz.sizeOf39
  v22 := Tryz.zeroValue39
  t25 := Tryz.underlying105
  a25 := Tryz.isAgg105
  z25 := Tryz.sizeOf105
  v25 := Tryz.zeroValue105
  t39 := Tryz.underlying88
  a39 := Tryz.isAgg88
  z39 := Tryz.sizeOf88
  v39 := Tryz.zeroValue88
  t45 := Tryz.underlying107
  a45 := Tryz.isAgg107
  z45 := Tryz.sizeOf107
  v45 := Tryz.zeroValue107
  t46 := Tryz.underlying108
  a46 := Tryz.isAgg108
  z46 := Tryz.sizeOf108
  v46 := Tryz.zeroValue108
  t50 := Tryz.underlying113
  a50 := Tryz.isAgg113
  z50 := Tryz.sizeOf113
  v50 := Tryz.zeroValue113
  t53 := Tryz.underlying116
  a53 := Tryz.isAgg116
  z53 := Tryz.sizeOf116
  v53 := Tryz.zeroValue116
  t55 := Tryz.underlying29
  a55 := Tryz.isAgg29
  z55 := Tryz.sizeOf29
  v55 := Tryz.zeroValue29
  t66 := Tryz.underlying138
  a66 := Tryz.isAgg138
  z66 := Tryz.sizeOf138
  v66 := Tryz.zeroValue138
  t70 := Tryz.underlying142
  a70 := Tryz.isAgg142
  z70 := Tryz.sizeOf142
  v70 := Tryz.zeroValue142
  t76 := Tryz.underlying150
  a76 := Tryz.isAgg150
  z76 := Tryz.sizeOf150
  v76 := Tryz.zeroValue150
  t77 := Tryz.underlying151
  a77 := Tryz.isAgg151
  z77 := Tryz.sizeOf151
  v77 := Tryz.zeroValue151
instance : Inhabited En := ⟨(0, 0, 0, 0)⟩
theorem enters_sortN : Enters Tryz.prog 91 := laysN.f6.enters rfl
theorem sortFN_spec (hS : Strict) {cf : En → En → Int} (hO : SWO (ltOf cf)) (hT : ∀ x y, (ltOf cf) x y = false → (ltOf cf) y x = false → x = y) {g : Nat} (hcf : ∀ x y, Spec Tryz.prog g [Nv x, Nv y] emp fun r _ => r = [i64 (cf x y)])
    {m : Mem} {v : Value} {E : List En} (hv : No m v E) (hl : E.length ≤ 1000000000) :
    Spec Tryz.prog 91 [.v v, fn0V g] m fun r m' => r = [] ∧ No m' v (E.mergeSort fun x y => !ltOf cf y x) :=
  sortK_spec (ρ := renN) hS laysN (k := 4) Tryz.isAgg47 Tryz.sizeOf47 encE_ok hO hT enters_sortN (parts := fun x => [.one (.int .i64 x.1), .one (.int .i64 x.2.1), .one (.int .u64 x.2.2.1), .one (.int .i64 x.2.2.2)]) (fun _ => rfl) (fun _ => ⟨rfl, rfl, rfl, rfl, trivial⟩) hcf hv hl
end Go.E.YtheiididldemmaaGreat

/-
  Slices of maund/cart.Entry: slices.IndexFunc, ContainsFunc.
-/
namespace Go.E.YtheiididldemmaaGreat
open Go.Proofs
set_option maxRecDepth 100000
set_option maxHeartbeats 1000000 in
theorem indexN0_spec {m : Mem} {v : Value} {E : List En} {F : Nat} {p : En → Bool} (hv : Na m v E) (hF : ∀ e ∈ E, Ret Tryz.prog F [Nv e] m [boolV (p e)]) (hl : E.length ≤ 100000000) : Ret Tryz.prog 102 [.v v, (fn0V F)] m [i64 (idxG p E)] := by
  obtain ⟨a, c, rfl⟩ := hv.shape
  refine en102 rfl (goY ?_)
  conv => whnf
  refine .mk (ι := Nat) (fun i => E.length - i) (fun i mm => i ≤ E.length ∧ (∀ x ∈ E.take i, p x = false) ∧ mm = m) (fun i => [(0, .c (.v (.slice a E.length c))), (1, .c (fn0V F)), (7, .c (i64 E.length)), (8, .c (i64 i))]) (fun _ => []) 0 ⟨by omega, by simp, rfl⟩ ?_ ?_
  · conv => whnf
    repeat (refine And.intro (by first | with_reducible rfl | exact congrArg (Value.int _) (wi (by omega) (by omega)) | exact wi (by omega) (by omega) | rfl) ?_; conv => whnf)
    first | exact trivial | exact fun _ _ h => h
  rintro i mm ⟨hi, hall, he⟩
  subst mm
  conv => whnf
  refine ⟨fun h => ?_, fun h => ?_⟩
  · have h' := of_decide_eq_true h
    have hlt : i < E.length := by omega
    obtain ⟨bl, ol, c', hh, hg⟩ := hv.real hlt
    injection hh with hh1 _ hh3
    subst hh1
    clear hh3 c'
    have hg := hg i hlt
    conv => whnf
    repeat (refine And.intro (by first | omega | (simp only [times]; omega)) ?_; conv => whnf)
    refine ⟨[.one (.int .i64 E[i].1), .one (.int .i64 E[i].2.1), .one (.int .u64 E[i].2.2.1), .one (.int .i64 E[i].2.2.2)], ⟨rfl, rfl, rfl, rfl, trivial⟩, rfl, by simp only [times, Int.toNat_natCast]; exact hg, ?_⟩
    conv => whnf
    first | refine xretk ((hF E[i] (List.getElem_mem hlt))) ?_ | refine xret ((hF E[i] (List.getElem_mem hlt))) ?_
    conv => whnf
    have hst : E.take (i + 1) = E.take i ++ [E[i]] := List.take_succ_eq_append_getElem hlt
    refine ⟨fun h => ?_, fun h => ?_⟩
    · conv => whnf
      exact ⟨by rw [idxG_at hlt hall h], rfl⟩
    · conv => whnf
      refine ⟨i + 1, ⟨by omega, fun x hx => ?_, rfl⟩, by omega, ?_⟩
      · rw [hst] at hx
        rcases List.mem_append.1 hx with hx | hx
        · exact hall x hx
        · rw [List.mem_singleton.1 hx]; exact h
      · conv => whnf
        repeat (refine And.intro (by first | with_reducible rfl | (first | exact congrArg (Value.int _) (iadd (by omega))) | exact congrArg (Value.int _) (wi (by omega) (by omega)) | exact wi (by omega) (by omega) | rfl) ?_; conv => whnf)
        first | exact trivial | exact fun _ _ h => h
  · have h' := of_decide_eq_false h
    obtain rfl : i = E.length := by omega
    rw [List.take_length] at hall
    conv => whnf
    exact ⟨by rw [idxG_none hall], rfl⟩
theorem containsN0_spec {m : Mem} {v : Value} {E : List En} {F : Nat} {p : En → Bool} (hv : Na m v E) (hF : ∀ e ∈ E, Ret Tryz.prog F [Nv e] m [boolV (p e)]) (hl : E.length ≤ 100000000) : Ret Tryz.prog 80 [.v v, (fn0V F)] m [boolV (E.any p)] := by
  obtain ⟨a, c, rfl⟩ := hv.shape
  refine en80 rfl (goY ?_)
  conv => whnf
  first | refine xretk (indexN0_spec hv hF hl) ?_ | refine xret (indexN0_spec hv hF hl) ?_
  conv => whnf
  exact ⟨by rw [idxG_nonneg], rfl⟩
set_option maxHeartbeats 1000000 in
theorem indexN1_spec {m : Mem} {v : Value} {E : List En} {F b : Nat} {p : En → Bool} (hv : Na m v E) (hF : ∀ e ∈ E, Ret Tryz.prog F [Nv e, ptrV b] m [boolV (p e)]) (hl : E.length ≤ 100000000) : Ret Tryz.prog 102 [.v v, (fnP1V F b)] m [i64 (idxG p E)] := by
  obtain ⟨a, c, rfl⟩ := hv.shape
  refine en102 rfl (goY ?_)
  conv => whnf
  refine .mk (ι := Nat) (fun i => E.length - i) (fun i mm => i ≤ E.length ∧ (∀ x ∈ E.take i, p x = false) ∧ mm = m) (fun i => [(0, .c (.v (.slice a E.length c))), (1, .c (fnP1V F b)), (7, .c (i64 E.length)), (8, .c (i64 i))]) (fun _ => []) 0 ⟨by omega, by simp, rfl⟩ ?_ ?_
  · conv => whnf
    repeat (refine And.intro (by first | with_reducible rfl | exact congrArg (Value.int _) (wi (by omega) (by omega)) | exact wi (by omega) (by omega) | rfl) ?_; conv => whnf)
    first | exact trivial | exact fun _ _ h => h
  rintro i mm ⟨hi, hall, he⟩
  subst mm
  conv => whnf
  refine ⟨fun h => ?_, fun h => ?_⟩
  · have h' := of_decide_eq_true h
    have hlt : i < E.length := by omega
    obtain ⟨bl, ol, c', hh, hg⟩ := hv.real hlt
    injection hh with hh1 _ hh3
    subst hh1
    clear hh3 c'
    have hg := hg i hlt
    conv => whnf
    repeat (refine And.intro (by first | omega | (simp only [times]; omega)) ?_; conv => whnf)
    refine ⟨[.one (.int .i64 E[i].1), .one (.int .i64 E[i].2.1), .one (.int .u64 E[i].2.2.1), .one (.int .i64 E[i].2.2.2)], ⟨rfl, rfl, rfl, rfl, trivial⟩, rfl, by simp only [times, Int.toNat_natCast]; exact hg, ?_⟩
    conv => whnf
    first | refine xretk ((hF E[i] (List.getElem_mem hlt))) ?_ | refine xret ((hF E[i] (List.getElem_mem hlt))) ?_
    conv => whnf
    have hst : E.take (i + 1) = E.take i ++ [E[i]] := List.take_succ_eq_append_getElem hlt
    refine ⟨fun h => ?_, fun h => ?_⟩
    · conv => whnf
      exact ⟨by rw [idxG_at hlt hall h], rfl⟩
    · conv => whnf
      refine ⟨i + 1, ⟨by omega, fun x hx => ?_, rfl⟩, by omega, ?_⟩
      · rw [hst] at hx
        rcases List.mem_append.1 hx with hx | hx
        · exact hall x hx
        · rw [List.mem_singleton.1 hx]; exact h
      · conv => whnf
        repeat (refine And.intro (by first | with_reducible rfl | (first | exact congrArg (Value.int _) (iadd (by omega))) | exact congrArg (Value.int _) (wi (by omega) (by omega)) | exact wi (by omega) (by omega) | rfl) ?_; conv => whnf)
        first | exact trivial | exact fun _ _ h => h
  · have h' := of_decide_eq_false h
    obtain rfl : i = E.length := by omega
    rw [List.take_length] at hall
    conv => whnf
    exact ⟨by rw [idxG_none hall], rfl⟩
theorem containsN1_spec {m : Mem} {v : Value} {E : List En} {F b : Nat} {p : En → Bool} (hv : Na m v E) (hF : ∀ e ∈ E, Ret Tryz.prog F [Nv e, ptrV b] m [boolV (p e)]) (hl : E.length ≤ 100000000) : Ret Tryz.prog 80 [.v v, (fnP1V F b)] m [boolV (E.any p)] := by
  obtain ⟨a, c, rfl⟩ := hv.shape
  refine en80 rfl (goY ?_)
  conv => whnf
  first | refine xretk (indexN1_spec hv hF hl) ?_ | refine xret (indexN1_spec hv hF hl) ?_
  conv => whnf
  exact ⟨by rw [idxG_nonneg], rfl⟩
set_option maxHeartbeats 1000000 in
theorem indexN2_spec {m : Mem} {v : Value} {E : List En} {F b b2 : Nat} {p : En → Bool} (hv : Na m v E) (hF : ∀ e ∈ E, Ret Tryz.prog F [Nv e, ptrV b, ptrV b2] m [boolV (p e)]) (hl : E.length ≤ 100000000) : Ret Tryz.prog 102 [.v v, (fnP2V F b b2)] m [i64 (idxG p E)] := by
  obtain ⟨a, c, rfl⟩ := hv.shape
  refine en102 rfl (goY ?_)
  conv => whnf
  refine .mk (ι := Nat) (fun i => E.length - i) (fun i mm => i ≤ E.length ∧ (∀ x ∈ E.take i, p x = false) ∧ mm = m) (fun i => [(0, .c (.v (.slice a E.length c))), (1, .c (fnP2V F b b2)), (7, .c (i64 E.length)), (8, .c (i64 i))]) (fun _ => []) 0 ⟨by omega, by simp, rfl⟩ ?_ ?_
  · conv => whnf
    repeat (refine And.intro (by first | with_reducible rfl | exact congrArg (Value.int _) (wi (by omega) (by omega)) | exact wi (by omega) (by omega) | rfl) ?_; conv => whnf)
    first | exact trivial | exact fun _ _ h => h
  rintro i mm ⟨hi, hall, he⟩
  subst mm
  conv => whnf
  refine ⟨fun h => ?_, fun h => ?_⟩
  · have h' := of_decide_eq_true h
    have hlt : i < E.length := by omega
    obtain ⟨bl, ol, c', hh, hg⟩ := hv.real hlt
    injection hh with hh1 _ hh3
    subst hh1
    clear hh3 c'
    have hg := hg i hlt
    conv => whnf
    repeat (refine And.intro (by first | omega | (simp only [times]; omega)) ?_; conv => whnf)
    refine ⟨[.one (.int .i64 E[i].1), .one (.int .i64 E[i].2.1), .one (.int .u64 E[i].2.2.1), .one (.int .i64 E[i].2.2.2)], ⟨rfl, rfl, rfl, rfl, trivial⟩, rfl, by simp only [times, Int.toNat_natCast]; exact hg, ?_⟩
    conv => whnf
    first | refine xretk ((hF E[i] (List.getElem_mem hlt))) ?_ | refine xret ((hF E[i] (List.getElem_mem hlt))) ?_
    conv => whnf
    have hst : E.take (i + 1) = E.take i ++ [E[i]] := List.take_succ_eq_append_getElem hlt
    refine ⟨fun h => ?_, fun h => ?_⟩
    · conv => whnf
      exact ⟨by rw [idxG_at hlt hall h], rfl⟩
    · conv => whnf
      refine ⟨i + 1, ⟨by omega, fun x hx => ?_, rfl⟩, by omega, ?_⟩
      · rw [hst] at hx
        rcases List.mem_append.1 hx with hx | hx
        · exact hall x hx
        · rw [List.mem_singleton.1 hx]; exact h
      · conv => whnf
        repeat (refine And.intro (by first | with_reducible rfl | (first | exact congrArg (Value.int _) (iadd (by omega))) | exact congrArg (Value.int _) (wi (by omega) (by omega)) | exact wi (by omega) (by omega) | rfl) ?_; conv => whnf)
        first | exact trivial | exact fun _ _ h => h
  · have h' := of_decide_eq_false h
    obtain rfl : i = E.length := by omega
    rw [List.take_length] at hall
    conv => whnf
    exact ⟨by rw [idxG_none hall], rfl⟩
theorem containsN2_spec {m : Mem} {v : Value} {E : List En} {F b b2 : Nat} {p : En → Bool} (hv : Na m v E) (hF : ∀ e ∈ E, Ret Tryz.prog F [Nv e, ptrV b, ptrV b2] m [boolV (p e)]) (hl : E.length ≤ 100000000) : Ret Tryz.prog 80 [.v v, (fnP2V F b b2)] m [boolV (E.any p)] := by
  obtain ⟨a, c, rfl⟩ := hv.shape
  refine en80 rfl (goY ?_)
  conv => whnf
  first | refine xretk (indexN2_spec hv hF hl) ?_ | refine xret (indexN2_spec hv hF hl) ?_
  conv => whnf
  exact ⟨by rw [idxG_nonneg], rfl⟩
end Go.E.YtheiididldemmaaGreat

/-
  Slices of maund/cart.Entry: slices.Index, Contains, Equal.
-/
namespace Go.E.YtheiididldemmaaGreat
open Go.Proofs
set_option maxRecDepth 100000
theorem eqPN (x y : En) : eqLB [.one (.int .i64 x.1), .one (.int .i64 x.2.1), .one (.int .u64 x.2.2.1), .one (.int .i64 x.2.2.2)] [.one (.int .i64 y.1), .one (.int .i64 y.2.1), .one (.int .u64 y.2.2.1), .one (.int .i64 y.2.2.2)] = decide (x = y) := by
  have e : (x = y) ↔ x.1 = y.1 ∧ x.2.1 = y.2.1 ∧ x.2.2.1 = y.2.2.1 ∧ x.2.2.2 = y.2.2.2 := ⟨fun h => by subst h; simp, fun h => by obtain ⟨a0, a1, a2, a3⟩ := x; obtain ⟨b0, b1, b2, b3⟩ := y; simp only at h; simp only [Prod.mk.injEq]; exact h⟩
  rw [Bool.eq_iff_iff]
  simp only [eqLB, ceq, Bool.and_eq_true, beq_iff_eq, Bool.and_true, decide_eq_true_eq, e]
theorem eqPN' (x y : En) : (!eqLB [.one (.int .i64 x.1), .one (.int .i64 x.2.1), .one (.int .u64 x.2.2.1), .one (.int .i64 x.2.2.2)] [.one (.int .i64 y.1), .one (.int .i64 y.2.1), .one (.int .u64 y.2.2.1), .one (.int .i64 y.2.2.2)]) = decide (x ≠ y) := by rw [eqPN]; simp
set_option maxHeartbeats 1000000 in
theorem equalN_spec {m : Mem} {v w : Value} {E K : List En} (hv : Na m v E) (hw : Na m w K) (hl : E.length ≤ 100000000) : Ret Tryz.prog 25 [.v v, .v w] m [boolV (decide (E = K))] := by
  obtain ⟨a, c, rfl⟩ := hv.shape
  obtain ⟨aw, cw, rfl⟩ := hw.shape
  refine en25 rfl (goY ?_)
  conv => whnf
  refine ⟨fun h => ?_, fun h => ?_⟩
  · conv => whnf
    have : E ≠ K := by rintro rfl; simp at h
    rw [decide_eq_false this]
    exact ⟨rfl, rfl⟩
  have hlk : E.length = K.length := by simp at h; omega
  clear h
  rw [← hlk] at hw ⊢
  conv => whnf
  refine .mk (ι := Nat) (fun i => E.length - i) (fun i mm => i ≤ E.length ∧ E.take i = K.take i ∧ mm = m) (fun i => [(0, .c (.v (.slice a E.length c))), (1, .c (.v (.slice aw E.length cw))), (12, .c (i64 E.length)), (13, .c (i64 i))]) (fun _ => []) 0 ⟨by omega, by simp, rfl⟩ ?_ ?_
  · conv => whnf
    repeat (refine And.intro (by first | with_reducible rfl | exact congrArg (Value.int _) (wi (by omega) (by omega)) | exact wi (by omega) (by omega) | rfl) ?_; conv => whnf)
    first | exact trivial | exact fun _ _ h => h
  rintro i mm ⟨hi, htk, he⟩
  subst mm
  conv => whnf
  refine ⟨fun h1 => ?_, fun h1 => ?_⟩
  · have h1' := of_decide_eq_true h1
    have hlt : i < E.length := by omega
    have hltk : i < K.length := by omega
    obtain ⟨b, o, c', hh, hg⟩ := hv.real hlt
    injection hh with hh1 _ hh3
    subst hh1
    clear hh3 c'
    have hw' : Na m (.slice aw K.length cw) K := by rw [← hlk]; exact hw
    obtain ⟨bw, ow, c', hh, hgw⟩ := hw'.real hltk
    injection hh with hh1 _ hh3
    subst hh1
    clear hh3 c'
    have hg := hg i hlt
    have hgw := hgw i hltk
    conv => whnf
    repeat (refine And.intro (by first | omega | (simp only [times]; omega)) ?_; conv => whnf)
    refine ⟨[.one (.int .i64 E[i].1), .one (.int .i64 E[i].2.1), .one (.int .u64 E[i].2.2.1), .one (.int .i64 E[i].2.2.2)], ⟨rfl, rfl, rfl, rfl, trivial⟩, rfl, by simp only [times, Int.toNat_natCast]; exact hg, ?_⟩
    conv => whnf
    repeat (refine And.intro (by first | omega | (simp only [times]; omega)) ?_; conv => whnf)
    refine ⟨[.one (.int .i64 K[i].1), .one (.int .i64 K[i].2.1), .one (.int .u64 K[i].2.2.1), .one (.int .i64 K[i].2.2.2)], ⟨rfl, rfl, rfl, rfl, trivial⟩, rfl, by simp only [times, Int.toNat_natCast]; exact hgw, ?_⟩
    conv => whnf
    rw [eqPN']
    refine ⟨fun h2 => ?_, fun h2 => ?_⟩
    · conv => whnf
      have : E ≠ K := by rintro rfl; exact absurd rfl (of_decide_eq_true h2)
      rw [decide_eq_false this]
      exact ⟨rfl, rfl⟩
    · have h2' : E[i] = K[i] := by simpa using h2
      conv => whnf
      refine ⟨i + 1, ⟨by omega, by rw [List.take_succ_eq_append_getElem hlt, List.take_succ_eq_append_getElem hltk, htk, h2'], rfl⟩, by omega, ?_⟩
      conv => whnf
      repeat (refine And.intro (by first | with_reducible rfl | (first | exact congrArg (Value.int _) (iadd (by omega))) | exact congrArg (Value.int _) (wi (by omega) (by omega)) | exact wi (by omega) (by omega) | rfl) ?_; conv => whnf)
      first | exact trivial | exact fun _ _ h => h
  · have h1' := of_decide_eq_false h1
    obtain rfl : i = E.length := by omega
    rw [List.take_length, hlk, List.take_length] at htk
    conv => whnf
    rw [decide_eq_true htk]
    exact ⟨rfl, rfl⟩
end Go.E.YtheiididldemmaaGreat

/-
  Slices of maund/vec.Dot: that lie somewhere, that are owned; append, slices.Clone.
-/
namespace Go.E.YtheiididldemmaaGreat
open Go.Proofs
set_option maxRecDepth 100000
abbrev Dv (x : Dt) : CV := .a [.one (.int .i64 x.1), .one (.int .u64 x.2)]
theorem hDs : ∃ ti, tt.get 32 = some ti ∧ ti.k = .slice 31 := ⟨_, rfl, rfl⟩
theorem hDn : ∃ ti, tt.get 31 = some ti ∧ ti.size = 2 ∧ ti.bytes = 16 ∧ LB.cells ti.zero = encD (0, 0) := ⟨_, rfl, rfl, rfl, rfl⟩
def Dl (m : Mem) (v : Value) (E : List Dt) : Prop := Lies m 2 v (E.flatMap encD)
def Do (m : Mem) (v : Value) (E : List Dt) : Prop := Own m 31 2 v (E.flatMap encD)
def Da (m : Mem) (v : Value) (E : List Dt) : Prop := Dl m v E ∨ (E = [] ∧ ∃ a, v = .slice (some a) 0 0)
theorem Dl.sub {m m' : Mem} {v : Value} {E : List Dt} (h : Dl m v E) (hs : Sub m m') : Dl m' v E := Lies.sub h hs
theorem Do.sub {m m' : Mem} {v : Value} {E : List Dt} (h : Do m v E) (hs : Sub m m') : Do m' v E := Own.sub h hs
theorem Do.el {m : Mem} {v : Value} {E : List Dt} (h : Do m v E) : Dl m v E := Own.lies h
theorem Dl.ea {m : Mem} {v : Value} {E : List Dt} (h : Dl m v E) : Da m v E := .inl h
theorem Do.ea {m : Mem} {v : Value} {E : List Dt} (h : Do m v E) : Da m v E := h.el.ea
theorem Da.sub {m m' : Mem} {v : Value} {E : List Dt} (h : Da m v E) (hs : Sub m m') : Da m' v E := h.imp (·.sub hs) id
theorem Do.nil (m : Mem) : Do m (.slice none 0 0) [] := .inl ⟨rfl, rfl⟩
theorem Da.nil (m : Mem) : Da m (.slice none 0 0) [] := (Do.nil m).ea
theorem Dl.shape {m : Mem} {v : Value} {E : List Dt} (h : Dl m v E) : ∃ a c, v = .slice a E.length c := encD_ok.shape h
theorem Da.shape {m : Mem} {v : Value} {E : List Dt} (h : Da m v E) : ∃ a c, v = .slice a E.length c := by
  rcases h with h | ⟨rfl, a, rfl⟩
  · exact h.shape
  · exact ⟨_, _, rfl⟩
theorem Da.el {m : Mem} {v : Value} {E : List Dt} (h : Da m v E) (hl : 0 < E.length) : Dl m v E := h.elim id fun h => by rw [h.1] at hl; simp at hl
theorem Da.real {m : Mem} {v : Value} {E : List Dt} (h : Da m v E) {i : Nat} (hi : i < E.length) : ∃ b o c, v = .slice (some ⟨b, o, none⟩) E.length c ∧ ∀ j (hj : j < E.length), MRange m b (o + j * 2) (encD E[j]) := by
  rcases h with h | ⟨rfl, _⟩
  · exact encD_ok.real h hi
  · simp at hi
theorem Da.lenV {m : Mem} {v : Value} {E : List Dt} (h : Da m v E) : lenV v = E.length := by obtain ⟨a, c, rfl⟩ := h.shape; rfl
theorem Da.one {m : Mem} {v : Value} {E : List Dt} (h : Da m v E) : v.oneCell' = true := by obtain ⟨a, c, rfl⟩ := h.shape; rfl
theorem Da.gives {m : Mem} {v : Value} {E : List Dt} {e : TypeId} (h : Da m v E) : Gives m 2 (.slice e) v (E.flatMap encD) := .inl ⟨e, rfl, h.imp id fun ⟨h1, h2⟩ => ⟨by rw [h1]; rfl, h2⟩⟩
theorem appendDat {m p : Mem} {ls : List Mem} {i : Nat} {v x : Value} {E news : List Dt} (hs : Split m ls) (hi : ls[i]? = some p) (hv : Do p v E) (hg : Da m x news) (hb : E.length + news.length ≤ 100000000) :
    PrimSpec Tryz.prog (.builtin .append [32, 32]) [.v v, .v x] m fun r m' => ∃ v' p', r = [.v v'] ∧ Split m' (ls.set i p') ∧ Do p' v' (E ++ news) := by
  obtain ⟨ti, h1, h2⟩ := hDs
  obtain ⟨ei, g1, g2, g3, g4⟩ := hDn
  have e1 := hv.el.ea.lenV
  have e2 := hg.lenV
  have hv' : Own p 31 ei.size v (E.flatMap encD) := by rw [g2]; exact hv
  refine (append_at (news := news.flatMap encD) tt_ok h1 h2 g1 h1 (by rw [g4, g2]; rfl) hs hi hv' (by rw [h2, g2]; exact hg.gives) (by rw [e1, e2, g3]; omega) (by rw [e1, e2]; omega)).mono fun r m' ⟨v', p', q1, q2, q3⟩ => ⟨v', p', q1, q2, ?_⟩
  have := q3.own
  rw [g2, ← List.flatMap_append] at this
  exact this
theorem buildD0 {m : Mem} : PrimSpec Tryz.prog (.buildSlice 32 0 []) [] m fun r m' => ∃ b, m b = none ∧ r = [.v (.slice (some ⟨b, 0, none⟩) 0 0)] ∧ m' = m.set b (.cells #[] 31) := by
  obtain ⟨ti, h1, h2⟩ := hDs
  obtain ⟨ei, g1, g2, g3, g4⟩ := hDn
  exact buildSlice0_spec tt_ok h1 h2 g1
theorem buildD1 {m : Mem} {e : Dt} : PrimSpec Tryz.prog (.buildSlice 32 1 [0]) [Dv e] m fun r m' => ∃ b, m b = none ∧ r = [.v (.slice (some ⟨b, 0, none⟩) 1 1)] ∧ m' = m.set b (.cells (encD e).toArray 31) := by
  obtain ⟨ti, h1, h2⟩ := hDs
  obtain ⟨ei, g1, g2, g3, g4⟩ := hDn
  exact (buildSlice_spec (n := 1) tt_ok h1 h2 g1 rfl rfl (by simp [CV.cs, LB.cells, Seg.cells, g2]) (by omega) (by omega)).mono fun r m' ⟨b, e1, e2, e3⟩ => ⟨b, e1, e2, e3⟩
theorem Do.blk1 {m : Mem} {b : Nat} {e : Dt} (h : m b = some (.cells (encD e).toArray 31)) : Do m (.slice (some ⟨b, 0, none⟩) 1 1) [e] :=
  .inr ⟨b, 0, 1, 1, _, rfl, h, rfl, Nat.le_refl _, Nat.le_refl _, fun j u hu => by rw [Nat.zero_add, List.getElem?_toArray]; simpa using hu, encD_ok.fone⟩
theorem Do.blk0 {m : Mem} {b : Nat} (h : m b = some (.cells #[] 31)) : Do m (.slice (some ⟨b, 0, none⟩) 0 0) [] :=
  .inr ⟨b, 0, 0, 0, _, rfl, h, rfl, Nat.le_refl _, Nat.le_refl _, fun j u hu => by simp at hu, encD_ok.fone⟩
theorem pushD {m p : Mem} {ls : List Mem} {i b' : Nat} {x : Dt} {y : Value} {E : List Dt} (hs : Split m ls) (hi : ls[i]? = some p) (hb : m b' = none) (hy : Do p y E) (hl : E.length ≤ 10000000) :
    PrimSpec Tryz.prog (.builtin .append [32, 32]) [.v y, .v (.slice (some ⟨b', 0, none⟩) 1 1)] (m.set b' (.cells (encD x).toArray 31)) fun r m' => ∃ y' p', r = [.v y'] ∧ Split m' (ls.set i p') ∧ Do p' y' (E ++ [x]) := by
  have hs1 := hs.new hb (.cells (encD x).toArray 31)
  exact (appendDat (i := i + 1) hs1 (by simpa using hi) hy (Do.blk1 (Mem.set_same ..)).el.ea (by simp; omega)).mono fun r m' ⟨v', p', h1, h2, h3⟩ => ⟨v', p', h1, h2.erase 0, h3⟩
theorem cloneD_spec {m : Mem} {v : Value} {E : List Dt} (hv : Da m v E) (hl : E.length ≤ 10000000) : Spec Tryz.prog 22 [.v v] m fun r m' => ∃ v' p, r = [.v v'] ∧ Split m' [p, m] ∧ Do p v' E := by
  obtain ⟨a, c, rfl⟩ := hv.shape
  cases a with
  | none =>
    have hE : E = [] := by
      rcases hv with (⟨c', e, h⟩ | ⟨b, o, c', n, arr, t, fr, e, _⟩) | ⟨h, _⟩
      · exact List.eq_nil_of_length_eq_zero (encD_ok.count (n := 0) (by rw [h]; rfl))
      · cases e
      · exact h
    subst hE
    refine en22 rfl (goY ?_)
    conv => whnf
    refine ⟨fun _ => ?_, fun h => absurd h (by first | decide | simp)⟩
    conv => whnf
    exact ⟨_, emp, rfl, (Split.one m).addEmp, Do.nil _⟩
  | some a =>
    refine en22 rfl (goY ?_)
    conv => whnf
    refine ⟨fun h => absurd h (by first | decide | simp), fun _ => ?_⟩
    conv => whnf
    refine .mk _ (buildD0) ?_
    rintro _ _ ⟨b, hb, rfl, rfl⟩
    conv => whnf
    refine .mk _ (appendDat (i := 0) ((Split.one m).new hb _) rfl (Do.blk0 (blk1_same ..)) (hv.sub (Mem.sub_set _ hb)) (by simp; omega)) ?_
    rintro _ m' ⟨v', p, rfl, hs, hv'⟩
    conv => whnf
    exact ⟨v', p, rfl, hs, hv'⟩
end Go.E.YtheiididldemmaaGreat

/-
  Slices of maund/vec.Dot: slices.IndexFunc, ContainsFunc.
-/
namespace Go.E.YtheiididldemmaaGreat
open Go.Proofs
set_option maxRecDepth 100000
set_option maxHeartbeats 1000000 in
theorem indexD0_spec {m : Mem} {v : Value} {E : List Dt} {F : Nat} {p : Dt → Bool} (hv : Da m v E) (hF : ∀ e ∈ E, Ret Tryz.prog F [Dv e] m [boolV (p e)]) (hl : E.length ≤ 100000000) : Ret Tryz.prog 81 [.v v, (fn0V F)] m [i64 (idxG p E)] := by
  obtain ⟨a, c, rfl⟩ := hv.shape
  refine en81 rfl (goY ?_)
  conv => whnf
  refine .mk (ι := Nat) (fun i => E.length - i) (fun i mm => i ≤ E.length ∧ (∀ x ∈ E.take i, p x = false) ∧ mm = m) (fun i => [(0, .c (.v (.slice a E.length c))), (1, .c (fn0V F)), (7, .c (i64 E.length)), (8, .c (i64 i))]) (fun _ => []) 0 ⟨by omega, by simp, rfl⟩ ?_ ?_
  · conv => whnf
    repeat (refine And.intro (by first | with_reducible rfl | exact congrArg (Value.int _) (wi (by omega) (by omega)) | exact wi (by omega) (by omega) | rfl) ?_; conv => whnf)
    first | exact trivial | exact fun _ _ h => h
  rintro i mm ⟨hi, hall, he⟩
  subst mm
  conv => whnf
  refine ⟨fun h => ?_, fun h => ?_⟩
  · have h' := of_decide_eq_true h
    have hlt : i < E.length := by omega
    obtain ⟨bl, ol, c', hh, hg⟩ := hv.real hlt
    injection hh with hh1 _ hh3
    subst hh1
    clear hh3 c'
    have hg := hg i hlt
    conv => whnf
    repeat (refine And.intro (by first | omega | (simp only [times]; omega)) ?_; conv => whnf)
    refine ⟨[.one (.int .i64 E[i].1), .one (.int .u64 E[i].2)], ⟨rfl, rfl, trivial⟩, rfl, by simp only [times, Int.toNat_natCast]; exact hg, ?_⟩
    conv => whnf
    first | refine xretk ((hF E[i] (List.getElem_mem hlt))) ?_ | refine xret ((hF E[i] (List.getElem_mem hlt))) ?_
    conv => whnf
    have hst : E.take (i + 1) = E.take i ++ [E[i]] := List.take_succ_eq_append_getElem hlt
    refine ⟨fun h => ?_, fun h => ?_⟩
    · conv => whnf
      exact ⟨by rw [idxG_at hlt hall h], rfl⟩
    · conv => whnf
      refine ⟨i + 1, ⟨by omega, fun x hx => ?_, rfl⟩, by omega, ?_⟩
      · rw [hst] at hx
        rcases List.mem_append.1 hx with hx | hx
        · exact hall x hx
        · rw [List.mem_singleton.1 hx]; exact h
      · conv => whnf
        repeat (refine And.intro (by first | with_reducible rfl | (first | exact congrArg (Value.int _) (iadd (by omega))) | exact congrArg (Value.int _) (wi (by omega) (by omega)) | exact wi (by omega) (by omega) | rfl) ?_; conv => whnf)
        first | exact trivial | exact fun _ _ h => h
  · have h' := of_decide_eq_false h
    obtain rfl : i = E.length := by omega
    rw [List.take_length] at hall
    conv => whnf
    exact ⟨by rw [idxG_none hall], rfl⟩
theorem containsD0_spec {m : Mem} {v : Value} {E : List Dt} {F : Nat} {p : Dt → Bool} (hv : Da m v E) (hF : ∀ e ∈ E, Ret Tryz.prog F [Dv e] m [boolV (p e)]) (hl : E.length ≤ 100000000) : Ret Tryz.prog 49 [.v v, (fn0V F)] m [boolV (E.any p)] := by
  obtain ⟨a, c, rfl⟩ := hv.shape
  refine en49 rfl (goY ?_)
  conv => whnf
  first | refine xretk (indexD0_spec hv hF hl) ?_ | refine xret (indexD0_spec hv hF hl) ?_
  conv => whnf
  exact ⟨by rw [idxG_nonneg], rfl⟩
set_option maxHeartbeats 1000000 in
theorem indexD1_spec {m : Mem} {v : Value} {E : List Dt} {F b : Nat} {p : Dt → Bool} (hv : Da m v E) (hF : ∀ e ∈ E, Ret Tryz.prog F [Dv e, ptrV b] m [boolV (p e)]) (hl : E.length ≤ 100000000) : Ret Tryz.prog 81 [.v v, (fnP1V F b)] m [i64 (idxG p E)] := by
  obtain ⟨a, c, rfl⟩ := hv.shape
  refine en81 rfl (goY ?_)
  conv => whnf
  refine .mk (ι := Nat) (fun i => E.length - i) (fun i mm => i ≤ E.length ∧ (∀ x ∈ E.take i, p x = false) ∧ mm = m) (fun i => [(0, .c (.v (.slice a E.length c))), (1, .c (fnP1V F b)), (7, .c (i64 E.length)), (8, .c (i64 i))]) (fun _ => []) 0 ⟨by omega, by simp, rfl⟩ ?_ ?_
  · conv => whnf
    repeat (refine And.intro (by first | with_reducible rfl | exact congrArg (Value.int _) (wi (by omega) (by omega)) | exact wi (by omega) (by omega) | rfl) ?_; conv => whnf)
    first | exact trivial | exact fun _ _ h => h
  rintro i mm ⟨hi, hall, he⟩
  subst mm
  conv => whnf
  refine ⟨fun h => ?_, fun h => ?_⟩
  · have h' := of_decide_eq_true h
    have hlt : i < E.length := by omega
    obtain ⟨bl, ol, c', hh, hg⟩ := hv.real hlt
    injection hh with hh1 _ hh3
    subst hh1
    clear hh3 c'
    have hg := hg i hlt
    conv => whnf
    repeat (refine And.intro (by first | omega | (simp only [times]; omega)) ?_; conv => whnf)
    refine ⟨[.one (.int .i64 E[i].1), .one (.int .u64 E[i].2)], ⟨rfl, rfl, trivial⟩, rfl, by simp only [times, Int.toNat_natCast]; exact hg, ?_⟩
    conv => whnf
    first | refine xretk ((hF E[i] (List.getElem_mem hlt))) ?_ | refine xret ((hF E[i] (List.getElem_mem hlt))) ?_
    conv => whnf
    have hst : E.take (i + 1) = E.take i ++ [E[i]] := List.take_succ_eq_append_getElem hlt
    refine ⟨fun h => ?_, fun h => ?_⟩
    · conv => whnf
      exact ⟨by rw [idxG_at hlt hall h], rfl⟩
    · conv => whnf
      refine ⟨i + 1, ⟨by omega, fun x hx => ?_, rfl⟩, by omega, ?_⟩
      · rw [hst] at hx
        rcases List.mem_append.1 hx with hx | hx
        · exact hall x hx
        · rw [List.mem_singleton.1 hx]; exact h
      · conv => whnf
        repeat (refine And.intro (by first | with_reducible rfl | (first | exact congrArg (Value.int _) (iadd (by omega))) | exact congrArg (Value.int _) (wi (by omega) (by omega)) | exact wi (by omega) (by omega) | rfl) ?_; conv => whnf)
        first | exact trivial | exact fun _ _ h => h
  · have h' := of_decide_eq_false h
    obtain rfl : i = E.length := by omega
    rw [List.take_length] at hall
    conv => whnf
    exact ⟨by rw [idxG_none hall], rfl⟩
theorem containsD1_spec {m : Mem} {v : Value} {E : List Dt} {F b : Nat} {p : Dt → Bool} (hv : Da m v E) (hF : ∀ e ∈ E, Ret Tryz.prog F [Dv e, ptrV b] m [boolV (p e)]) (hl : E.length ≤ 100000000) : Ret Tryz.prog 49 [.v v, (fnP1V F b)] m [boolV (E.any p)] := by
  obtain ⟨a, c, rfl⟩ := hv.shape
  refine en49 rfl (goY ?_)
  conv => whnf
  first | refine xretk (indexD1_spec hv hF hl) ?_ | refine xret (indexD1_spec hv hF hl) ?_
  conv => whnf
  exact ⟨by rw [idxG_nonneg], rfl⟩
end Go.E.YtheiididldemmaaGreat

/-
  Slices of maund/vec.Dot: slices.Index, Contains, Equal.
-/
namespace Go.E.YtheiididldemmaaGreat
open Go.Proofs
set_option maxRecDepth 100000
theorem eqPD (x y : Dt) : eqLB [.one (.int .i64 x.1), .one (.int .u64 x.2)] [.one (.int .i64 y.1), .one (.int .u64 y.2)] = decide (x = y) := by
  have e : (x = y) ↔ x.1 = y.1 ∧ x.2 = y.2 := ⟨fun h => by subst h; simp, fun h => by obtain ⟨a0, a1⟩ := x; obtain ⟨b0, b1⟩ := y; simp only at h; simp only [Prod.mk.injEq]; exact h⟩
  rw [Bool.eq_iff_iff]
  simp only [eqLB, ceq, Bool.and_eq_true, beq_iff_eq, Bool.and_true, decide_eq_true_eq, e]
theorem eqPD' (x y : Dt) : (!eqLB [.one (.int .i64 x.1), .one (.int .u64 x.2)] [.one (.int .i64 y.1), .one (.int .u64 y.2)]) = decide (x ≠ y) := by rw [eqPD]; simp
set_option maxHeartbeats 1000000 in
theorem indexEqD_spec {m : Mem} {v : Value} {E : List Dt} {x : Dt} (hv : Da m v E) (hl : E.length ≤ 100000000) : Ret Tryz.prog 85 [.v v, Dv x] m [i64 (idxG (fun y => decide (x = y)) E)] := by
  obtain ⟨a, c, rfl⟩ := hv.shape
  refine en85 rfl (goY ?_)
  conv => whnf
  refine .mk (ι := Nat) (fun i => E.length - i) (fun i mm => i ≤ E.length ∧ (∀ y ∈ E.take i, decide (x = y) = false) ∧ mm = m) (fun i => [(0, .c (.v (.slice a E.length c))), (3, .p 0 0), (7, .c (i64 E.length)), (8, .c (i64 i))]) (fun _ => [(31, [.one (.int .i64 x.1), .one (.int .u64 x.2)])]) 0 ⟨by omega, by simp, rfl⟩ ?_ ?_
  · conv => whnf
    repeat (refine And.intro (by first | with_reducible rfl | exact congrArg (Value.int _) (wi (by omega) (by omega)) | exact wi (by omega) (by omega) | rfl) ?_; conv => whnf)
    first | exact trivial | exact fun _ _ h => h
  rintro i mm ⟨hi, hall, he⟩
  subst mm
  conv => whnf
  refine ⟨fun h => ?_, fun h => ?_⟩
  · have h' := of_decide_eq_true h
    have hlt : i < E.length := by omega
    obtain ⟨bl, ol, c', hh, hg⟩ := hv.real hlt
    injection hh with hh1 _ hh3
    subst hh1
    clear hh3 c'
    have hg := hg i hlt
    have hst : E.take (i + 1) = E.take i ++ [E[i]] := List.take_succ_eq_append_getElem hlt
    conv => whnf
    repeat (refine And.intro (by first | omega | (simp only [times]; omega)) ?_; conv => whnf)
    refine ⟨[.one (.int .i64 E[i].1), .one (.int .u64 E[i].2)], ⟨rfl, rfl, trivial⟩, rfl, by simp only [times, Int.toNat_natCast]; exact hg, ?_⟩
    conv => whnf
    rw [eqPD]
    refine ⟨fun h => ?_, fun h => ?_⟩
    · conv => whnf
      exact ⟨by rw [idxG_at hlt hall h], rfl⟩
    · conv => whnf
      refine ⟨i + 1, ⟨by omega, fun y hy => ?_, rfl⟩, by omega, ?_⟩
      · rw [hst] at hy
        rcases List.mem_append.1 hy with hy | hy
        · exact hall y hy
        · rw [List.mem_singleton.1 hy]; exact h
      · conv => whnf
        repeat (refine And.intro (by first | with_reducible rfl | (first | exact congrArg (Value.int _) (iadd (by omega))) | exact congrArg (Value.int _) (wi (by omega) (by omega)) | exact wi (by omega) (by omega) | rfl) ?_; conv => whnf)
        first | exact trivial | exact fun _ _ h => h
  · have h' := of_decide_eq_false h
    obtain rfl : i = E.length := by omega
    rw [List.take_length] at hall
    conv => whnf
    exact ⟨by rw [idxG_none hall], rfl⟩
theorem contains_anyD (x : Dt) (E : List Dt) : (E.any fun y => decide (x = y)) = E.contains x := by
  rw [Bool.eq_iff_iff, List.any_eq_true, List.contains_iff_mem]
  exact ⟨fun ⟨y, h1, h2⟩ => by rw [of_decide_eq_true h2]; exact h1, fun h => ⟨x, h, by simp⟩⟩
theorem containsEqD_spec {m : Mem} {v : Value} {E : List Dt} {x : Dt} (hv : Da m v E) (hl : E.length ≤ 100000000) : Ret Tryz.prog 54 [.v v, Dv x] m [boolV (E.contains x)] := by
  obtain ⟨a, c, rfl⟩ := hv.shape
  refine en54 rfl (goY ?_)
  conv => whnf
  first | refine xretk (indexEqD_spec hv hl) ?_ | refine xret (indexEqD_spec hv hl) ?_
  conv => whnf
  exact ⟨by rw [idxG_nonneg, contains_anyD], rfl⟩
set_option maxHeartbeats 1000000 in
theorem equalD_spec {m : Mem} {v w : Value} {E K : List Dt} (hv : Da m v E) (hw : Da m w K) (hl : E.length ≤ 100000000) : Ret Tryz.prog 31 [.v v, .v w] m [boolV (decide (E = K))] := by
  obtain ⟨a, c, rfl⟩ := hv.shape
  obtain ⟨aw, cw, rfl⟩ := hw.shape
  refine en31 rfl (goY ?_)
  conv => whnf
  refine ⟨fun h => ?_, fun h => ?_⟩
  · conv => whnf
    have : E ≠ K := by rintro rfl; simp at h
    rw [decide_eq_false this]
    exact ⟨rfl, rfl⟩
  have hlk : E.length = K.length := by simp at h; omega
  clear h
  rw [← hlk] at hw ⊢
  conv => whnf
  refine .mk (ι := Nat) (fun i => E.length - i) (fun i mm => i ≤ E.length ∧ E.take i = K.take i ∧ mm = m) (fun i => [(0, .c (.v (.slice a E.length c))), (1, .c (.v (.slice aw E.length cw))), (12, .c (i64 E.length)), (13, .c (i64 i))]) (fun _ => []) 0 ⟨by omega, by simp, rfl⟩ ?_ ?_
  · conv => whnf
    repeat (refine And.intro (by first | with_reducible rfl | exact congrArg (Value.int _) (wi (by omega) (by omega)) | exact wi (by omega) (by omega) | rfl) ?_; conv => whnf)
    first | exact trivial | exact fun _ _ h => h
  rintro i mm ⟨hi, htk, he⟩
  subst mm
  conv => whnf
  refine ⟨fun h1 => ?_, fun h1 => ?_⟩
  · have h1' := of_decide_eq_true h1
    have hlt : i < E.length := by omega
    have hltk : i < K.length := by omega
    obtain ⟨b, o, c', hh, hg⟩ := hv.real hlt
    injection hh with hh1 _ hh3
    subst hh1
    clear hh3 c'
    have hw' : Da m (.slice aw K.length cw) K := by rw [← hlk]; exact hw
    obtain ⟨bw, ow, c', hh, hgw⟩ := hw'.real hltk
    injection hh with hh1 _ hh3
    subst hh1
    clear hh3 c'
    have hg := hg i hlt
    have hgw := hgw i hltk
    conv => whnf
    repeat (refine And.intro (by first | omega | (simp only [times]; omega)) ?_; conv => whnf)
    refine ⟨[.one (.int .i64 E[i].1), .one (.int .u64 E[i].2)], ⟨rfl, rfl, trivial⟩, rfl, by simp only [times, Int.toNat_natCast]; exact hg, ?_⟩
    conv => whnf
    repeat (refine And.intro (by first | omega | (simp only [times]; omega)) ?_; conv => whnf)
    refine ⟨[.one (.int .i64 K[i].1), .one (.int .u64 K[i].2)], ⟨rfl, rfl, trivial⟩, rfl, by simp only [times, Int.toNat_natCast]; exact hgw, ?_⟩
    conv => whnf
    rw [eqPD']
    refine ⟨fun h2 => ?_, fun h2 => ?_⟩
    · conv => whnf
      have : E ≠ K := by rintro rfl; exact absurd rfl (of_decide_eq_true h2)
      rw [decide_eq_false this]
      exact ⟨rfl, rfl⟩
    · have h2' : E[i] = K[i] := by simpa using h2
      conv => whnf
      refine ⟨i + 1, ⟨by omega, by rw [List.take_succ_eq_append_getElem hlt, List.take_succ_eq_append_getElem hltk, htk, h2'], rfl⟩, by omega, ?_⟩
      conv => whnf
      repeat (refine And.intro (by first | with_reducible rfl | (first | exact congrArg (Value.int _) (iadd (by omega))) | exact congrArg (Value.int _) (wi (by omega) (by omega)) | exact wi (by omega) (by omega) | rfl) ?_; conv => whnf)
      first | exact trivial | exact fun _ _ h => h
  · have h1' := of_decide_eq_false h1
    obtain rfl : i = E.length := by omega
    rw [List.take_length, hlk, List.take_length] at htk
    conv => whnf
    rw [decide_eq_true htk]
    exact ⟨rfl, rfl⟩
end Go.E.YtheiididldemmaaGreat

/-
  slices.SortFunc at maund/vec.Dot: the library's contract, laid at this program.
-/
namespace Go.E.YtheiididldemmaaGreat
open Go.Proofs Go.Shelf Go.Sort Go.Lib
set_option maxRecDepth 100000
def renD : Go.Shelf.Ren := ⟨fun n => if n = 6 then 103 else if n = 14 then 111 else if n = 15 then 44 else if n = 20 then 120 else if n = 21 then 121 else if n = 22 then 122 else if n = 23 then 123 else if n = 24 then 124 else if n = 25 then 125 else if n = 26 then 126 else if n = 27 then 127 else if n = 28 then 75 else if n = 29 then 76 else if n = 46 then 131 else if n = 47 then 97 else if n = 48 then 98 else if n = 49 then 132 else if n = 50 then 133 else if n = 57 then 135 else 0, fun n => if n = 0 then 0 else if n = 3 then 3 else if n = 4 then 4 else if n = 5 then 5 else if n = 9 then 9 else if n = 22 then 32 else if n = 24 then 31 else if n = 25 then 96 else if n = 39 then 88 else if n = 45 then 107 else if n = 46 then 108 else if n = 50 then 113 else if n = 53 then 116 else if n = 55 then 29 else if n = 66 then 138 else if n = 70 then 142 else if n = 76 then 150 else if n = 77 then 151 else 0, fun n => n⟩
theorem laysD : SlLaysF0.n6 Tryz.prog renD where
  mixed := by kernel_rfl
  f6 := ⟨Tryz.f103.name, by kernel_rfl, by kernel_rfl⟩
  f14 := ⟨Tryz.f111.name, by kernel_rfl, by kernel_rfl⟩
  f15 := by kernel_rfl
  f20 := ⟨Tryz.f120.name, by kernel_rfl, by kernel_rfl⟩
  f21 := ⟨Tryz.f121.name, by kernel_rfl, by kernel_rfl⟩
  f22 := ⟨Tryz.f122.name, by kernel_rfl, by kernel_rfl⟩
  f23 := ⟨Tryz.f123.name, by kernel_rfl, by kernel_rfl⟩
  f24 := ⟨Tryz.f124.name, by kernel_rfl, by kernel_rfl⟩
  f25 := ⟨Tryz.f125.name, by kernel_rfl, by kernel_rfl⟩
  f26 := ⟨Tryz.f126.name, by kernel_rfl, by kernel_rfl⟩
  f27 := ⟨Tryz.f127.name, by kernel_rfl, by kernel_rfl⟩
  f28 := by kernel_rfl
  f29 := by kernel_rfl
  f46 := ⟨Tryz.f131.name, by kernel_rfl, by kernel_rfl⟩
  f47 := by kernel_rfl
  f48 := by kernel_rfl
  f49 := ⟨Tryz.f132.name, by kernel_rfl, by kernel_rfl⟩
  f50 := ⟨Tryz.f133.name, by kernel_rfl, by kernel_rfl⟩
  f57 := ⟨Tryz.f135.name, by kernel_rfl, by kernel_rfl⟩
  t0 := Tryz.underlying0
  a0 := Tryz.isAgg0
  z0 := Tryz.sizeOf0
  v0 := Tryz.zeroValue0
  t3 := Tryz.underlying3
  a3 := Tryz.isAgg3
  z3 := Tryz.sizeOf3
  v3 := Tryz.zeroValue3
  t4 := Tryz.underlying4
  a4 := Tryz.isAgg4
  z4 := Tryz.sizeOf4
  v4 := Tryz.zeroValue4
  t5 := Tryz.underlying5
  a5 := Tryz.isAgg5
  z5 := Tryz.sizeOf5
  v5 := Tryz.zeroValue5
  t9 := Tryz.underlying9
  a9 := Tryz.isAgg9
  z9 := Tryz.sizeOf9
  v9 := Tryz.zeroValue9
  t22 := Tryz.underlying32
  a22 := Tryz.isAgg32
  z22 := Tryz.sizeOf32
  v22 := Tryz.zeroValue32
  t25 := Tryz.underlying96
  a25 := Tryz.isAgg96
  z25 := Tryz.sizeOf96
  v25 := Tryz.zeroValue96
  t39 := Tryz.underlying88
  a39 := Tryz.isAgg88
  z39 := Tryz.sizeOf88
  v39 := Tryz.zeroValue88
  t45 := Tryz.underlying107
  a45 := Tryz.isAgg107
  z45 := Tryz.sizeOf107
  v45 := Tryz.zeroValue107
  t46 := Tryz.underlying108
  a46 := Tryz.isAgg108
  z46 := Tryz.sizeOf108
  v46 := Tryz.zeroValue108
  t50 := Tryz.underlying113
  a50 := Tryz.isAgg113
  z50 := Tryz.sizeOf113
  v50 := Tryz.zeroValue113
  t53 := Tryz.underlying116
  a53 := Tryz.isAgg116
  z53 := Tryz.sizeOf116
  v53 := Tryz.zeroValue116
  t55 := Tryz.underlying29
  a55 := Tryz.isAgg29
  z55 := Tryz.sizeOf29
  v55 := Tryz.zeroValue29
  t66 := Tryz.underlying138
  a66 := Tryz.isAgg138
  z66 := Tryz.sizeOf138
  v66 := Tryz.zeroValue138
  t70 := Tryz.underlying142
  a70 := Tryz.isAgg142
  z70 := Tryz.sizeOf142
  v70 := Tryz.zeroValue142
  t76 := Tryz.underlying150
  a76 := Tryz.isAgg150
  z76 := Tryz.sizeOf150
  v76 := Tryz.zeroValue150
  t77 := Tryz.underlying151
  a77 := Tryz.isAgg151
  z77 := Tryz.sizeOf151
  v77 := Tryz.zeroValue151
instance : Inhabited Dt := ⟨(0, 0)⟩
theorem enters_sortD : Enters Tryz.prog 103 := laysD.f6.enters rfl
theorem sortFD_spec (hS : Strict) {cf : Dt → Dt → Int} (hO : SWO (ltOf cf)) (hT : ∀ x y, (ltOf cf) x y = false → (ltOf cf) y x = false → x = y) {g : Nat} (hcf : ∀ x y, Spec Tryz.prog g [Dv x, Dv y] emp fun r _ => r = [i64 (cf x y)])
    {m : Mem} {v : Value} {E : List Dt} (hv : Do m v E) (hl : E.length ≤ 1000000000) :
    Spec Tryz.prog 103 [.v v, fn0V g] m fun r m' => r = [] ∧ Do m' v (E.mergeSort fun x y => !ltOf cf y x) :=
  sortK_spec (ρ := renD) hS laysD (k := 2) Tryz.isAgg31 Tryz.sizeOf31 encD_ok hO hT enters_sortD (parts := fun x => [.one (.int .i64 x.1), .one (.int .u64 x.2)]) (fun _ => rfl) (fun _ => ⟨rfl, rfl, trivial⟩) hcf hv hl
end Go.E.YtheiididldemmaaGreat
