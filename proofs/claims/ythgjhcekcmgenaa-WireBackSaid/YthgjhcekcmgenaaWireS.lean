/-
  The statements' own functions of chapter 02: put.
-/
import Derived.Test.YthgjhcekcmgenaaWireR
namespace Go.E.Ythgjhcekcmgenaa
open Go.Proofs
set_option maxRecDepth 100000

/-- a writer, or none -/
def Wo (m : Mem) (w : CV) (l : List Int) : Prop := w = nilP ∨ ∃ bp, w = ptrV bp ∧ Wr m bp l
theorem wonum_spec {m : Mem} {w : CV} {l : List Int} {n : Int} (hw : Wo m w l) (hn : U64 n) (hb : l.length ≤ 100000000) :
    Spec Try.prog 10 [w, u64 n] m fun r m' => r = [] ∧ Wo m' w (l ++ numB n) := by
  rcases hw with rfl | ⟨bp, rfl, hw⟩
  · exact wnum_nil.mono fun r m' h => ⟨h.1, .inl rfl⟩
  · exact (wnum_spec hw hn hb).mono fun r m' h => ⟨h.1, .inr ⟨bp, rfl, h.2⟩⟩
theorem woint_spec {m : Mem} {w : CV} {l : List Int} {n : Int} (hw : Wo m w l) (hn : I64 n) (hb : l.length ≤ 100000000) :
    Spec Try.prog 12 [w, i64 n] m fun r m' => r = [] ∧ Wo m' w (l ++ numB (intU n)) := by
  rcases hw with rfl | ⟨bp, rfl, hw⟩
  · exact wint_nil.mono fun r m' h => ⟨h.1, .inl rfl⟩
  · exact (wint_spec hw hn hb).mono fun r m' h => ⟨h.1, .inr ⟨bp, rfl, h.2⟩⟩
theorem wodigest_spec {m : Mem} {w : CV} {l d : List Int} (hw : Wo m w l) (hd : d.length = 32) (hb : l.length ≤ 100000000) :
    Spec Try.prog 16 [w, digV d] m fun r m' => r = [] ∧ Wo m' w (l ++ d) := by
  rcases hw with rfl | ⟨bp, rfl, hw⟩
  · exact wdigest_nil.mono fun r m' h => ⟨h.1, .inl rfl⟩
  · exact (wdigest_spec hw hd hb).mono fun r m' h => ⟨h.1, .inr ⟨bp, rfl, h.2⟩⟩
theorem wovec_spec {m : Mem} {w : CV} {l v : List Int} (hw : Wo m w l) (hv : V8 v) (hb : l.length ≤ 10000000) :
    Spec Try.prog 18 [w, vecV v] m fun r m' => r = [] ∧ Wo m' w (l ++ vecB v) := by
  rcases hw with rfl | ⟨bp, rfl, hw⟩
  · exact (wvec_nil hv.1).mono fun r m' h => ⟨h.1, .inl rfl⟩
  · exact (wvec_spec hw hv hb).mono fun r m' h => ⟨h.1, .inr ⟨bp, rfl, h.2⟩⟩
theorem wotext_spec {m p q : Mem} {ls : List Mem} {i j : Nat} {w : CV} {l b : List Int} {v : Value} (hs : Split m ls) (hi : ls[i]? = some p) (hj : ls[j]? = some q) (hij : i ≠ j) (hw : Wo p w l) (hv : La q v b) (hb : l.length ≤ 10000000) (hbb : b.length ≤ 10000000) :
    Spec Try.prog 14 [w, .v v] m fun r m' => r = [] ∧ ∃ p', Split m' (ls.set i p') ∧ Wo p' w (l ++ textB b) := by
  rcases hw with rfl | ⟨bp, rfl, hw⟩
  · exact wtext_nil.mono fun r m' h => ⟨h.1, p, by rw [h.2, setSame hi]; exact hs, .inl rfl⟩
  · exact (wtext_spec hs hi hj hij hw hv hb hbb).mono fun r m' ⟨h1, p', h2, h3⟩ => ⟨h1, p', h2, .inr ⟨bp, rfl, h3⟩⟩
/-- a part of a statement -/
structure Part where
  k : Int
  i : Int
  mo : Int
  n : Int
  b : List Int
  d : List Int
  v : List Int
structure Part.ok (x : Part) : Prop where
  k : I64 x.k
  i : I64 x.i
  mo : I64 x.mo
  n : U64 x.n
  b : ∀ y ∈ x.b, 0 ≤ y ∧ y < 256
  d : x.d.length = 32
  db : ∀ y ∈ x.d, 0 ≤ y ∧ y < 256
  v : V8 x.v
abbrev partV (x : Part) (bv : Value) : CV := .a [.one (.int .i64 x.k), .one (.int .i64 x.i), .one (.int .i64 x.mo), .one (.int .u64 x.n), .one bv, .ints .u8 32 x.d, .ints .u64 8 x.v]
def partB (x : Part) : List Int :=
  if x.k = 0 ∨ x.k = 5 then numB x.n else if x.k = 1 then numB (intU x.i) else if x.k = 2 then textB x.b else if x.k = 3 then x.d else if x.k = 4 then vecB x.v else []
theorem great_spec {m : Mem} {x : Part} {bv : Value} (hv : La m bv x.b) : Ret Try.prog 5 [partV x bv] m [boolV (decide (500 < x.b.length))] := by
  obtain ⟨a, c, rfl⟩ := hv.shape
  refine en5 rfl (goY ?_)
  conv => whnf
  refine ⟨?_, rfl⟩
  rw [show decide ((500 : Int) < (x.b.length : Int)) = decide (500 < x.b.length) from decide_eq_decide.2 (by omega)]
set_option maxHeartbeats 2000000 in
theorem put_spec {m p q : Mem} {ls : List Mem} {i j : Nat} {w : CV} {l : List Int} {x : Part} {bv : Value} (hs : Split m ls) (hi : ls[i]? = some p) (hj : ls[j]? = some q) (hij : i ≠ j) (hx : x.ok) (hw : Wo p w l) (hv : La q bv x.b) (hb : l.length ≤ 1000000) (hbb : x.b.length ≤ 1000000) :
    Spec Try.prog 7 [w, partV x bv] m fun r m' => ∃ v' q' p', r = [.v v'] ∧ Split m' (q' :: ls.set i p') ∧ Lb q' v' (partB x) ∧ Wo p' w (l ++ partB x) := by
  refine en7 rfl (goY ?_)
  conv => whnf
  intro bb hbb0
  have hs := hs.new hbb0 (Obj.cells (LB.cells [.one (.int .i64 x.k), .one (.int .i64 x.i), .one (.int .i64 x.mo), .one (.int .u64 x.n), .one bv, .ints .u8 32 x.d, .ints .u64 8 x.v]).toArray 34)
  have hbk := hs.at (i := 0) rfl _ _ (blk1_same ..)
  generalize hM : m.set bb _ = M at hs hbk
  conv => whnf
  refine ⟨_, mcell_of hbk rfl, rfl, ?_⟩
  conv => whnf
  have fin : ∀ (c : List Int) {p' q' : Mem} {v' : Value} {m' : Mem}, partB x = c → Split m' (q' :: ls.set i p') → Lb q' v' c → Wo p' w (l ++ c) → [CV.v v'] = [.v v'] ∧ Split m' (q' :: ls.set i p') ∧ Lb q' v' (partB x) ∧ Wo p' w (l ++ partB x) := by
    rintro c p' q' v' m' rfl h1 h2 h3; exact ⟨rfl, h1, h2, h3⟩
  refine ⟨fun h => ?_, fun h => ?_⟩
  · have h0 : x.k = 0 := by simpa using h
    conv => whnf
    refine ⟨_, mcell_of hbk rfl, rfl, ?_⟩
    conv => whnf
    refine xcall ((wonum_spec hw hx.n (by omega)).at (i := i + 1) hs hi) ?_
    rintro _ m1 ⟨p1, ⟨rfl, hw1⟩, hs1⟩
    conv => whnf
    refine ⟨_, mcell_of (hs1.at (i := 0) rfl _ _ (blk1_same ..)) rfl, rfl, ?_⟩
    conv => whnf
    refine xcall ((rnum_spec hx.n).new hs1) ?_
    rintro _ m2 ⟨q2, ⟨v2, rfl, hv2⟩, hs2⟩
    conv => whnf
    exact ⟨v2, q2, p1, fin _ (by simp [partB, h0]) (hs2.erase 1) hv2.lb hw1⟩
  · have n0 : x.k ≠ 0 := by simpa using h
    conv => whnf
    refine ⟨fun h => ?_, fun h => ?_⟩
    · have h0 : x.k = 5 := by simpa using h
      conv => whnf
      refine ⟨_, mcell_of hbk rfl, rfl, ?_⟩
      conv => whnf
      refine xcall ((wonum_spec hw hx.n (by omega)).at (i := i + 1) hs hi) ?_
      rintro _ m1 ⟨p1, ⟨rfl, hw1⟩, hs1⟩
      conv => whnf
      refine ⟨_, mcell_of (hs1.at (i := 0) rfl _ _ (blk1_same ..)) rfl, rfl, ?_⟩
      conv => whnf
      refine xcall ((rnum_spec hx.n).new hs1) ?_
      rintro _ m2 ⟨q2, ⟨v2, rfl, hv2⟩, hs2⟩
      conv => whnf
      exact ⟨v2, q2, p1, fin _ (by simp [partB, h0]) (hs2.erase 1) hv2.lb hw1⟩
    · have n5 : x.k ≠ 5 := by simpa using h
      conv => whnf
      refine ⟨fun h => ?_, fun h => ?_⟩
      · have h0 : x.k = 1 := by simpa using h
        conv => whnf
        refine ⟨_, mcell_of hbk rfl, rfl, ?_⟩
        conv => whnf
        refine xcall ((woint_spec hw hx.i (by omega)).at (i := i + 1) hs hi) ?_
        rintro _ m1 ⟨p1, ⟨rfl, hw1⟩, hs1⟩
        conv => whnf
        refine ⟨_, mcell_of (hs1.at (i := 0) rfl _ _ (blk1_same ..)) rfl, rfl, ?_⟩
        conv => whnf
        refine xcall ((rint_spec hx.i).new hs1) ?_
        rintro _ m2 ⟨q2, ⟨v2, rfl, hv2⟩, hs2⟩
        conv => whnf
        exact ⟨v2, q2, p1, fin _ (by simp [partB, h0]) (hs2.erase 1) hv2.lb hw1⟩
      · have n1 : x.k ≠ 1 := by simpa using h
        conv => whnf
        refine ⟨fun h => ?_, fun h => ?_⟩
        · have h0 : x.k = 2 := by simpa using h
          conv => whnf
          refine ⟨_, mcell_of hbk rfl, hv.one, ?_⟩
          conv => whnf
          refine xcall (wotext_spec (i := i + 1) (j := j + 1) hs hi hj (by omega) hw hv (by omega) (by omega)) ?_
          rintro _ m1 ⟨rfl, p1, hs1, hw1⟩
          conv => whnf
          refine ⟨_, mcell_of (hs1.at (i := 0) rfl _ _ (blk1_same ..)) rfl, hv.one, ?_⟩
          conv => whnf
          refine xcall (rtext_spec (hv.sub (hs1.at (i := j + 1) (setOther hj hij p1))) (by omega)) ?_
          rintro _ m2 ⟨v2, q2, rfl, hs2, hv2⟩
          conv => whnf
          exact ⟨v2, q2, p1, fin _ (by simp [partB, h0]) ((hs2.under (a := [q2]) hs1).erase 1) hv2.lb hw1⟩
        · have n2 : x.k ≠ 2 := by simpa using h
          conv => whnf
          refine ⟨fun h => ?_, fun h => ?_⟩
          · have h0 : x.k = 3 := by simpa using h
            conv => whnf
            refine ⟨[.ints .u8 32 x.d], ⟨hx.d, trivial⟩, rfl, MRange.mid [.one (.int .i64 x.k), .one (.int .i64 x.i), .one (.int .i64 x.mo), .one (.int .u64 x.n), .one bv] [.ints .u64 8 x.v] hbk rfl, ?_⟩
            conv => whnf
            refine xcall ((wodigest_spec hw hx.d (by omega)).at (i := i + 1) hs hi) ?_
            rintro _ m1 ⟨p1, ⟨rfl, hw1⟩, hs1⟩
            conv => whnf
            intro o' ho _
            obtain rfl : o' = 5 := ho (by decide)
            conv => whnf
            exact ⟨_, _, p1, fin _ (by simp [partB, h0]) hs1 (Lb.ofRange (MRange.mid [.one (.int .i64 x.k), .one (.int .i64 x.i), .one (.int .i64 x.mo), .one (.int .u64 x.n), .one bv] [.ints .u64 8 x.v] (blk1_same ..) rfl) hx.d (Nat.le_refl _)) hw1⟩
          · have n3 : x.k ≠ 3 := by simpa using h
            conv => whnf
            refine ⟨fun h => ?_, fun h => ?_⟩
            · have h0 : x.k = 4 := by simpa using h
              conv => whnf
              refine ⟨[.ints .u64 8 x.v], ⟨hx.v.1, trivial⟩, rfl, MRange.mid ([.one (.int .i64 x.k), .one (.int .i64 x.i), .one (.int .i64 x.mo), .one (.int .u64 x.n), .one bv] ++ [.ints .u8 32 x.d]) [] (hbk) (by simp [LB.cells, Seg.cells, hx.d]), ?_⟩
              conv => whnf
              refine xcall ((wovec_spec hw hx.v (by omega)).at (i := i + 1) hs hi) ?_
              rintro _ m1 ⟨p1, ⟨rfl, hw1⟩, hs1⟩
              conv => whnf
              refine ⟨[.ints .u64 8 x.v], ⟨hx.v.1, trivial⟩, rfl, MRange.mid ([.one (.int .i64 x.k), .one (.int .i64 x.i), .one (.int .i64 x.mo), .one (.int .u64 x.n), .one bv] ++ [.ints .u8 32 x.d]) [] (hs1.at (i := 0) rfl _ _ (blk1_same ..)) (by simp [LB.cells, Seg.cells, hx.d]), ?_⟩
              conv => whnf
              refine xcall ((rvec_spec hx.v).new hs1) ?_
              rintro _ m2 ⟨q2, ⟨v2, rfl, hv2⟩, hs2⟩
              conv => whnf
              exact ⟨v2, q2, p1, fin _ (by simp [partB, h0]) (hs2.erase 1) hv2.lb hw1⟩
            · have n4 : x.k ≠ 4 := by simpa using h
              conv => whnf
              exact ⟨_, _, p, fin [] (by simp [partB, n0, n1, n2, n3, n4, n5]) (by rw [setSame hi]; exact hs) (Lb.nil _ _) (by rw [List.append_nil]; exact hw)⟩
end Go.E.Ythgjhcekcmgenaa
