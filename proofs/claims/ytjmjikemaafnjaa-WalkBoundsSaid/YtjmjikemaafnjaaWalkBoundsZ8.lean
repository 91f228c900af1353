/-
  WalkH, WalkG, WalkL, E16, E18, E24, DigDat, WalkE, WalkB, WalkF, T16Dat
-/
import Derived.Test.YtjmjikemaafnjaaWalkBoundsZ7
import Derived.ProofKit
import Derived.OpenShut
import Derived.ChangeArms
/-
  The digests of fixed trees (chapter 21).
-/
namespace Go.E
namespace Tr21
def d0 : List Nat := [110, 52, 11, 156, 255, 179, 122, 152, 156, 165, 68, 230, 187, 120, 10, 44, 120, 144, 29, 63, 179, 55, 56, 118, 133, 17, 163, 6, 23, 175, 160, 29]
def d1 : List Nat := [61, 152, 27, 166, 100, 234, 31, 54, 218, 48, 102, 189, 149, 118, 183, 26, 29, 3, 165, 0, 95, 59, 219, 179, 88, 22, 97, 45, 15, 7, 140, 24]
def d2 : List Nat := [223, 120, 159, 7, 224, 114, 144, 222, 181, 63, 117, 247, 15, 115, 197, 134, 38, 132, 186, 86, 194, 70, 20, 107, 62, 236, 150, 67, 91, 64, 143, 15]
def dx : List Nat := [60, 126, 155, 201, 48, 220, 147, 240, 31, 166, 153, 133, 239, 36, 45, 159, 158, 134, 31, 60, 83, 85, 170, 36, 206, 94, 244, 180, 184, 167, 12, 203]
def e1 : List Nat := [102, 123, 221, 182, 33, 238, 20, 74, 216, 248, 3, 194, 246, 90, 64, 41, 219, 102, 67, 252, 220, 177, 89, 37, 110, 68, 173, 34, 54, 101, 27, 36]
def r1 : List Nat := [182, 37, 136, 178, 86, 184, 241, 99, 36, 127, 133, 61, 139, 217, 139, 28, 74, 124, 252, 182, 77, 247, 140, 208, 86, 142, 85, 124, 131, 42, 112, 162]
def dy : List Nat := [53, 83, 235, 53, 26, 218, 199, 12, 245, 202, 164, 254, 250, 28, 175, 140, 236, 114, 100, 3, 254, 75, 52, 193, 79, 27, 184, 217, 128, 194, 11, 149]
def e3 : List Nat := [2, 118, 57, 77, 73, 238, 152, 84, 205, 154, 254, 8, 152, 100, 254, 15, 192, 205, 53, 241, 134, 1, 176, 86, 99, 63, 217, 136, 131, 43, 137, 37]
def r2 : List Nat := [65, 91, 194, 50, 94, 101, 90, 49, 203, 185, 179, 111, 80, 132, 64, 47, 200, 230, 172, 124, 109, 243, 4, 246, 101, 58, 186, 54, 65, 151, 242, 12]
theorem d0_eq : Sha.sum [0] = d0 := by
  rw [← Sha.sumK_eq]; decide +kernel
theorem d1_eq : Sha.sum (1 :: (d0 ++ (d0 ++ (d0 ++ d0)))) = d1 := by
  rw [← Sha.sumK_eq]; decide +kernel
theorem d2_eq : Sha.sum (1 :: (d1 ++ (d1 ++ (d1 ++ d1)))) = d2 := by
  rw [← Sha.sumK_eq]; decide +kernel
theorem dx_eq : Sha.sum [0, 120] = dx := by
  rw [← Sha.sumK_eq]; decide +kernel
theorem e1_eq : Sha.sum (1 :: (d0 ++ (d0 ++ (d0 ++ dx)))) = e1 := by
  rw [← Sha.sumK_eq]; decide +kernel
theorem r1_eq : Sha.sum (1 :: (e1 ++ (d1 ++ (d1 ++ d1)))) = r1 := by
  rw [← Sha.sumK_eq]; decide +kernel
theorem dy_eq : Sha.sum [0, 121] = dy := by
  rw [← Sha.sumK_eq]; decide +kernel
theorem e3_eq : Sha.sum (1 :: (d0 ++ (dy ++ (d0 ++ d0)))) = e3 := by
  rw [← Sha.sumK_eq]; decide +kernel
theorem r2_eq : Sha.sum (1 :: (e1 ++ (d1 ++ (e3 ++ d1)))) = r2 := by
  rw [← Sha.sumK_eq]; decide +kernel
end Tr21
end Go.E

/-
  The fixed trees of chapter 21.
-/
namespace Go.E.Ytjmjikemaafnjaa
open Go.Proofs
set_option maxRecDepth 100000
namespace Tr
open Tr21
def belowD (ds : List (List Nat)) (p : Nat) : List Nat := 1 :: (ds.getD (4 * p + 1) [] ++ (ds.getD (4 * p + 2) [] ++ (ds.getD (4 * p + 3) [] ++ ds.getD (4 * p + 4) [])))
structure Fl (ds : List (List Nat)) : Prop where
  d : D32 ds
  len : ds.length = 21
theorem Fl.set {ds : List (List Nat)} (h : Fl ds) {p : Nat} (hp : p < 21) {d : List Nat} (hd : d.length = 32) : put ds.flatten p d = (ds.set p d).flatten ∧ Fl (ds.set p d) := by
  have := h.len
  obtain ⟨h1, h2⟩ := put_flat h.d (p := p) (by omega) hd
  exact ⟨h1, h2, by simp [h.len]⟩
theorem Fl.below {ds : List (List Nat)} (h : Fl ds) {p : Nat} (hp : p < 5) : below ds.flatten p = belowD ds p := below_flat h.d h.len hp
theorem Fl.up {ds : List (List Nat)} (h : Fl ds) {p : Nat} (hp : p < 5) : put ds.flatten p (Sha.sum (Tr.below ds.flatten p)) = (ds.set p (Sha.sum (belowD ds p))).flatten ∧ Fl (ds.set p (Sha.sum (belowD ds p))) := by
  rw [h.below hp]; exact h.set (by omega) (sum_len _)
def lvC (h : List Nat) : Nat → List (List Nat)
  | 0 => List.replicate 21 (List.replicate 32 0)
  | i + 1 => (lvC h i).set (5 + i) h
theorem lvC_flat : ∀ {i : Nat}, i ≤ 16 → lv (List.replicate 16 []) i = (lvC d0 i).flatten ∧ Fl (lvC d0 i)
  | 0, _ => ⟨by decide, by intro d hd; rw [lvC] at hd; rw [(List.mem_replicate.1 hd).2]; rfl, rfl⟩
  | i + 1, h => by
    obtain ⟨h1, h2⟩ := lvC_flat (i := i) (by omega)
    have hg : (List.replicate 16 ([] : List Nat)).getD i [] = [] := by
      rw [List.getD_eq_getElem?_getD, List.getElem?_replicate, if_pos (by omega)]; rfl
    have hd : leafD [] = d0 := d0_eq
    rw [lv, h1, hg, hd]
    exact h2.set (by omega) rfl
def z32 : List Nat := List.replicate 32 0
def lA : List (List Nat) := [d2, d1, d1, d1, d1, d0, d0, d0, d0, d0, d0, d0, d0, d0, d0, d0, d0, d0, d0, d0, d0]
theorem ofT_A : ofT (List.replicate 16 []) = lA.flatten ∧ Fl lA := by
  obtain ⟨h1, h2⟩ := lvC_flat (Nat.le_refl 16)
  have s0 : lvC d0 16 = [z32, z32, z32, z32, z32, d0, d0, d0, d0, d0, d0, d0, d0, d0, d0, d0, d0, d0, d0, d0, d0] := rfl
  rw [s0] at h1 h2
  rw [ofT, h1, inn_succ, inn_succ, inn_succ, inn_succ, inn_succ, show ∀ t, inn t 0 = t from fun _ => rfl]
  obtain ⟨a4, b4⟩ := h2.up (p := 4) (by decide)
  rw [show belowD [z32, z32, z32, z32, z32, d0, d0, d0, d0, d0, d0, d0, d0, d0, d0, d0, d0, d0, d0, d0, d0] 4 = 1 :: (d0 ++ (d0 ++ (d0 ++ d0))) from rfl, d1_eq] at a4 b4
  rw [show 4 - 0 = 4 from rfl, a4]
  obtain ⟨a3, b3⟩ := b4.up (p := 3) (by decide)
  rw [show ∀ x y, belowD (([z32, z32, z32, z32, x, d0, d0, d0, d0, d0, d0, d0, d0, d0, d0, d0, d0, d0, d0, d0, d0] : List (List Nat)).set 4 y) 3 = 1 :: (d0 ++ (d0 ++ (d0 ++ d0))) from fun _ _ => rfl, d1_eq] at a3 b3
  rw [show 4 - 1 = 3 from rfl, a3]
  obtain ⟨a2, b2⟩ := b3.up (p := 2) (by decide)
  rw [show ∀ x y u v, belowD ((([z32, z32, z32, u, x, d0, d0, d0, d0, d0, d0, d0, d0, d0, d0, d0, d0, d0, d0, d0, d0] : List (List Nat)).set 4 y).set 3 v) 2 = 1 :: (d0 ++ (d0 ++ (d0 ++ d0))) from fun _ _ _ _ => rfl, d1_eq] at a2 b2
  rw [show 4 - 2 = 2 from rfl, a2]
  have c2 : Fl [z32, z32, d1, d1, d1, d0, d0, d0, d0, d0, d0, d0, d0, d0, d0, d0, d0, d0, d0, d0, d0] := b2
  change put (put (List.flatten [z32, z32, d1, d1, d1, d0, d0, d0, d0, d0, d0, d0, d0, d0, d0, d0, d0, d0, d0, d0, d0]) 1 (Sha.sum (Tr.below (List.flatten [z32, z32, d1, d1, d1, d0, d0, d0, d0, d0, d0, d0, d0, d0, d0, d0, d0, d0, d0, d0, d0]) 1))) 0 (Sha.sum (Tr.below (put (List.flatten [z32, z32, d1, d1, d1, d0, d0, d0, d0, d0, d0, d0, d0, d0, d0, d0, d0, d0, d0, d0, d0]) 1 (Sha.sum (Tr.below (List.flatten [z32, z32, d1, d1, d1, d0, d0, d0, d0, d0, d0, d0, d0, d0, d0, d0, d0, d0, d0, d0, d0]) 1))) 0)) = _ ∧ _
  obtain ⟨a1, b1⟩ := c2.up (p := 1) (by decide)
  rw [show belowD [z32, z32, d1, d1, d1, d0, d0, d0, d0, d0, d0, d0, d0, d0, d0, d0, d0, d0, d0, d0, d0] 1 = 1 :: (d0 ++ (d0 ++ (d0 ++ d0))) from rfl, d1_eq] at a1 b1
  rw [a1]
  have c1 : Fl [z32, d1, d1, d1, d1, d0, d0, d0, d0, d0, d0, d0, d0, d0, d0, d0, d0, d0, d0, d0, d0] := b1
  obtain ⟨a0, b0⟩ := c1.up (p := 0) (by decide)
  rw [show belowD [z32, d1, d1, d1, d1, d0, d0, d0, d0, d0, d0, d0, d0, d0, d0, d0, d0, d0, d0, d0, d0] 0 = 1 :: (d1 ++ (d1 ++ (d1 ++ d1))) from rfl, d2_eq] at a0 b0
  exact ⟨a0, b0⟩
theorem with_flat {ds : List (List Nat)} (h : Fl ds) {n : Nat} (hn : n < 16) {l d x y : List Nat} {q : Nat} (hq : q = (4 + n) / 4) (hd : Sha.sum (0 :: l) = d) (hx : Sha.sum (belowD (ds.set (5 + n) d) q) = x) (hy : Sha.sum (belowD ((ds.set (5 + n) d).set q x) 0) = y) :
    withT ds.flatten n l = (((ds.set (5 + n) d).set q x).set 0 y).flatten ∧ Fl (((ds.set (5 + n) d).set q x).set 0 y) := by
  subst hd hx hy
  have u1 : Tr.up (5 + (n : Int)) = (q : Int) := by rw [Tr.up, if_pos (by omega)]; omega
  have u2 : Tr.up (q : Int) = ((0 : Nat) : Int) := by rw [Tr.up, if_pos (by omega)]; omega
  have u3 : Tr.up ((0 : Nat) : Int) = -1 := by rw [Tr.up, if_neg (by omega)]
  obtain ⟨a1, b1⟩ := h.set (p := 5 + n) (by omega) (sum_len (0 :: l))
  obtain ⟨a2, b2⟩ := b1.up (p := q) (by omega)
  obtain ⟨a3, b3⟩ := b2.up (p := 0) (by decide)
  refine ⟨?_, b3⟩
  rw [withT, u1, leafD, a1, upF_step (by omega), Int.toNat_natCast, a2, u2, upF_step (by omega), Int.toNat_natCast, a3, u3, upF_neg (by decide)]
def lB1 : List (List Nat) := [r1, e1, d1, d1, d1, d0, d0, d0, dx, d0, d0, d0, d0, d0, d0, d0, d0, d0, d0, d0, d0]
def lB : List (List Nat) := [r2, e1, d1, e3, d1, d0, d0, d0, dx, d0, d0, d0, d0, d0, dy, d0, d0, d0, d0, d0, d0]
theorem with_B1 : withT lA.flatten 3 [120] = lB1.flatten ∧ Fl lB1 := with_flat ofT_A.2 (n := 3) (q := 1) (by decide) (by decide) dx_eq e1_eq r1_eq
theorem with_B : withT lB1.flatten 9 [121] = lB.flatten ∧ Fl lB := with_flat with_B1.2 (n := 9) (q := 3) (by decide) (by decide) dy_eq e3_eq r2_eq
theorem walk_AB : walk lA.flatten lB.flatten = ([8, 14], 13, 3) := by decide +kernel
theorem walk_AA : walk lA.flatten lA.flatten = ([], 1, 0) := by rw [walk, if_pos rfl]
end Tr
end Go.E.Ytjmjikemaafnjaa

/-
  Laws of chapter 21: fixed trees, equal lists, any trees.
-/
namespace Go.E.Ytjmjikemaafnjaa
open Go.Proofs
set_option maxRecDepth 100000
theorem sameI_spec {m : Mem} {v w : Value} {l k : List Int} (hv : Ia m v l) (hw : Ia m w k) (hl : l.length ≤ 1000000000) : Ret Try.prog 10 [.v v, .v w] m [boolV (decide (l = k))] := by
  obtain ⟨a, c, rfl⟩ := hv.shape
  obtain ⟨aw, cw, rfl⟩ := hw.shape
  refine en10 rfl (goY ?_)
  conv => whnf
  refine ⟨fun h => ?_, fun h => ?_⟩
  · conv => whnf
    have : l ≠ k := by rintro rfl; simp at h
    rw [decide_eq_false this]
    exact ⟨rfl, rfl⟩
  have hlk : l.length = k.length := by simp at h; omega
  clear h
  conv => whnf
  refine .mk (ι := Nat) (fun i => l.length - i) (fun i mm => i ≤ l.length ∧ l.take i = k.take i ∧ mm = m) (fun i => [(0, .c (.v (.slice a l.length c))), (1, .c (.v (.slice aw k.length cw))), (5, .c (i64 i))]) (fun _ => []) 0 ⟨by omega, by simp, rfl⟩ ?_ ?_
  · conv => whnf
    repeat (refine And.intro (by first | with_reducible rfl | exact congrArg (Value.int _) (wi (by omega) (by omega)) | exact wi (by omega) (by omega) | rfl) ?_; conv => whnf)
    first | exact trivial | exact fun _ _ h => h
  rintro i mm ⟨hi, htk, he⟩
  subst mm
  conv => whnf
  refine ⟨fun h1 => ?_, fun h1 => ?_⟩
  · have h1' := of_decide_eq_true h1
    have hlt : i < l.length := by omega
    have hltk : i < k.length := by omega
    obtain ⟨b, o, c', hh, hg⟩ := hv.real hlt
    injection hh with hh1 _ hh3
    subst hh1
    clear hh3 c'
    obtain ⟨bw, ow, c', hh, hgw⟩ := hw.real hltk
    injection hh with hh1 _ hh3
    subst hh1
    clear hh3 c'
    have hg := hg i hlt
    have hgw := hgw i hltk
    conv => whnf
    repeat (refine And.intro (by first | omega | (simp only [times]; omega)) ?_; conv => whnf)
    refine ⟨_, by simp only [times, Int.toNat_natCast, Nat.mul_one]; exact hg, rfl, ?_⟩
    conv => whnf
    repeat (refine And.intro (by first | omega | (simp only [times]; omega)) ?_; conv => whnf)
    refine ⟨_, by simp only [times, Int.toNat_natCast, Nat.mul_one]; exact hgw, rfl, ?_⟩
    conv => whnf
    refine ⟨fun h2 => ?_, fun h2 => ?_⟩
    · conv => whnf
      have : l ≠ k := by rintro rfl; simp at h2
      rw [decide_eq_false this]
      exact ⟨rfl, rfl⟩
    · have h2' : l[i] = k[i] := by simpa using h2
      conv => whnf
      refine ⟨i + 1, ⟨by omega, by rw [List.take_succ_eq_append_getElem hlt, List.take_succ_eq_append_getElem hltk, htk, h2'], rfl⟩, by omega, ?_⟩
      conv => whnf
      repeat (refine And.intro (by first | with_reducible rfl | (first | exact congrArg (Value.int _) (iadd (by omega))) | exact congrArg (Value.int _) (wi (by omega) (by omega)) | exact wi (by omega) (by omega) | rfl) ?_; conv => whnf)
      first | exact trivial | exact fun _ _ h => h
  · have h1' := of_decide_eq_false h1
    obtain rfl : i = l.length := by omega
    rw [List.take_length, hlk, List.take_length] at htk
    conv => whnf
    rw [decide_eq_true htk]
    exact ⟨rfl, rfl⟩
namespace Tr
/-- a tree of any digests -/
def rawF (D : List (List Nat)) : Nat → List Nat
  | 0 => List.replicate 672 0
  | i + 1 => if h : i < D.length then put (rawF D i) i D[i] else rawF D i
def raw (D : List (List Nat)) : List Nat := rawF D 21
theorem rawF_ok {D : List (List Nat)} (hD : D32 D) (hb : ∀ d ∈ D, ∀ x ∈ d, x < 256) : ∀ {i : Nat}, i ≤ 21 → Ok (rawF D i)
  | 0, _ => ⟨by simp [rawF], by simp [rawF]⟩
  | i + 1, h => by
    have ih := rawF_ok hD hb (i := i) (by omega)
    unfold rawF
    split
    · rename_i hi
      exact put_ok ih (hD _ (List.getElem_mem hi)) (hb _ (List.getElem_mem hi)) (by omega)
    · exact ih
theorem rawF_stop {D : List (List Nat)} : ∀ {k i : Nat}, D.length ≤ i → rawF D (i + k) = rawF D i
  | 0, _, _ => rfl
  | k + 1, i, h => by
    rw [← Nat.add_assoc, rawF, dif_neg (by omega), rawF_stop h]
end Tr
theorem raw_spec {m : Mem} {v : Value} {D : List (List Nat)} (hv : Da m v D) (hb : ∀ d ∈ D, ∀ x ∈ d, x < 256) : Ret Try.prog 7 [.v v] m [treeV (Tr.raw D)] := by
  obtain ⟨a, c, rfl⟩ := hv.shape
  refine en7 rfl (goY ?_)
  conv => whnf
  refine .mk (ι := Nat) (fun i => 21 - i) (fun i mm => i ≤ 21 ∧ i ≤ D.length ∧ mm = m) (fun i => [(0, .c (.v (.slice a D.length c))), (2, .p 0 0), (3, .p 1 0), (4, .c (i64 i))]) (fun i => [(28, [.ints .u8 672 (List.replicate 672 0)]), (28, [.ints .u8 672 (nc (Tr.rawF D i))])]) 0 ⟨by omega, by omega, rfl⟩ ?_ ?_
  · conv => whnf
    repeat (refine And.intro (by first | with_reducible rfl | (first | (simp [Tr.rawF]; done)) | exact congrArg (Value.int _) (wi (by omega) (by omega)) | exact wi (by omega) (by omega) | rfl) ?_; conv => whnf)
    first | exact trivial | exact fun _ _ h => h
  rintro i mm ⟨hi, hid, he⟩
  subst mm
  conv => whnf
  refine ⟨fun h1 => ?_, fun h1 => ?_⟩
  · have h1' := of_decide_eq_true h1
    have hlt : i < D.length := by omega
    conv => whnf
    refine ⟨fun h2 => ?_, fun h2 => ?_⟩
    · have h2' := of_decide_eq_true h2
      obtain ⟨b, o, c', hh, hg⟩ := hv.real hlt
      injection hh with hh1 _ hh3
      subst hh1
      clear hh3 c'
      have hg := hg i hlt
      have hdl := hv.ok _ (List.getElem_mem hlt)
      have hst : Tr.rawF D (i + 1) = Tr.put (Tr.rawF D i) i D[i] := by rw [Tr.rawF, dif_pos hlt]
      generalize D[i] = d at hg hdl hst
      conv => whnf
      repeat (refine And.intro (by first | omega | (simp only [times]; omega)) ?_; conv => whnf)
      refine ⟨[.ints .u8 32 (nc d)], ⟨show (nc d).length = 32 by simp [hdl], trivial⟩, rfl, by simp only [times, Int.toNat_natCast]; exact hg, ?_⟩
      conv => whnf
      repeat (refine And.intro (by first | omega | (simp only [times]; omega)) ?_; conv => whnf)
      refine ⟨i + 1, ⟨by omega, by omega, rfl⟩, by omega, ?_⟩
      rw [hst]
      conv => whnf
      repeat (refine And.intro (by first | with_reducible rfl | (first | exact congrArg (Value.int _) (iadd (by omega)) | exact put_eq _ hdl) | exact congrArg (Value.int _) (wi (by omega) (by omega)) | exact wi (by omega) (by omega) | rfl) ?_; conv => whnf)
      first | exact trivial | exact fun _ _ h => h
    · have h2' := of_decide_eq_false h2
      obtain rfl : i = 21 := by omega
      conv => whnf
      exact ⟨rfl, rfl⟩
  · have h1' := of_decide_eq_false h1
    obtain rfl : i = D.length := by omega
    have := Tr.rawF_stop (D := D) (k := 21 - D.length) (Nat.le_refl _)
    rw [show D.length + (21 - D.length) = 21 by omega] at this
    conv => whnf
    exact ⟨by rw [Tr.raw, this], rfl⟩
theorem buildI3 {m : Mem} {x y z : Int} : PrimSpec Try.prog (.buildSlice 23 3 [0, 1, 2]) [.v (.int .i64 x), .v (.int .i64 y), .v (.int .i64 z)] m fun r m' => ∃ b, m b = none ∧ r = [.v (.slice (some ⟨b, 0, none⟩) 3 3)] ∧ m' = m.set b (.cells (ic [x, y, z]).toArray 3) :=
  buildSlice_spec (n := 3) tt_ok hIs rfl hI' rfl rfl (by simp [CV.cs]) (by simp) (by simp)
set_option maxHeartbeats 4000000 in
theorem alive21_spec {m : Mem} : Spec Try.prog 6 [] m fun r m' => r = [boolV true] ∧ Sub m m' := by
  have hA := Tr.ofT_A
  have hokA : Tr.Ok (Tr.lA.flatten) := by rw [← hA.1]; exact Tr.ofT_ok _
  have hokB1 : Tr.Ok (Tr.lB1.flatten) := by rw [← Tr.with_B1.1]; exact Tr.upF_ok (Tr.put_ok hokA (Tr.sum_len _) (Tr.sum_byt _) (by decide)) (by decide)
  have hokB : Tr.Ok (Tr.lB.flatten) := by rw [← Tr.with_B.1]; exact Tr.upF_ok (Tr.put_ok hokB1 (Tr.sum_len _) (Tr.sum_byt _) (by decide)) (by decide)
  refine en6 rfl (goY ?_)
  conv => whnf
  refine xcall (of_spec (vs := List.replicate 16 (.slice none 0 0)) (ls := List.replicate 16 []) (by simp) (by simp) (by simp [Value.oneCell']) (fun i h1 h2 => by rw [List.getElem_replicate, List.getElem_replicate]; exact (Lb.nil _ _).la) (by simp)) ?_
  rintro _ m1 ⟨rfl, hs1⟩
  conv => whnf
  rw [hA.1]
  have hB1 := Tr.with_B1.1
  have hB := Tr.with_B.1
  have hwAB := Tr.walk_AB
  have hwAA := Tr.walk_AA
  have hun : Tr.unl Tr.lA.flatten (Tr.kidsL [0]) (Tr.digs Tr.lB.flatten [0]) = [1, 3] := by decide +kernel
  have hdg : decide (Tr.dig Tr.lA.flatten 0 = Tr.dig Tr.lB.flatten 0) = false := by decide +kernel
  clear hA
  generalize Tr.lA.flatten = A at *
  generalize Tr.lB1.flatten = B1 at *
  generalize Tr.lB.flatten = B at *
  refine .mk _ (build1) ?_
  rintro _ _ ⟨b1, hb1, rfl, rfl⟩
  conv => whnf
  refine .mk _ (conv_spec (b := b1) (l := [120]) (Mem.set_same ..)) ?_
  rintro _ _ ⟨rfl, rfl⟩
  conv => whnf
  have hs2 : Sub m ((m1.set b1 (.cells (bc [120]).toArray 5)).set b1 (.cells (bc [120]).toArray 5 ((bc [120]).toArray.size, (bc [120]).toArray.size + 1))) := by
    rw [Mem.set_set]; exact hs1.trans (Mem.sub_set _ hb1)
  refine xcall (with_spec hokA (n := 3) (l := [120]) (by decide) (Lb.blkf (l := [120]) (Mem.set_same ..) rfl).la (by simp) (by simp)) ?_
  rintro _ m3 ⟨rfl, hs3⟩
  conv => whnf
  rw [hB1]
  refine .mk _ (build1) ?_
  rintro _ _ ⟨b2, hb2, rfl, rfl⟩
  conv => whnf
  refine .mk _ (conv_spec (b := b2) (l := [121]) (Mem.set_same ..)) ?_
  rintro _ _ ⟨rfl, rfl⟩
  conv => whnf
  have hs4 : Sub m ((m3.set b2 (.cells (bc [121]).toArray 5)).set b2 (.cells (bc [121]).toArray 5 ((bc [121]).toArray.size, (bc [121]).toArray.size + 1))) := by
    rw [Mem.set_set]; exact (hs2.trans hs3).trans (Mem.sub_set _ hb2)
  refine xcall (with_spec hokB1 (n := 9) (l := [121]) (by decide) (Lb.blkf (l := [121]) (Mem.set_same ..) rfl).la (by simp) (by simp)) ?_
  rintro _ m5 ⟨rfl, hs5⟩
  conv => whnf
  rw [hB]
  have hs5 := hs4.trans hs5
  refine xcall (diff_spec hokA.len hokB.len) ?_
  rintro _ m6 ⟨v6, q6, rfl, hs6, hv6⟩
  conv => whnf
  have hs6 := hs6.under (a := [q6]) ((Split.one m5).addEmp.drop)
  have hs6 : Split m6 [q6, m5] := hs6
  rw [hwAB] at hv6 ⊢
  have hlv : Tr.leaves ([8, 14] : List Int) = [3, 9] := by decide
  rw [hlv] at hv6
  obtain ⟨bl, ol, cl, rfl, hgl⟩ := hv6.il.real (i := 0) (by simp)
  refine xcall (diff_spec hokA.len hokA.len) ?_
  rintro _ m7 ⟨v7, q7, rfl, hs7, hv7⟩
  conv => whnf
  have hs7 := hs7.under (a := [q7]) hs6
  rw [hwAA] at hv7 ⊢
  obtain ⟨a7, c7, rfl⟩ := hv7.il.shape
  have hs7 : Split m7 [q7, q6, m5] := hs7
  have hs5m : Sub m m5 := hs5
  have tail : ∀ (mx : Mem) (v8 : Value), Sub m mx → Il mx (.slice (some ⟨bl, ol, none⟩) ([3, 9] : List Int).length cl) [3, 9] → Il mx v8 [1, 3] →
      xwpY c6 (restAt 6 (bodyOf Try.f6)) (QRetY tt.get Try.f6.results.toList fun r m' => r = [boolV true] ∧ Sub m m')
        [(1, .p 0 0), (2, .p 1 0), (3, .c (.v (.slice (some ⟨bl, ol, none⟩) 2 cl))), (4, .c (i64 13)), (5, .c (.v (.slice a7 0 c7))), (6, .c (i64 1)), (7, .c (.v v8)), (8, .c (i64 0))] [(28, [.ints .u8 672 (nc A)]), (28, [.ints .u8 672 (nc B)])] mx [] := by
    intro mx v8 hsx hl hu
    obtain ⟨bu, ou, cu, hvu, hgu⟩ := hu.real (i := 0) (by simp)
    have hvu' : v8 = .slice (some ⟨bu, ou, none⟩) 2 cu := hvu
    subst hvu'
    obtain ⟨bl', ol', cl', hh, hgl'⟩ := hl.real (i := 0) (by simp)
    injection hh with hh1 _ hh3
    injection hh1 with hh1
    injection hh1 with q1 q2
    subst q1 q2
    clear hh3 cl'
    conv => whnf
    refine .at ?_
    conv => whnf
    refine .mk _ (buildI1) ?_
    rintro _ _ ⟨b1, hb1, rfl, rfl⟩
    conv => whnf
    have k1 := Mem.sub_set (.cells #[.int .i64 0] 3) hb1
    refine xcall (unlike_bad (t := A) (l := [0]) (D := []) (Il.blk1 (Mem.set_same ..)).ia (Do.nil _).dl.da (by simp) (by intro x hx; simp at hx; omega) (by decide)) ?_
    rintro _ my ⟨rfl, k2⟩
    conv => whnf
    refine ⟨fun _ => ?_, fun h => absurd h (by decide)⟩
    conv => whnf
    repeat (refine And.intro (by first | omega | (simp only [times]; omega)) ?_; conv => whnf)
    refine ⟨_, by first | exact mcell_sub (hgl' 0 (by simp)) (k1.trans k2) | simpa [times] using mcell_sub (hgl' 0 (by simp)) (k1.trans k2), rfl, ?_⟩
    conv => whnf
    refine ⟨fun _ => ?_, fun h => absurd h (by decide)⟩
    conv => whnf
    repeat (refine And.intro (by first | omega | (simp only [times]; omega)) ?_; conv => whnf)
    refine ⟨_, by first | exact mcell_sub (hgl' 1 (by simp)) (k1.trans k2) | simpa [times] using mcell_sub (hgl' 1 (by simp)) (k1.trans k2), rfl, ?_⟩
    conv => whnf
    refine ⟨fun _ => ?_, fun h => absurd h (by decide)⟩
    conv => whnf
    refine ⟨fun _ => ?_, fun h => absurd h (by decide)⟩
    conv => whnf
    refine ⟨fun _ => ?_, fun h => absurd h (by decide)⟩
    conv => whnf
    refine ⟨fun _ => ?_, fun h => absurd h (by decide)⟩
    conv => whnf
    refine ⟨fun _ => ?_, fun h => absurd h (by decide)⟩
    conv => whnf
    repeat (refine And.intro (by first | omega | (simp only [times]; omega)) ?_; conv => whnf)
    refine ⟨_, by first | exact mcell_sub (hgu 0 (by simp)) (k1.trans k2) | simpa [times] using mcell_sub (hgu 0 (by simp)) (k1.trans k2), rfl, ?_⟩
    conv => whnf
    refine ⟨fun _ => ?_, fun h => absurd h (by decide)⟩
    conv => whnf
    repeat (refine And.intro (by first | omega | (simp only [times]; omega)) ?_; conv => whnf)
    refine ⟨_, by first | exact mcell_sub (hgu 1 (by simp)) (k1.trans k2) | simpa [times] using mcell_sub (hgu 1 (by simp)) (k1.trans k2), rfl, ?_⟩
    conv => whnf
    refine ⟨fun _ => ?_, fun h => absurd h (by decide)⟩
    conv => whnf
    refine ⟨fun _ => ?_, fun h => absurd h (by decide)⟩
    conv => whnf
    refine ⟨fun _ => ?_, fun h => absurd h (by decide)⟩
    conv => whnf
    refine xcall (rounds_spec hokA.len hokB.len) ?_
    rintro _ mz ⟨rfl, k3⟩
    conv => whnf
    rw [hwAB]
    refine ⟨fun _ => ?_, fun h => absurd h (by decide)⟩
    conv => whnf
    refine xcall (rounds_spec hokA.len hokA.len) ?_
    rintro _ mw ⟨rfl, k4⟩
    conv => whnf
    rw [hwAA]
    refine ⟨fun _ => ?_, fun h => absurd h (by decide)⟩
    conv => whnf
    first | refine xretk (walkSame_spec) ?_ | refine xret (walkSame_spec) ?_
    conv => whnf
    rw [decide_eq_true rfl]
    refine ⟨fun _ => ?_, fun h => absurd h (by decide)⟩
    conv => whnf
    first | refine xretk (walkSame_spec) ?_ | refine xret (walkSame_spec) ?_
    conv => whnf
    rw [hdg]
    refine ⟨fun _ => ?_, fun h => absurd h (by decide)⟩
    conv => whnf
    refine .mk _ (buildI3) ?_
    rintro _ _ ⟨b2, hb2, rfl, rfl⟩
    conv => whnf
    have k5 := Mem.sub_set (.cells (ic [0, 8, 20]).toArray 3) hb2
    refine xcall (leaves_spec (l := [0, 8, 20]) (Io.blk (Mem.set_same ..) rfl).il.ia (by simp)) ?_
    rintro _ mv ⟨v9, q9, rfl, k6, hv9⟩
    conv => whnf
    have hl9 : Tr.leaves ([0, 8, 20] : List Int) = [3, 15] := by decide
    rw [hl9] at hv9
    obtain ⟨a9, c9, rfl⟩ := hv9.il.shape
    conv => whnf
    exact ⟨rfl, (hsx.trans (k1.trans (k2.trans (k3.trans (k4.trans k5))))).trans (k6.sub (by simp))⟩
  have hI0 : Pls [0] := by intro x hx; simp at hx; omega
  have o7 : ([] : List Int).length = 0 := rfl
  refine ⟨?_, ?_⟩
  · conv => whnf
    refine .mk _ (buildI1) ?_
    rintro _ _ ⟨b3, hb3, rfl, rfl⟩
    conv => whnf
    have hs8 := hs7.new hb3 (.cells #[.int .i64 0] 3)
    refine ⟨fun _ h => (by cases h), ?_⟩
    conv => whnf
    refine .mk _ (buildI1) ?_
    rintro _ _ ⟨b4, hb4, rfl, rfl⟩
    conv => whnf
    have hs9 := hs8.new hb4 (.cells #[.int .i64 0] 3)
    refine ⟨fun _ h => (by cases h), ?_⟩
    conv => whnf
    refine xcall (digests_spec hokB.len (Il.blk1 (Mem.set_same ..)).ia (by simp) hI0) ?_
    rintro _ m10 ⟨v10, q10, rfl, hs10, hv10⟩
    conv => whnf
    have hs10 := hs10.under (a := [q10]) hs9
    have hs10 : Split m10 [q10, _, blk1 b3 (.cells #[.int .i64 0] 3), q7, q6, m5] := hs10
    refine ⟨fun _ h => (by cases h), ?_⟩
    conv => whnf
    refine xcall (unlike_ok hokA.len (l := [0]) ((Il.blk1 (blk1_same b3 (.cells #[.int .i64 0] 3))).ia.sub (hs10.sub (by simp))) (hv10.dl.da.sub (hs10.sub (by simp))) (by simp) hI0 (Tr.digs_len B [0]).symm) ?_
    rintro _ m11 ⟨v11, q11, rfl, hs11, hv11⟩
    conv => whnf
    have hs11 := hs11.under (a := [q11]) hs10
    rw [hun] at hv11
    refine .via _ _ ?_ (tail m11 v11 (hs5m.trans (hs11.sub (by simp))) (hv6.il.sub (hs11.sub (by simp))) (hv11.il.sub (hs11.sub (by simp))))
    conv => whnf
    repeat (refine And.intro (by first | with_reducible rfl | exact congrArg (Value.int _) (wi (by omega) (by omega)) | exact wi (by omega) (by omega) | rfl) ?_; conv => whnf)
    first | exact trivial | exact fun _ _ h => h
  · conv => whnf
    refine .mk _ (buildI1) ?_
    rintro _ _ ⟨b4, hb4, rfl, rfl⟩
    conv => whnf
    have hs9 := hs7.new hb4 (.cells #[.int .i64 0] 3)
    refine ⟨fun _ h => (by cases h), ?_⟩
    refine ⟨?_, ?_⟩
    · conv => whnf
      refine .mk _ (buildI1) ?_
      rintro _ _ ⟨b3, hb3, rfl, rfl⟩
      conv => whnf
      have hs8 := hs9.new hb3 (.cells #[.int .i64 0] 3)
      refine ⟨fun _ h => (by cases h), ?_⟩
      conv => whnf
      refine xcall (digests_spec hokB.len (Il.blk1 (b := b4) (Mem.sub_set _ hb3 _ _ (Mem.set_same ..))).ia (by simp) hI0) ?_
      rintro _ m10 ⟨v10, q10, rfl, hs10, hv10⟩
      conv => whnf
      have hs10 := hs10.under (a := [q10]) hs8
      have hs10 : Split m10 [q10, blk1 b3 (.cells #[.int .i64 0] 3), _, q7, q6, m5] := hs10
      refine ⟨fun _ h => (by cases h), ?_⟩
      conv => whnf
      refine xcall (unlike_ok hokA.len (l := [0]) ((Il.blk1 (blk1_same b3 (.cells #[.int .i64 0] 3))).ia.sub (hs10.sub (by simp))) (hv10.dl.da.sub (hs10.sub (by simp))) (by simp) hI0 (Tr.digs_len B [0]).symm) ?_
      rintro _ m11 ⟨v11, q11, rfl, hs11, hv11⟩
      conv => whnf
      have hs11 := hs11.under (a := [q11]) hs10
      rw [hun] at hv11
      refine .via _ _ ?_ (tail m11 v11 (hs5m.trans (hs11.sub (by simp))) (hv6.il.sub (hs11.sub (by simp))) (hv11.il.sub (hs11.sub (by simp))))
      conv => whnf
      repeat (refine And.intro (by first | with_reducible rfl | exact congrArg (Value.int _) (wi (by omega) (by omega)) | exact wi (by omega) (by omega) | rfl) ?_; conv => whnf)
      first | exact trivial | exact fun _ _ h => h
    · conv => whnf
      refine xcall (digests_spec hokB.len (Il.blk1 (Mem.set_same ..)).ia (by simp) hI0) ?_
      rintro _ m10 ⟨v10, q10, rfl, hs10, hv10⟩
      conv => whnf
      have hs10 := hs10.under (a := [q10]) hs9
      refine ⟨fun _ h => (by cases h), ?_⟩
      conv => whnf
      refine .mk _ (buildI1) ?_
      rintro _ _ ⟨b3, hb3, rfl, rfl⟩
      conv => whnf
      have hs8 := hs10.new hb3 (.cells #[.int .i64 0] 3)
      have hs8 : Split _ [blk1 b3 (.cells #[.int .i64 0] 3), q10, _, q7, q6, m5] := hs8
      refine ⟨fun _ h => (by cases h), ?_⟩
      conv => whnf
      refine xcall (unlike_ok hokA.len (l := [0]) ((Il.blk1 (Mem.set_same ..)).ia) (hv10.dl.da.sub (hs8.sub (by simp))) (by simp) hI0 (Tr.digs_len B [0]).symm) ?_
      rintro _ m11 ⟨v11, q11, rfl, hs11, hv11⟩
      conv => whnf
      have hs11 := hs11.under (a := [q11]) hs8
      rw [hun] at hv11
      refine .via _ _ ?_ (tail m11 v11 (hs5m.trans (hs11.sub (by simp))) (hv6.il.sub (hs11.sub (by simp))) (hv11.il.sub (hs11.sub (by simp))))
      conv => whnf
      repeat (refine And.intro (by first | with_reducible rfl | exact congrArg (Value.int _) (wi (by omega) (by omega)) | exact wi (by omega) (by omega) | rfl) ?_; conv => whnf)
      first | exact trivial | exact fun _ _ h => h
end Go.E.Ytjmjikemaafnjaa

/-
  From a contract to a law's row: what arguments are that were read; that they read the same behind the call.
-/
namespace Go.E
open Go.ChangeShapes Go.WideShapes Go.RowKit

/-- a cell that was read: of the kind of z, and as such a cell may be -/
def KW : Value → Value → Prop
  | .int k _, .int k' n => k = k' ∧ (Lit.int k n).wf = true
  | .bool _, .bool _ => True
  | .string _, .string s => s.size ≤ maxLen
  | _, _ => False
def KWs : List Value → List Value → Prop
  | [], [] => True
  | z :: zs, x :: xs => KW z x ∧ KWs zs xs
  | _, _ => False
theorem KWs.length : ∀ {z x : List Value}, KWs z x → z.length = x.length
  | [], [], _ => rfl
  | _ :: _, _ :: _, h => by simp [KWs.length h.2]
  | [], _ :: _, h => h.elim
  | _ :: _, [], h => h.elim
theorem KWs.append : ∀ {z x z' x' : List Value}, KWs z x → KWs z' x' → KWs (z ++ z') (x ++ x')
  | [], [], _, _, _, h => h
  | _ :: _, _ :: _, _, _, h, h' => ⟨h.1, KWs.append h.2 h'⟩
  | [], _ :: _, _, _, h, _ => h.elim
  | _ :: _, [], _, _, h, _ => h.elim

section
variable {H : Type} {enc : TypeId × Value → H} {P : Program} {w : World} {base : Nat} {spare : Nat → Bool} {held : Bool}

theorem kws_items {D : Nat} {e : TypeId} {s : Nat} {z cs : List Value} (IH : ∀ i, goodB P D e ((z.drop (i * s)).take s) = true → KWs ((z.drop (i * s)).take s) ((cs.drop (i * s)).take s)) : ∀ (n k : Nat), (n + k) * s = z.length → cs.length = z.length →
    (∀ i, i < n + k → goodB P D e ((z.drop (i * s)).take s) = true) → KWs (z.drop (k * s)) (cs.drop (k * s))
  | 0, k, hl, hc, _ => by
    have h1 : z.drop (k * s) = [] := List.drop_eq_nil_of_le (by rw [← hl]; simp)
    have h2 : cs.drop (k * s) = [] := List.drop_eq_nil_of_le (by rw [hc, ← hl]; simp)
    rw [h1, h2]; trivial
  | n + 1, k, hl, hc, hg => by
    have ih := kws_items IH n (k + 1) (by rw [← hl]; congr 1; omega) hc (fun i hi => hg i (by omega))
    have := (IH k (hg k (by omega))).append ih
    have e1 : (k + 1) * s = k * s + s := by rw [Nat.add_mul, Nat.one_mul]
    rw [e1, ← List.drop_drop, ← List.drop_drop, List.take_append_drop, List.take_append_drop] at this
    exact this
theorem kws_fields {D : Nat} {z cs : List Value} (IH : ∀ (f : TypeId) (off : Nat), off + P.cellsOf f ≤ z.length → goodB P D f ((z.drop off).take (P.cellsOf f)) = true → (∃ fuel x, DataW.trod enc P w base spare held fuel f ((cs.drop off).take (P.cellsOf f)) = some x) → KWs ((z.drop off).take (P.cellsOf f)) ((cs.drop off).take (P.cellsOf f))) :
    ∀ (fs : List Field) (off : Nat), cs.length = z.length → goodF P (goodB P D) fs z off = true → (∀ f ∈ fs, ∃ fuel x, DataW.trod enc P w base spare held fuel f.type ((cs.drop f.offset).take (P.cellsOf f.type)) = some x) → KWs (z.drop off) (cs.drop off)
  | [], off, hc, hg, _ => by
    simp only [goodF, beq_iff_eq] at hg
    have h1 : z.drop off = [] := List.drop_eq_nil_of_le (by omega)
    have h2 : cs.drop off = [] := List.drop_eq_nil_of_le (by omega)
    rw [h1, h2]; trivial
  | f :: fs, off, hc, hg, ht => by
    simp only [goodF, Bool.and_eq_true, bne_iff_ne, ne_eq, beq_iff_eq] at hg
    obtain ⟨⟨⟨⟨_, ho⟩, hle⟩, hgf⟩, hr⟩ := hg
    have hle := of_decide_eq_true hle
    have h0 := ht f (by simp)
    rw [ho] at h0
    have := (IH f.type off hle hgf h0).append (kws_fields IH fs (off + P.cellsOf f.type) hc hr (fun f' hf => ht f' (by simp [hf])))
    rw [← List.drop_drop, ← List.drop_drop, List.take_append_drop, List.take_append_drop] at this
    exact this

theorem mapM_all {α β : Type} {f : α → Option β} : ∀ {l : List α} {r : List β}, l.mapM f = some r → ∀ x ∈ l, ∃ y, f x = some y
  | [], _, _, x, hx => by cases hx
  | a :: l, r, h, x, hx => by
    rw [List.mapM_cons] at h
    simp only [bind, Option.bind_eq_some_iff, pure, Option.some.injEq] at h
    obtain ⟨y, hy, ys, hys, _⟩ := h
    rcases List.mem_cons.1 hx with rfl | hx
    · exact ⟨y, hy⟩
    · exact mapM_all hys x hx

theorem trod_kw : ∀ (D : Nat) (t : TypeId) (z cs : List Value) (fuel : Nat) (x : DataW H × List MemPlace), goodB P D t z = true → z.length = P.cellsOf t → DataW.trod enc P w base spare held fuel t cs = some x → KWs z cs
  | 0, _, _, _, _, _, h, _, _ => by simp [goodB] at h
  | D + 1, t, z, cs, 0, x, h, hz, ht => by simp [DataW.trod] at ht
  | D + 1, t, z, cs, fuel + 1, x, h, hz, ht => by
    have IH := trod_kw D
    unfold goodB at h
    cases hu : P.underlying t with
    | none => simp [hu] at h
    | some kd =>
      rw [hu] at h
      cases kd with
      | bool =>
        simp only at h
        split at h
        · obtain ⟨b, rfl, _⟩ := DataW.trod_bool hu ht
          exact ⟨trivial, trivial⟩
        · cases h
      | int q =>
        simp only at h
        split at h
        · rename_i k' v
          have := kEq_eq h; subst this
          obtain ⟨n, rfl, _, hw⟩ := DataW.trod_int hu ht
          exact ⟨⟨rfl, hw⟩, trivial⟩
        · cases h
      | string =>
        simp only at h
        split at h
        · obtain ⟨s, rfl, _, hs⟩ := DataW.trod_string hu ht
          exact ⟨hs, trivial⟩
        · cases h
      | array n e =>
        simp only [Bool.and_eq_true, beq_iff_eq, List.all_eq_true, List.mem_range] at h
        obtain ⟨⟨hi, hlen⟩, hall⟩ := h
        obtain ⟨xs, k, hk, _, hl, hxl, hp⟩ := DataW.trod_array hu ht
        have := kws_items (P := P) (D := D) (e := e) (s := P.cellsOf e) (z := z) (cs := cs) (fun i hg => by
          by_cases hin : i < n
          · have hy := hp i hin
            rw [List.getElem?_eq_getElem (by omega)] at hy
            refine IH e _ _ k _ hg ?_ hy
            simp only [List.length_take, List.length_drop]
            have hle : i * P.cellsOf e + P.cellsOf e ≤ z.length := by
              rw [hlen, show i * P.cellsOf e + P.cellsOf e = (i + 1) * P.cellsOf e by rw [Nat.add_mul, Nat.one_mul]]
              exact Nat.mul_le_mul_right _ hin
            omega
          · have hge : z.length ≤ i * P.cellsOf e := by
              rw [hlen]; exact Nat.mul_le_mul_right _ (Nat.le_of_not_lt hin)
            rw [List.drop_eq_nil_of_le hge, List.drop_eq_nil_of_le (by omega)]
            simp [KWs]) n 0 (by simp; omega) (by omega) (fun i hi => hall i (by omega))
        simpa using this
      | struct fs =>
        simp only [Bool.and_eq_true, Bool.not_eq_true'] at h
        obtain ⟨_, hf⟩ := h
        obtain ⟨xs, k, hk, _, hl, hxl, hp⟩ := DataW.trod_struct hu ht
        have hfit : ∀ (f : TypeId) (off : Nat), off + P.cellsOf f ≤ z.length → goodB P D f ((z.drop off).take (P.cellsOf f)) = true → (∃ fuel x, DataW.trod enc P w base spare held fuel f ((cs.drop off).take (P.cellsOf f)) = some x) → KWs ((z.drop off).take (P.cellsOf f)) ((cs.drop off).take (P.cellsOf f)) := by
          intro f off hle hg ⟨fu, y, hy⟩
          exact IH f _ _ fu y hg (by simp only [List.length_take, List.length_drop]; omega) hy
        have := kws_fields hfit fs.toList 0 (by omega) hf (fun f hf' => by
          obtain ⟨i, hi, he⟩ := List.getElem_of_mem hf'
          have hy := hp i f (by rw [← Array.getElem?_toList, List.getElem?_eq_getElem hi, he])
          rw [List.getElem?_eq_getElem (by simp at hi; omega)] at hy
          exact ⟨k, _, hy⟩)
        simpa using this
      | _ => simp at h

def InLB : LB → LB → Prop
  | [], [] => True
  | .one z :: zs, .one x :: xs => KW z x ∧ InLB zs xs
  | .ints k n _ :: zs, .ints k' n' l :: xs => (k' = k ∧ n' = n ∧ l.length = n ∧ ∀ x ∈ l, (Lit.int k x).wf = true) ∧ InLB zs xs
  | _, _ => False
def plainLB : LB → Bool
  | [] => true
  | .one _ :: r => plainLB r
  | .ints _ _ _ :: r => plainLB r
  | .vals _ _ :: _ => false
theorem kws_ints {k : IntKind} : ∀ (l : List Int) (z' cs : List Value), KWs (l.map (Value.int k) ++ z') cs → ∃ (l' : List Int) (r : List Value), cs = l'.map (Value.int k) ++ r ∧ l'.length = l.length ∧ (∀ x ∈ l', (Lit.int k x).wf = true) ∧ KWs z' r
  | [], z', cs, h => ⟨[], cs, rfl, rfl, by simp, h⟩
  | a :: l, z', [], h => h.elim
  | a :: l, z', c :: cs, h => by
    obtain ⟨h1, h2⟩ := h
    obtain ⟨l', r, rfl, h3, h4, h5⟩ := kws_ints l z' cs h2
    cases c <;> simp only [KW] at h1
    obtain ⟨rfl, h1⟩ := h1
    rename_i n
    refine ⟨n :: l', r, rfl, by simp [h3], ?_, h5⟩
    intro x hx
    rcases List.mem_cons.1 hx with rfl | hx
    · exact h1
    · exact h4 x hx
theorem KW.one {z x : Value} (h : KW z x) : x.oneCell' = true := by
  cases z <;> cases x <;> simp only [KW] at h <;> rfl
theorem inLB_of : ∀ {z : LB} {cs : List Value}, plainLB z = true → LB.ok z → KWs (LB.cells z) cs → ∃ c, LB.cells c = cs ∧ LB.ok c ∧ InLB z c
  | [], [], _, _, _ => ⟨[], rfl, trivial, trivial⟩
  | [], _ :: _, _, _, h => h.elim
  | .one z :: zs, [], _, _, h => h.elim
  | .one z :: zs, x :: xs, hp, hz, h => by
    obtain ⟨h1, h2⟩ := h
    obtain ⟨c, rfl, hc, h3⟩ := inLB_of (z := zs) hp hz.2 h2
    exact ⟨.one x :: c, rfl, ⟨h1.one, hc⟩, h1, h3⟩
  | .ints k n l :: zs, cs, hp, hz, h => by
    obtain ⟨l', r, rfl, h1, h2, h3⟩ := kws_ints l (LB.cells zs) cs h
    obtain ⟨c, rfl, hc, h4⟩ := inLB_of (z := zs) hp hz.2 h3
    have hl : l.length = n := hz.1
    exact ⟨.ints k n l' :: c, rfl, ⟨(by show l'.length = n; omega), hc⟩, ⟨rfl, rfl, by omega, h2⟩, h4⟩
  | .vals _ _ :: _, _, hp, _, _ => by simp [plainLB] at hp

/-- an argument that is a struct or an array of plain cells -/
theorem open_flat {T : Tab} (hT : TabOk P T) {t : TypeId} {ti : TI} (ht : T t = some ti) (he : ti.eq = true) (hp : plainLB ti.zero = true) {r : Reach} {b0 : Nat} {v : Value} {d : DataW H} {ps : List MemPlace}
    (hval : Value.okWide P w r b0 t v) (hd : DataW.Trod enc P w base spare held t v d ps) : ∃ c, v = .agg (LB.cells c).toArray ∧ LB.ok c ∧ InLB ti.zero c := by
  have ho := hT t ti ht
  obtain ⟨ha, hg, _, hsz⟩ := ho.eqOk he
  obtain ⟨ds, hds, hk⟩ := ho.desc
  obtain ⟨j, hj, hjs, _, z, hz, hzc⟩ := ho.inf
  have hv : ∃ cs, v = .agg cs := by
    unfold Value.okWide at hval
    rw [← hk] at ha
    rw [hds] at hval
    cases ds <;> simp [TK.of, TK.agg] at ha <;> (obtain ⟨cs, h, _⟩ := hval; exact ⟨cs, h⟩)
  obtain ⟨cs, rfl⟩ := hv
  obtain ⟨fuel, hf⟩ := hd
  have hf' : DataW.trod enc P w base spare held fuel t cs.toList = some (d, ps) := hf
  have hlen : (LB.cells ti.zero).length = P.cellsOf t := by
    rw [hsz, ← hjs]; simp [Program.cellsOf, hj]
  obtain ⟨c, h1, h2, h3⟩ := inLB_of hp ho.zok (trod_kw 50 t _ _ fuel _ hg hlen hf')
  exact ⟨c, by rw [h1], h2, h3⟩

theorem trodAll_stays (hl : laidOutB P = true) {W W' : World} (hb : Below W.heap.size W W') {sp : Nat → Bool} : ∀ {ts : List TypeId} {vs : List Value} {ds : List (DataW H)} {ps : List MemPlace}, (∀ t ∈ ts, P.readableRec t = true ∧ t < P.types.size) →
    DataW.TrodAll enc P W 0 (fun _ => true) true ts vs ds ps → (∀ p ∈ ps, p.block < W.heap.size) → (∀ p ∈ ps, sp p.block = true) → DataW.TrodAll enc P W' 0 sp true ts vs ds ps
  | [], [], [], ps, _, h, _, _ => h
  | t :: ts, v :: vs, d :: ds, ps, hr, h, hlt, hs => by
    obtain ⟨p, q, h1, h2, rfl⟩ := h
    refine ⟨p, q, WideElems.Trod_stays hl (hr t (by simp)).1 (hr t (by simp)).2 h1 (fun x hx => hb.same (hlt x (by simp [hx]))) (fun x hx => hs x (by simp [hx])),
      trodAll_stays hl hb (fun t' ht' => hr t' (by simp [ht'])) h2 (fun x hx => hlt x (by simp [hx])) (fun x hx => hs x (by simp [hx])), rfl⟩
  | [], _ :: _, _, _, _, h, _, _ => h.elim
  | [], [], _ :: _, _, _, h, _, _ => h.elim
  | _ :: _, [], _, _, _, h, _, _ => h.elim
  | _ :: _, _ :: _, [], _, _, h, _, _ => h.elim

/-- THE LAW's ROW IS SHUT: it returned true, and below the heap's old size nothing has turned. -/
theorem lawPost (hl : laidOutB P = true) {f : Func} {s : ChangeSpec} {W W' : World} {args : Array Value} {ds gs : List (DataW H)} {before : List MemPlace} {tb : TypeId} (hvars : s.vars = [])
    (hfn : s.fn H (ds ++ gs) = { results := [.lit (.bool true)], args := ds }) (hres : f.resultTypes = #[tb]) (hbool : P.underlying tb = some .bool) (hread : f.params.toList.all (fun t => P.readableRec t && decide (t < P.types.size)) = true)
    (hW : DataW.Whole enc P f.params.toList s.vars false W args.toList ds gs before) (hb : Below W.heap.size W W') : s.post enc P f false true false false W args (.bool true) W' := by
  have hlt := hW.lt
  have hW' := hW
  obtain ⟨p, q, hA, hV, rfl, hfz, hnd⟩ := hW
  rw [hvars] at hV
  obtain ⟨rfl, rfl⟩ := trodVars_none hV
  have hread' : ∀ t ∈ f.params.toList, P.readableRec t = true ∧ t < P.types.size := fun t ht => by
    have := List.all_eq_true.1 hread t ht
    simpa using this
  have hA' : DataW.TrodAll enc P W' 0 (fun b => decide (b < W.heap.size)) true f.params.toList args.toList ds p :=
    trodAll_stays hl hb hread' hA (fun x hx => hlt x (by simp [hx])) (fun x hx => by simpa using hlt x (by simp [hx]))
  refine ⟨ds, [], p ++ [], [], p, [], hW', ?_, ?_, ?_, World.keptBut_mono (fun x hx => ⟨hx, .inr (.inl (by simpa using hx))⟩) (hb.frame _), fun h => by cases h⟩
  · rw [hfn, hres]
    exact trodAll_cons_mk (shut_bool hbool _) trodAll_mk0
  · rw [hfn]; exact hA'
  · rw [hfn, hvars]; rfl
end
end Go.E

/-
  What arguments that are slices of plain cells are.
-/
namespace Go.E
open Go.ChangeShapes Go.WideShapes Go.RowKit
section
variable {H : Type} {enc : TypeId × Value → H} {P : Program} {w : World} {base : Nat} {spare : Nat → Bool} {held : Bool}

theorem chunks_flat {α : Type} (l : List α) (s : Nat) : ∀ (n k : Nat), (k + n) * s ≤ l.length → ((List.range' k n).map (fun i => (l.drop (i * s)).take s)).flatten = (l.drop (k * s)).take (n * s)
  | 0, k, _ => by simp
  | n + 1, k, h => by
    have ih := chunks_flat l s n (k + 1) (by rw [show k + 1 + n = k + (n + 1) by omega]; exact h)
    simp only [List.range'_succ, List.map_cons, List.flatten_cons, ih]
    rw [show (n + 1) * s = s + n * s by rw [Nat.add_mul]; omega, show (k + 1) * s = k * s + s by rw [Nat.add_mul]; omega]
    rw [List.take_add, List.drop_drop]
/-- a slice whose elements are plain: each element's cells, as they were read -/
theorem open_slice {T : Tab} (hT : TabOk P T) {t e : TypeId} {ti ei : TI} (ht : T t = some ti) (hk : ti.k = .slice e) (he : T e = some ei) (hg : goodB P 50 e (LB.cells ei.zero) = true) (hsz : (LB.cells ei.zero).length = ei.size) (hpos : 0 < ei.size)
    (hall : ∀ z ∈ LB.cells ei.zero, ∀ x, KW z x → x.oneCell' = true) {r : Reach} {b0 : Nat} {v : Value} {d : DataW H} {ps : List MemPlace}
    (hval : Value.okWide P w r b0 t v) (hd : DataW.Trod enc P w base spare held t v d ps) :
    ∃ els : List (List Value), Lies (fun b => w.heap[b]?) ei.size v els.flatten ∧ lenV v = els.length ∧ (∀ c ∈ els, KWs (LB.cells ei.zero) c) ∧ els.length ≤ maxLen ∧ v.oneCell' = true := by
  have hsl := (hT t ti ht).slice hk
  obtain ⟨j, hj, hjs, _, z, hz, hzc⟩ := (hT e ei he).inf
  have hcell : P.cellsOf e = ei.size := by simp [Program.cellsOf, hj, hjs]
  obtain ⟨fuel, hf⟩ := hd
  have hvc : ∃ v', v = v' ∧ v.cells.toList = [v'] ∧ v.oneCell' = true := by
    unfold Value.okWide at hval
    rw [hsl] at hval
    simp only [Cell.okWide, hsl, Cell.ok] at hval
    cases v <;> simp at hval
    exact ⟨_, rfl, rfl, rfl⟩
  obtain ⟨v', rfl, hc1, hone⟩ := hvc
  have hf' : DataW.trod enc P w base spare held fuel t v.cells.toList = some (d, ps) := hf
  rw [hc1] at hf'
  rcases DataW.trod_slice hsl hf' with ⟨h0, _⟩ | ⟨a, len, cap, elems, rest, n, _, h0, _, hb, hl, hm, hlen, hel, _, _⟩
  · simp only [List.cons.injEq, and_true] at h0
    subst h0
    exact ⟨[], .inl ⟨0, rfl, rfl⟩, rfl, by simp, by simp, rfl⟩
  · simp only [List.cons.injEq, and_true] at h0
    subst h0
    have hw : w.has P r b0 a e cap := by
      unfold Value.okWide at hval
      rw [hsl] at hval
      simp only [Cell.okWide, hsl, Cell.ok] at hval
      exact hval.2.2
    obtain ⟨_, hspot, row, cells, hshape, _⟩ := hw
    obtain ⟨b, o, spot⟩ := a
    simp only at hspot
    subst hspot
    have hblk : ∃ arr t' fr, w.heap[b]? = some (.cells arr t' fr) := by
      unfold World.shape? at hshape
      simp only at hshape
      cases hx : w.heap[b]? with
      | none => simp [hx] at hshape
      | some ob => cases ob <;> simp [hx] at hshape <;> exact ⟨_, _, _, rfl⟩
    obtain ⟨arr, t', fr, harr⟩ := hblk
    rw [hcell] at hel
    have each : ∀ i, i < len → ∃ cs y, KWs (LB.cells ei.zero) cs ∧ cs = ((arr.toList.drop o).drop (i * ei.size)).take ei.size ∧ DataW.trod enc P w base spare held n e cs = some y ∧ o + i * ei.size + ei.size ≤ arr.size := by
      intro i hi
      have h1 := hel i hi
      have h2 : ∃ y, elems[i]? = some y := ⟨elems[i]'(by omega), by simp [show i < elems.length by omega]⟩
      obtain ⟨y, hy⟩ := h2
      rw [hy, Option.bind_eq_some_iff] at h1
      obtain ⟨cs, g1, g2⟩ := h1
      obtain ⟨_, g3, g4⟩ := World.cells?_some g1
      have g5 : ∀ k, k < ei.size → arr[o + i * ei.size + k]? = cs[k]? := by
        intro k hk'
        have := g4 k hk'
        rw [add_none, add_none, cell_at harr] at this
        exact this
      have hlast : o + i * ei.size + ei.size ≤ arr.size := by
        have := g5 (ei.size - 1) (by omega)
        rw [List.getElem?_eq_getElem (by omega)] at this
        have := (Array.getElem?_eq_some_iff.1 this).1
        omega
      refine ⟨cs, y, trod_kw 50 e _ _ n _ hg (by rw [hsz, hcell]) g2, ?_, g2, hlast⟩
      apply List.ext_getElem?
      intro k
      by_cases hk' : k < ei.size
      · rw [← g5 k hk', List.getElem?_take, if_pos hk', List.getElem?_drop, List.getElem?_drop, Array.getElem?_toList]
        congr 1; omega
      · rw [List.getElem?_eq_none (by omega), List.getElem?_eq_none (by simp; omega)]
    have hbound : len * ei.size ≤ (arr.toList.drop o).length ∨ len = 0 := by
      by_cases h0 : len = 0
      · exact .inr h0
      · obtain ⟨_, _, _, _, _, g⟩ := each (len - 1) (by omega)
        left
        have : len * ei.size = (len - 1) * ei.size + ei.size := by
          rw [← Nat.succ_mul]; congr 1; omega
        simp
        omega
    have hflat := chunks_flat (arr.toList.drop o) ei.size len 0 (by
      rw [Nat.zero_add]
      rcases hbound with h | h
      · exact h
      · rw [h]; simp)
    refine ⟨(List.range' 0 len).map (fun i => ((arr.toList.drop o).drop (i * ei.size)).take ei.size), .inr ⟨b, o, cap, len, arr, t', fr, rfl, harr, ?_, hl, ?_, ?_⟩, by simp [lenV], ?_, by simp; omega, rfl⟩
    · rw [hflat]
      simp only [Nat.zero_mul, List.drop_zero, List.length_take]
      rcases hbound with h | h
      · omega
      · rw [h]; simp
    · intro j' u hu
      rw [hflat] at hu
      simp only [Nat.zero_mul, List.drop_zero, List.getElem?_take] at hu
      split at hu
      · rw [List.getElem?_drop, Array.getElem?_toList] at hu; exact hu
      · simp at hu
    · intro u hu
      obtain ⟨c, hc, huc⟩ := List.mem_flatten.1 hu
      obtain ⟨i, hi, rfl⟩ := List.mem_map.1 hc
      simp at hi
      obtain ⟨cs, y, k1, k2, _⟩ := each i hi
      rw [← k2] at huc
      have : ∀ (zs cs : List Value), KWs zs cs → (∀ z ∈ zs, ∀ x, KW z x → x.oneCell' = true) → ∀ u ∈ cs, u.oneCell' = true := by
        intro zs
        induction zs with
        | nil => intro cs h _ u hu; cases cs with
          | nil => simp at hu
          | cons => exact h.elim
        | cons z zs ih => intro cs h h' u hu; cases cs with
          | nil => exact h.elim
          | cons c cs =>
            rcases List.mem_cons.1 hu with rfl | hu
            · exact h' z (by simp) _ h.1
            · exact ih cs h.2 (fun z hz => h' z (by simp [hz])) u hu
      exact this _ _ k1 hall u huc
    · intro c hc
      obtain ⟨i, hi, rfl⟩ := List.mem_map.1 hc
      simp at hi
      obtain ⟨cs, y, k1, k2, _⟩ := each i hi
      rw [← k2]; exact k1
/-- numbers -/
theorem kws_one {k : IntKind} {c : List Value} {z : Int} (h : KWs [.int k z] c) : ∃ n, c = [.int k n] ∧ (Lit.int k n).wf = true := by
  match c, h with
  | [.int k' n], h => obtain ⟨⟨rfl, h⟩, _⟩ := h; exact ⟨n, rfl, h⟩
theorem els_ints {k : IntKind} {z : Int} : ∀ {els : List (List Value)}, (∀ c ∈ els, KWs [.int k z] c) → ∃ l : List Int, els.flatten = l.map (Value.int k) ∧ l.length = els.length ∧ ∀ n ∈ l, (Lit.int k n).wf = true
  | [], _ => ⟨[], rfl, rfl, by simp⟩
  | c :: els, h => by
    obtain ⟨n, rfl, hn⟩ := kws_one (h c (by simp))
    obtain ⟨l, h1, h2, h3⟩ := els_ints (els := els) (fun c hc => h c (by simp [hc]))
    refine ⟨n :: l, by simp [h1], by simp [h2], ?_⟩
    intro x hx
    rcases List.mem_cons.1 hx with rfl | hx
    · exact hn
    · exact h3 x hx
theorem els_vecs {k : IntKind} {z : List Int} : ∀ {els : List (List Value)}, (∀ c ∈ els, KWs (z.map (Value.int k)) c) → ∃ ls : List (List Int), els = ls.map (fun l => l.map (Value.int k)) ∧ ∀ l ∈ ls, l.length = z.length ∧ ∀ n ∈ l, (Lit.int k n).wf = true
  | [], _ => ⟨[], rfl, by simp⟩
  | c :: els, h => by
    have hc := h c (by simp)
    obtain ⟨l', r, h1, h2, h3, h4⟩ := kws_ints z [] c (by simpa using hc)
    have hr : r = [] := by cases r with
      | nil => rfl
      | cons => exact h4.elim
    subst hr
    obtain ⟨ls, g1, g2⟩ := els_vecs (els := els) (fun c hc => h c (by simp [hc]))
    refine ⟨l' :: ls, by simp [h1, g1], ?_⟩
    intro x hx
    rcases List.mem_cons.1 hx with rfl | hx
    · exact ⟨h2, h3⟩
    · exact g2 x hx
end
end Go.E

/-
  What arguments are that were read, by their shapes: numbers, texts, structs, arrays, and slices of these, as deep as they go.
-/
namespace Go.E
open Go.ChangeShapes Go.WideShapes Go.RowKit

inductive Sh where
  | int (k : IntKind)
  | bool
  | str
  | slice (e : Sh)
  | unit
  | pair (a b : Sh)
  | rep (n : Nat) (e : Sh)
def Sh.size : Sh → Nat
  | .unit => 0
  | .pair a b => a.size + b.size
  | .rep n e => n * e.size
  | _ => 1
def Dat (m : Mem) : Sh → List Value → Prop
  | .int k, cs => ∃ n, cs = [.int k n] ∧ (Lit.int k n).wf = true
  | .bool, cs => ∃ b, cs = [.bool b]
  | .str, cs => ∃ s, cs = [.string s] ∧ s.size ≤ maxLen
  | .slice e, cs => ∃ (v : Value) (els : List (List Value)), cs = [v] ∧ (Lies m e.size v els.flatten ∨ (els = [] ∧ ∃ a, v = .slice (some a) 0 0)) ∧ lenV v = els.length ∧ (∀ c ∈ els, Dat m e c) ∧ els.length ≤ maxLen
  | .unit, cs => cs = []
  | .pair a b, cs => ∃ x y, cs = x ++ y ∧ Dat m a x ∧ Dat m b y
  | .rep n e, cs => ∃ els : List (List Value), cs = els.flatten ∧ els.length = n ∧ ∀ c ∈ els, Dat m e c
def intB : Option TypeDesc → IntKind → Bool
  | some (.int k), q => kEq k q
  | _, _ => false
/-- is it the type's shape? and: are these fields, from an offset on? -/
def chk (P : Program) : Sh → (TypeId → Bool) × (List Field → Nat → Bool)
  | .int k => (fun t => intB (P.underlying t) k, fun _ _ => false)
  | .bool => (fun t => match P.underlying t with | some .bool => true | _ => false, fun _ _ => false)
  | .str => (fun t => match P.underlying t with | some .string => true | _ => false, fun _ _ => false)
  | .slice e => (fun t => match P.underlying t with | some (.slice et) => (chk P e).1 et && (P.cellsOf et == e.size && Nat.blt 0 e.size) | _ => false, fun _ _ => false)
  | .unit => (fun _ => false, fun fs _ => fs.isEmpty)
  | .pair a b =>
    let F : List Field → Nat → Bool := fun fs off => match fs with
      | f :: fs => f.offset == off && ((chk P a).1 f.type && (P.cellsOf f.type == a.size && (chk P b).2 fs (off + a.size)))
      | [] => false
    (fun t => match P.underlying t with | some (.struct fs) => P.cellsOf t == a.size + b.size && F fs.toList 0 | _ => false, F)
  | .rep n e => (fun t => match P.underlying t with | some (.array k et) => Nat.beq k n && ((chk P e).1 et && (P.cellsOf et == e.size && P.cellsOf t == n * e.size)) | _ => false, fun _ _ => false)

section
variable {H : Type} {enc : TypeId × Value → H} {P : Program} {w : World} {base : Nat} {spare : Nat → Bool} {held : Bool}
theorem Dat.one {m : Mem} : ∀ {sh : Sh} {cs : List Value}, Dat m sh cs → ∀ u ∈ cs, u.oneCell' = true
  | .int k, cs, h, u, hu => by obtain ⟨n, rfl, _⟩ := h; simp at hu; subst hu; rfl
  | .bool, cs, h, u, hu => by obtain ⟨n, rfl⟩ := h; simp at hu; subst hu; rfl
  | .str, cs, h, u, hu => by obtain ⟨n, rfl, _⟩ := h; simp at hu; subst hu; rfl
  | .slice e, cs, h, u, hu => by
    obtain ⟨v, els, rfl, h1, _⟩ := h
    simp at hu; subst hu
    rcases h1 with h1 | ⟨_, a, rfl⟩
    · exact h1.one
    · rfl
  | .unit, cs, h, u, hu => by simp only [Dat] at h; subst h; cases hu
  | .pair a b, cs, h, u, hu => by
    obtain ⟨x, y, rfl, h1, h2⟩ := h
    rcases List.mem_append.1 hu with hu | hu
    · exact Dat.one h1 u hu
    · exact Dat.one h2 u hu
  | .rep n e, cs, h, u, hu => by
    obtain ⟨els, rfl, _, h1⟩ := h
    obtain ⟨c, hc, huc⟩ := List.mem_flatten.1 hu
    exact Dat.one (h1 c hc) u huc
theorem flat_len {els : List (List Value)} {s : Nat} (h : ∀ c ∈ els, c.length = s) : els.flatten.length = els.length * s := by
  induction els with
  | nil => simp
  | cons a els ih =>
    simp only [List.flatten_cons, List.length_append, List.length_cons]
    rw [ih (fun c hc => h c (by simp [hc])), h a (by simp), Nat.add_mul]; omega
theorem Dat.length {m : Mem} : ∀ {sh : Sh} {cs : List Value}, Dat m sh cs → cs.length = sh.size
  | .int k, cs, h => by obtain ⟨n, rfl, _⟩ := h; rfl
  | .bool, cs, h => by obtain ⟨n, rfl⟩ := h; rfl
  | .str, cs, h => by obtain ⟨n, rfl, _⟩ := h; rfl
  | .slice e, cs, h => by obtain ⟨v, els, rfl, _⟩ := h; rfl
  | .unit, cs, h => by simp only [Dat] at h; subst h; rfl
  | .pair a b, cs, h => by
    obtain ⟨x, y, rfl, h1, h2⟩ := h
    simp only [List.length_append, Sh.size, Dat.length h1, Dat.length h2]
  | .rep n e, cs, h => by
    obtain ⟨els, rfl, h2, h1⟩ := h
    rw [flat_len (fun c hc => Dat.length (h1 c hc)), h2]; rfl

theorem chunk_list {α : Type} (l : List α) (s n : Nat) (h : l.length = n * s) : ((List.range' 0 n).map (fun i => (l.drop (i * s)).take s)).flatten = l := by
  rw [chunks_flat l s n 0 (by rw [Nat.zero_add, h]; exact Nat.le_refl _)]
  simp [← h]
theorem cell_some {a : Addr} {v : Value} (h : w.cell? a = some v) : ∃ b o arr t fr, a = ⟨b, o, none⟩ ∧ w.heap[b]? = some (.cells arr t fr) ∧ arr[o]? = some v := by
  obtain ⟨b, o, sp⟩ := a
  unfold World.cell? at h
  simp only at h
  split at h
  · rename_i arr t fr hb
    cases sp with
    | some _ => simp at h
    | none => exact ⟨b, o, arr, t, fr, rfl, hb, by simpa using h⟩
  · cases h
theorem add_zero (a : Addr) : a.add 0 = a := by simp [Addr.add]
/-- THE OPENING -/
theorem trod_dat (hsp : ∀ b, spare b = true) : ∀ (sh : Sh), (∀ (t : TypeId) (cs : List Value) (fuel : Nat) (x : DataW H × List MemPlace), (chk P sh).1 t = true → DataW.trod enc P w base spare held fuel t cs = some x → Dat (fun b => w.heap[b]?) sh cs) ∧
    (∀ (fs : List Field) (off : Nat) (cs : List Value), (chk P sh).2 fs off = true → cs.length = off + sh.size → (∀ f ∈ fs, ∃ fuel x, DataW.trod enc P w base spare held fuel f.type ((cs.drop f.offset).take (P.cellsOf f.type)) = some x) → Dat (fun b => w.heap[b]?) sh (cs.drop off)) := by
  intro sh
  induction sh with
  | int k =>
    refine ⟨fun t cs fuel x h ht => ?_, fun fs off cs h => by simp [chk] at h⟩
    simp only [chk] at h
    cases hu : P.underlying t with
    | none => rw [hu] at h; cases h
    | some d =>
      rw [hu] at h
      cases d <;> simp only [intB] at h <;> try cases h
      rename_i q
      have := kEq_eq h; subst this
      obtain ⟨n, rfl, _, hw⟩ := DataW.trod_int hu ht
      exact ⟨n, rfl, hw⟩
  | bool =>
    refine ⟨fun t cs fuel x h ht => ?_, fun fs off cs h => by simp [chk] at h⟩
    simp only [chk] at h
    split at h
    · rename_i hu; obtain ⟨b, rfl, _⟩ := DataW.trod_bool hu ht; exact ⟨b, rfl⟩
    · cases h
  | str =>
    refine ⟨fun t cs fuel x h ht => ?_, fun fs off cs h => by simp [chk] at h⟩
    simp only [chk] at h
    split at h
    · rename_i hu; obtain ⟨s, rfl, _, hs⟩ := DataW.trod_string hu ht; exact ⟨s, rfl, hs⟩
    · cases h
  | unit =>
    refine ⟨fun t cs fuel x h ht => by simp [chk] at h, fun fs off cs h hl _ => ?_⟩
    simp only [Sh.size] at hl
    exact List.drop_eq_nil_of_le (by omega)
  | pair a b iha ihb =>
    have F : ∀ (fs : List Field) (off : Nat) (cs : List Value), (chk P (.pair a b)).2 fs off = true → cs.length = off + (Sh.pair a b).size → (∀ f ∈ fs, ∃ fuel x, DataW.trod enc P w base spare held fuel f.type ((cs.drop f.offset).take (P.cellsOf f.type)) = some x) → Dat (fun b => w.heap[b]?) (.pair a b) (cs.drop off) := by
      intro fs off cs h hl hf
      cases fs with
      | nil => simp [chk] at h
      | cons f fs =>
        simp only [chk, Bool.and_eq_true, beq_iff_eq] at h
        obtain ⟨ho, h1, h2, h3⟩ := h
        simp only [Sh.size] at hl
        obtain ⟨fu, x, hx⟩ := hf f (by simp)
        rw [ho, h2] at hx
        refine ⟨(cs.drop off).take a.size, cs.drop (off + a.size), ?_, iha.1 _ _ _ _ h1 hx, ihb.2 fs (off + a.size) cs h3 (by omega) (fun g hg => hf g (by simp [hg]))⟩
        rw [← List.drop_drop, List.take_append_drop]
    refine ⟨fun t cs fuel x h ht => ?_, F⟩
    have h' : (match P.underlying t with | some (.struct fs) => P.cellsOf t == a.size + b.size && (chk P (.pair a b)).2 fs.toList 0 | _ => false) = true := h
    split at h'
    · rename_i fs hu
      simp only [Bool.and_eq_true, beq_iff_eq] at h'
      obtain ⟨xs, k, hk, _, hl, hxl, hp⟩ := DataW.trod_struct hu ht
      have := F fs.toList 0 cs h'.2 (by simp only [Sh.size]; omega) (fun f hf => by
        obtain ⟨i, hi, he⟩ := List.getElem_of_mem hf
        have hy := hp i f (by rw [← Array.getElem?_toList, List.getElem?_eq_getElem hi, he])
        rw [List.getElem?_eq_getElem (by simp at hi; omega)] at hy
        exact ⟨k, _, hy⟩)
      simpa using this
    · cases h'
  | rep n e ih =>
    refine ⟨fun t cs fuel x h ht => ?_, fun fs off cs h => by simp [chk] at h⟩
    simp only [chk] at h
    split at h
    · rename_i k et hu
      simp only [Bool.and_eq_true, beq_iff_eq] at h
      obtain ⟨hkn, h1, h2, h3⟩ := h
      have hkn := Nat.eq_of_beq_eq_true hkn
      subst hkn
      obtain ⟨xs, fu, hfu, _, hl, hxl, hp⟩ := DataW.trod_array hu ht
      rw [h2] at hp
      refine ⟨(List.range' 0 k).map (fun i => (cs.drop (i * e.size)).take e.size), (chunk_list cs e.size k (by omega)).symm, by simp, ?_⟩
      intro c hc
      obtain ⟨i, hi, rfl⟩ := List.mem_map.1 hc
      simp at hi
      have hy := hp i hi
      rw [List.getElem?_eq_getElem (by omega)] at hy
      exact ih.1 _ _ _ _ h1 hy
    · cases h
  | slice e ih =>
    refine ⟨fun t cs fuel x h ht => ?_, fun fs off cs h => by simp [chk] at h⟩
    simp only [chk] at h
    split at h
    · rename_i et hu
      simp only [Bool.and_eq_true, beq_iff_eq] at h
      obtain ⟨h1, h2, h3⟩ := h
      have hpos : 0 < e.size := by rw [Nat.blt_eq] at h3; exact h3
      rcases DataW.trod_slice hu ht with ⟨rfl, _⟩ | ⟨a, len, cap, elems, rest, n, _, rfl, _, hb, hl, hm, hlen, hel, hrest, _⟩
      · exact ⟨_, [], rfl, .inl (.inl ⟨0, rfl, rfl⟩), rfl, by simp, by simp⟩
      · rw [h2] at hel hrest
        have first : ∀ i, (∃ cs y, (w.cells? base (a.add (i * e.size)) e.size).bind (DataW.trod enc P w base spare held n et) = some y ∧ cs = y) → ∃ cs y, w.cells? base (a.add (i * e.size)) e.size = some cs ∧ DataW.trod enc P w base spare held n et cs = some y := by
          rintro i ⟨_, y, hy, _⟩
          rw [Option.bind_eq_some_iff] at hy
          obtain ⟨cs, g1, g2⟩ := hy
          exact ⟨cs, y, g1, g2⟩
        have hel' : ∀ i, i < len → ∃ cs y, w.cells? base (a.add (i * e.size)) e.size = some cs ∧ DataW.trod enc P w base spare held n et cs = some y := by
          intro i hi
          have := hel i hi
          rw [List.getElem?_eq_getElem (by omega)] at this
          exact first i ⟨_, _, this, rfl⟩
        have hblk : cap = 0 ∨ ∃ b o arr t fr, a = ⟨b, o, none⟩ ∧ w.heap[b]? = some (.cells arr t fr) := by
          by_cases hc : cap = 0
          · exact .inl hc
          · right
            have : ∃ cs y, w.cells? base (a.add (0 * e.size)) e.size = some cs ∧ DataW.trod enc P w base spare held n et cs = some y := by
              by_cases hl0 : len = 0
              · obtain ⟨hr1, hr2⟩ := hrest (hsp _)
                have h0 := hr2 0 (by omega)
                obtain ⟨z, hz⟩ : ∃ z, rest[0]? = some z := ⟨_, List.getElem?_eq_getElem (by omega)⟩
                rw [hz, hl0] at h0
                exact first 0 ⟨_, _, h0, rfl⟩
              · exact hel' 0 (by omega)
            obtain ⟨cs, y, g1, _⟩ := this
            obtain ⟨_, g3, g4⟩ := World.cells?_some g1
            have := g4 0 hpos
            rw [Nat.zero_mul, add_zero, add_zero, List.getElem?_eq_getElem (by omega)] at this
            obtain ⟨b, o, arr, t, fr, e1, e2, _⟩ := cell_some this
            exact ⟨b, o, arr, t, fr, e1, e2⟩
        rcases hblk with rfl | ⟨b, o, arr, t', fr, rfl, harr⟩
        · obtain rfl : len = 0 := by omega
          exact ⟨_, [], rfl, .inr ⟨rfl, a, rfl⟩, rfl, by simp, by simp⟩
        · have each : ∀ i, i < len → ∃ cs y, cs = ((arr.toList.drop o).drop (i * e.size)).take e.size ∧ DataW.trod enc P w base spare held n et cs = some y ∧ o + i * e.size + e.size ≤ arr.size := by
            intro i hi
            obtain ⟨cs, y, g1, g2⟩ := hel' i hi
            obtain ⟨_, g3, g4⟩ := World.cells?_some g1
            have g5 : ∀ k, k < e.size → arr[o + i * e.size + k]? = cs[k]? := by
              intro k hk'
              have := g4 k hk'
              rw [add_none, add_none, cell_at harr] at this
              exact this
            have hlast : o + i * e.size + e.size ≤ arr.size := by
              have := g5 (e.size - 1) (by omega)
              rw [List.getElem?_eq_getElem (by omega)] at this
              have := (Array.getElem?_eq_some_iff.1 this).1
              omega
            refine ⟨cs, y, ?_, g2, hlast⟩
            apply List.ext_getElem?
            intro k
            by_cases hk' : k < e.size
            · rw [← g5 k hk', List.getElem?_take, if_pos hk', List.getElem?_drop, List.getElem?_drop, Array.getElem?_toList]
              congr 1; omega
            · rw [List.getElem?_eq_none (by omega), List.getElem?_eq_none (by simp; omega)]
          have hbound : len * e.size ≤ (arr.toList.drop o).length ∨ len = 0 := by
            by_cases h0 : len = 0
            · exact .inr h0
            · obtain ⟨_, _, _, _, g⟩ := each (len - 1) (by omega)
              left
              have : len * e.size = (len - 1) * e.size + e.size := by
                rw [← Nat.succ_mul]; congr 1; omega
              simp
              omega
          have hflat := chunks_flat (arr.toList.drop o) e.size len 0 (by
            rw [Nat.zero_add]
            rcases hbound with h | h
            · exact h
            · rw [h]; simp)
          have hdat : ∀ c ∈ (List.range' 0 len).map (fun i => ((arr.toList.drop o).drop (i * e.size)).take e.size), Dat (fun b => w.heap[b]?) e c := by
            intro c hc
            obtain ⟨i, hi, rfl⟩ := List.mem_map.1 hc
            simp at hi
            obtain ⟨cs, y, k1, k2, _⟩ := each i hi
            rw [← k1]
            exact ih.1 _ _ _ _ h1 k2
          refine ⟨_, (List.range' 0 len).map (fun i => ((arr.toList.drop o).drop (i * e.size)).take e.size), rfl, .inl (.inr ⟨b, o, cap, len, arr, t', fr, rfl, harr, ?_, hl, ?_, ?_⟩), by simp [lenV], hdat, by simp; omega⟩
          · rw [flat_len (fun c hc => (hdat c hc).length)]; simp
          · intro j' u hu
            rw [hflat] at hu
            simp only [Nat.zero_mul, List.drop_zero, List.getElem?_take] at hu
            split at hu
            · rw [List.getElem?_drop, Array.getElem?_toList] at hu; exact hu
            · simp at hu
          · intro u hu
            obtain ⟨c, hc, huc⟩ := List.mem_flatten.1 hu
            exact (hdat c hc).one u huc
    · cases h
theorem flat_at : ∀ {els : List (List Value)} {s i j : Nat} {c : List Value} {u : Value}, (∀ c ∈ els, c.length = s) → els[i]? = some c → c[j]? = some u → els.flatten[i * s + j]? = some u
  | [], _, _, _, _, _, _, hi, _ => by simp at hi
  | a :: els, s, 0, j, c, u, hl, hi, hj => by
    simp at hi; subst hi
    have := (List.getElem?_eq_some_iff.1 hj).1
    rw [Nat.zero_mul, Nat.zero_add, List.flatten_cons, List.getElem?_append_left this]; exact hj
  | a :: els, s, i + 1, j, c, u, hl, hi, hj => by
    have ha := hl a (by simp)
    have ih := flat_at (els := els) (s := s) (fun c hc => hl c (by simp [hc])) (by simpa using hi) hj
    rw [List.flatten_cons, List.getElem?_append_right (by rw [ha, Nat.add_mul]; omega), ha, show (i + 1) * s + j - s = i * s + j by rw [Nat.add_mul]; omega]
    exact ih
/-- an element of a slice of equal parts -/
theorem Lies.elem {m : Mem} {s : Nat} {v : Value} {els : List (List Value)} (h : Lies m s v els.flatten) (hl : ∀ c ∈ els, c.length = s) (hp : 0 < s) (hv : lenV v = els.length) {i : Nat} (hi : i < els.length) :
    ∃ b o c, v = .slice (some ⟨b, o, none⟩) els.length c ∧ ∀ i c, els[i]? = some c → MRange m b (o + i * s) c := by
  rcases h with ⟨c, rfl, h⟩ | ⟨b, o, c, n, arr, t, fr, rfl, h1, h2, h3, h4, h5⟩
  · simp [lenV] at hv; omega
  · simp only [lenV] at hv; subst hv
    refine ⟨b, o, c, rfl, fun i c hc => ⟨arr, t, fr, h1, fun j u hu => ?_⟩⟩
    have := h4 _ u (flat_at hl hc hu)
    rw [show o + i * s + j = o + (i * s + j) by omega]; exact this
theorem dat_ints {m : Mem} {k : IntKind} {n : Nat} {cs : List Value} (h : Dat m (.rep n (.int k)) cs) : ∃ l : List Int, cs = l.map (Value.int k) ∧ l.length = n ∧ ∀ x ∈ l, (Lit.int k x).wf = true := by
  obtain ⟨els, rfl, rfl, h⟩ := h
  have := @els_ints k 0 els (fun c hc => by obtain ⟨n, rfl, hw⟩ := h c hc; exact ⟨⟨rfl, hw⟩, trivial⟩)
  obtain ⟨l, h1, h2, h3⟩ := this
  exact ⟨l, h1, h2, h3⟩
/-- a slice of numbers -/
theorem dat_sints {m : Mem} {k : IntKind} {cs : List Value} (h : Dat m (.slice (.int k)) cs) : ∃ (v : Value) (l : List Int), cs = [v] ∧ (Lies m 1 v (l.map (Value.int k)) ∨ (l = [] ∧ ∃ a, v = .slice (some a) 0 0)) ∧ lenV v = l.length ∧ (∀ x ∈ l, (Lit.int k x).wf = true) ∧ l.length ≤ maxLen := by
  obtain ⟨v, els, rfl, h1, h2, h3, h4⟩ := h
  obtain ⟨l, g1, g2, g3⟩ := @els_ints k 0 els (fun c hc => by obtain ⟨n, rfl, hw⟩ := h3 c hc; exact ⟨⟨rfl, hw⟩, trivial⟩)
  refine ⟨v, l, rfl, ?_, by omega, g3, by omega⟩
  rcases h1 with h1 | ⟨rfl, a, rfl⟩
  · rw [g1] at h1; exact .inl h1
  · exact .inr ⟨by apply List.eq_nil_of_length_eq_zero; simpa using g2, a, rfl⟩
theorem open_dat (hsp : ∀ b, spare b = true) {sh : Sh} {t : TypeId} {v : Value} {d : DataW H} {ps : List MemPlace} (hc : (chk P sh).1 t = true) (hd : DataW.Trod enc P w base spare held t v d ps) : Dat (fun b => w.heap[b]?) sh v.cells.toList := by
  obtain ⟨fuel, hf⟩ := hd
  exact (trod_dat hsp sh).1 _ _ _ _ hc hf
theorem val_slice {r : Reach} {b0 : Nat} {t e : TypeId} {v : Value} (hu : P.underlying t = some (.slice e)) (h : Value.okWide P w r b0 t v) : v.cells.toList = [v] ∧ v.oneCell' = true := by
  unfold Value.okWide at h
  rw [hu] at h
  simp only [Cell.okWide, hu, Cell.ok] at h
  cases v <;> simp at h
  exact ⟨rfl, rfl⟩
theorem val_string {r : Reach} {b0 : Nat} {t : TypeId} {v : Value} (hu : P.underlying t = some .string) (h : Value.okWide P w r b0 t v) : v.cells.toList = [v] ∧ v.oneCell' = true := by
  unfold Value.okWide at h
  rw [hu] at h
  simp only [Cell.okWide, hu, Cell.ok] at h
  cases v <;> simp at h
  exact ⟨rfl, rfl⟩
theorem val_int {k : IntKind} {r : Reach} {b0 : Nat} {t : TypeId} {v : Value} (hu : P.underlying t = some (.int k)) (h : Value.okWide P w r b0 t v) : v.cells.toList = [v] ∧ v.oneCell' = true := by
  unfold Value.okWide at h
  rw [hu] at h
  simp only [Cell.okWide, hu, Cell.ok] at h
  cases v <;> simp at h
  exact ⟨rfl, rfl⟩
theorem wf_i64 {n : Int} (h : (Lit.int .i64 n).wf = true) : -9223372036854775808 ≤ n ∧ n ≤ 9223372036854775807 := by
  simpa [Lit.wf, IntKind.min, IntKind.max, IntKind.signed, IntKind.bits] using h
theorem wf_u64 {n : Int} (h : (Lit.int .u64 n).wf = true) : 0 ≤ n ∧ n < 18446744073709551616 := by
  have : 0 ≤ n ∧ n ≤ 18446744073709551615 := by simpa [Lit.wf, IntKind.min, IntKind.max, IntKind.signed, IntKind.bits] using h
  omega
theorem wf_u8 {n : Int} (h : (Lit.int .u8 n).wf = true) : 0 ≤ n ∧ n < 256 := by
  have : 0 ≤ n ∧ n ≤ 255 := by simpa [Lit.wf, IntKind.min, IntKind.max, IntKind.signed, IntKind.bits] using h
  omega
theorem wf_u32 {n : Int} (h : (Lit.int .u32 n).wf = true) : 0 ≤ n ∧ n < 4294967296 := by
  have : 0 ≤ n ∧ n ≤ 4294967295 := by simpa [Lit.wf, IntKind.min, IntKind.max, IntKind.signed, IntKind.bits] using h
  omega
end
end Go.E

/-
  Lists of digests and of whole numbers that are arguments.
-/
namespace Go.E.Ytjmjikemaafnjaa
open Go.Proofs
set_option maxRecDepth 100000
theorem dat_dig {m : Mem} {cs : List Value} (h : Dat m (.rep 32 (.int .u8)) cs) : ∃ d : List Nat, cs = (nc d).map (Value.int .u8) ∧ d.length = 32 ∧ ∀ x ∈ d, x < 256 := by
  obtain ⟨l, rfl, h1, h2⟩ := dat_ints h
  have e : nc (l.map Int.toNat) = l := by
    simp only [nc, List.map_map]
    refine (List.map_congr_left fun x hx => ?_).trans (List.map_id l)
    have := wf_u8 (h2 x hx)
    show ((x.toNat : Nat) : Int) = x
    omega
  refine ⟨l.map Int.toNat, by rw [e], by simpa using h1, fun x hx => ?_⟩
  obtain ⟨y, hy, rfl⟩ := List.mem_map.1 hx
  have := wf_u8 (h2 y hy)
  omega
theorem dat_digs_rows {m : Mem} : ∀ {els : List (List Value)}, (∀ c ∈ els, Dat m (.rep 32 (.int .u8)) c) → ∃ D : List (List Nat), els = D.map (fun d => (nc d).map (Value.int .u8)) ∧ D32 D ∧ ∀ d ∈ D, ∀ x ∈ d, x < 256
  | [], _ => ⟨[], rfl, (by intro d hd; cases hd), (by intro d hd; cases hd)⟩
  | c :: els, h => by
    obtain ⟨d, rfl, h1, h2⟩ := dat_dig (h c (by simp))
    obtain ⟨D, rfl, h3, h4⟩ := dat_digs_rows (els := els) fun c hc => h c (by simp [hc])
    refine ⟨d :: D, rfl, fun x hx => ?_, fun x hx => ?_⟩
    · rcases List.mem_cons.1 hx with rfl | hx
      · exact h1
      · exact h3 x hx
    · rcases List.mem_cons.1 hx with rfl | hx
      · exact h2
      · exact h4 x hx
theorem dat_digs {m : Mem} {cs : List Value} (h : Dat m (.slice (.rep 32 (.int .u8))) cs) : ∃ v D, cs = [v] ∧ Da m v D ∧ ∀ d ∈ D, ∀ x ∈ d, x < 256 := by
  obtain ⟨v, els, rfl, h1, h2, h3, h4⟩ := h
  obtain ⟨D, rfl, h5, h6⟩ := dat_digs_rows h3
  refine ⟨v, D, rfl, ?_, h6⟩
  rcases h1 with h1 | ⟨h1, a, rfl⟩
  · refine .inl ⟨?_, h5⟩
    have e : (D.map fun d => (nc d).map (Value.int .u8)).flatten = dcs D := by rw [dcs, List.flatMap]
    rw [e] at h1
    exact h1
  · exact .inr ⟨by simpa using h1, a, rfl⟩
theorem dat_places {m : Mem} {cs : List Value} (h : Dat m (.slice (.int .i64)) cs) : ∃ v l, cs = [v] ∧ Ia m v l ∧ ∀ x ∈ l, -9223372036854775808 ≤ x ∧ x ≤ 9223372036854775807 := by
  obtain ⟨v, l, rfl, h1, h2, h3, h4⟩ := dat_sints h
  exact ⟨v, l, rfl, h1, fun x hx => by have := wf_i64 (h3 x hx); omega⟩
end Go.E.Ytjmjikemaafnjaa

/-
  Law WalkEnds.
-/
namespace Go.E.Ytjmjikemaafnjaa
open Go.Proofs
set_option maxRecDepth 100000
namespace Tr
theorem comesF_symm (a b : List Nat) : ∀ (f : Nat) (p : Int), comesF a b f p = comesF b a f p
  | 0, _ => rfl
  | f + 1, p => by
    rw [comesF, comesF, comesF_symm a b f]
    have : decide (dig a p.toNat ≠ dig b p.toNat) = decide (dig b p.toNat ≠ dig a p.toNat) := decide_eq_decide.2 ⟨Ne.symm, Ne.symm⟩
    rw [this]
theorem comes_symm (a b : List Nat) (p : Nat) : comes a b p = comes b a p := comesF_symm a b 4 p
theorem rout_symm (a b : List Nat) : ∀ k, rout a b k = rout b a k
  | 0 => rfl
  | k + 1 => by rw [rout, rout, rout_symm a b k, comes_symm]
theorem rlooks_symm (a b : List Nat) : ∀ k, rlooks a b k = rlooks b a k
  | 0 => rfl
  | k + 1 => by rw [rlooks, rlooks, rlooks_symm a b k, comes_symm]
/-- the places of the next level -/
def nxt (a b : List Nat) (l : List Int) : List Int := unl a (kidsL l) (digs b l)
theorem nxt_eq (a b : List Nat) (l : List Int) : nxt a b l = (kidsL l).filter (uu a b) := unl_filter a b (kidsL l)
theorem nxt1 (a b : List Nat) : nxt a b [0] = [1, 2, 3, 4].filter (uu a b) := nxt_eq a b [0]
theorem nxt2 (a b : List Nat) : nxt a b (nxt a b [0]) = lvs a b 1 ++ (lvs a b 2 ++ (lvs a b 3 ++ lvs a b 4)) := by rw [nxt_eq a b (nxt a b [0]), nxt1, lv2]
theorem ends {a b : List Nat} (h0 : dig a 0 ≠ dig b 0) : leaves (nxt a b (nxt a b [0])) = rout a b 21 ∧ rlooks a b 21 = 5 + (kidsL (nxt a b [0])).length ∧ (kidsL (nxt a b [0])).length = 4 * (nxt a b [0]).length ∧ (nxt a b [0]).length ≤ 4 := by
  have hu : uu a b 0 = true := by simp [uu, h0]
  have e1 := rlooks_5 a b 16
  rw [show 5 + 16 = 21 from rfl] at e1
  have hro : rlooks a b 5 = 5 + 4 * ([1, 2, 3, 4].filter (uu a b)).length := by
    simp only [rlooks, comes_0 a b, comes_1 a b (q := 1) (by decide), comes_1 a b (q := 2) (by decide), comes_1 a b (q := 3) (by decide), comes_1 a b (q := 4) (by decide), hu, Bool.and_true]
    cases h1 : uu a b 1 <;> cases h2 : uu a b 2 <;> cases h3 : uu a b 3 <;> cases h4 : uu a b 4 <;> simp [kids, h1, h2, h3, h4]
  refine ⟨?_, ?_, ?_, ?_⟩
  · rw [nxt2, rout_all hu, leaves_of lvs_ge]
  · rw [e1, hro, nxt1, lv1_len]
  · rw [nxt1, lv1_len]
  · rw [nxt1]; exact List.length_filter_le _ _
theorem nxt_pls (a b : List Nat) (l : List Int) : Pls (nxt a b l) := fun x hx => by
  have := kidsL_in x (unl_sub a x hx)
  omega
end Tr
set_option maxHeartbeats 2000000 in
theorem walkEnds_spec {m : Mem} {v1 v2 : Value} {L M : List (List Nat)} (h1 : Da m v1 L) (h2 : Da m v2 M) (b1 : ∀ d ∈ L, ∀ x ∈ d, x < 256) (b2 : ∀ d ∈ M, ∀ x ∈ d, x < 256) : Spec Try.prog 4 [.v v1, .v v2] m fun r m' => r = [boolV true] ∧ Sub m m' := by
  have hA := Tr.rawF_ok h1.ok b1 (Nat.le_refl 21)
  have hB := Tr.rawF_ok h2.ok b2 (Nat.le_refl 21)
  refine en4 rfl (goY ?_)
  conv => whnf
  first | refine xretk (raw_spec h1 b1) ?_ | refine xret (raw_spec h1 b1) ?_
  conv => whnf
  first | refine xretk (raw_spec h2 b2) ?_ | refine xret (raw_spec h2 b2) ?_
  conv => whnf
  obtain ⟨w1, w2, w3⟩ := Tr.walk_ref (Tr.raw L) (Tr.raw M)
  obtain ⟨u1, u2, u3⟩ := Tr.walk_ref (Tr.raw M) (Tr.raw L)
  rw [Tr.rout_symm] at u1
  rw [Tr.rlooks_symm] at u2
  have hrl := Tr.rout_len (Tr.raw L) (Tr.raw M) 21
  have hlk := Tr.rlooks_le (Tr.raw L) (Tr.raw M) 21
  change Tr.Ok (Tr.raw L) at hA
  change Tr.Ok (Tr.raw M) at hB
  generalize Tr.raw L = A at *
  generalize Tr.raw M = B at *
  refine xcall (diff_spec hA.len hB.len) ?_
  rintro _ m1 ⟨vp, qp, rfl, hs1, hp⟩
  conv => whnf
  refine xcall (diff_spec hB.len hA.len) ?_
  rintro _ m2 ⟨vq, qq, rfl, hs2, hq⟩
  conv => whnf
  have hs2 := hs2.under (a := [qq]) hs1
  have hs2 : Split m2 [qq, qp, m] := hs2
  rw [w1] at hp
  rw [u1] at hq
  rw [w2, u2]
  obtain ⟨ap, cp, rfl⟩ := hp.il.shape
  first | refine xretk (sameI_spec (hp.il.ia.sub (hs2.sub (by simp))) (hq.il.ia.sub (hs2.sub (by simp))) (by omega)) ?_ | refine xret (sameI_spec (hp.il.ia.sub (hs2.sub (by simp))) (hq.il.ia.sub (hs2.sub (by simp))) (by omega)) ?_
  conv => whnf
  rw [decide_eq_true rfl]
  refine ⟨fun h => absurd h (by decide), fun _ => ?_⟩
  conv => whnf
  refine ⟨fun h => absurd h (by simp at h), fun _ => ?_⟩
  conv => whnf
  first | refine xretk (walkSame_spec) ?_ | refine xret (walkSame_spec) ?_
  conv => whnf
  refine ⟨fun h => ?_, fun h => ?_⟩
  · have h0 := of_decide_eq_true h
    have hw : Tr.walk A B = ([], 1, 0) := by rw [Tr.walk, if_pos h0]
    rw [hw] at w1 w2
    have hl0 : (Tr.rout A B 21).length = 0 := by rw [← w1]; rfl
    have hk1 : Tr.rlooks A B 21 = 1 := w2.symm
    rw [hl0, hk1]
    conv => whnf
    refine xcall (alive21_spec) ?_
    rintro _ m3 ⟨rfl, hs3⟩
    conv => whnf
    refine ⟨fun _ => ?_, fun h => absurd h (by decide)⟩
    conv => whnf
    refine ⟨fun _ => ?_, fun h => absurd h (by decide)⟩
    conv => whnf
    exact ⟨rfl, (hs2.sub (by simp)).trans hs3⟩
  have h0 : Tr.dig A 0 ≠ Tr.dig B 0 := of_decide_eq_false h
  obtain ⟨e1, e2, e3, e4⟩ := Tr.ends h0
  clear h
  conv => whnf
  refine .mk _ (buildI1) ?_
  rintro _ _ ⟨b3, hb3, rfl, rfl⟩
  conv => whnf
  have hs3 := hs2.new hb3 (.cells #[.int .i64 0] 3)
  have hm3 : Sub m2 (m2.set b3 (.cells #[.int .i64 0] 3)) := Mem.sub_set _ hb3
  have hq0 : Il (m2.set b3 (.cells #[.int .i64 0] 3)) (.slice (some ⟨b3, 0, none⟩) 1 1) [0] := Il.blk1 (Mem.set_same ..)
  have hI0 : Pls [0] := by intro x hx; simp at hx; omega
  refine .mk (ι := Nat × List Int × Value × Nat) (fun i => 2 - i.1) (fun ⟨i, l, v, seen⟩ mm => i ≤ 2 ∧ ((i = 0 ∧ l = [0] ∧ seen = 1) ∨ (i = 1 ∧ l = Tr.nxt A B [0] ∧ seen = 5) ∨ (i = 2 ∧ l = Tr.nxt A B (Tr.nxt A B [0]) ∧ seen = 5 + (Tr.kidsL (Tr.nxt A B [0])).length)) ∧ l.length ≤ 16 ∧ Sub m2 mm ∧ Il mm v l)
    (fun ⟨i, l, v, seen⟩ => [(5, .p 0 0), (6, .p 1 0), (7, .c (.v (.slice ap (Tr.rout A B 21).length cp))), (8, .c (i64 (Tr.rlooks A B 21))), (11, .c (.v v)), (12, .c (i64 seen)), (13, .c (i64 i))]) (fun _ => [(28, [.ints .u8 672 (nc A)]), (28, [.ints .u8 672 (nc B)])]) (0, [0], _, 1) ⟨by omega, .inl ⟨rfl, rfl, rfl⟩, by simp, hm3, hq0⟩ ?_ ?_
  · conv => whnf
    repeat (refine And.intro (by first | with_reducible rfl | exact congrArg (Value.int _) (wi (by omega) (by omega)) | exact wi (by omega) (by omega) | rfl) ?_; conv => whnf)
    first | exact trivial | exact fun _ _ h => h
  rintro ⟨i, l, v, seen⟩ mm ⟨hi, hst, hl16, hsm, hv⟩
  have hpl : Pls l := by
    rcases hst with ⟨_, rfl, _⟩ | ⟨_, rfl, _⟩ | ⟨_, rfl, _⟩
    · exact hI0
    · exact Tr.nxt_pls _ _ _
    · exact Tr.nxt_pls _ _ _
  have hkl := Tr.kidsL_len l
  conv => whnf
  refine ⟨fun h => ?_, fun h => ?_⟩
  · have h' := of_decide_eq_true h
    have hlt : i < 2 := by omega
    have hk4 : (Tr.kidsL l).length = 4 * l.length := by
      rcases hst with ⟨_, rfl, _⟩ | ⟨_, rfl, _⟩ | ⟨h2, _⟩
      · rfl
      · exact e3
      · omega
    obtain ⟨av, cv, rfl⟩ := hv.shape
    conv => whnf
    refine xcall (digests_spec hB.len hv.ia (by omega) hpl) ?_
    rintro _ m4 ⟨v4, q4, rfl, hs4, hv4⟩
    conv => whnf
    obtain ⟨a4, c4, rfl⟩ := hv4.dl.shape
    rw [Tr.digs_len] at hv4
    rw [Tr.digs_len]
    conv => whnf
    refine xcall (unlike_ok hA.len (hv.ia.sub (hs4.sub (by simp))) (hv4.dl.da.sub (hs4.sub (by simp))) (by omega) hpl (Tr.digs_len B l).symm) ?_
    rintro _ m5 ⟨v5, q5, rfl, hs5, hv5⟩
    conv => whnf
    have hul := Tr.unl_len A (ks := Tr.kidsL l) (ds := Tr.digs B l)
    have e4l : IntKind.i64.wrap (4 * (l.length : Int)) = ((Tr.kidsL l).length : Int) := by rw [wi (by omega) (by omega)]; omega
    have hsb : seen ≤ 100 := by rcases hst with ⟨_, _, rfl⟩ | ⟨_, _, rfl⟩ | ⟨h2, _⟩ <;> omega
    have es : IntKind.i64.wrap ((seen : Int) + ((Tr.kidsL l).length : Int)) = ((seen + (Tr.kidsL l).length : Nat) : Int) := by rw [wi (by omega) (by omega)]; omega
    refine ⟨fun h => absurd h (by decide), fun _ => ?_⟩
    conv => whnf
    rw [e4l]
    refine ⟨fun h => absurd h (by simp at h), fun _ => ?_⟩
    conv => whnf
    rw [es]
    refine ⟨(i + 1, Tr.nxt A B l, v5, seen + (Tr.kidsL l).length), ⟨by omega, ?_, ?_, hsm.trans ((hs4.sub (a := mm) (by simp)).trans (hs5.sub (by simp))), hv5.il.sub (hs5.sub (by simp))⟩, by simp only; omega, ?_⟩
    · rcases hst with ⟨rfl, rfl, rfl⟩ | ⟨rfl, rfl, rfl⟩ | ⟨h2, _⟩
      · exact .inr (.inl ⟨rfl, rfl, rfl⟩)
      · exact .inr (.inr ⟨rfl, rfl, rfl⟩)
      · omega
    · rcases hst with ⟨rfl, rfl, rfl⟩ | ⟨rfl, rfl, rfl⟩ | ⟨h2, _⟩
      · exact Nat.le_trans e4 (by decide)
      · show (Tr.unl A _ _).length ≤ 16; omega
      · omega
    · conv => whnf
      repeat (refine And.intro (by first | with_reducible rfl | (first | exact congrArg (Value.int _) (iadd (by omega))) | exact congrArg (Value.int _) (wi (by omega) (by omega)) | exact wi (by omega) (by omega) | rfl) ?_; conv => whnf)
      first | exact trivial | exact fun _ _ h => h
  · have h' := of_decide_eq_false h
    obtain rfl : i = 2 := by omega
    obtain ⟨rfl, rfl⟩ : l = Tr.nxt A B (Tr.nxt A B [0]) ∧ seen = 5 + (Tr.kidsL (Tr.nxt A B [0])).length := by
      rcases hst with ⟨h2, _⟩ | ⟨h2, _⟩ | ⟨_, h3, h4⟩
      · omega
      · omega
      · exact ⟨h3, h4⟩
    rw [e2]
    conv => whnf
    refine xcall (alive21_spec) ?_
    rintro _ m5 ⟨rfl, hs5⟩
    conv => whnf
    refine ⟨fun _ => ?_, fun h => absurd h (by decide)⟩
    conv => whnf
    refine xcall (leaves_spec (hv.ia.sub hs5) (by omega)) ?_
    rintro _ m6 ⟨v6, q6, rfl, hs6, hv6⟩
    conv => whnf
    rw [e1] at hv6
    have k2 : Sub m2 m6 := hsm.trans (hs5.trans (hs6.sub (by simp)))
    first | refine xretk (sameI_spec (hv6.il.ia.sub (hs6.sub (by simp))) (hp.il.ia.sub ((hs2.sub (a := qp) (by simp)).trans k2)) (by omega)) ?_ | refine xret (sameI_spec (hv6.il.ia.sub (hs6.sub (by simp))) (hp.il.ia.sub ((hs2.sub (a := qp) (by simp)).trans k2)) (by omega)) ?_
    conv => whnf
    rw [decide_eq_true rfl]
    refine ⟨fun _ => ?_, fun h => absurd h (by decide)⟩
    conv => whnf
    exact ⟨by simp, (hs2.sub (by simp)).trans k2⟩
end Go.E.Ytjmjikemaafnjaa

/-
  The walk's bounds: plainly.
-/
namespace Go.E.Ytjmjikemaafnjaa
open Go.Proofs
set_option maxRecDepth 100000
namespace Tr
theorem dig_at' (t : List Nat) (q i : Nat) : (dig t q)[i]? = if i < 32 then t[32 * q + i]? else none := by
  simp only [dig, List.getElem?_take, List.getElem?_drop]
theorem put_at {t d : List Nat} (ht : t.length = 672) (hd : d.length = 32) {p : Nat} (hp : p < 21) (i : Nat) : (put t p d)[i]? = if i < 32 * p then t[i]? else if i < 32 * p + 32 then d[i - 32 * p]? else t[i]? := by
  rw [put, List.append_assoc]
  by_cases h1 : i < 32 * p
  · rw [if_pos h1, List.getElem?_append_left (by rw [List.length_take]; omega), List.getElem?_take, if_pos h1]
  · rw [if_neg h1, List.getElem?_append_right (by rw [List.length_take]; omega), List.length_take, Nat.min_eq_left (by omega)]
    by_cases h2 : i < 32 * p + 32
    · rw [if_pos h2, List.getElem?_append_left (by omega)]
    · rw [if_neg h2, List.getElem?_append_right (by omega), List.getElem?_drop]
      congr 1; omega
theorem dig_put {t d : List Nat} (ht : t.length = 672) (hd : d.length = 32) {p q : Nat} (hp : p < 21) : dig (put t p d) q = if q = p then d else dig t q := by
  refine List.ext_getElem? fun i => ?_
  rw [dig_at', put_at ht hd hp]
  by_cases h : q = p
  · subst h
    rw [if_pos rfl]
    by_cases hi : i < 32
    · rw [if_pos hi, if_neg (by omega), if_pos (by omega)]; congr 1; omega
    · rw [if_neg hi, List.getElem?_eq_none (by omega)]
  · rw [if_neg h, dig_at']
    by_cases hi : i < 32
    · rw [if_pos hi, if_pos hi]
      by_cases h1 : 32 * q + i < 32 * p
      · rw [if_pos h1]
      · rw [if_neg h1, if_neg (by omega)]
    · rw [if_neg hi, if_neg hi]
theorem dig_lv (ls : List (List Nat)) : ∀ {i : Nat}, i ≤ 16 → ∀ j, j < i → dig (lv ls i) (5 + j) = leafD (ls.getD j [])
  | 0, _, j, hj => by omega
  | i + 1, hi, j, hj => by
    rw [lv, dig_put (d := leafD (ls.getD i [])) (lv_ok ls (by omega)).len (sum_len _) (by omega)]
    by_cases h : j = i
    · subst h; rw [if_pos rfl]
    · rw [if_neg (by omega)]; exact dig_lv ls (by omega) j (by omega)
theorem dig_inn {t : List Nat} (h : Ok t) {q : Nat} (hq : 5 ≤ q) : ∀ j, dig (inn t j) q = dig t q
  | 0 => rfl
  | j + 1 => by rw [inn_succ, dig_put (inn_ok h j).len (sum_len _) (by omega), if_neg (by omega)]; exact dig_inn h hq j
theorem dig_ofT (ls : List (List Nat)) {j : Nat} (hj : j < 16) : dig (ofT ls) (5 + j) = leafD (ls.getD j []) := by
  rw [ofT, dig_inn (lv_ok ls (Nat.le_refl _)) (by omega), dig_lv ls (Nat.le_refl _) j hj]
/-- the inner places that are unlike -/
def innN (a b : List Nat) (k : Nat) : Nat := (([1, 2, 3, 4].take k).filter (uu a b)).length
theorem lvs_len (a b : List Nat) (q : Nat) : (lvs a b q).length ≤ 4 * (if uu a b q then 1 else 0) := by
  unfold lvs
  split
  · exact Nat.le_trans (List.length_filter_le _ _) (kids_len _)
  · simp
theorem bounds {a b : List Nat} (h0 : dig a 0 ≠ dig b 0) : rlooks a b 21 = 5 + 4 * innN a b 4 ∧ (rout a b 21).length ≤ 4 * innN a b 4 ∧ innN a b 4 ≤ 4 := by
  obtain ⟨_, e2, e3, e4⟩ := ends h0
  have hu : uu a b 0 = true := by simp [uu, h0]
  have hn : nxt a b [0] = ([1, 2, 3, 4].take 4).filter (uu a b) := nxt1 a b
  refine ⟨by rw [e2, e3, hn]; rfl, ?_, by rw [hn] at e4; exact e4⟩
  rw [rout_all hu, List.length_map, List.length_append, List.length_append, List.length_append]
  have l1 := lvs_len a b 1
  have l2 := lvs_len a b 2
  have l3 := lvs_len a b 3
  have l4 := lvs_len a b 4
  have hi : innN a b 4 = (if uu a b 1 then 1 else 0) + (if uu a b 2 then 1 else 0) + (if uu a b 3 then 1 else 0) + (if uu a b 4 then 1 else 0) := by
    unfold innN
    cases h1 : uu a b 1 <;> cases h2 : uu a b 2 <;> cases h3 : uu a b 3 <;> cases h4 : uu a b 4 <;> simp [h1, h2, h3, h4]
  rw [hi]
  have c1 : uu a b ((1 : Nat) : Int) = uu a b 1 := rfl
  have c2 : uu a b ((2 : Nat) : Int) = uu a b 2 := rfl
  have c3 : uu a b ((3 : Nat) : Int) = uu a b 3 := rfl
  have c4 : uu a b ((4 : Nat) : Int) = uu a b 4 := rfl
  rw [c1] at l1
  rw [c2] at l2
  rw [c3] at l3
  rw [c4] at l4
  omega
theorem unlike_leaf {a b : List Nat} (h0 : dig a 0 ≠ dig b 0) : ∀ x ∈ rout a b 21, ∃ j : Nat, x = (j : Int) ∧ j < 16 ∧ dig a (5 + j) ≠ dig b (5 + j) := by
  have hu : uu a b 0 = true := by simp [uu, h0]
  intro x hx
  rw [rout_all hu, List.mem_map] at hx
  obtain ⟨p, hp, rfl⟩ := hx
  have hr := lvs_ge p hp
  have hf : uu a b p = true := by
    rw [← lv2] at hp
    exact (List.mem_filter.1 hp).2
  refine ⟨(p - 5).toNat, by omega, by omega, ?_⟩
  have e : 5 + (p - 5).toNat = p.toNat := by omega
  rw [e]
  simpa [uu] using hf
theorem rounds_le (a b : List Nat) : (walk a b).2.2 ≤ 3 := by
  rw [(walk_ref a b).2.2]
  cases rlev a b 0 21 <;> cases rlev a b 1 21 <;> cases rlev a b 2 21 <;> decide
theorem wk_pos (a b : List Nat) : ∀ (f : Nat) (l : List Int) (n r : Nat), r ≤ (wk a b f l n r).2.2
  | 0, l, n, r => Nat.le_refl _
  | f + 1, l, n, r => by
    unfold wk
    split
    · exact Nat.le_succ _
    · dsimp only
      split
      · exact Nat.le_succ _
      · exact Nat.le_trans (Nat.le_succ _) (wk_pos a b f _ _ _)
theorem rounds_0 (a b : List Nat) : (walk a b).2.2 = 0 ↔ dig a 0 = dig b 0 := by
  unfold walk
  by_cases h : dig a 0 = dig b 0
  · rw [if_pos h]; exact ⟨fun _ => h, fun _ => rfl⟩
  · rw [if_neg h]
    refine ⟨fun e => ?_, fun e => absurd e h⟩
    exfalso
    unfold wk at e
    split at e
    · cases e
    · dsimp only at e
      split at e
      · cases e
      · have := wk_pos a b 2 (unl a (kidsL [0]) (digs b [0])) (1 + (digs b [0]).length) (0 + 1)
        omega
theorem same_out {a b : List Nat} (h0 : dig a 0 = dig b 0) : rout a b 21 = [] ∧ rlooks a b 21 = 1 := by
  obtain ⟨w1, w2, _⟩ := walk_ref a b
  have hw : walk a b = ([], 1, 0) := by rw [walk, if_pos h0]
  rw [hw] at w1 w2
  exact ⟨w1.symm, w2.symm⟩
theorem innN_succ (a b : List Nat) {k : Nat} (hk : k < 4) : innN a b (k + 1) = innN a b k + (if dig a (k + 1) = dig b (k + 1) then 0 else 1) := by
  have g : ∀ j : Nat, uu a b (j : Int) = decide (dig a j ≠ dig b j) := fun j => rfl
  have g1 := g 1
  have g2 := g 2
  have g3 := g 3
  have g4 := g 4
  rw [show ((1 : Nat) : Int) = 1 from rfl] at g1
  rw [show ((2 : Nat) : Int) = 2 from rfl] at g2
  rw [show ((3 : Nat) : Int) = 3 from rfl] at g3
  rw [show ((4 : Nat) : Int) = 4 from rfl] at g4
  match k, hk with
  | 0, _ => by_cases e : dig a 1 = dig b 1 <;> simp [innN, List.filter_cons, g1, e]
  | 1, _ => cases e1 : uu a b 1 <;> by_cases e : dig a 2 = dig b 2 <;> simp [innN, List.filter_cons, g2, e, e1]
  | 2, _ => cases e1 : uu a b 1 <;> cases e2 : uu a b 2 <;> by_cases e : dig a 3 = dig b 3 <;> simp [innN, List.filter_cons, g3, e, e1, e2]
  | 3, _ => cases e1 : uu a b 1 <;> cases e2 : uu a b 2 <;> cases e3 : uu a b 3 <;> by_cases e : dig a 4 = dig b 4 <;> simp [innN, List.filter_cons, g4, e, e1, e2, e3]
theorem innN_le (a b : List Nat) (k : Nat) : innN a b k ≤ 4 := by
  unfold innN
  refine Nat.le_trans (List.length_filter_le _ _) ?_
  rw [List.length_take]; exact Nat.min_le_right _ _
end Tr
end Go.E.Ytjmjikemaafnjaa

/-
  Law WalkBounds.
-/
namespace Go.E.Ytjmjikemaafnjaa
open Go.Proofs
set_option maxRecDepth 100000
/-- sixteen texts -/
structure T16 (m : Mem) (vs : List Value) (ls : List (List Nat)) : Prop where
  vlen : vs.length = 16
  llen : ls.length = 16
  one : ∀ v ∈ vs, v.oneCell' = true
  la : ∀ i (h1 : i < vs.length) (h2 : i < ls.length), La m vs[i] (nc ls[i])
  byt : ∀ l ∈ ls, ∀ x ∈ l, x < 256
theorem T16.at {m : Mem} {vs : List Value} {ls : List (List Nat)} (h : T16 m vs ls) {i : Nat} (hi : i < 16) : ∃ a c, vs.getD i undef = .slice a (ls.getD i []).length c ∧ La m (.slice a (ls.getD i []).length c) (nc (ls.getD i [])) := by
  have hl := h.la i (by have := h.vlen; omega) (by have := h.llen; omega)
  have e1 : vs.getD i undef = vs[i]'(by have := h.vlen; omega) := by rw [List.getD_eq_getElem?_getD, List.getElem?_eq_getElem (by have := h.vlen; omega)]; rfl
  have e2 : ls.getD i [] = ls[i]'(by have := h.llen; omega) := by rw [List.getD_eq_getElem?_getD, List.getElem?_eq_getElem (by have := h.llen; omega)]; rfl
  rw [e1, e2]
  obtain ⟨a, c, e⟩ := hl.shape
  rw [show (nc (ls[i]'(by have := h.llen; omega))).length = (ls[i]'(by have := h.llen; omega)).length by simp [nc]] at e
  exact ⟨a, c, e, e ▸ hl⟩
theorem T16.sub {m m' : Mem} {vs : List Value} {ls : List (List Nat)} (h : T16 m vs ls) (hs : Sub m m') : T16 m' vs ls := ⟨h.vlen, h.llen, h.one, fun i h1 h2 => (h.la i h1 h2).sub hs, h.byt⟩
theorem La.cases {m : Mem} {v : Value} {l : List Int} (h : La m v l) : (∃ c, v = .slice none 0 c ∧ l = []) ∨ (∃ a, v = .slice (some a) 0 0 ∧ l = []) ∨ ∃ b o c, v = .slice (some ⟨b, o, none⟩) l.length c ∧ Lb m (.slice (some ⟨b, o, none⟩) l.length c) l := by
  rcases h with h | ⟨rfl, a, rfl⟩
  · rcases h.cases with ⟨c, rfl, rfl⟩ | ⟨b, o, c, arr, t, fr, rfl, _⟩
    · exact .inl ⟨c, rfl, rfl⟩
    · exact .inr (.inr ⟨b, o, c, rfl, h⟩)
  · exact .inr (.inl ⟨a, rfl, rfl⟩)
theorem T16.cases {m : Mem} {vs : List Value} {ls : List (List Nat)} (h : T16 m vs ls) {i : Nat} (hi : i < 16) : (∃ c, vs.getD i undef = .slice none 0 c ∧ ls.getD i [] = []) ∨ (∃ a, vs.getD i undef = .slice (some a) 0 0 ∧ ls.getD i [] = []) ∨ ∃ b o c, vs.getD i undef = .slice (some ⟨b, o, none⟩) (ls.getD i []).length c ∧ Lb m (.slice (some ⟨b, o, none⟩) (ls.getD i []).length c) (nc (ls.getD i [])) := by
  obtain ⟨a, c, e, hl⟩ := h.at hi
  rw [e]
  rcases La.cases hl with ⟨c', e1, e2⟩ | ⟨a', e1, e2⟩ | ⟨b, o, c', e1, h1⟩
  · exact .inl ⟨c', e1, by simpa [nc] using e2⟩
  · exact .inr (.inl ⟨a', e1, by simpa [nc] using e2⟩)
  · refine .inr (.inr ⟨b, o, c', ?_, ?_⟩)
    · rw [e1]; simp [nc]
    · have : (nc (ls.getD i [])).length = (ls.getD i []).length := by simp [nc]
      rw [this] at h1; exact h1
theorem strOf_nc {a b : List Nat} (ha : ∀ x ∈ a, x < 256) (hb : ∀ x ∈ b, x < 256) (h : strOf (nc a) = strOf (nc b)) : a = b := by
  have h1 := congrArg (fun s : ByteArray => s.data.toList) h
  simp only [strOf_data] at h1
  refine nc_inj (by8_inj ?_ ?_ h1)
  · intro x hx; simp only [nc, List.mem_map] at hx; obtain ⟨y, hy, rfl⟩ := hx; have := ha y hy; omega
  · intro x hx; simp only [nc, List.mem_map] at hx; obtain ⟨y, hy, rfl⟩ := hx; have := hb y hy; omega
theorem txt_ne {a b : ByteArray} (h : a ≠ b) : ¬ (a.toList == b.toList) = true := fun e => h (by
  have e := eq_of_beq e
  rw [ByteArray.toList_eq, ByteArray.toList_eq] at e
  cases a; cases b
  simp only at e
  congr 1
  exact Array.ext' e)
abbrev bnT (A B : List Nat) (vs ws : List Value) : Loc := [(47, [.vals 16 vs]), (47, [.vals 16 ws]), (28, [.ints .u8 672 (nc A)]), (28, [.ints .u8 672 (nc B)])]
theorem T16.bytD {m : Mem} {vs : List Value} {ls : List (List Nat)} (h : T16 m vs ls) (j : Nat) : ∀ x ∈ ls.getD j [], x < 256 := fun x hx => by
  by_cases hj : j < ls.length
  · rw [List.getD_eq_getElem?_getD, List.getElem?_eq_getElem hj] at hx
    exact h.byt _ (List.getElem_mem hj) x hx
  · rw [List.getD_eq_getElem?_getD, List.getElem?_eq_none (by omega)] at hx; cases hx
set_option maxHeartbeats 4000000 in
theorem bounds_tail {m mm : Mem} {vs ws : List Value} {ls ms : List (List Nat)} {A B : List Nat} {v : Value} {R : List Int} {looks rounds inner : Nat} (h1 : T16 mm vs ls) (h2 : T16 mm ws ms) (hs : Sub m mm) (hv : Il mm v R) (hR : R.length ≤ 4 * inner) (hin : inner ≤ 4) (hlk : looks ≤ 5 + 4 * inner) (hrd : rounds ≤ 3) (hr0 : rounds = 0 ↔ Tr.dig A 0 = Tr.dig B 0)
    (hun : ∀ x ∈ R, ∃ j : Nat, x = (j : Int) ∧ j < 16 ∧ ls.getD j [] ≠ ms.getD j []) :
    xwpY c5 (restAt 16 (bodyOf Try.f5)) (QRetY tt.get Try.f5.results.toList fun r m' => r = [boolV true] ∧ Sub m m')
        [(2, .p 0 0), (3, .p 1 0), (6, .p 2 0), (7, .p 3 0), (8, .c (.v v)), (9, .c (i64 looks)), (10, .c (i64 rounds)), (11, .c (i64 inner))] (bnT A B vs ws) mm [] := by
  obtain ⟨a, c, rfl⟩ := hv.shape
  conv => whnf
  refine .at ?_
  conv => whnf
  refine .mk (ι := Nat) (fun i => R.length - i) (fun i m' => i ≤ R.length ∧ m' = mm)
    (fun i => [(2, .p 0 0), (3, .p 1 0), (6, .p 2 0), (7, .p 3 0), (8, .c (.v (.slice a R.length c))), (9, .c (i64 looks)), (10, .c (i64 rounds)), (11, .c (i64 inner)), (13, .c (i64 i))]) (fun _ => bnT A B vs ws) 0 ⟨by omega, rfl⟩ ?_ ?_
  · conv => whnf
    repeat (refine And.intro (by first | with_reducible rfl | exact congrArg (Value.int _) (wi (by omega) (by omega)) | exact wi (by omega) (by omega) | rfl) ?_; conv => whnf)
    first | exact trivial | exact fun _ _ h => h
  rintro i m' ⟨hi, rfl⟩
  conv => whnf
  refine ⟨fun h => ?_, fun h => ?_⟩
  · have h' := of_decide_eq_true h
    have hlt : i < R.length := by omega
    clear h
    obtain ⟨b, o, c', hh, hg⟩ := hv.real hlt
    injection hh with hh1 _ hh3
    subst hh1
    clear hh3 c'
    have hg := hg i hlt
    obtain ⟨j, hj, hj16, hne⟩ := hun _ (List.getElem_mem hlt)
    rw [hj] at hg
    conv => whnf
    repeat (refine And.intro (by first | omega | (simp only [times]; omega)) ?_; conv => whnf)
    refine ⟨_, by simp only [times, Int.toNat_natCast, Nat.mul_one]; exact hg, rfl, ?_⟩
    conv => whnf
    repeat (refine And.intro (by first | omega | (simp only [times]; omega)) ?_; conv => whnf)
    simp only [times, Int.toNat_natCast, Nat.mul_one]
    have hne' : strOf (nc (ls.getD j [])) ≠ strOf (nc (ms.getD j [])) := fun e => hne (strOf_nc (h1.bytD j) (h2.bytD j) e)
    rcases h1.cases hj16 with ⟨c1, e1, f1⟩ | ⟨a1, e1, f1⟩ | ⟨b1, o1, c1, e1, g1⟩ <;> rw [e1]
    all_goals (conv => whnf)
    all_goals (first | (refine .inl ⟨rfl, ?_⟩; conv => whnf) | (refine .inr ⟨_, by simp [nc], _, _, rfl, g1.range, ?_⟩; conv => whnf) | skip)
    all_goals (refine ⟨by omega, ?_⟩; conv => whnf)
    all_goals (refine ⟨_, by simp only [times, Int.toNat_natCast, Nat.mul_one]; exact hg, rfl, ?_⟩; conv => whnf)
    all_goals (refine ⟨by omega, ?_⟩; conv => whnf)
    all_goals simp only [times, Int.toNat_natCast, Nat.mul_one]
    all_goals (refine ⟨by omega, ?_⟩; conv => whnf)
    all_goals simp only [times, Int.toNat_natCast, Nat.mul_one]
    all_goals (rcases h2.cases hj16 with ⟨c2, e2, f2⟩ | ⟨a2, e2, f2⟩ | ⟨b2, o2, c2, e2, g2⟩ <;> rw [e2])
    all_goals (conv => whnf)
    all_goals (first | (refine .inl ⟨rfl, ?_⟩; conv => whnf) | (refine .inr ⟨_, by simp [nc], _, _, rfl, g2.range, ?_⟩; conv => whnf) | skip)
    all_goals (try rw [f1] at hne')
    all_goals (try rw [f2] at hne')
    all_goals (refine ⟨fun g => absurd g (txt_ne hne'), fun _ => ?_⟩; conv => whnf)
    all_goals (refine ⟨i + 1, ⟨by omega, rfl⟩, by omega, ?_⟩; conv => whnf)
    all_goals (repeat (refine And.intro (by first | with_reducible rfl | exact congrArg (Value.int _) (iadd (by omega)) | rfl) ?_; conv => whnf))
    all_goals (first | exact trivial | exact fun _ _ h => h)
  · have h' := of_decide_eq_false h
    obtain rfl : i = R.length := by omega
    clear h h'
    conv => whnf
    refine xcall (alive21_spec) ?_
    rintro _ m5 ⟨rfl, hs5⟩
    conv => whnf
    refine ⟨fun _ => ?_, fun h => absurd h (by decide)⟩
    conv => whnf
    refine ⟨fun _ => ?_, fun h => absurd h (by (simp; omega))⟩
    conv => whnf
    first | refine xretk (walkSame_spec) ?_ | refine xret (walkSame_spec) ?_
    conv => whnf
    have er : (((rounds : Int) == 0) == decide (Tr.dig A 0 = Tr.dig B 0)) = true := by
      by_cases h0 : rounds = 0
      · rw [decide_eq_true (hr0.1 h0), h0]; rfl
      · rw [decide_eq_false (fun e => h0 (hr0.2 e))]; simp; omega
    have ew1 : IntKind.i64.wrap (4 * (inner : Int)) = ((4 * inner : Nat) : Int) := by rw [wi (by omega) (by omega)]; omega
    have ew2 : IntKind.i64.wrap (5 + ((4 * inner : Nat) : Int)) = ((5 + 4 * inner : Nat) : Int) := by rw [wi (by omega) (by omega)]; omega
    refine ⟨fun _ => ?_, fun g => absurd er (by rw [g]; decide)⟩
    conv => whnf
    rw [ew1, ew2]
    refine ⟨fun _ => ?_, fun h => absurd h (by (simp; omega))⟩
    conv => whnf
    rw [ew1]
    exact ⟨by simp; omega, hs.trans hs5⟩
set_option maxHeartbeats 4000000 in
theorem walkBounds_spec {m : Mem} {vs ws : List Value} {ls ms : List (List Nat)} (h1 : T16 m vs ls) (h2 : T16 m ws ms) : Spec Try.prog 5 [.a [.vals 16 vs], .a [.vals 16 ws]] m fun r m' => r = [boolV true] ∧ Sub m m' := by
  refine en5 rfl (goY ?_)
  conv => whnf
  refine .mk (ι := Nat) (fun i => 16 - i) (fun i mm => i ≤ 16 ∧ mm = m ∧ ∀ j, j < i → (ls.getD j []).length ≤ 200 ∧ (ms.getD j []).length ≤ 200)
    (fun i => [(2, .p 0 0), (3, .p 1 0), (5, .c (i64 i))]) (fun _ => [(47, [.vals 16 vs]), (47, [.vals 16 ws])]) 0 ⟨by omega, rfl, by omega⟩ ?_ ?_
  · conv => whnf
    repeat (refine And.intro (by first | with_reducible rfl | exact congrArg (Value.int _) (wi (by omega) (by omega)) | exact wi (by omega) (by omega) | rfl) ?_; conv => whnf)
    first | exact trivial | exact fun _ _ h => h
  rintro i mm ⟨hi, rfl, hall⟩
  conv => whnf
  refine ⟨fun h => ?_, fun h => ?_⟩
  · have h' := of_decide_eq_true h
    have hlt : i < 16 := by omega
    obtain ⟨a1, c1, e1, l1⟩ := h1.at hlt
    obtain ⟨a2, c2, e2, l2⟩ := h2.at hlt
    clear h
    conv => whnf
    repeat (refine And.intro (by first | omega | (simp only [times]; omega)) ?_; conv => whnf)
    simp only [times, Int.toNat_natCast, Nat.mul_one, e1]
    conv => whnf
    refine ⟨fun g => ?_, fun g => ?_⟩
    · conv => whnf
      refine xcall (alive21_spec) ?_
      rintro _ m1 ⟨rfl, hs⟩
      conv => whnf
      exact ⟨rfl, hs⟩
    have g1 := of_decide_eq_false g
    clear g
    conv => whnf
    repeat (refine And.intro (by first | omega | (simp only [times]; omega)) ?_; conv => whnf)
    simp only [times, Int.toNat_natCast, Nat.mul_one, e2]
    conv => whnf
    refine ⟨fun g => ?_, fun g => ?_⟩
    · conv => whnf
      refine xcall (alive21_spec) ?_
      rintro _ m1 ⟨rfl, hs⟩
      conv => whnf
      exact ⟨rfl, hs⟩
    have g2 := of_decide_eq_false g
    clear g
    conv => whnf
    refine ⟨i + 1, ⟨by omega, rfl, fun j hj => ?_⟩, by omega, ?_⟩
    · by_cases hji : j = i
      · subst hji; omega
      · exact hall j (by omega)
    · conv => whnf
      repeat (refine And.intro (by first | with_reducible rfl | (first | exact congrArg (Value.int _) (iadd (by omega))) | exact congrArg (Value.int _) (wi (by omega) (by omega)) | exact wi (by omega) (by omega) | rfl) ?_; conv => whnf)
      first | exact trivial | exact fun _ _ h => h
  · have h' := of_decide_eq_false h
    obtain rfl : i = 16 := by omega
    clear h h'
    have hl1 : ∀ l ∈ ls, l.length ≤ 100000 ∧ ∀ x ∈ l, x < 256 := fun l hl => by
      obtain ⟨j, hj, rfl⟩ := List.getElem_of_mem hl
      have := (hall j (by have := h1.llen; omega)).1
      rw [List.getD_eq_getElem?_getD, List.getElem?_eq_getElem hj] at this
      exact ⟨by simp only [Option.getD_some] at this; omega, h1.byt _ hl⟩
    have hl2 : ∀ l ∈ ms, l.length ≤ 100000 ∧ ∀ x ∈ l, x < 256 := fun l hl => by
      obtain ⟨j, hj, rfl⟩ := List.getElem_of_mem hl
      have := (hall j (by have := h2.llen; omega)).2
      rw [List.getD_eq_getElem?_getD, List.getElem?_eq_getElem hj] at this
      exact ⟨by simp only [Option.getD_some] at this; omega, h2.byt _ hl⟩
    conv => whnf
    refine xcall (of_spec h1.vlen h1.llen h1.one h1.la hl1) ?_
    rintro _ m1 ⟨rfl, hs1⟩
    conv => whnf
    first | refine ⟨fun _ h => (by cases h), ?_⟩ | skip
    conv => whnf
    refine xcall (of_spec h2.vlen h2.llen h2.one (h2.sub hs1).la hl2) ?_
    rintro _ m2 ⟨rfl, hs2⟩
    conv => whnf
    first | refine ⟨fun _ h => (by cases h), ?_⟩ | skip
    conv => whnf
    have hA := Tr.ofT_ok ls
    have hB := Tr.ofT_ok ms
    have h1 := h1.sub (hs1.trans hs2)
    have h2 := h2.sub (hs1.trans hs2)
    have hleaf := fun j (hj : j < 16) => Tr.dig_ofT ls hj
    have hleaf' := fun j (hj : j < 16) => Tr.dig_ofT ms hj
    generalize Tr.ofT ls = A at *
    generalize Tr.ofT ms = B at *
    refine xcall (diff_spec hA.len hB.len) ?_
    rintro _ m3 ⟨vp, qp, rfl, hs3, hp⟩
    conv => whnf
    refine xcall (rounds_spec hA.len hB.len) ?_
    rintro _ m4 ⟨rfl, hs4⟩
    conv => whnf
    have k1 : Sub m2 m3 := hs3.sub (by simp)
    have hp := hp.il.sub ((hs3.sub (a := qp) (by simp)).trans hs4)
    have h1 := h1.sub (k1.trans hs4)
    have h2 := h2.sub (k1.trans hs4)
    have hs5 : Sub mm m4 := (hs1.trans hs2).trans (k1.trans hs4)
    obtain ⟨w1, w2, w3⟩ := Tr.walk_ref A B
    have hrd := Tr.rounds_le A B
    have hr0 := Tr.rounds_0 A B
    rw [w1] at hp
    rw [w2]
    generalize (Tr.walk A B).2.2 = rd at *
    clear hs1 hs2 hs3 hs4 k1
    first | refine xretk (walkSame_spec) ?_ | refine xret (walkSame_spec) ?_
    conv => whnf
    refine ⟨fun h => ?_, fun h => ?_⟩
    rotate_left
    · have h0 : Tr.dig A 0 = Tr.dig B 0 := by simpa using h
      obtain ⟨s1, s2⟩ := Tr.same_out h0
      rw [s1] at hp
      rw [s2]
      have tl := bounds_tail (A := A) (B := B) (v := vp) (R := []) (looks := 1) (rounds := rd) (inner := 0) h1 h2 hs5 hp (by simp) (by omega) (by omega) hrd hr0 (by simp)
      conv at tl => whnf
      conv => whnf
      refine .via _ _ ?_ tl
      conv => whnf
      repeat (refine And.intro (by first | with_reducible rfl | exact congrArg (Value.int _) (wi (by omega) (by omega)) | exact wi (by omega) (by omega) | rfl) ?_; conv => whnf)
      first | exact trivial | exact fun _ _ h => h
    have h0 : Tr.dig A 0 ≠ Tr.dig B 0 := by simpa using h
    clear h
    obtain ⟨s1, s2, s3⟩ := Tr.bounds h0
    have s4 := Tr.unlike_leaf h0
    rw [s1]
    have hun : ∀ x ∈ Tr.rout A B 21, ∃ j : Nat, x = (j : Int) ∧ j < 16 ∧ ls.getD j [] ≠ ms.getD j [] := fun x hx => by
      obtain ⟨j, hj, hj16, hd⟩ := s4 x hx
      refine ⟨j, hj, hj16, fun e => hd ?_⟩
      rw [hleaf j hj16, hleaf' j hj16, e]
    have tl := fun (n : Nat) (hn : n = Tr.innN A B 4) => bounds_tail (A := A) (B := B) (v := vp) (R := Tr.rout A B 21) (looks := 5 + 4 * n) (rounds := rd) (inner := n) h1 h2 hs5 hp (by rw [hn]; exact s2) (by rw [hn]; exact s3) (by omega) hrd hr0 hun
    have tl := tl _ rfl
    conv at tl => whnf
    conv => whnf
    refine .mk (ι := Nat) (fun k => 4 - k) (fun k m' => k ≤ 4 ∧ m' = m4)
      (fun k => [(2, .p 0 0), (3, .p 1 0), (6, .p 2 0), (7, .p 3 0), (8, .c (.v vp)), (9, .c (i64 (5 + 4 * Tr.innN A B 4 : Nat))), (10, .c (i64 rd)), (11, .c (i64 (Tr.innN A B k))), (12, .c (i64 (k + 1 : Nat)))]) (fun _ => bnT A B vs ws) 0 ⟨by omega, rfl⟩ ?_ ?_
    · conv => whnf
      repeat (refine And.intro (by first | with_reducible rfl | exact congrArg (Value.int _) (wi (by omega) (by omega)) | exact wi (by omega) (by omega) | rfl) ?_; conv => whnf)
      first | exact trivial | exact fun _ _ h => h
    rintro k m' ⟨hk, rfl⟩
    conv => whnf
    refine ⟨fun h => ?_, fun h => ?_⟩
    · have h' := of_decide_eq_true h
      have hlt : k < 4 := by omega
      have hst := Tr.innN_succ A B hlt
      have hk4 : Tr.innN A B k ≤ 4 := Tr.innN_le A B k
      clear h
      conv => whnf
      repeat (refine And.intro (by first | omega | (simp only [times]; omega)) ?_; conv => whnf)
      simp only [dig_at, eqLB_dig]
      clear tl
      refine ⟨fun h => ?_, fun h => ?_⟩
      · have hd : Tr.dig A (k + 1) ≠ Tr.dig B (k + 1) := by simpa using h
        rw [if_neg hd] at hst
        conv => whnf
        refine ⟨k + 1, ⟨by omega, rfl⟩, by omega, ?_⟩
        conv => whnf
        repeat (refine And.intro (by first | with_reducible rfl | (first | exact congrArg (Value.int _) (by rw [hst]; exact iadd (by omega)) | exact congrArg (Value.int _) (iadd (by omega))) | exact congrArg (Value.int _) (wi (by omega) (by omega)) | exact wi (by omega) (by omega) | rfl) ?_; conv => whnf)
        first | exact trivial | exact fun _ _ h => h
      · have hd : Tr.dig A (k + 1) = Tr.dig B (k + 1) := by simpa using h
        rw [if_pos hd] at hst
        conv => whnf
        refine ⟨k + 1, ⟨by omega, rfl⟩, by omega, ?_⟩
        conv => whnf
        repeat (refine And.intro (by first | with_reducible rfl | (first | exact congrArg (Value.int _) (by rw [hst]; rfl) | exact congrArg (Value.int _) (iadd (by omega))) | exact congrArg (Value.int _) (wi (by omega) (by omega)) | exact wi (by omega) (by omega) | rfl) ?_; conv => whnf)
        first | exact trivial | exact fun _ _ h => h
    · have h' := of_decide_eq_false h
      obtain rfl : k = 4 := by omega
      conv => whnf
      refine .via _ _ ?_ tl
      conv => whnf
      repeat (refine And.intro (by first | with_reducible rfl | exact congrArg (Value.int _) (wi (by omega) (by omega)) | exact wi (by omega) (by omega) | rfl) ?_; conv => whnf)
      first | exact trivial | exact fun _ _ h => h
end Go.E.Ytjmjikemaafnjaa

/-
  Sixteen texts that came in.
-/
namespace Go.E.Ytjmjikemaafnjaa
open Go.Proofs
set_option maxRecDepth 100000
theorem dat_text {m : Mem} {cs : List Value} (h : Dat m (.slice (.int .u8)) cs) : ∃ v l, cs = [v] ∧ La m v (nc l) ∧ ∀ x ∈ l, x < 256 := by
  obtain ⟨v, l, rfl, h1, h2, h3, h4⟩ := dat_sints h
  have hb : ∀ x ∈ l, 0 ≤ x ∧ x < 256 := fun x hx => wf_u8 (h3 x hx)
  have e : nc (l.map Int.toNat) = l := by
    simp only [nc, List.map_map]
    refine (List.map_congr_left fun x hx => ?_).trans (List.map_id _)
    have := hb x hx
    simp only [Function.comp, id]; omega
  refine ⟨v, l.map Int.toNat, rfl, ?_, fun x hx => ?_⟩
  · rw [e]
    rcases h1 with h1 | h1
    · exact .inl h1
    · exact .inr h1
  · obtain ⟨y, hy, rfl⟩ := List.mem_map.1 hx
    have := hb y hy; omega
theorem dat_texts {m : Mem} : ∀ {els : List (List Value)}, (∀ c ∈ els, Dat m (.slice (.int .u8)) c) → ∃ (vs : List Value) (ls : List (List Nat)), els.flatten = vs ∧ vs.length = els.length ∧ ls.length = els.length ∧ (∀ v ∈ vs, v.oneCell' = true) ∧ (∀ i (h1 : i < vs.length) (h2 : i < ls.length), La m vs[i] (nc ls[i])) ∧ ∀ l ∈ ls, ∀ x ∈ l, x < 256
  | [], _ => ⟨[], [], rfl, rfl, rfl, by simp, by intro i h; simp at h, by simp⟩
  | c :: els, h => by
    obtain ⟨v, l, rfl, h1, h2⟩ := dat_text (h c (by simp))
    obtain ⟨vs, ls, e1, e2, e3, e4, e5, e6⟩ := dat_texts (els := els) fun c hc => h c (by simp [hc])
    refine ⟨v :: vs, l :: ls, by simp [e1], by simp [e2], by simp [e3], ?_, ?_, ?_⟩
    · intro u hu
      rcases List.mem_cons.1 hu with rfl | hu
      · exact h1.one
      · exact e4 u hu
    · intro i hi1 hi2
      cases i with
      | zero => exact h1
      | succ i => exact e5 i (by simpa using hi1) (by simpa using hi2)
    · intro u hu
      rcases List.mem_cons.1 hu with rfl | hu
      · exact h2
      · exact e6 u hu
theorem dat_t16 {m : Mem} {cs : List Value} (h : Dat m (.rep 16 (.slice (.int .u8))) cs) : ∃ ls, T16 m cs ls := by
  obtain ⟨els, rfl, hn, h1⟩ := h
  obtain ⟨vs, ls, e1, e2, e3, e4, e5, e6⟩ := dat_texts h1
  rw [e1]
  exact ⟨ls, by omega, by omega, e4, e5, e6⟩
theorem val_agg {P : Program} {w : World} {r : Reach} {b0 k : Nat} {t e : TypeId} {v : Value} (hu : P.underlying t = some (.array k e)) (h : Value.okWide P w r b0 t v) : v = .agg (v.cells.toList ++ []).toArray := by
  unfold Value.okWide at h
  rw [hu] at h
  obtain ⟨cs, rfl, _⟩ := h
  simp [Value.cells]
end Go.E.Ytjmjikemaafnjaa
