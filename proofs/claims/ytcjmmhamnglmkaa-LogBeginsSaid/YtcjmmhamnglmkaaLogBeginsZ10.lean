/-
  WalkH, WalkG, WalkL, DigDat, WalkE, WalkB, WalkF, T16Dat, FiB, FiC, Lg3, Lg4, Lg5, Lg6
-/
import Derived.Test.YtcjmmhamnglmkaaLogBeginsZ9
import Derived.Laws.MakeOwn
/-
  The digests of fixed trees (chapter 21).
-/
namespace Go.E
namespace Tr21
def d0 : List Nat := [110, 52, 11, 156, 255, 179, 122, 152, 156, 165, 68, 230, 187, 120, 10, 44, 120, 144, 29, 63, 179, 55, 56, 118, 133, 17, 163, 6, 23, 175, 160, 29]
def d1 : List Nat := [61, 152, 27, 166, 100, 234, 31, 54, 218, 48, 102, 189, 149, 118, 183, 26, 29, 3, 165, 0, 95, 59, 219, 179, 88, 22, 97, 45, 15, 7, 140, 24]
def d2 : List Nat := [223, 120, 159, 7, 224, 114, 144, 222, 181, 63, 117, 247, 15, 115, 197, 134, 38, 132, 186, 86, 194, 70, 20, 107, 62, 236, 150, 67, 91, 64, 143, 15]
def dx : List Nat := [60, 126, 155, 201, 48, 220, 147, 240, 31, 166, 153, 133, 239, 36, 45, 159, 158, 134, 31, 60, 83, 85, 170, 36, 206, 94, 244, 180, 184, 167, 12, 203]
def e1 : List Nat := [102, 123, 221, 182, 33, 238, 20, 74, 216, 248, 3, 194, 246, 90, 64, 41, 219, 102, 67, 252, 220, 177, 89, 37, 110, 68, 173, 34, 54, 101, 27, 36]
def r1 : List Nat := [182, 37, 136, 178, 86, 184, 241, 99, 36, 127, 133, 61, 139, 217, 139, 28, 74, 124, 252, 182, 77, 247, 140, 208, 86, 142, 85, 124, 131, 42, 112, 162]
def dy : List Nat := [53, 83, 235, 53, 26, 218, 199, 12, 245, 202, 164, 254, 250, 28, 175, 140, 236, 114, 100, 3, 254, 75, 52, 193, 79, 27, 184, 217, 128, 194, 11, 149]
def e3 : List Nat := [2, 118, 57, 77, 73, 238, 152, 84, 205, 154, 254, 8, 152, 100, 254, 15, 192, 205, 53, 241, 134, 1, 176, 86, 99, 63, 217, 136, 131, 43, 137, 37]
def r2 : List Nat := [65, 91, 194, 50, 94, 101, 90, 49, 203, 185, 179, 111, 80, 132, 64, 47, 200, 230, 172, 124, 109, 243, 4, 246, 101, 58, 186, 54, 65, 151, 242, 12]
theorem d0_eq : Sha.sum [0] = d0 := by
  rw [← Sha.sumK_eq]; decide +kernel
theorem d1_eq : Sha.sum (1 :: (d0 ++ (d0 ++ (d0 ++ d0)))) = d1 := by
  rw [← Sha.sumK_eq]; decide +kernel
theorem d2_eq : Sha.sum (1 :: (d1 ++ (d1 ++ (d1 ++ d1)))) = d2 := by
  rw [← Sha.sumK_eq]; decide +kernel
theorem dx_eq : Sha.sum [0, 120] = dx := by
  rw [← Sha.sumK_eq]; decide +kernel
theorem e1_eq : Sha.sum (1 :: (d0 ++ (d0 ++ (d0 ++ dx)))) = e1 := by
  rw [← Sha.sumK_eq]; decide +kernel
theorem r1_eq : Sha.sum (1 :: (e1 ++ (d1 ++ (d1 ++ d1)))) = r1 := by
  rw [← Sha.sumK_eq]; decide +kernel
theorem dy_eq : Sha.sum [0, 121] = dy := by
  rw [← Sha.sumK_eq]; decide +kernel
theorem e3_eq : Sha.sum (1 :: (d0 ++ (dy ++ (d0 ++ d0)))) = e3 := by
  rw [← Sha.sumK_eq]; decide +kernel
theorem r2_eq : Sha.sum (1 :: (e1 ++ (d1 ++ (e3 ++ d1)))) = r2 := by
  rw [← Sha.sumK_eq]; decide +kernel
end Tr21
end Go.E

/-
  The fixed trees of chapter 21.
-/
namespace Go.E.Ytcjmmhamnglmkaa
open Go.Proofs
set_option maxRecDepth 100000
namespace Tr
open Tr21
def belowD (ds : List (List Nat)) (p : Nat) : List Nat := 1 :: (ds.getD (4 * p + 1) [] ++ (ds.getD (4 * p + 2) [] ++ (ds.getD (4 * p + 3) [] ++ ds.getD (4 * p + 4) [])))
structure Fl (ds : List (List Nat)) : Prop where
  d : D32 ds
  len : ds.length = 21
theorem Fl.set {ds : List (List Nat)} (h : Fl ds) {p : Nat} (hp : p < 21) {d : List Nat} (hd : d.length = 32) : put ds.flatten p d = (ds.set p d).flatten ∧ Fl (ds.set p d) := by
  have := h.len
  obtain ⟨h1, h2⟩ := put_flat h.d (p := p) (by omega) hd
  exact ⟨h1, h2, by simp [h.len]⟩
theorem Fl.below {ds : List (List Nat)} (h : Fl ds) {p : Nat} (hp : p < 5) : below ds.flatten p = belowD ds p := below_flat h.d h.len hp
theorem Fl.up {ds : List (List Nat)} (h : Fl ds) {p : Nat} (hp : p < 5) : put ds.flatten p (Sha.sum (Tr.below ds.flatten p)) = (ds.set p (Sha.sum (belowD ds p))).flatten ∧ Fl (ds.set p (Sha.sum (belowD ds p))) := by
  rw [h.below hp]; exact h.set (by omega) (sum_len _)
def lvC (h : List Nat) : Nat → List (List Nat)
  | 0 => List.replicate 21 (List.replicate 32 0)
  | i + 1 => (lvC h i).set (5 + i) h
theorem lvC_flat : ∀ {i : Nat}, i ≤ 16 → lv (List.replicate 16 []) i = (lvC d0 i).flatten ∧ Fl (lvC d0 i)
  | 0, _ => ⟨by decide, by intro d hd; rw [lvC] at hd; rw [(List.mem_replicate.1 hd).2]; rfl, rfl⟩
  | i + 1, h => by
    obtain ⟨h1, h2⟩ := lvC_flat (i := i) (by omega)
    have hg : (List.replicate 16 ([] : List Nat)).getD i [] = [] := by
      rw [List.getD_eq_getElem?_getD, List.getElem?_replicate, if_pos (by omega)]; rfl
    have hd : leafD [] = d0 := d0_eq
    rw [lv, h1, hg, hd]
    exact h2.set (by omega) rfl
def z32 : List Nat := List.replicate 32 0
def lA : List (List Nat) := [d2, d1, d1, d1, d1, d0, d0, d0, d0, d0, d0, d0, d0, d0, d0, d0, d0, d0, d0, d0, d0]
theorem ofT_A : ofT (List.replicate 16 []) = lA.flatten ∧ Fl lA := by
  obtain ⟨h1, h2⟩ := lvC_flat (Nat.le_refl 16)
  have s0 : lvC d0 16 = [z32, z32, z32, z32, z32, d0, d0, d0, d0, d0, d0, d0, d0, d0, d0, d0, d0, d0, d0, d0, d0] := rfl
  rw [s0] at h1 h2
  rw [ofT, h1, inn_succ, inn_succ, inn_succ, inn_succ, inn_succ, show ∀ t, inn t 0 = t from fun _ => rfl]
  obtain ⟨a4, b4⟩ := h2.up (p := 4) (by decide)
  rw [show belowD [z32, z32, z32, z32, z32, d0, d0, d0, d0, d0, d0, d0, d0, d0, d0, d0, d0, d0, d0, d0, d0] 4 = 1 :: (d0 ++ (d0 ++ (d0 ++ d0))) from rfl, d1_eq] at a4 b4
  rw [show 4 - 0 = 4 from rfl, a4]
  obtain ⟨a3, b3⟩ := b4.up (p := 3) (by decide)
  rw [show ∀ x y, belowD (([z32, z32, z32, z32, x, d0, d0, d0, d0, d0, d0, d0, d0, d0, d0, d0, d0, d0, d0, d0, d0] : List (List Nat)).set 4 y) 3 = 1 :: (d0 ++ (d0 ++ (d0 ++ d0))) from fun _ _ => rfl, d1_eq] at a3 b3
  rw [show 4 - 1 = 3 from rfl, a3]
  obtain ⟨a2, b2⟩ := b3.up (p := 2) (by decide)
  rw [show ∀ x y u v, belowD ((([z32, z32, z32, u, x, d0, d0, d0, d0, d0, d0, d0, d0, d0, d0, d0, d0, d0, d0, d0, d0] : List (List Nat)).set 4 y).set 3 v) 2 = 1 :: (d0 ++ (d0 ++ (d0 ++ d0))) from fun _ _ _ _ => rfl, d1_eq] at a2 b2
  rw [show 4 - 2 = 2 from rfl, a2]
  have c2 : Fl [z32, z32, d1, d1, d1, d0, d0, d0, d0, d0, d0, d0, d0, d0, d0, d0, d0, d0, d0, d0, d0] := b2
  change put (put (List.flatten [z32, z32, d1, d1, d1, d0, d0, d0, d0, d0, d0, d0, d0, d0, d0, d0, d0, d0, d0, d0, d0]) 1 (Sha.sum (Tr.below (List.flatten [z32, z32, d1, d1, d1, d0, d0, d0, d0, d0, d0, d0, d0, d0, d0, d0, d0, d0, d0, d0, d0]) 1))) 0 (Sha.sum (Tr.below (put (List.flatten [z32, z32, d1, d1, d1, d0, d0, d0, d0, d0, d0, d0, d0, d0, d0, d0, d0, d0, d0, d0, d0]) 1 (Sha.sum (Tr.below (List.flatten [z32, z32, d1, d1, d1, d0, d0, d0, d0, d0, d0, d0, d0, d0, d0, d0, d0, d0, d0, d0, d0]) 1))) 0)) = _ ∧ _
  obtain ⟨a1, b1⟩ := c2.up (p := 1) (by decide)
  rw [show belowD [z32, z32, d1, d1, d1, d0, d0, d0, d0, d0, d0, d0, d0, d0, d0, d0, d0, d0, d0, d0, d0] 1 = 1 :: (d0 ++ (d0 ++ (d0 ++ d0))) from rfl, d1_eq] at a1 b1
  rw [a1]
  have c1 : Fl [z32, d1, d1, d1, d1, d0, d0, d0, d0, d0, d0, d0, d0, d0, d0, d0, d0, d0, d0, d0, d0] := b1
  obtain ⟨a0, b0⟩ := c1.up (p := 0) (by decide)
  rw [show belowD [z32, d1, d1, d1, d1, d0, d0, d0, d0, d0, d0, d0, d0, d0, d0, d0, d0, d0, d0, d0, d0] 0 = 1 :: (d1 ++ (d1 ++ (d1 ++ d1))) from rfl, d2_eq] at a0 b0
  exact ⟨a0, b0⟩
theorem with_flat {ds : List (List Nat)} (h : Fl ds) {n : Nat} (hn : n < 16) {l d x y : List Nat} {q : Nat} (hq : q = (4 + n) / 4) (hd : Sha.sum (0 :: l) = d) (hx : Sha.sum (belowD (ds.set (5 + n) d) q) = x) (hy : Sha.sum (belowD ((ds.set (5 + n) d).set q x) 0) = y) :
    withT ds.flatten n l = (((ds.set (5 + n) d).set q x).set 0 y).flatten ∧ Fl (((ds.set (5 + n) d).set q x).set 0 y) := by
  subst hd hx hy
  have u1 : Tr.up (5 + (n : Int)) = (q : Int) := by rw [Tr.up, if_pos (by omega)]; omega
  have u2 : Tr.up (q : Int) = ((0 : Nat) : Int) := by rw [Tr.up, if_pos (by omega)]; omega
  have u3 : Tr.up ((0 : Nat) : Int) = -1 := by rw [Tr.up, if_neg (by omega)]
  obtain ⟨a1, b1⟩ := h.set (p := 5 + n) (by omega) (sum_len (0 :: l))
  obtain ⟨a2, b2⟩ := b1.up (p := q) (by omega)
  obtain ⟨a3, b3⟩ := b2.up (p := 0) (by decide)
  refine ⟨?_, b3⟩
  rw [withT, u1, leafD, a1, upF_step (by omega), Int.toNat_natCast, a2, u2, upF_step (by omega), Int.toNat_natCast, a3, u3, upF_neg (by decide)]
def lB1 : List (List Nat) := [r1, e1, d1, d1, d1, d0, d0, d0, dx, d0, d0, d0, d0, d0, d0, d0, d0, d0, d0, d0, d0]
def lB : List (List Nat) := [r2, e1, d1, e3, d1, d0, d0, d0, dx, d0, d0, d0, d0, d0, dy, d0, d0, d0, d0, d0, d0]
theorem with_B1 : withT lA.flatten 3 [120] = lB1.flatten ∧ Fl lB1 := with_flat ofT_A.2 (n := 3) (q := 1) (by decide) (by decide) dx_eq e1_eq r1_eq
theorem with_B : withT lB1.flatten 9 [121] = lB.flatten ∧ Fl lB := with_flat with_B1.2 (n := 9) (q := 3) (by decide) (by decide) dy_eq e3_eq r2_eq
theorem walk_AB : walk lA.flatten lB.flatten = ([8, 14], 13, 3) := by decide +kernel
theorem walk_AA : walk lA.flatten lA.flatten = ([], 1, 0) := by rw [walk, if_pos rfl]
end Tr
end Go.E.Ytcjmmhamnglmkaa

/-
  Laws of chapter 21: fixed trees, equal lists, any trees.
-/
namespace Go.E.Ytcjmmhamnglmkaa
open Go.Proofs
set_option maxRecDepth 100000
namespace Tr
/-- a tree of any digests -/
def rawF (D : List (List Nat)) : Nat → List Nat
  | 0 => List.replicate 672 0
  | i + 1 => if h : i < D.length then put (rawF D i) i D[i] else rawF D i
def raw (D : List (List Nat)) : List Nat := rawF D 21
theorem rawF_ok {D : List (List Nat)} (hD : D32 D) (hb : ∀ d ∈ D, ∀ x ∈ d, x < 256) : ∀ {i : Nat}, i ≤ 21 → Ok (rawF D i)
  | 0, _ => ⟨by simp [rawF], by simp [rawF]⟩
  | i + 1, h => by
    have ih := rawF_ok hD hb (i := i) (by omega)
    unfold rawF
    split
    · rename_i hi
      exact put_ok ih (hD _ (List.getElem_mem hi)) (hb _ (List.getElem_mem hi)) (by omega)
    · exact ih
theorem rawF_stop {D : List (List Nat)} : ∀ {k i : Nat}, D.length ≤ i → rawF D (i + k) = rawF D i
  | 0, _, _ => rfl
  | k + 1, i, h => by
    rw [← Nat.add_assoc, rawF, dif_neg (by omega), rawF_stop h]
end Tr
theorem buildI3 {m : Mem} {x y z : Int} : PrimSpec Try.prog (.buildSlice 41 3 [0, 1, 2]) [.v (.int .i64 x), .v (.int .i64 y), .v (.int .i64 z)] m fun r m' => ∃ b, m b = none ∧ r = [.v (.slice (some ⟨b, 0, none⟩) 3 3)] ∧ m' = m.set b (.cells (ic [x, y, z]).toArray 3) :=
  buildSlice_spec (n := 3) tt_ok hIs rfl hI' rfl rfl (by simp [CV.cs]) (by simp) (by simp)
end Go.E.Ytcjmmhamnglmkaa

/-
  Lists of digests and of whole numbers that are arguments.
-/
namespace Go.E.Ytcjmmhamnglmkaa
open Go.Proofs
set_option maxRecDepth 100000
theorem dat_dig {m : Mem} {cs : List Value} (h : Dat m (.rep 32 (.int .u8)) cs) : ∃ d : List Nat, cs = (nc d).map (Value.int .u8) ∧ d.length = 32 ∧ ∀ x ∈ d, x < 256 := by
  obtain ⟨l, rfl, h1, h2⟩ := dat_ints h
  have e : nc (l.map Int.toNat) = l := by
    simp only [nc, List.map_map]
    refine (List.map_congr_left fun x hx => ?_).trans (List.map_id l)
    have := wf_u8 (h2 x hx)
    show ((x.toNat : Nat) : Int) = x
    omega
  refine ⟨l.map Int.toNat, by rw [e], by simpa using h1, fun x hx => ?_⟩
  obtain ⟨y, hy, rfl⟩ := List.mem_map.1 hx
  have := wf_u8 (h2 y hy)
  omega
theorem dat_digs_rows {m : Mem} : ∀ {els : List (List Value)}, (∀ c ∈ els, Dat m (.rep 32 (.int .u8)) c) → ∃ D : List (List Nat), els = D.map (fun d => (nc d).map (Value.int .u8)) ∧ D32 D ∧ ∀ d ∈ D, ∀ x ∈ d, x < 256
  | [], _ => ⟨[], rfl, (by intro d hd; cases hd), (by intro d hd; cases hd)⟩
  | c :: els, h => by
    obtain ⟨d, rfl, h1, h2⟩ := dat_dig (h c (by simp))
    obtain ⟨D, rfl, h3, h4⟩ := dat_digs_rows (els := els) fun c hc => h c (by simp [hc])
    refine ⟨d :: D, rfl, fun x hx => ?_, fun x hx => ?_⟩
    · rcases List.mem_cons.1 hx with rfl | hx
      · exact h1
      · exact h3 x hx
    · rcases List.mem_cons.1 hx with rfl | hx
      · exact h2
      · exact h4 x hx
theorem dat_digs {m : Mem} {cs : List Value} (h : Dat m (.slice (.rep 32 (.int .u8))) cs) : ∃ v D, cs = [v] ∧ Da m v D ∧ ∀ d ∈ D, ∀ x ∈ d, x < 256 := by
  obtain ⟨v, els, rfl, h1, h2, h3, h4⟩ := h
  obtain ⟨D, rfl, h5, h6⟩ := dat_digs_rows h3
  refine ⟨v, D, rfl, ?_, h6⟩
  rcases h1 with h1 | ⟨h1, a, rfl⟩
  · refine .inl ⟨?_, h5⟩
    have e : (D.map fun d => (nc d).map (Value.int .u8)).flatten = dcs D := by rw [dcs, List.flatMap]
    rw [e] at h1
    exact h1
  · exact .inr ⟨by simpa using h1, a, rfl⟩
theorem dat_places {m : Mem} {cs : List Value} (h : Dat m (.slice (.int .i64)) cs) : ∃ v l, cs = [v] ∧ Ia m v l ∧ ∀ x ∈ l, -9223372036854775808 ≤ x ∧ x ≤ 9223372036854775807 := by
  obtain ⟨v, l, rfl, h1, h2, h3, h4⟩ := dat_sints h
  exact ⟨v, l, rfl, h1, fun x hx => by have := wf_i64 (h3 x hx); omega⟩
end Go.E.Ytcjmmhamnglmkaa

/-
  Law WalkEnds.
-/
namespace Go.E.Ytcjmmhamnglmkaa
open Go.Proofs
set_option maxRecDepth 100000
namespace Tr
theorem comesF_symm (a b : List Nat) : ∀ (f : Nat) (p : Int), comesF a b f p = comesF b a f p
  | 0, _ => rfl
  | f + 1, p => by
    rw [comesF, comesF, comesF_symm a b f]
    have : decide (dig a p.toNat ≠ dig b p.toNat) = decide (dig b p.toNat ≠ dig a p.toNat) := decide_eq_decide.2 ⟨Ne.symm, Ne.symm⟩
    rw [this]
theorem comes_symm (a b : List Nat) (p : Nat) : comes a b p = comes b a p := comesF_symm a b 4 p
theorem rout_symm (a b : List Nat) : ∀ k, rout a b k = rout b a k
  | 0 => rfl
  | k + 1 => by rw [rout, rout, rout_symm a b k, comes_symm]
theorem rlooks_symm (a b : List Nat) : ∀ k, rlooks a b k = rlooks b a k
  | 0 => rfl
  | k + 1 => by rw [rlooks, rlooks, rlooks_symm a b k, comes_symm]
/-- the places of the next level -/
def nxt (a b : List Nat) (l : List Int) : List Int := unl a (kidsL l) (digs b l)
theorem nxt_eq (a b : List Nat) (l : List Int) : nxt a b l = (kidsL l).filter (uu a b) := unl_filter a b (kidsL l)
theorem nxt1 (a b : List Nat) : nxt a b [0] = [1, 2, 3, 4].filter (uu a b) := nxt_eq a b [0]
theorem nxt2 (a b : List Nat) : nxt a b (nxt a b [0]) = lvs a b 1 ++ (lvs a b 2 ++ (lvs a b 3 ++ lvs a b 4)) := by rw [nxt_eq a b (nxt a b [0]), nxt1, lv2]
theorem ends {a b : List Nat} (h0 : dig a 0 ≠ dig b 0) : leaves (nxt a b (nxt a b [0])) = rout a b 21 ∧ rlooks a b 21 = 5 + (kidsL (nxt a b [0])).length ∧ (kidsL (nxt a b [0])).length = 4 * (nxt a b [0]).length ∧ (nxt a b [0]).length ≤ 4 := by
  have hu : uu a b 0 = true := by simp [uu, h0]
  have e1 := rlooks_5 a b 16
  rw [show 5 + 16 = 21 from rfl] at e1
  have hro : rlooks a b 5 = 5 + 4 * ([1, 2, 3, 4].filter (uu a b)).length := by
    simp only [rlooks, comes_0 a b, comes_1 a b (q := 1) (by decide), comes_1 a b (q := 2) (by decide), comes_1 a b (q := 3) (by decide), comes_1 a b (q := 4) (by decide), hu, Bool.and_true]
    cases h1 : uu a b 1 <;> cases h2 : uu a b 2 <;> cases h3 : uu a b 3 <;> cases h4 : uu a b 4 <;> simp [kids, h1, h2, h3, h4]
  refine ⟨?_, ?_, ?_, ?_⟩
  · rw [nxt2, rout_all hu, leaves_of lvs_ge]
  · rw [e1, hro, nxt1, lv1_len]
  · rw [nxt1, lv1_len]
  · rw [nxt1]; exact List.length_filter_le _ _
theorem nxt_pls (a b : List Nat) (l : List Int) : Pls (nxt a b l) := fun x hx => by
  have := kidsL_in x (unl_sub a x hx)
  omega
end Tr
end Go.E.Ytcjmmhamnglmkaa

/-
  The walk's bounds: plainly.
-/
namespace Go.E.Ytcjmmhamnglmkaa
open Go.Proofs
set_option maxRecDepth 100000
namespace Tr
theorem dig_at' (t : List Nat) (q i : Nat) : (dig t q)[i]? = if i < 32 then t[32 * q + i]? else none := by
  simp only [dig, List.getElem?_take, List.getElem?_drop]
theorem put_at {t d : List Nat} (ht : t.length = 672) (hd : d.length = 32) {p : Nat} (hp : p < 21) (i : Nat) : (put t p d)[i]? = if i < 32 * p then t[i]? else if i < 32 * p + 32 then d[i - 32 * p]? else t[i]? := by
  rw [put, List.append_assoc]
  by_cases h1 : i < 32 * p
  · rw [if_pos h1, List.getElem?_append_left (by rw [List.length_take]; omega), List.getElem?_take, if_pos h1]
  · rw [if_neg h1, List.getElem?_append_right (by rw [List.length_take]; omega), List.length_take, Nat.min_eq_left (by omega)]
    by_cases h2 : i < 32 * p + 32
    · rw [if_pos h2, List.getElem?_append_left (by omega)]
    · rw [if_neg h2, List.getElem?_append_right (by omega), List.getElem?_drop]
      congr 1; omega
theorem dig_put {t d : List Nat} (ht : t.length = 672) (hd : d.length = 32) {p q : Nat} (hp : p < 21) : dig (put t p d) q = if q = p then d else dig t q := by
  refine List.ext_getElem? fun i => ?_
  rw [dig_at', put_at ht hd hp]
  by_cases h : q = p
  · subst h
    rw [if_pos rfl]
    by_cases hi : i < 32
    · rw [if_pos hi, if_neg (by omega), if_pos (by omega)]; congr 1; omega
    · rw [if_neg hi, List.getElem?_eq_none (by omega)]
  · rw [if_neg h, dig_at']
    by_cases hi : i < 32
    · rw [if_pos hi, if_pos hi]
      by_cases h1 : 32 * q + i < 32 * p
      · rw [if_pos h1]
      · rw [if_neg h1, if_neg (by omega)]
    · rw [if_neg hi, if_neg hi]
theorem dig_lv (ls : List (List Nat)) : ∀ {i : Nat}, i ≤ 16 → ∀ j, j < i → dig (lv ls i) (5 + j) = leafD (ls.getD j [])
  | 0, _, j, hj => by omega
  | i + 1, hi, j, hj => by
    rw [lv, dig_put (d := leafD (ls.getD i [])) (lv_ok ls (by omega)).len (sum_len _) (by omega)]
    by_cases h : j = i
    · subst h; rw [if_pos rfl]
    · rw [if_neg (by omega)]; exact dig_lv ls (by omega) j (by omega)
theorem dig_inn {t : List Nat} (h : Ok t) {q : Nat} (hq : 5 ≤ q) : ∀ j, dig (inn t j) q = dig t q
  | 0 => rfl
  | j + 1 => by rw [inn_succ, dig_put (inn_ok h j).len (sum_len _) (by omega), if_neg (by omega)]; exact dig_inn h hq j
theorem dig_ofT (ls : List (List Nat)) {j : Nat} (hj : j < 16) : dig (ofT ls) (5 + j) = leafD (ls.getD j []) := by
  rw [ofT, dig_inn (lv_ok ls (Nat.le_refl _)) (by omega), dig_lv ls (Nat.le_refl _) j hj]
/-- the inner places that are unlike -/
def innN (a b : List Nat) (k : Nat) : Nat := (([1, 2, 3, 4].take k).filter (uu a b)).length
theorem lvs_len (a b : List Nat) (q : Nat) : (lvs a b q).length ≤ 4 * (if uu a b q then 1 else 0) := by
  unfold lvs
  split
  · exact Nat.le_trans (List.length_filter_le _ _) (kids_len _)
  · simp
theorem bounds {a b : List Nat} (h0 : dig a 0 ≠ dig b 0) : rlooks a b 21 = 5 + 4 * innN a b 4 ∧ (rout a b 21).length ≤ 4 * innN a b 4 ∧ innN a b 4 ≤ 4 := by
  obtain ⟨_, e2, e3, e4⟩ := ends h0
  have hu : uu a b 0 = true := by simp [uu, h0]
  have hn : nxt a b [0] = ([1, 2, 3, 4].take 4).filter (uu a b) := nxt1 a b
  refine ⟨by rw [e2, e3, hn]; rfl, ?_, by rw [hn] at e4; exact e4⟩
  rw [rout_all hu, List.length_map, List.length_append, List.length_append, List.length_append]
  have l1 := lvs_len a b 1
  have l2 := lvs_len a b 2
  have l3 := lvs_len a b 3
  have l4 := lvs_len a b 4
  have hi : innN a b 4 = (if uu a b 1 then 1 else 0) + (if uu a b 2 then 1 else 0) + (if uu a b 3 then 1 else 0) + (if uu a b 4 then 1 else 0) := by
    unfold innN
    cases h1 : uu a b 1 <;> cases h2 : uu a b 2 <;> cases h3 : uu a b 3 <;> cases h4 : uu a b 4 <;> simp [h1, h2, h3, h4]
  rw [hi]
  have c1 : uu a b ((1 : Nat) : Int) = uu a b 1 := rfl
  have c2 : uu a b ((2 : Nat) : Int) = uu a b 2 := rfl
  have c3 : uu a b ((3 : Nat) : Int) = uu a b 3 := rfl
  have c4 : uu a b ((4 : Nat) : Int) = uu a b 4 := rfl
  rw [c1] at l1
  rw [c2] at l2
  rw [c3] at l3
  rw [c4] at l4
  omega
theorem unlike_leaf {a b : List Nat} (h0 : dig a 0 ≠ dig b 0) : ∀ x ∈ rout a b 21, ∃ j : Nat, x = (j : Int) ∧ j < 16 ∧ dig a (5 + j) ≠ dig b (5 + j) := by
  have hu : uu a b 0 = true := by simp [uu, h0]
  intro x hx
  rw [rout_all hu, List.mem_map] at hx
  obtain ⟨p, hp, rfl⟩ := hx
  have hr := lvs_ge p hp
  have hf : uu a b p = true := by
    rw [← lv2] at hp
    exact (List.mem_filter.1 hp).2
  refine ⟨(p - 5).toNat, by omega, by omega, ?_⟩
  have e : 5 + (p - 5).toNat = p.toNat := by omega
  rw [e]
  simpa [uu] using hf
theorem rounds_le (a b : List Nat) : (walk a b).2.2 ≤ 3 := by
  rw [(walk_ref a b).2.2]
  cases rlev a b 0 21 <;> cases rlev a b 1 21 <;> cases rlev a b 2 21 <;> decide
theorem wk_pos (a b : List Nat) : ∀ (f : Nat) (l : List Int) (n r : Nat), r ≤ (wk a b f l n r).2.2
  | 0, l, n, r => Nat.le_refl _
  | f + 1, l, n, r => by
    unfold wk
    split
    · exact Nat.le_succ _
    · dsimp only
      split
      · exact Nat.le_succ _
      · exact Nat.le_trans (Nat.le_succ _) (wk_pos a b f _ _ _)
theorem rounds_0 (a b : List Nat) : (walk a b).2.2 = 0 ↔ dig a 0 = dig b 0 := by
  unfold walk
  by_cases h : dig a 0 = dig b 0
  · rw [if_pos h]; exact ⟨fun _ => h, fun _ => rfl⟩
  · rw [if_neg h]
    refine ⟨fun e => ?_, fun e => absurd e h⟩
    exfalso
    unfold wk at e
    split at e
    · cases e
    · dsimp only at e
      split at e
      · cases e
      · have := wk_pos a b 2 (unl a (kidsL [0]) (digs b [0])) (1 + (digs b [0]).length) (0 + 1)
        omega
theorem same_out {a b : List Nat} (h0 : dig a 0 = dig b 0) : rout a b 21 = [] ∧ rlooks a b 21 = 1 := by
  obtain ⟨w1, w2, _⟩ := walk_ref a b
  have hw : walk a b = ([], 1, 0) := by rw [walk, if_pos h0]
  rw [hw] at w1 w2
  exact ⟨w1.symm, w2.symm⟩
theorem innN_succ (a b : List Nat) {k : Nat} (hk : k < 4) : innN a b (k + 1) = innN a b k + (if dig a (k + 1) = dig b (k + 1) then 0 else 1) := by
  have g : ∀ j : Nat, uu a b (j : Int) = decide (dig a j ≠ dig b j) := fun j => rfl
  have g1 := g 1
  have g2 := g 2
  have g3 := g 3
  have g4 := g 4
  rw [show ((1 : Nat) : Int) = 1 from rfl] at g1
  rw [show ((2 : Nat) : Int) = 2 from rfl] at g2
  rw [show ((3 : Nat) : Int) = 3 from rfl] at g3
  rw [show ((4 : Nat) : Int) = 4 from rfl] at g4
  match k, hk with
  | 0, _ => by_cases e : dig a 1 = dig b 1 <;> simp [innN, List.filter_cons, g1, e]
  | 1, _ => cases e1 : uu a b 1 <;> by_cases e : dig a 2 = dig b 2 <;> simp [innN, List.filter_cons, g2, e, e1]
  | 2, _ => cases e1 : uu a b 1 <;> cases e2 : uu a b 2 <;> by_cases e : dig a 3 = dig b 3 <;> simp [innN, List.filter_cons, g3, e, e1, e2]
  | 3, _ => cases e1 : uu a b 1 <;> cases e2 : uu a b 2 <;> cases e3 : uu a b 3 <;> by_cases e : dig a 4 = dig b 4 <;> simp [innN, List.filter_cons, g4, e, e1, e2, e3]
theorem innN_le (a b : List Nat) (k : Nat) : innN a b k ≤ 4 := by
  unfold innN
  refine Nat.le_trans (List.length_filter_le _ _) ?_
  rw [List.length_take]; exact Nat.min_le_right _ _
end Tr
end Go.E.Ytcjmmhamnglmkaa

/-
  Law WalkBounds.
-/
namespace Go.E.Ytcjmmhamnglmkaa
open Go.Proofs
set_option maxRecDepth 100000
/-- sixteen texts -/
structure T16 (m : Mem) (vs : List Value) (ls : List (List Nat)) : Prop where
  vlen : vs.length = 16
  llen : ls.length = 16
  one : ∀ v ∈ vs, v.oneCell' = true
  la : ∀ i (h1 : i < vs.length) (h2 : i < ls.length), La m vs[i] (nc ls[i])
  byt : ∀ l ∈ ls, ∀ x ∈ l, x < 256
theorem T16.at {m : Mem} {vs : List Value} {ls : List (List Nat)} (h : T16 m vs ls) {i : Nat} (hi : i < 16) : ∃ a c, vs.getD i undef = .slice a (ls.getD i []).length c ∧ La m (.slice a (ls.getD i []).length c) (nc (ls.getD i [])) := by
  have hl := h.la i (by have := h.vlen; omega) (by have := h.llen; omega)
  have e1 : vs.getD i undef = vs[i]'(by have := h.vlen; omega) := by rw [List.getD_eq_getElem?_getD, List.getElem?_eq_getElem (by have := h.vlen; omega)]; rfl
  have e2 : ls.getD i [] = ls[i]'(by have := h.llen; omega) := by rw [List.getD_eq_getElem?_getD, List.getElem?_eq_getElem (by have := h.llen; omega)]; rfl
  rw [e1, e2]
  obtain ⟨a, c, e⟩ := hl.shape
  rw [show (nc (ls[i]'(by have := h.llen; omega))).length = (ls[i]'(by have := h.llen; omega)).length by simp [nc]] at e
  exact ⟨a, c, e, e ▸ hl⟩
theorem T16.sub {m m' : Mem} {vs : List Value} {ls : List (List Nat)} (h : T16 m vs ls) (hs : Sub m m') : T16 m' vs ls := ⟨h.vlen, h.llen, h.one, fun i h1 h2 => (h.la i h1 h2).sub hs, h.byt⟩
theorem La.cases {m : Mem} {v : Value} {l : List Int} (h : La m v l) : (∃ c, v = .slice none 0 c ∧ l = []) ∨ (∃ a, v = .slice (some a) 0 0 ∧ l = []) ∨ ∃ b o c, v = .slice (some ⟨b, o, none⟩) l.length c ∧ Lb m (.slice (some ⟨b, o, none⟩) l.length c) l := by
  rcases h with h | ⟨rfl, a, rfl⟩
  · rcases h.cases with ⟨c, rfl, rfl⟩ | ⟨b, o, c, arr, t, fr, rfl, _⟩
    · exact .inl ⟨c, rfl, rfl⟩
    · exact .inr (.inr ⟨b, o, c, rfl, h⟩)
  · exact .inr (.inl ⟨a, rfl, rfl⟩)
theorem T16.cases {m : Mem} {vs : List Value} {ls : List (List Nat)} (h : T16 m vs ls) {i : Nat} (hi : i < 16) : (∃ c, vs.getD i undef = .slice none 0 c ∧ ls.getD i [] = []) ∨ (∃ a, vs.getD i undef = .slice (some a) 0 0 ∧ ls.getD i [] = []) ∨ ∃ b o c, vs.getD i undef = .slice (some ⟨b, o, none⟩) (ls.getD i []).length c ∧ Lb m (.slice (some ⟨b, o, none⟩) (ls.getD i []).length c) (nc (ls.getD i [])) := by
  obtain ⟨a, c, e, hl⟩ := h.at hi
  rw [e]
  rcases La.cases hl with ⟨c', e1, e2⟩ | ⟨a', e1, e2⟩ | ⟨b, o, c', e1, h1⟩
  · exact .inl ⟨c', e1, by simpa [nc] using e2⟩
  · exact .inr (.inl ⟨a', e1, by simpa [nc] using e2⟩)
  · refine .inr (.inr ⟨b, o, c', ?_, ?_⟩)
    · rw [e1]; simp [nc]
    · have : (nc (ls.getD i [])).length = (ls.getD i []).length := by simp [nc]
      rw [this] at h1; exact h1
theorem strOf_nc {a b : List Nat} (ha : ∀ x ∈ a, x < 256) (hb : ∀ x ∈ b, x < 256) (h : strOf (nc a) = strOf (nc b)) : a = b := by
  have h1 := congrArg (fun s : ByteArray => s.data.toList) h
  simp only [strOf_data] at h1
  refine nc_inj (by8_inj ?_ ?_ h1)
  · intro x hx; simp only [nc, List.mem_map] at hx; obtain ⟨y, hy, rfl⟩ := hx; have := ha y hy; omega
  · intro x hx; simp only [nc, List.mem_map] at hx; obtain ⟨y, hy, rfl⟩ := hx; have := hb y hy; omega
theorem txt_ne {a b : ByteArray} (h : a ≠ b) : ¬ (a.toList == b.toList) = true := fun e => h (by
  have e := eq_of_beq e
  rw [ByteArray.toList_eq, ByteArray.toList_eq] at e
  cases a; cases b
  simp only at e
  congr 1
  exact Array.ext' e)
theorem T16.bytD {m : Mem} {vs : List Value} {ls : List (List Nat)} (h : T16 m vs ls) (j : Nat) : ∀ x ∈ ls.getD j [], x < 256 := fun x hx => by
  by_cases hj : j < ls.length
  · rw [List.getD_eq_getElem?_getD, List.getElem?_eq_getElem hj] at hx
    exact h.byt _ (List.getElem_mem hj) x hx
  · rw [List.getD_eq_getElem?_getD, List.getElem?_eq_none (by omega)] at hx; cases hx
end Go.E.Ytcjmmhamnglmkaa

/-
  Sixteen texts that came in.
-/
namespace Go.E.Ytcjmmhamnglmkaa
open Go.Proofs
set_option maxRecDepth 100000
theorem dat_text {m : Mem} {cs : List Value} (h : Dat m (.slice (.int .u8)) cs) : ∃ v l, cs = [v] ∧ La m v (nc l) ∧ ∀ x ∈ l, x < 256 := by
  obtain ⟨v, l, rfl, h1, h2, h3, h4⟩ := dat_sints h
  have hb : ∀ x ∈ l, 0 ≤ x ∧ x < 256 := fun x hx => wf_u8 (h3 x hx)
  have e : nc (l.map Int.toNat) = l := by
    simp only [nc, List.map_map]
    refine (List.map_congr_left fun x hx => ?_).trans (List.map_id _)
    have := hb x hx
    simp only [Function.comp, id]; omega
  refine ⟨v, l.map Int.toNat, rfl, ?_, fun x hx => ?_⟩
  · rw [e]
    rcases h1 with h1 | h1
    · exact .inl h1
    · exact .inr h1
  · obtain ⟨y, hy, rfl⟩ := List.mem_map.1 hx
    have := hb y hy; omega
theorem dat_texts {m : Mem} : ∀ {els : List (List Value)}, (∀ c ∈ els, Dat m (.slice (.int .u8)) c) → ∃ (vs : List Value) (ls : List (List Nat)), els.flatten = vs ∧ vs.length = els.length ∧ ls.length = els.length ∧ (∀ v ∈ vs, v.oneCell' = true) ∧ (∀ i (h1 : i < vs.length) (h2 : i < ls.length), La m vs[i] (nc ls[i])) ∧ ∀ l ∈ ls, ∀ x ∈ l, x < 256
  | [], _ => ⟨[], [], rfl, rfl, rfl, by simp, by intro i h; simp at h, by simp⟩
  | c :: els, h => by
    obtain ⟨v, l, rfl, h1, h2⟩ := dat_text (h c (by simp))
    obtain ⟨vs, ls, e1, e2, e3, e4, e5, e6⟩ := dat_texts (els := els) fun c hc => h c (by simp [hc])
    refine ⟨v :: vs, l :: ls, by simp [e1], by simp [e2], by simp [e3], ?_, ?_, ?_⟩
    · intro u hu
      rcases List.mem_cons.1 hu with rfl | hu
      · exact h1.one
      · exact e4 u hu
    · intro i hi1 hi2
      cases i with
      | zero => exact h1
      | succ i => exact e5 i (by simpa using hi1) (by simpa using hi2)
    · intro u hu
      rcases List.mem_cons.1 hu with rfl | hu
      · exact h2
      · exact e6 u hu
theorem dat_t16 {m : Mem} {cs : List Value} (h : Dat m (.rep 16 (.slice (.int .u8))) cs) : ∃ ls, T16 m cs ls := by
  obtain ⟨els, rfl, hn, h1⟩ := h
  obtain ⟨vs, ls, e1, e2, e3, e4, e5, e6⟩ := dat_texts h1
  rw [e1]
  exact ⟨ls, by omega, by omega, e4, e5, e6⟩
theorem val_agg {P : Program} {w : World} {r : Reach} {b0 k : Nat} {t e : TypeId} {v : Value} (hu : P.underlying t = some (.array k e)) (h : Value.okWide P w r b0 t v) : v = .agg (v.cells.toList ++ []).toArray := by
  unfold Value.okWide at h
  rw [hu] at h
  obtain ⟨cs, rfl, _⟩ := h
  simp [Value.cells]
end Go.E.Ytcjmmhamnglmkaa

/-
  Files: new ones; an op.
-/
namespace Go.E.Ytcjmmhamnglmkaa
open Go.Proofs
set_option maxRecDepth 100000
theorem new_neg {m : Mem} {q : Int} (h : q < 0) : Ret Try.prog 4 [i64 q] m [.v (.pointer none), i64 1] := by
  refine en4 rfl (goY ?_)
  conv => whnf
  refine ⟨fun _ => ?_, fun h => absurd h (by first | exact (by simpa using h) | (rw [decide_eq_true (by omega)] at h; cases h))⟩
  conv => whnf
  exact ⟨rfl, rfl⟩
theorem fs_new {m : Mem} {bf bm : Nat} {q : Int} (h : Split m [blk1 bf (filesO q bm 0 0), blk1 bm (mapF [] 0)]) : FA m bf q 0 0 [] := ⟨bm, 0, [], ⟨h, by simp, by simp, by simp⟩, rfl⟩
theorem new_spec {m : Mem} {q : Int} (h : 0 ≤ q) : Spec Try.prog 4 [i64 q] m fun r m' => ∃ bf p, r = [ptrB bf, i64 0] ∧ Split m' [p, m] ∧ FA p bf q 0 0 [] := by
  refine en4 rfl (goY ?_)
  conv => whnf
  refine ⟨fun h' => absurd (of_decide_eq_true h') (by omega), fun _ => ?_⟩
  conv => whnf
  refine .mk _ (makeMap_spec (enc := Value.string)) ?_
  rintro _ m1 ⟨bm, hbm, rfl, rfl⟩
  conv => whnf
  intro bf hbf
  conv => whnf
  have hs := ((Split.one m).new hbm (mapF [] 0)).new hbf (filesO q bm 0 0)
  have hs := hs.perm (l' := [m, blk1 bf (filesO q bm 0 0), blk1 bm (mapF [] 0)]) (by exact (List.Perm.cons _ (List.Perm.swap _ _ _)).trans (List.Perm.swap _ _ _))
  exact ⟨bf, _, rfl, (Split.rest hs).1, fs_new (Split.rest hs).2⟩
/-- an op -/
structure Opr where
  kind : Int
  n : Int
  name : ByteArray
  to : ByteArray
  ab : Option Addr
  cb : Nat
  b : List Nat
  al : Option Addr
  cl : Nat
  last : List Int
abbrev Opr.vb (o : Opr) : Value := .slice o.ab o.b.length o.cb
abbrev Opr.vl (o : Opr) : Value := .slice o.al o.last.length o.cl
abbrev Opr.cells (o : Opr) : List Value := [.int .i64 o.kind, .int .i64 o.n, .string o.name, .string o.to, .slice o.ab o.b.length o.cb, .slice o.al o.last.length o.cl]
abbrev Opr.cv (o : Opr) : CV := .a [.one (.int .i64 o.kind), .one (.int .i64 o.n), .one (.string o.name), .one (.string o.to), .one (.slice o.ab o.b.length o.cb), .one (.slice o.al o.last.length o.cl)]
structure Opr.Ok (m : Mem) (o : Opr) : Prop where
  b : La m o.vb (nc o.b)
  byt : ∀ x ∈ o.b, x < 256
  l : Ia m o.vl o.last
  lI : ∀ x ∈ o.last, -9223372036854775808 ≤ x ∧ x ≤ 9223372036854775807
  nI : -9223372036854775808 ≤ o.n ∧ o.n ≤ 9223372036854775807
  ll : o.last.length ≤ 9223372036854775807
theorem oOk : EncOk Opr.cells 6 := ⟨fun _ => rfl, fun x u hu => by simp [Opr.cells] at hu; rcases hu with rfl | rfl | rfl | rfl | rfl | rfl <;> rfl, by decide⟩
/-- ops that lie somewhere, or none, wherever -/
def Oa (m : Mem) (v : Value) (O : List Opr) : Prop := Lies m 6 v (O.flatMap Opr.cells) ∨ (O = [] ∧ ∃ a, v = .slice (some a) 0 0)
theorem Oa.shape {m : Mem} {v : Value} {O : List Opr} (h : Oa m v O) : ∃ a c, v = .slice a O.length c := by
  rcases h with h | ⟨rfl, a, rfl⟩
  · exact oOk.shape h
  · exact ⟨_, _, rfl⟩
theorem Oa.sub {m m' : Mem} {v : Value} {O : List Opr} (h : Oa m v O) (hs : Sub m m') : Oa m' v O := h.imp (·.sub hs) id
theorem Oa.real {m : Mem} {v : Value} {O : List Opr} (h : Oa m v O) {i : Nat} (hi : i < O.length) : ∃ b o c, v = .slice (some ⟨b, o, none⟩) O.length c ∧ ∀ j (hj : j < O.length), MRange m b (o + j * 6) O[j].cells := by
  rcases h with h | ⟨rfl, _⟩
  · exact oOk.real h hi
  · simp at hi
abbrev shOp : Sh := .pair (.int .i64) (.pair (.int .i64) (.pair .str (.pair .str (.pair (.slice (.int .u8)) (.pair (.slice (.int .i64)) .unit)))))
theorem dat_last {m : Mem} {cs : List Value} (h : Dat m (.slice (.int .i64)) cs) : ∃ v l, cs = [v] ∧ Ia m v l ∧ (∀ x ∈ l, -9223372036854775808 ≤ x ∧ x ≤ 9223372036854775807) ∧ l.length ≤ 9223372036854775807 := by
  obtain ⟨v, l, rfl, h1, h2, h3, h4⟩ := dat_sints h
  exact ⟨v, l, rfl, h1, fun x hx => wf_i64 (h3 x hx), h4⟩
theorem dat_op {m : Mem} {cs : List Value} (h : Dat m shOp cs) : ∃ o : Opr, cs = o.cells ∧ o.Ok m := by
  obtain ⟨_, _, rfl, ⟨n1, rfl, _⟩, _, _, rfl, ⟨n2, rfl, h2⟩, _, _, rfl, ⟨s1, rfl, _⟩, _, _, rfl, ⟨s2, rfl, _⟩, _, _, rfl, h5, _, _, rfl, h6, h7⟩ := h
  simp only [Dat] at h7
  subst h7
  obtain ⟨v, l, rfl, e1, e2⟩ := dat_text h5
  obtain ⟨w, k, rfl, g1, g2, g3⟩ := dat_last h6
  obtain ⟨a, c, rfl⟩ := e1.shape
  obtain ⟨a', c', rfl⟩ := g1.shape
  rw [nc_len] at e1 ⊢
  exact ⟨⟨n1, n2, s1, s2, a, c, l, a', c', k⟩, rfl, e1, e2, g1, g2, wf_i64 h2, g3⟩
theorem dat_op_rows {m : Mem} : ∀ {els : List (List Value)}, (∀ c ∈ els, Dat m shOp c) → ∃ O : List Opr, els.flatten = O.flatMap Opr.cells ∧ O.length = els.length ∧ ∀ o ∈ O, o.Ok m
  | [], _ => ⟨[], rfl, rfl, by simp⟩
  | c :: els, h => by
    obtain ⟨e, rfl, he⟩ := dat_op (h c (by simp))
    obtain ⟨E, h1, h2, h3⟩ := dat_op_rows (els := els) fun c hc => h c (by simp [hc])
    refine ⟨e :: E, by rw [List.flatten_cons, List.flatMap_cons, h1], by simp [h2], fun o ho => ?_⟩
    rcases List.mem_cons.1 ho with rfl | ho
    · exact he
    · exact h3 o ho
theorem dat_ops {m : Mem} {cs : List Value} (h : Dat m (.slice shOp) cs) : ∃ v O, cs = [v] ∧ Oa m v O ∧ (∀ o ∈ O, o.Ok m) ∧ O.length ≤ 9223372036854775807 := by
  obtain ⟨v, els, rfl, h1, h2, h3, h4⟩ := h
  obtain ⟨E, e1, e2, e3⟩ := dat_op_rows h3
  refine ⟨v, E, rfl, ?_, e3, by rw [e2]; exact h4⟩
  rcases h1 with h1 | ⟨rfl, a, rfl⟩
  · rw [e1] at h1; exact .inl h1
  · exact .inr ⟨List.eq_nil_of_length_eq_zero (by simpa using e2), a, rfl⟩
/-- of what may be small enough -/
def Opr.Small (o : Opr) : Prop := o.b.length ≤ 500 ∧ o.name.size ≤ 100 ∧ o.to.size ≤ 100
/-- what an op comes to -/
structure Did (p : Mem) (bf : Nat) (q : Int) (k nb ns : Nat) (A A' : List Af) : Prop where
  fa : FA p bf q nb ns A'
  sm : Sm (k + 1) A' nb ns
  tot : 0 < q → (totA A : Int) ≤ q → (totA A' : Int) ≤ q
end Go.E.Ytcjmmhamnglmkaa

/-
  Files: what must come of fixed calls.
-/
namespace Go.E.Ytcjmmhamnglmkaa
open Go.Proofs
set_option maxRecDepth 100000
theorem make8_spec {m : Mem} : PrimSpec Try.prog (.makeSlice 23) [.v (.int .i64 8), .v (.int .i64 8)] m fun r m' => ∃ b, m b = none ∧ r = [.v (.slice (some ⟨b, 0, none⟩) 8 8)] ∧ m' = m.set b (.cells (bc (List.replicate 8 0)).toArray 5) := by
  intro _ ty W hW
  obtain ⟨j, hj, hjs, hjb, z, hz, hzc⟩ := (tt_ok _ _ hU8).inf
  have hu := (tt_ok _ _ hBs).slice rfl
  have hr := run_makeSlice W 23 5 j z hu hj hz .i64 .i64 8 8 (by decide) (by decide) (by rw [hjs]; decide) (by rw [hjb]; decide) (by decide)
  rw [hjs, hzc] at hr
  refine ⟨[.v (.slice (some ⟨W.heap.size, 0, none⟩) 8 8)], m.set W.heap.size (.cells (bc (List.replicate 8 0)).toArray 5), W.alloc (.cells (bc (List.replicate 8 0)).toArray 5), ?_, ?_, ⟨W.heap.size, hW.none (Nat.le_refl _), rfl, rfl⟩, (After.refl hW).alloc _⟩
  · simp [Prim.run, Prim.out, Prim.tup, cond_false, resVal, CV.val, hr]
    exact congrArg (fun c => W.alloc (.cells c 5)) (by kernel_rfl)
  · intro x hx
    simp at hx; subst hx; rfl
/-- what stands beside, taken with what was there -/
theorem Split.side {mm b p m : Mem} (h : Split mm [b, p, m]) : ∃ q, Sub b q ∧ Sub m q ∧ Split mm [p, q] ∧ ∀ m' p', Split m' [p', q] → Split m' [p', m] := by
  have h1 := h.perm (l' := [p, b, m]) (List.Perm.swap _ _ _)
  obtain ⟨h2, h3⟩ := Split.rest h1
  exact ⟨allM [b, m], h3.sub (by simp), h3.sub (by simp), h2.perm (List.Perm.swap _ _ _), fun m' p' h4 => by
    have h5 : Split m' [p', b, m] := Split.under (a := [p']) h4 h3
    exact (h5.perm (l' := [b, p', m]) (List.Perm.swap _ _ _)).drop⟩
abbrev nmA : ByteArray := ⟨#[97]⟩
abbrev nmB : ByteArray := ⟨#[98]⟩
abbrev nmX : ByteArray := ⟨#[98, 46, 120]⟩
theorem srtB_one (x : ByteArray) : srtB [x] = [x] := List.perm_singleton.1 (srtB_same [x])
theorem al_1 {e : Int} {A' : List Af} {nb' : Nat} (h : AppR [] nmA [97, 98] 10 e A' 0 nb') : e = 0 ∧ A' = [⟨nmA, [97, 98], 0⟩] ∧ nb' = 2 := by
  rw [AppR, if_neg (by decide +kernel), if_neg (by decide +kernel)] at h
  exact h
theorem al_2 : syncA [⟨nmA, [97, 98], 0⟩] nmA = [⟨nmA, [97, 98], 2⟩] := by simp [syncA]
theorem al_2e : errA [⟨nmA, [97, 98], 0⟩] nmA = 0 ∧ (fileA [⟨nmA, [97, 98], 0⟩] nmA).isSome = true := by simp [errA, fileA]
theorem al_3 {e : Int} {A' : List Af} {nb' : Nat} (h : AppR [⟨nmA, [97, 98], 2⟩] nmA [99, 100] 10 e A' 2 nb') : e = 0 ∧ A' = [⟨nmA, [97, 98, 99, 100], 2⟩] ∧ nb' = 4 := by
  rw [AppR, if_neg (by decide +kernel), if_neg (by decide +kernel)] at h
  obtain ⟨h1, h2, h3⟩ := h
  exact ⟨h1, by rw [h2]; simp [appA], h3⟩
theorem al_4 : crashA [⟨nmA, [97, 98, 99, 100], 2⟩] [1] = [⟨nmA, [97, 98, 99], 3⟩] := by
  simp only [crashA, List.map_cons, List.map_nil, srtB_one, List.length_cons, List.length_nil, crashTo, crash1]
  simp [lastN]
  decide
theorem al_5 : errA [⟨nmA, [97, 98, 99], 3⟩] nmA = 0 ∧ (((fileA [⟨nmA, [97, 98, 99], 3⟩] nmA).map (·.l)).getD []) = [97, 98, 99] := by simp [errA, fileA]
theorem al_6 {e : Int} {A' : List Af} {nb' : Nat} (h : AppR [⟨nmA, [97, 98, 99], 3⟩] nmB (List.replicate 8 0) 10 e A' 4 nb') : e = 5 ∧ A' = [⟨nmA, [97, 98, 99], 3⟩] ∧ nb' = 4 := by
  rw [AppR, if_neg (by decide +kernel), if_pos (by decide +kernel)] at h
  exact h
theorem al_7 : renEA [⟨nmA, [97, 98, 99], 3⟩] nmA nmX = 0 ∧ renA [⟨nmA, [97, 98, 99], 3⟩] nmA nmX = [⟨nmX, [97, 98, 99], 3⟩] := by
  have h : nameOk (chs nmX) = true := by decide +kernel
  simp [renEA, renA, fileA, h, rmA, putA]
theorem al_8 : totA [⟨nmX, [97, 98, 99], 3⟩] = 3 ∧ ((fileA [⟨nmX, [97, 98, 99], 3⟩] nmX).map (·.safe)).getD 0 = 3 ∧ errA [⟨nmX, [97, 98, 99], 3⟩] nmA = 4 := by
  have h : ¬ nmA = nmX := by decide +kernel
  simp [totA, errA, fileA, h]
theorem sm_al {k : Nat} {A : List Af} {nb ns : Nat} (h1 : A.all (fun a => decide (a.l.length ≤ 500)) = true) (h2 : A.length ≤ 1) (h3 : nb ≤ 500) (h4 : ns ≤ 1) : Sm 1 A nb ns :=
  ⟨fun a ha => by have := List.all_eq_true.1 h1 a ha; simpa using this, h2, by omega, h4, by omega⟩
end Go.E.Ytcjmmhamnglmkaa

/-
  Laws of chapter 16: lists that are the same; what is too much; what must come of fixed calls.
-/
namespace Go.E.Ytcjmmhamnglmkaa
open Go.Proofs
set_option maxRecDepth 100000
set_option maxHeartbeats 1000000 in
theorem same16_spec {m : Mem} {v w : Value} {ps qs : List (Value × List Int)} (hv : Lists m v ps) (hw : Lists m w qs) (hbp : ∀ p ∈ ps, Byt p.2) (hbq : ∀ p ∈ qs, Byt p.2) (hl : ps.length ≤ 100000000) (hlp : ∀ p ∈ ps, Lb m p.1 p.2) (hlq : ∀ p ∈ qs, Lb m p.1 p.2) : Ret Try.prog 12 [.v v, .v w] m [boolV (decide (ps.map (·.2) = qs.map (·.2)))] := by
  obtain ⟨a, c, rfl⟩ := hv.shape
  obtain ⟨aw, cw, rfl⟩ := hw.shape
  refine en12 rfl (goY ?_)
  conv => whnf
  refine ⟨fun h => ?_, fun h => ?_⟩
  · conv => whnf
    have : ps.map (·.2) ≠ qs.map (·.2) := fun e => by have := congrArg List.length e; simp at this; simp [this] at h
    rw [decide_eq_false this]
    exact ⟨rfl, rfl⟩
  have hlk : ps.length = qs.length := by simp at h; omega
  clear h
  conv => whnf
  refine .mk (ι := Nat) (fun i => ps.length - i) (fun i mm => i ≤ ps.length ∧ (ps.take i).map (·.2) = (qs.take i).map (·.2) ∧ mm = m) (fun i => [(0, .c (.v (.slice a ps.length c))), (1, .c (.v (.slice aw qs.length cw))), (5, .c (i64 i))]) (fun _ => []) 0 ⟨by omega, by simp, rfl⟩ ?_ ?_
  · conv => whnf
    repeat (refine And.intro (by first | with_reducible rfl | exact congrArg (Value.int _) (wi (by omega) (by omega)) | exact wi (by omega) (by omega) | rfl) ?_; conv => whnf)
    first | exact trivial | exact fun _ _ h => h
  rintro i mm ⟨hi, htk, he⟩
  subst mm
  conv => whnf
  refine ⟨fun h1 => ?_, fun h1 => ?_⟩
  · have h1' := of_decide_eq_true h1
    have hlt : i < ps.length := by omega
    have hltk : i < qs.length := by omega
    obtain ⟨b, o, c', hh, hg⟩ := hv.real hlt
    injection hh with hh1 _ hh3
    subst hh1
    clear hh3 c'
    obtain ⟨bw, ow, c', hh, hgw⟩ := hw.real hltk
    injection hh with hh1 _ hh3
    subst hh1
    clear hh3 c'
    have hla := hlp _ (List.getElem_mem hlt)
    have hlb := hlq _ (List.getElem_mem hltk)
    have hpb := hbp _ (List.getElem_mem hlt)
    have hqb := hbq _ (List.getElem_mem hltk)
    have hgi := hg i hlt
    have hgwi := hgw i hltk
    have hstep : (ps.take (i + 1)).map (·.2) = (qs.take (i + 1)).map (·.2) ↔ ps[i].2 = qs[i].2 := by
      rw [List.take_succ_eq_append_getElem hlt, List.take_succ_eq_append_getElem hltk, List.map_append, List.map_append, htk]
      simp
    have hall : ps[i].2 ≠ qs[i].2 → ps.map (·.2) ≠ qs.map (·.2) := fun hne e => hne (by
      have := congrArg (fun l => l[i]?) e
      simpa [List.getElem?_eq_getElem hlt, List.getElem?_eq_getElem hltk] using this)
    generalize ps[i] = pi at *
    generalize qs[i] = qi at *
    obtain ⟨pv, pl⟩ := pi
    obtain ⟨qv, ql⟩ := qi
    simp only at *
    rcases hla.cases with ⟨pc, rfl, rfl⟩ | ⟨pb, po, pc, parr, pt, pf, rfl, p1, p2, p3⟩ <;> rcases hlb.cases with ⟨qc, rfl, rfl⟩ | ⟨qb, qo, qc, qarr, qt, qf, rfl, q1, q2, q3⟩
    all_goals
      conv => whnf
      repeat (refine And.intro (by first | omega | (simp only [times]; omega)) ?_; conv => whnf)
      refine ⟨_, by simp only [times, Int.toNat_natCast, Nat.mul_one]; exact hgi, rfl, ?_⟩
      conv => whnf
      first | (refine .inr ⟨pl, rfl, _, _, rfl, hla.range, ?_⟩; conv => whnf) | skip
      first | (refine And.intro (by omega) ?_; conv => whnf) | skip
      refine ⟨_, by simp only [times, Int.toNat_natCast, Nat.mul_one]; exact hgwi, rfl, ?_⟩
      conv => whnf
      first | (refine .inr ⟨ql, rfl, _, _, rfl, hlb.range, ?_⟩; conv => whnf) | skip
      try rw [show ByteArray.empty.toList = by8 [] from by rw [ByteArray.toList_eq]; rfl]
      try rw [strOf_list]
      try rw [strOf_list]
      refine ⟨fun h2 => ?_, fun h2 => ?_⟩
      · conv => whnf
        refine ⟨?_, rfl⟩
        rw [decide_eq_false (hall (fun e => by have h3 := congrArg by8 e; rw [h3] at h2; simp at h2))]
      · conv => whnf
        refine ⟨i + 1, ⟨by omega, hstep.2 (by8_inj hpb hqb (by have h4 := h2; simp only [Bool.not_eq_eq_eq_not, Bool.not_false, beq_iff_eq] at h4; first | exact h4 | rfl)), rfl⟩, by omega, ?_⟩
        conv => whnf
        repeat (refine And.intro (by first | with_reducible rfl | (first | exact congrArg (Value.int _) (iadd (by omega))) | exact congrArg (Value.int _) (wi (by omega) (by omega)) | exact wi (by omega) (by omega) | rfl) ?_; conv => whnf)
        first | exact trivial | exact fun _ _ h => h
  · have h1' := of_decide_eq_false h1
    obtain rfl : i = ps.length := by omega
    rw [List.take_length, hlk, List.take_length] at htk
    conv => whnf
    rw [decide_eq_true htk]
    exact ⟨rfl, rfl⟩
/-- an op of a log -/
structure Lop where
  kind : Int
  last : Int
  ab : Option Addr
  cb : Nat
  b : List Int
abbrev Lop.vb (o : Lop) : Value := .slice o.ab o.b.length o.cb
abbrev Lop.cells (o : Lop) : List Value := [.int .i64 o.kind, .int .i64 o.last, .slice o.ab o.b.length o.cb]
abbrev Lop.cv (o : Lop) : CV := .a [.one (.int .i64 o.kind), .one (.int .i64 o.last), .one (.slice o.ab o.b.length o.cb)]
structure Lop.Ok (m : Mem) (o : Lop) : Prop where
  b : La m o.vb o.b
  byt : Byt o.b
theorem lopOk : EncOk Lop.cells 3 := ⟨fun _ => rfl, fun x u hu => by simp [Lop.cells] at hu; rcases hu with rfl | rfl | rfl <;> rfl, by decide⟩
def Loa (m : Mem) (v : Value) (O : List Lop) : Prop := Lies m 3 v (O.flatMap Lop.cells) ∨ (O = [] ∧ ∃ a, v = .slice (some a) 0 0)
theorem Loa.shape {m : Mem} {v : Value} {O : List Lop} (h : Loa m v O) : ∃ a c, v = .slice a O.length c := by
  rcases h with h | ⟨rfl, a, rfl⟩
  · exact lopOk.shape h
  · exact ⟨_, _, rfl⟩
theorem Loa.real {m : Mem} {v : Value} {O : List Lop} (h : Loa m v O) {i : Nat} (hi : i < O.length) : ∃ b o c, v = .slice (some ⟨b, o, none⟩) O.length c ∧ ∀ j (hj : j < O.length), MRange m b (o + j * 3) O[j].cells := by
  rcases h with h | ⟨rfl, _⟩
  · exact lopOk.real h hi
  · simp at hi
abbrev shLop : Sh := .pair (.int .i64) (.pair (.int .i64) (.pair (.slice (.int .u8)) .unit))
theorem dat_lop {m : Mem} {cs : List Value} (h : Dat m shLop cs) : ∃ o : Lop, cs = o.cells ∧ o.Ok m := by
  obtain ⟨_, _, rfl, ⟨n1, rfl, _⟩, _, _, rfl, ⟨n2, rfl, h2⟩, _, _, rfl, h5, h7⟩ := h
  simp only [Dat] at h7
  subst h7
  obtain ⟨v, l, rfl, e1, e2, _⟩ := dat_la h5
  obtain ⟨a, c, rfl⟩ := e1.shape
  exact ⟨⟨n1, n2, a, c, l⟩, rfl, e1, e2⟩
theorem dat_lop_rows {m : Mem} : ∀ {els : List (List Value)}, (∀ c ∈ els, Dat m shLop c) → ∃ O : List Lop, els.flatten = O.flatMap Lop.cells ∧ O.length = els.length ∧ ∀ o ∈ O, o.Ok m
  | [], _ => ⟨[], rfl, rfl, by simp⟩
  | c :: els, h => by
    obtain ⟨e, rfl, he⟩ := dat_lop (h c (by simp))
    obtain ⟨E, h1, h2, h3⟩ := dat_lop_rows (els := els) fun c hc => h c (by simp [hc])
    refine ⟨e :: E, by rw [List.flatten_cons, List.flatMap_cons, h1], by simp [h2], fun o ho => ?_⟩
    rcases List.mem_cons.1 ho with rfl | ho
    · exact he
    · exact h3 o ho
theorem dat_lops {m : Mem} {cs : List Value} (h : Dat m (.slice shLop) cs) : ∃ v O, cs = [v] ∧ Loa m v O ∧ (∀ o ∈ O, o.Ok m) ∧ O.length ≤ 9223372036854775807 := by
  obtain ⟨v, els, rfl, h1, h2, h3, h4⟩ := h
  obtain ⟨E, e1, e2, e3⟩ := dat_lop_rows h3
  refine ⟨v, E, rfl, ?_, e3, by rw [e2]; exact h4⟩
  rcases h1 with h1 | ⟨rfl, a, rfl⟩
  · rw [e1] at h1; exact .inl h1
  · exact .inr ⟨List.eq_nil_of_length_eq_zero (by simpa using e2), a, rfl⟩
/-- of so many bytes it is not too much -/
def lopSm (n : Nat) : Prop := n ≤ 500 ∨ (20000 < n ∧ n ≤ 20010)
theorem great16_spec {m : Mem} {o : Lop} : Spec Try.prog 5 [o.cv] m fun r m' => ∃ g, r = [boolV g] ∧ m' = m ∧ (g = false → lopSm o.b.length) := by
  obtain ⟨kind, last, ab, cb, b⟩ := o
  unfold lopSm
  refine en5 rfl (goY ?_)
  conv => whnf
  repeat' (first | (refine ⟨fun h => ?_, fun h => ?_⟩ <;> conv => whnf) | fail)
  · exact ⟨_, rfl, rfl, fun h => (by cases h)⟩
  · rename_i h1
    have h2 := h
    have h1 := of_decide_eq_true h1
    have h2 := of_decide_eq_false h2
    refine ⟨_, rfl, rfl, fun h3 => ?_⟩
    have h3 := of_decide_eq_false h3
    simp only at h1 h2 h3 ⊢
    omega
  · have h1 := of_decide_eq_false h
    refine ⟨_, rfl, rfl, fun h3 => ?_⟩
    simp only at h1 ⊢
    omega
/-- two parts taken, the others as one -/
theorem Split.pick2 {mm a b : Mem} {l : List Mem} (h : Split mm (a :: b :: l)) : ∃ q, (∀ x ∈ l, Sub x q) ∧ Split mm [a, b, q] ∧ ∀ m' a' b', Split m' [a', b', q] → Split m' (a' :: b' :: l) := by
  obtain ⟨h2, h3⟩ := Split.rest h.pair
  exact ⟨allM l, fun x hx => h3.sub hx, (h2.perm (List.Perm.swap _ _ _)).unpair h.dj, fun m' a' b' h4 => Split.under (a := [a', b']) h4 h3⟩
/-- a crash of one file -/
theorem crash_lg (name : ByteArray) (pr : Bool) (l : List Nat) (sf : Nat) (last : List Int) : crashA (lgA name pr l sf) last = lgA name pr (l.take (sf + lastN ⟨name, l, sf⟩ (last.getD 0 0))) (sf + lastN ⟨name, l, sf⟩ (last.getD 0 0)) := by
  cases pr with
  | false => rfl
  | true =>
    simp only [lgA, if_true, crashA, List.map_cons, List.map_nil, srtB_one, List.length_cons, List.length_nil, crashTo, crash1]
    simp
theorem whole16 : Fr.whole [[97, 98], [99]] 11 = (1, 8) := by decide +kernel
abbrev nmL : ByteArray := ⟨#[108, 111, 103, 45, 49]⟩
theorem nmL_ok : nameOk (chs nmL) = true := by decide +kernel
theorem al16_1 : appA (lgA nmL false (toN (Fr.cat (([] : List (List Int)).take (Fr.whole [] 0).1))) (Fr.cat (([] : List (List Int)).take (Fr.whole [] 0).1)).length) nmL (toN (Fr.wr [97, 98])) = lgA nmL true (toN (Fr.cat [[97, 98]])) 0 := by
  simp [appA, lgA, Fr.cat]
theorem al16_2 : syncA (lgA nmL true (toN (Fr.cat [[97, 98]])) 0) nmL = lgA nmL true (toN (Fr.cat [[97, 98]])) 8 := by
  have h : (Fr.wr [97, 98]).length = 8 := by decide +kernel
  simp [syncA, lgA, toN_len, Fr.cat, h]
theorem al16_3 : appA (lgA nmL true (toN (Fr.cat [[97, 98]])) 8) nmL (toN (Fr.wr [99])) = lgA nmL true (toN (Fr.cat [[97, 98], [99]])) 8 := by
  simp [appA, lgA, Fr.cat, toN_append]
theorem al16_4 : crashA (lgA nmL true (toN (Fr.cat [[97, 98], [99]])) 8) [3] = lgA nmL true (toN ((Fr.cat [[97, 98], [99]]).take 11)) 11 := by
  have h : (Fr.cat [[97, 98], [99]]).length = 15 := by decide +kernel
  have e : lastN ⟨nmL, toN (Fr.cat [[97, 98], [99]]), 8⟩ (([3] : List Int).getD 0 0) = 3 := by
    simp only [lastN, toN_len, h]; decide
  rw [crash_lg, e, toN_take]
theorem al16_5 : totA (lgA nmL true (toN (Fr.cat ([[97, 98], [99]].take (Fr.whole [[97, 98], [99]] 11).1))) (Fr.cat ([[97, 98], [99]].take (Fr.whole [[97, 98], [99]] 11).1)).length) = 8 := by decide +kernel
set_option maxHeartbeats 8000000 in
theorem alive16_spec {m : Mem} : Spec Try.prog 6 [] m fun r m' => r = [boolV true] ∧ Sub m m' := by
  refine en6 rfl (goY ?_)
  conv => whnf
  refine xcall (new_spec (q := 0) (by decide)) ?_
  rintro _ m0 ⟨bf, p, rfl, hs, h⟩
  conv => whnf
  refine ⟨fun h => absurd h (by decide), fun _ => ?_⟩
  conv => whnf
  refine ⟨fun h => absurd h (by decide), fun _ => ?_⟩
  conv => whnf
  refine xcall (open_spec (K := 0) (pr := false) (sf := 0) (R := []) (name := nmL) h hs nmL_ok (by decide) (by simp) (by simp) (by simp) (by simp [Fr.cat]) (by decide) (by decide)) ?_
  rintro _ m1 ⟨bl, v0, ps0, pv0, p, ns', rfl, hs, hv0, hp0, h, hns⟩
  conv => whnf
  obtain rfl : ps0 = [] := by
    have := congrArg List.length hp0
    simpa using this
  obtain ⟨av0, cv0, rfl⟩ := hv0.shape
  rw [show (Fr.whole [] 0).1 = 0 from rfl] at hs
  refine .mk _ (build2) ?_
  rintro _ _ ⟨b1, hb1, rfl, rfl⟩
  conv => whnf
  have hs := hs.new hb1 (.cells (bc [97, 98]).toArray 5)
  refine .mk _ (conv_spec (l := [97, 98]) (Mem.set_same ..)) ?_
  rintro _ _ ⟨rfl, rfl⟩
  conv => whnf
  have hs := hs.setAt (i := 0) rfl (blk1_same ..) (.cells (bc [97, 98]).toArray 5 ((bc [97, 98]).toArray.size, (bc [97, 98]).toArray.size + 1))
  have hs := (hs.pick (i := 3) rfl).pick (i := 2) rfl
  obtain ⟨q1, hq1, hs, back⟩ := Split.pick2 hs
  refine xcall (lapp_ok (lb := [97, 98]) hs h (lg_sm (by decide) (by decide) (by omega)) ((Lb.blkf (Mem.set_same ..) rfl).la) (by decide) (by decide) (by decide) nmL_ok (by decide) (by decide)) ?_
  rintro _ m2 ⟨p, rfl, hs, h⟩
  conv => whnf
  rw [al16_1] at h
  have hmq : Sub m q1 := hq1 m (by simp)
  clear hq1 back
  refine xcall (lsync_spec hs h (lg_sm (by decide +kernel) (by decide +kernel) (by omega))) ?_
  rintro _ m3 ⟨p, ns2, rfl, hs, h, hns2⟩
  conv => whnf
  rw [al16_2] at h
  refine .mk _ (build1) ?_
  rintro _ _ ⟨b2, hb2, rfl, rfl⟩
  conv => whnf
  have hs := hs.new hb2 (.cells (bc [99]).toArray 5)
  refine .mk _ (conv_spec (l := [99]) (Mem.set_same ..)) ?_
  rintro _ _ ⟨rfl, rfl⟩
  conv => whnf
  have hs := hs.setAt (i := 0) rfl (blk1_same ..) (.cells (bc [99]).toArray 5 ((bc [99]).toArray.size, (bc [99]).toArray.size + 1))
  have hs := (hs.pick (i := 2) rfl).pick (i := 2) rfl
  obtain ⟨q2, hq2, hs, back⟩ := Split.pick2 hs
  refine xcall (lapp_ok (lb := [99]) hs h (lg_sm (by decide +kernel) (by decide +kernel) (by omega)) ((Lb.blkf (Mem.set_same ..) rfl).la) (by decide) (by decide) (by decide) nmL_ok (by decide) (by decide)) ?_
  rintro _ m4 ⟨p, rfl, hs, h⟩
  conv => whnf
  rw [al16_3] at h
  have hmq : Sub m q2 := hmq.trans (hq2 q1 (by simp))
  clear hq2 back
  have hbl := hs.sub (a := blk1 bl (logO bf nmL 2 1)) (by simp) _ _ (blk1_same ..)
  first | refine xretk (lsure_spec hbl) ?_ | refine xret (lsure_spec hbl) ?_
  conv => whnf
  first | refine xretk (lall_spec hbl) ?_ | refine xret (lall_spec hbl) ?_
  conv => whnf
  refine .mk _ (buildI1) ?_
  rintro _ _ ⟨b3, hb3, rfl, rfl⟩
  conv => whnf
  have hs := hs.new hb3 (.cells #[.int .i64 3] 3)
  have hs := hs.pick (i := 2) rfl
  obtain ⟨q3, hq3, hs, back⟩ := Split.pick1 hs
  refine xcall (crash_A (last := [3]) h hs (lg_sm (by decide +kernel) (by decide +kernel) (by omega)) ((Io.blk (l := [3]) (blk1_same ..) rfl).il.ia.sub (hq3 (blk1 b3 (.cells #[.int .i64 3] 3)) (by simp))) (by decide) (by decide)) ?_
  rintro _ m5 ⟨p, rfl, hs, h⟩
  conv => whnf
  rw [al16_4] at h
  have hmq : Sub m q3 := hmq.trans (hq3 q2 (by simp))
  clear hq3 back
  refine xcall (open_spec (K := 11) (pr := true) (sf := 11) (R := [[97, 98], [99]]) (name := nmL) h hs nmL_ok (by decide) (by decide) (by simp) (by decide +kernel) (by decide +kernel) (by decide +kernel) (by omega)) ?_
  rintro _ m6 ⟨bl2, v1, ps1, pv1, p, ns3, rfl, hs, hv1, hp1, h, hns3⟩
  conv => whnf
  have hu := al16_5
  rw [whole16] at hs hp1 h hu
  simp only at hs hp1 h hu
  obtain ⟨x1, rfl⟩ : ∃ x1, ps1 = [(x1, [97, 98])] := by
    match ps1, hp1 with
    | [(x1, l1)], hp1 => simp at hp1; exact ⟨x1, by rw [hp1]⟩
    | [], hp1 => simp at hp1
    | _ :: _ :: _, hp1 => simp at hp1
  refine xcall (open_nil) ?_
  rintro _ m7 ⟨rfl, hs6⟩
  conv => whnf
  have hs := (Split.grow hs hs6).pick (i := 2) rfl
  obtain ⟨q4, hq4, hs, back⟩ := Split.pick1 hs
  have hmq : Sub m q4 := hmq.trans (hq4 q3 (by simp))
  have hpv : Sub pv1 q4 := hq4 pv1 (by simp)
  have hb2q : q4 bl2 = some (logO bf nmL 1 1) := hq4 (blk1 bl2 (logO bf nmL 1 1)) (by simp) _ _ (blk1_same ..)
  clear hq4 back
  have hsm4 : Sm 100 (lgA nmL true (toN (Fr.cat (List.take 1 [[97, 98], [99]]))) (Fr.cat (List.take 1 [[97, 98], [99]])).length) (0 + (Fr.wr [97, 98]).length + (Fr.wr [99]).length) ns3 := lg_sm (by decide +kernel) (by decide +kernel) (by omega)
  refine xcall (open_bad (name := ⟨#[]⟩) h hs hsm4 (by decide +kernel) (by decide) (by decide) (by decide +kernel)) ?_
  rintro _ m8 ⟨p, rfl, hs, h⟩
  conv => whnf
  have hq8 : Sub q4 m8 := hs.sub (by simp)
  have hbl8 := hq8 _ _ hb2q
  have hl8 := hv1.sub (hpv.trans hq8)
  obtain ⟨bv, ov, cv, rfl, hg⟩ := hl8.real (i := 0) (by simp)
  have hx1 : La m8 x1 [97, 98] := hl8.la _ (List.mem_singleton.2 rfl)
  obtain ⟨bx, ox, cx, rfl⟩ := (hx1.lb (by simp)).real (by simp)
  have hg0 := hg 0 (by simp)
  refine ⟨fun _ => ?_, fun h => absurd h (by decide)⟩
  conv => whnf
  refine ⟨fun _ => ?_, fun h => absurd h (by decide)⟩
  conv => whnf
  refine ⟨fun _ => ?_, fun h => absurd h (by decide)⟩
  conv => whnf
  refine ⟨fun _ => ?_, fun h => absurd h (by decide)⟩
  conv => whnf
  refine ⟨fun _ => ?_, fun h => absurd h (by decide)⟩
  conv => whnf
  refine ⟨fun _ => ?_, fun h => absurd h (by decide)⟩
  conv => whnf
  refine ⟨fun _ => ?_, fun h => absurd h (by decide)⟩
  conv => whnf
  refine ⟨fun _ => ?_, fun h => absurd h (by (simp at h))⟩
  conv => whnf
  repeat (refine And.intro (by first | omega | (simp only [times, List.length_singleton]; omega)) ?_; conv => whnf)
  refine ⟨_, hg0, rfl, ?_⟩
  conv => whnf
  refine .inr ⟨[97, 98], rfl, _, _, rfl, (hx1.lb (by simp)).range, ?_⟩
  conv => whnf
  refine ⟨fun _ => ?_, fun h => absurd h (by rw [strOf_list, ByteArray.toList_eq]; decide)⟩
  conv => whnf
  first | refine xretk (lall_spec hbl8) ?_ | refine xret (lall_spec hbl8) ?_
  conv => whnf
  refine ⟨fun _ => ?_, fun h => absurd h (by decide)⟩
  conv => whnf
  first | refine xretk (lsure_spec hbl8) ?_ | refine xret (lsure_spec hbl8) ?_
  conv => whnf
  refine ⟨fun _ => ?_, fun h => absurd h (by decide)⟩
  conv => whnf
  first | refine xretk (lname_spec hbl8) ?_ | refine xret (lname_spec hbl8) ?_
  conv => whnf
  refine ⟨fun _ => ?_, fun h => absurd h (by (rw [ByteArray.toList_eq]; decide))⟩
  conv => whnf
  refine xcall (used_A (h.grow (hs.sub (by simp))) hsm4) ?_
  rintro _ m9 ⟨rfl, hu9⟩
  conv => whnf
  refine ⟨fun _ => ?_, fun h => absurd h (by (rw [hu]; decide))⟩
  conv => whnf
  refine ⟨fun _ => ?_, fun h => absurd h (by decide)⟩
  conv => whnf
  exact ⟨rfl, (hmq.trans hq8).trans hu9⟩
end Go.E.Ytcjmmhamnglmkaa

/-
  Law LogBegins, from the record behind the crash on.
-/
namespace Go.E.Ytcjmmhamnglmkaa
open Go.Proofs
set_option maxRecDepth 100000
theorem nmA_ok : nameOk (chs nmA) = true := by decide +kernel
theorem lg_app {pr : Bool} {R : List (List Int)} {b : List Int} {s : Nat} (hp : pr = false → R = []) (hs : s ≤ R.length) : appA (lgA nmA pr (toN (Fr.cat R)) (Fr.cat (R.take s)).length) nmA (toN (Fr.wr b)) = lgA nmA true (toN (Fr.cat (R ++ [b]))) (Fr.cat ((R ++ [b]).take s)).length := by
  cases pr with
  | false =>
    obtain rfl := hp rfl
    obtain rfl : s = 0 := by simpa using hs
    simp [lgA, appA, Fr.cat]
  | true =>
    rw [List.take_append_of_le_length hs]
    simp [lgA, appA, Fr.cat, toN_append]
theorem lg_sync {pr : Bool} {R : List (List Int)} {sf : Nat} : syncA (lgA nmA pr (toN (Fr.cat R)) sf) nmA = lgA nmA pr (toN (Fr.cat R)) (Fr.cat (R.take R.length)).length := by
  rw [List.take_length]
  cases pr with
  | false => rfl
  | true => simp [lgA, syncA, toN_len]
theorem Lists.pre {m : Mem} {a : Option Addr} {n c i c' : Nat} {ps : List (Value × List Int)} (h : Lists m (.slice a n c) ps) (hi : i ≤ n) (hc : i ≤ c') (hz : a = none → c' = c' ) : Lists m (.slice a i c') (ps.take i) := by
  refine ⟨?_, fun p hp => h.la p (List.mem_of_mem_take hp)⟩
  rcases h.lies with ⟨c2, e, e2⟩ | ⟨b', o2, c2, n', arr, t, fr, e, g1, g2, g3, g4, g5⟩
  · injection e with e1 e3 e4
    subst e1 e3
    obtain rfl : i = 0 := by omega
    exact .inl ⟨c', rfl, by simp⟩
  · cases e
    rw [List.length_map, Nat.mul_one] at g2
    refine .inr ⟨b', o2, c', i, arr, t, fr, rfl, g1, by rw [List.length_map, List.length_take]; omega, hc, fun j u hu => g4 j u ?_, fun u hu => g5 u ?_⟩
    · rw [List.map_take, List.getElem?_take] at hu
      split at hu
      · exact hu
      · cases hu
    · rw [List.map_take] at hu; exact List.mem_of_mem_take hu
/-- pieces that are records -/
structure Recs (R : List (List Int)) : Prop where
  isr : ∀ r ∈ R, Fr.isRec r.length = true ∧ Byt r
  cat : (Fr.cat R).length ≤ 30000
theorem recs_ne {r : List Int} (h : Fr.isRec r.length = true) : r ≠ [] := by
  intro e; rw [e] at h; simp [Fr.isRec] at h
set_option maxHeartbeats 8000000 in
theorem begins_tail2 {m mm p pv : Mem} {bl bf nb ns : Nat} {pr : Bool} {R : List (List Int)} {vr vm : Value} {ps : List (Value × List Int)} {more : List Int} (hs : Split mm [blk1 bl (logO bf nmA R.length R.length), p, pv, m]) (h : FA p bf 0 nb ns (lgA nmA pr (toN (Fr.cat R)) (Fr.cat R).length)) (hp : pr = false → R = []) (hR : Recs R) (hl : R.length ≤ 1000)
    (hv : Lists pv vr ps) (hps : ps.map (·.2) = R) (hm : La m vm more) (hmb : Byt more) (hml : lopSm more.length) (hnb : nb ≤ 30000) (hns : ns ≤ 80) :
    xwpY c3 (restAt 27 (bodyOf Try.f3)) (QRetY tt.get Try.f3.results.toList fun r m' => r = [boolV true] ∧ Sub m m')
      [(2, .c (.v vm)), (7, .c (ptrB bf)), (17, .c (ptrB bl)), (18, .c (.v vr))] [] mm [] := by
  have hpl : ps.length = R.length := by rw [← hps, List.length_map]
  have hsm : Sm 100 (lgA nmA pr (toN (Fr.cat R)) (Fr.cat R).length) nb ns := lg_sm (by rw [toN_len]; have := hR.cat; omega) (by omega) (by omega)
  have hcat := hR.cat
  obtain ⟨ar, cr, rfl⟩ := hv.shape
  obtain ⟨am, cm, rfl⟩ := hm.shape
  obtain ⟨q1, hq1, hs, back⟩ := Split.pick2 hs
  have hmq : Sub m q1 := hq1 m (by simp)
  have hpq : Sub pv q1 := hq1 pv (by simp)
  have hbl := hs.sub (a := blk1 bl (logO bf nmA R.length R.length)) (by simp) _ _ (blk1_same ..)
  have hmm : La mm (.slice am more.length cm) more := hm.sub (hmq.trans (hs.sub (by simp)))
  conv => whnf
  refine .at ?_
  conv => whnf
  cases hr : Fr.isRec more.length with
  | false =>
    first | refine xretk (lapp_bad hbl hmm hr) ?_ | refine xret (lapp_bad hbl hmm hr) ?_
    conv => whnf
    have hwh := Fr.whole_all (l := R) (k := (Fr.cat R).length) (Nat.le_refl _)
    refine xcall (open_spec (K := (Fr.cat R).length) (R := R) (pr := pr) (sf := (Fr.cat R).length) (name := nmA) (by rw [List.take_length]; exact h) (hs.drop) nmA_ok (by decide) hR.isr hp (Nat.le_refl _) (by omega) (by omega) (by omega)) ?_
    rintro _ m2 ⟨bl2, v2, ps2, pv2, p2, ns2, rfl, hs2, hv2, hp2, h2, hn2⟩
    conv => whnf
    rw [hwh] at hp2
    simp only [List.take_length] at hp2
    have hpl2 : ps2.length = R.length := by rw [← hp2, List.length_map]
    obtain ⟨a2, c2, rfl⟩ := hv2.shape
    have hmq2 := hmq.trans (hs2.sub (a := q1) (by simp))
    refine xcall (alive16_spec) ?_
    rintro _ m3 ⟨rfl, hs3⟩
    conv => whnf
    refine ⟨fun _ => ?_, fun h => absurd h (by decide)⟩
    conv => whnf
    refine ⟨fun _ => ?_, fun h => absurd h (by decide)⟩
    conv => whnf
    refine ⟨fun _ => ?_, fun h => absurd h (by decide)⟩
    conv => whnf
    rw [hpl2, hpl]
    refine ⟨fun _ => ?_, fun h => absurd h (by (simp at h))⟩
    conv => whnf
    exact ⟨rfl, hmq2.trans hs3⟩
  | true =>
    have hml : more.length ≤ 500 := by
      have : 1 ≤ more.length ∧ more.length ≤ 20000 := by simpa [Fr.isRec] using hr
      rcases hml with h | h <;> omega
    have hw := wr_len (l := more) (by omega)
    refine xcall (lapp_ok (lb := more) hs h hsm hmm hmb hr (by omega) nmA_ok (by decide) (by omega)) ?_
    rintro _ m2 ⟨p2, rfl, hs2, h2⟩
    conv => whnf
    have e1 := lg_app (s := R.length) (b := more) hp (Nat.le_refl _)
    rw [List.take_length] at e1
    rw [e1] at h2
    have hR2 : ∀ r ∈ R ++ [more], Fr.isRec r.length = true ∧ Byt r := fun r hr' => by
      rcases List.mem_append.1 hr' with h | h
      · exact hR.isr r h
      · rw [List.mem_singleton.1 h]; exact ⟨hr, hmb⟩
    have hc2 : (Fr.cat (R ++ [more])).length = (Fr.cat R).length + (Fr.wr more).length := by simp [Fr.cat]
    have hwh := Fr.whole_all (l := R ++ [more]) (k := (Fr.cat (R ++ [more])).length) (Nat.le_refl _)
    refine xcall (open_spec (K := (Fr.cat (R ++ [more])).length) (R := R ++ [more]) (pr := true) (sf := (Fr.cat ((R ++ [more]).take R.length)).length) (name := nmA) (by rw [List.take_length]; exact h2) (hs2.drop) nmA_ok (by decide) hR2 (by simp) (Nat.le_refl _) (by omega) (by omega) (by omega)) ?_
    rintro _ m3 ⟨bl2, v2, ps2, pv2, p3, ns2, rfl, hs3, hv2, hp2, h3, hn2⟩
    conv => whnf
    rw [hwh] at hp2
    simp only [List.take_length] at hp2
    have hpl2 : ps2.length = R.length + 1 := by
      have := congrArg List.length hp2
      simpa using this
    have hmq2 := hmq.trans (hs3.sub (a := q1) (by simp))
    refine xcall (alive16_spec) ?_
    rintro _ m4 ⟨rfl, hs4⟩
    conv => whnf
    have hv4 := (hv2.sub (hs3.sub (a := pv2) (by simp))).sub hs4
    have hm4 := hm.sub (hmq2.trans hs4)
    obtain ⟨b2, o2, c2, rfl, hg⟩ := hv4.real (i := R.length) (by omega)
    have hg := hg R.length (by omega)
    have hla := hv4.la _ (List.getElem_mem (by omega : R.length < ps2.length))
    have hle : ps2[R.length].2 = more := by
      have h5 : (ps2.map (·.2))[R.length]? = some more := by rw [hp2]; simp
      rw [List.getElem?_map, List.getElem?_eq_getElem (by omega)] at h5
      simpa using h5
    generalize ps2[R.length] = x at hg hla hle
    obtain ⟨xv, xl⟩ := x
    simp only at hg hla hle
    subst hle
    have hxb := hla.lb (recs_ne hr)
    have hmb4 := hm4.lb (recs_ne hr)
    obtain ⟨bx, ox, cx, rfl⟩ := hxb.real (recs_ne hr)
    obtain ⟨bm, om, cm', e⟩ := hmb4.real (recs_ne hr)
    injection e with e1 _ _
    subst e1
    have ew : IntKind.i64.wrap ((R.length : Int) + 1) = ((R.length + 1 : Nat) : Int) := iadd' (by omega)
    have ew2 : IntKind.i64.wrap (((R.length + 1 : Nat) : Int) - 1) = (R.length : Int) := by rw [wi (by omega) (by omega)]; omega
    rw [hpl2]
    refine ⟨fun _ => ?_, fun h => absurd h (by decide)⟩
    conv => whnf
    refine ⟨fun _ => ?_, fun h => absurd h (by decide)⟩
    conv => whnf
    refine ⟨fun h => absurd h (by decide), fun _ => ?_⟩
    conv => whnf
    refine ⟨fun _ => ?_, fun h => absurd h (by decide)⟩
    conv => whnf
    rw [hpl]
    refine ⟨fun _ => ?_, fun h => absurd h (by (rw [ew] at h; simp at h))⟩
    conv => whnf
    refine ⟨fun _ => ?_, fun h => absurd h (by (simp at h))⟩
    conv => whnf
    rw [ew2]
    repeat (refine And.intro (by first | omega | (simp only [times]; omega)) ?_; conv => whnf)
    refine ⟨_, by simp only [times, Int.toNat_natCast, Nat.mul_one]; exact hg, rfl, ?_⟩
    conv => whnf
    refine .inr ⟨xl, rfl, _, _, rfl, hxb.range, ?_⟩
    conv => whnf
    refine .inr ⟨xl, rfl, _, _, rfl, hmb4.range, ?_⟩
    conv => whnf
    rw [show ((strOf xl).toList == (strOf xl).toList) = true from beq_self_eq_true _]
    exact ⟨rfl, hmq2.trans hs4⟩
end Go.E.Ytcjmmhamnglmkaa

/-
  Law LogBegins, from the crash on.
-/
namespace Go.E.Ytcjmmhamnglmkaa
open Go.Proofs
set_option maxRecDepth 100000
/-- less of one part -/
theorem Split.less {mm m q : Mem} {l : List Mem} (h : Split mm (q :: l)) (hs : Sub m q) : Split mm (m :: l) := by
  obtain ⟨h1, h2⟩ := h
  obtain ⟨h3, h4⟩ := List.pairwise_cons.1 h2
  have hd : (m :: l).Pairwise Dj := List.pairwise_cons.2 ⟨fun a ha x => by
    rcases h3 a ha x with h5 | h5
    · cases e : m x with
      | none => exact .inl rfl
      | some o => have := hs _ _ e; rw [h5] at this; cases this
    · exact .inr h5, h4⟩
  refine ⟨fun x o hx => ?_, hd⟩
  obtain ⟨a, ha, hax⟩ := allM_some hx
  refine h1 _ _ ?_
  rcases List.mem_cons.1 ha with rfl | ha
  · exact allM_of h2 (by simp) (hs _ _ hax)
  · exact allM_of h2 (by simp [ha]) hax
theorem lists_lb {m : Mem} {v : Value} {ps : List (Value × List Int)} (h : Lists m v ps) (hr : ∀ r ∈ ps.map (·.2), Fr.isRec r.length = true) : ∀ p ∈ ps, Lb m p.1 p.2 := fun p hp => (h.la p hp).lb (recs_ne (hr _ (List.mem_map.2 ⟨p, hp, rfl⟩)))
set_option maxHeartbeats 8000000 in
theorem begins_tail1 {m mm p pa : Mem} {bl bf nb ns s : Nat} {pr : Bool} {ts : List (Value × List Int)} {va vm : Value} {more : List Int} {lv : Int} (hs : Split mm [blk1 bl (logO bf nmA ts.length s), p, pa, m]) (h : FA p bf 0 nb ns (lgA nmA pr (toN (Fr.cat (ts.map (·.2)))) (Fr.cat ((ts.map (·.2)).take s)).length)) (hp : pr = false → ts.map (·.2) = []) (hT : Told m 40 ts) (hsl : s ≤ ts.length)
    (hv : Own pa 23 1 va (ts.map (·.1))) (hm : La m vm more) (hmb : Byt more) (hml : lopSm more.length) (hnb : nb ≤ 26000) (hns : ns ≤ 60) (hlv : -9223372036854775808 ≤ lv ∧ lv ≤ 9223372036854775807) :
    xwpY c3 (restAt 19 (bodyOf Try.f3)) (QRetY tt.get Try.f3.results.toList fun r m' => r = [boolV true] ∧ Sub m m')
      [(1, .c (i64 lv)), (2, .c (.v vm)), (7, .c (ptrB bf)), (9, .c (ptrB bl)), (12, .c (.v va))] [] mm [] := by
  have hcl := hT.catlen
  have hTl := hT.len
  have hRl : (ts.map (·.2)).length = ts.length := List.length_map _
  have hR : ∀ r ∈ ts.map (·.2), Fr.isRec r.length = true ∧ Byt r := fun r hr => by
    obtain ⟨q, hq, rfl⟩ := List.mem_map.1 hr
    exact ⟨hT.isr q hq, hT.byt q hq⟩
  have hby : Byt (Fr.cat (ts.map (·.2))) := Fr.cat_byt fun r hr => (hR r hr).2
  have hva : Lists pa va ts → True := fun _ => trivial
  obtain ⟨q1, hq1, hs, back⟩ := Split.pick2 hs
  have hmq : Sub m q1 := hq1 m (by simp)
  have hall : Lists q1 va ts := Lists.own hv (hq1 pa (by simp)) fun q hq => (hT.la q hq).sub hmq
  generalize hRR : ts.map (·.2) = R at *
  have hsm : Sm 100 (lgA nmA pr (toN (Fr.cat R)) (Fr.cat (R.take s)).length) nb ns := lg_sm (by rw [toN_len]; omega) (by omega) (by omega)
  have hbl := hs.sub (a := blk1 bl (logO bf nmA ts.length s)) (by simp) _ _ (blk1_same ..)
  obtain ⟨aa, ca, rfl⟩ := hall.shape
  conv => whnf
  refine .at ?_
  conv => whnf
  first | refine xretk (lsure_spec hbl) ?_ | refine xret (lsure_spec hbl) ?_
  conv => whnf
  refine .mk _ (buildI1) ?_
  rintro _ _ ⟨b3, hb3, rfl, rfl⟩
  conv => whnf
  have hs := hs.new hb3 (.cells #[.int .i64 lv] 3)
  have hs := hs.pick (i := 2) rfl
  obtain ⟨q3, hq3, hs, back⟩ := Split.pick1 hs
  refine xcall (crash_A (last := [lv]) h hs hsm ((Io.blk (l := [lv]) (blk1_same ..) rfl).il.ia.sub (hq3 (blk1 b3 (.cells #[.int .i64 lv] 3)) (by simp))) (by simp) (by simpa using hlv)) ?_
  rintro _ m5 ⟨p, rfl, hs, h⟩
  conv => whnf
  have hq1q : Sub q1 q3 := hq3 q1 (by simp)
  clear hq3 back
  have hsf : (Fr.cat (R.take s)).length ≤ (Fr.cat R).length := by
    have e : Fr.cat R = Fr.cat (R.take s) ++ Fr.cat (R.drop s) := by rw [← Fr.cat_append, List.take_append_drop]
    rw [e, List.length_append]; omega
  obtain ⟨K, hK1, hK2, hA⟩ : ∃ K, K ≤ (Fr.cat R).length ∧ (Fr.cat (R.take s)).length ≤ K ∧ crashA (lgA nmA pr (toN (Fr.cat R)) (Fr.cat (R.take s)).length) [lv] = lgA nmA pr (toN ((Fr.cat R).take K)) K := by
    refine ⟨_, ?_, ?_, by rw [crash_lg, toN_take]⟩
    · simp only [lastN, toN_len]; omega
    · omega
  rw [hA] at h
  have hw1 := Fr.whole_le (l := R) (k := K)
  have hw2 := Fr.whole_ge (l := R) (k := K) (s := s) (by omega) hK2
  refine xcall (open_spec (K := K) (R := R) (pr := pr) (sf := K) (name := nmA) h hs nmA_ok (by decide) hR hp hK1 (by omega) (by omega) (by omega)) ?_
  rintro _ m6 ⟨bl2, v2, ps2, pv2, p2, ns2, rfl, hs, hv2, hp2, h, hn2⟩
  conv => whnf
  generalize (Fr.whole R K).1 = w at *
  have hpl2 : ps2.length = w := by
    have := congrArg List.length hp2
    rw [List.length_map, List.length_take] at this
    omega
  obtain ⟨a2, c2, rfl⟩ := hv2.shape
  have hq6 : Sub q1 m6 := hq1q.trans (hs.sub (by simp))
  have hall6 := hall.sub hq6
  have hv6 := hv2.sub (hs.sub (a := pv2) (by simp))
  refine ⟨fun h => absurd h (by decide), fun _ => ?_⟩
  conv => whnf
  refine ⟨fun h => absurd h (by decide), fun _ => ?_⟩
  conv => whnf
  rw [hpl2]
  refine ⟨fun h => absurd h (by (have := of_decide_eq_true h; omega)), fun _ => ?_⟩
  conv => whnf
  refine ⟨fun h => absurd h (by (have := of_decide_eq_true h; omega)), fun _ => ?_⟩
  conv => whnf
  have htk : (ts.take w).map (·.2) = R.take w := by rw [List.map_take, hRR]
  have hRw : ∀ r ∈ R.take w, Fr.isRec r.length = true ∧ Byt r := fun r hr => hR r (List.mem_of_mem_take hr)
  have hcw : (Fr.cat (R.take w)).length ≤ (Fr.cat R).length := by
    have e : Fr.cat R = Fr.cat (R.take w) ++ Fr.cat (R.drop w) := by rw [← Fr.cat_append, List.take_append_drop]
    rw [e, List.length_append]; omega
  have hpw : pr = false → R.take w = [] := fun e => by rw [hp e]; simp
  have hwl : (R.take w).length = w := by rw [List.length_take]; omega
  have hbp2 : ∀ p ∈ ps2, Byt p.2 := fun q hq => (hRw q.2 (by rw [← hp2]; exact List.mem_map.2 ⟨q, hq, rfl⟩)).2
  have hlp2 : ∀ {mx}, Lists mx (.slice a2 ps2.length c2) ps2 → ∀ p ∈ ps2, Lb mx p.1 p.2 := fun hL => lists_lb hL (by rw [hp2]; exact fun r hr => (hRw r hr).1)
  have hwhole := Fr.whole_all (l := R.take w) (k := (Fr.cat (R.take w)).length) (Nat.le_refl _)
  rw [hwl] at hwhole
  rw [hpl2] at hv2 hv6
  have fin : ∀ {vv : Value}, Lists m6 vv (ts.take w) → Ret Try.prog 12 [.v (.slice a2 w c2), .v vv] m6 [boolV true] := fun {vv} hvv => by
    have h1 := same16_spec hv6 hvv hbp2 (fun q hq => hT.byt q (List.mem_of_mem_take hq)) (by omega) (hlp2 (by rw [hpl2]; exact hv6)) (lists_lb hvv (by rw [htk]; exact fun r hr => (hRw r hr).1))
    rw [decide_eq_true (by rw [htk, hp2])] at h1
    exact h1
  have hsA := hs.pick (i := 2) rfl
  obtain ⟨q4, hq4, hsA, back⟩ := Split.pick1 hsA
  have hpv4 : Sub pv2 q4 := hq4 pv2 (by simp)
  have op2 := fun hx => open_spec (K := (Fr.cat (R.take w)).length) (R := R.take w) (pr := pr) (sf := (Fr.cat (R.take w)).length) (name := nmA) (nb := nb) (ns := ns2) (bf := bf) hx hsA nmA_ok (by decide) hRw hpw (Nat.le_refl _) (by omega) (by omega) (by omega)
  rw [List.take_length] at op2
  have op2 := op2 h
  simp only [hwhole, List.take_take, Nat.min_self] at op2
  have tl : ∀ {my p3 : Mem} {ns3 : Nat}, Split my [p3, blk1 bl2 (logO bf nmA w w), pv2, q3] → FA p3 bf 0 nb ns3 (lgA nmA pr (toN (Fr.cat (R.take w))) (Fr.cat (R.take w)).length) → ns3 ≤ ns2 + 1 → _ := fun {my p3 ns3} h1 h2 h3 => begins_tail2 (m := m) (mm := my) (bl := bl2) (R := R.take w) (ps := ps2) (pv := pv2) (p := p3) (vr := .slice a2 w c2) (vm := vm) (more := more) (by
      rw [hwl]
      have h4 := Split.less (h1.pick (i := 3) rfl) (hmq.trans hq1q)
      exact h4.perm (l' := [blk1 bl2 (logO bf nmA w w), p3, pv2, m]) (by
        refine (List.Perm.swap _ _ _).trans ?_
        refine (List.Perm.cons _ (List.Perm.swap _ _ _)).trans ?_
        refine (List.Perm.swap _ _ _).trans ?_
        refine List.Perm.cons _ (List.Perm.cons _ (List.Perm.swap _ _ _)))) h2 hpw ⟨hRw, by omega⟩ (by omega) hv2 hp2 hm hmb hml (by omega) (by omega)
  rcases hall6.lies with ⟨c', e, e0⟩ | ⟨b', o', c', n', arr, t, fr, e, g1, g2, g3, _⟩
  · injection e with e1 e2 e3
    subst e1
    have hw0 : w = 0 := by omega
    have hvv : Lists m6 (.slice none (w - 0) (ca - 0)) (ts.take w) := by
      rw [hw0]; exact ⟨.inl ⟨_, rfl, by simp⟩, by simp⟩
    conv => whnf
    repeat (refine And.intro (by first | omega | (simp only [times]; omega)) ?_; conv => whnf)
    first | refine xretk (fin hvv) ?_ | refine xret (fin hvv) ?_
    conv => whnf
    refine ⟨fun h => absurd h (by decide), fun _ => ?_⟩
    conv => whnf
    refine xcall (op2) ?_
    rintro _ m7 ⟨bl3, v3, ps3, pv3, p3, ns3, rfl, hs3, hv3, hp3, h3, hn3⟩
    conv => whnf
    refine ⟨fun h => absurd h (by decide), fun _ => ?_⟩
    conv => whnf
    have hv7 := hv2.sub (hpv4.trans (hs3.sub (a := q4) (by simp)))
    have hv37 := hv3.sub (hs3.sub (a := pv3) (by simp))
    have h1 := same16_spec hv7 hv37 hbp2 (fun q hq => (hRw q.2 (by rw [← hp3]; exact List.mem_map.2 ⟨q, hq, rfl⟩)).2) (by omega) (hlp2 (by rw [hpl2]; exact hv7)) (lists_lb hv37 (by rw [hp3]; exact fun r hr => (hRw r hr).1))
    rw [decide_eq_true (by rw [hp2, hp3])] at h1
    first | refine xretk (h1) ?_ | refine xret (h1) ?_
    conv => whnf
    refine ⟨fun h => absurd h (by decide), fun _ => ?_⟩
    conv => whnf
    have tl2 := tl (back _ _ hs3.drop.drop) h3 hn3
    conv at tl2 => whnf
    refine .via _ _ ?_ tl2
    conv => whnf
    repeat (refine And.intro (by first | with_reducible rfl | exact congrArg (Value.int _) (wi (by omega) (by omega)) | exact wi (by omega) (by omega) | rfl) ?_; conv => whnf)
    first | exact trivial | exact fun _ _ h => h
  · injection e with e1 e2 e3
    subst e1 e3
    have hvv : Lists m6 (.slice (some ⟨b', o', none⟩) w ca) (ts.take w) := hall6.pre (by omega) (by omega) fun _ => rfl
    conv => whnf
    repeat (refine And.intro (by first | omega | (simp only [times]; omega)) ?_; conv => whnf)
    intro o1 ho1 ho2
    obtain rfl : o1 = o' := by
      by_cases e : ca = 0
      · exact ho2 e
      · have := ho1 e; simpa using this
    conv => whnf
    first | refine xretk (fin hvv) ?_ | refine xret (fin hvv) ?_
    conv => whnf
    refine ⟨fun h => absurd h (by decide), fun _ => ?_⟩
    conv => whnf
    refine xcall (op2) ?_
    rintro _ m7 ⟨bl3, v3, ps3, pv3, p3, ns3, rfl, hs3, hv3, hp3, h3, hn3⟩
    conv => whnf
    refine ⟨fun h => absurd h (by decide), fun _ => ?_⟩
    conv => whnf
    have hv7 := hv2.sub (hpv4.trans (hs3.sub (a := q4) (by simp)))
    have hv37 := hv3.sub (hs3.sub (a := pv3) (by simp))
    have h1 := same16_spec hv7 hv37 hbp2 (fun q hq => (hRw q.2 (by rw [← hp3]; exact List.mem_map.2 ⟨q, hq, rfl⟩)).2) (by omega) (hlp2 (by rw [hpl2]; exact hv7)) (lists_lb hv37 (by rw [hp3]; exact fun r hr => (hRw r hr).1))
    rw [decide_eq_true (by rw [hp2, hp3])] at h1
    first | refine xretk (h1) ?_ | refine xret (h1) ?_
    conv => whnf
    refine ⟨fun h => absurd h (by decide), fun _ => ?_⟩
    conv => whnf
    have tl2 := tl (back _ _ hs3.drop.drop) h3 hn3
    conv at tl2 => whnf
    refine .via _ _ ?_ tl2
    conv => whnf
    repeat (refine And.intro (by first | with_reducible rfl | exact congrArg (Value.int _) (wi (by omega) (by omega)) | exact wi (by omega) (by omega) | rfl) ?_; conv => whnf)
    first | exact trivial | exact fun _ _ h => h
end Go.E.Ytcjmmhamnglmkaa

/-
  Law LogBegins, whole: the ops.
-/
namespace Go.E.Ytcjmmhamnglmkaa
open Go.Proofs
set_option maxRecDepth 100000
set_option maxHeartbeats 8000000 in
theorem logBegins_spec {m : Mem} {v vm : Value} {O : List Lop} {lv : Int} {more : List Int} (hv : Loa m v O) (hO : ∀ o ∈ O, o.Ok m) (hl : O.length ≤ 9223372036854775807) (hlv : -9223372036854775808 ≤ lv ∧ lv ≤ 9223372036854775807) (hm : La m vm more) (hmb : Byt more) :
    Spec Try.prog 3 [.v v, i64 lv, .v vm] m fun r m' => r = [boolV true] ∧ Sub m m' := by
  obtain ⟨a, c, rfl⟩ := hv.shape
  obtain ⟨am, cm, rfl⟩ := hm.shape
  refine en3 rfl (goY ?_)
  conv => whnf
  refine xcall (new_spec (q := 0) (by decide)) ?_
  rintro _ m0 ⟨bf, p, rfl, hs, h⟩
  conv => whnf
  refine ⟨fun h => absurd h (by decide), fun _ => ?_⟩
  conv => whnf
  refine ⟨fun h => absurd h (by decide), fun _ => ?_⟩
  conv => whnf
  have hsm0 : Sub m m0 := hs.sub (by simp)
  refine xcall (great16_spec (o := ⟨0, 0, am, cm, more⟩)) ?_
  rintro _ m0 ⟨g, rfl, rfl, hg⟩
  conv => whnf
  refine ⟨fun h1 => ?_, fun h1 => ?_⟩
  · conv => whnf
    refine ⟨fun _ => ?_, fun h => absurd h (by decide)⟩
    conv => whnf
    refine ⟨fun _ => ?_, fun h => absurd h (by decide)⟩
    conv => whnf
    refine xcall (alive16_spec) ?_
    rintro _ m2 ⟨rfl, hs2⟩
    conv => whnf
    exact ⟨rfl, hsm0.trans hs2⟩
  have hml := hg h1
  simp only at hml
  clear hg h1
  conv => whnf
  refine xcall (open_spec (K := 0) (pr := false) (sf := 0) (R := []) (name := nmA) h hs nmA_ok (by decide) (by simp) (by simp) (by simp) (by simp [Fr.cat]) (by decide) (by decide)) ?_
  rintro _ m1 ⟨bl, v0, ps0, pv0, p, ns', rfl, hs, hv0, hp0, h, hns⟩
  conv => whnf
  rw [show (Fr.whole [] 0).1 = 0 from rfl] at hs h
  refine ⟨fun h => absurd h (by decide), fun _ => ?_⟩
  conv => whnf
  refine ⟨fun h => absurd h (by decide), fun _ => ?_⟩
  conv => whnf
  have hsB : Split m1 [blk1 bl (logO bf nmA 0 0), p, emp, m] := by
    have h1 := (hs.erase 1).addEmp
    exact h1.perm (l' := [blk1 bl (logO bf nmA 0 0), p, emp, m]) (by
      show List.Perm [emp, blk1 bl (logO bf nmA 0 0), p, m] _
      refine (List.Perm.swap _ _ _).trans (List.Perm.cons _ ?_)
      exact List.Perm.swap _ _ _)
  refine .mk (ι := Nat × Value) (fun i => 40 - i.1) (fun ⟨i, va⟩ mm => i ≤ O.length ∧ i ≤ 40 ∧ ∃ (ts : List (Value × List Int)) (p pa : Mem) (s nb ns : Nat) (pr : Bool), Split mm [blk1 bl (logO bf nmA ts.length s), p, pa, m] ∧ FA p bf 0 nb ns (lgA nmA pr (toN (Fr.cat (ts.map (·.2)))) (Fr.cat ((ts.map (·.2)).take s)).length) ∧ (pr = false → ts.map (·.2) = []) ∧ Told m i ts ∧ s ≤ ts.length ∧ Own pa 23 1 va (ts.map (·.1)) ∧ nb ≤ 613 * i ∧ ns ≤ i + 1)
    (fun ⟨i, va⟩ => [(0, .c (.v (.slice a O.length c))), (1, .c (i64 lv)), (2, .c (.v (.slice am more.length cm))), (7, .c (ptrB bf)), (9, .c (ptrB bl)), (12, .c (.v va)), (13, .c (i64 i))]) (fun _ => []) (0, .slice none 0 0)
    ⟨by omega, by omega, [], p, emp, 0, 0, ns', false, hsB, h, fun _ => rfl, ⟨by simp, by simp, by simp, by simp, by simp⟩, by simp, .inl ⟨rfl, rfl⟩, by omega, by omega⟩ ?_ ?_
  · conv => whnf
    repeat (refine And.intro (by first | with_reducible rfl | exact congrArg (Value.int _) (wi (by omega) (by omega)) | exact wi (by omega) (by omega) | rfl) ?_; conv => whnf)
    first | exact trivial | exact fun _ _ h => h
  rintro ⟨i, va⟩ mm ⟨hi, hi40, ts, p, pa, s, nb, ns, pr, hs, h, hp, hT, hsl, hown, hnb, hns⟩
  have hTl := hT.len
  have hsm : Sub m mm := hs.sub (by simp)
  have fin := begins_tail1 (more := more) (lv := lv) (vm := .slice am more.length cm) hs h hp ⟨by omega, hT.la, hT.byt, hT.isr, hT.sm⟩ hsl hown hm hmb hml (by omega) (by omega) hlv
  conv => whnf
  refine ⟨fun h1 => ?_, fun h1 => ?_⟩
  rotate_left
  · have tl := fin
    conv at tl => whnf
    conv => whnf
    refine .via _ _ ?_ tl
    conv => whnf
    repeat (refine And.intro (by first | with_reducible rfl | exact congrArg (Value.int _) (wi (by omega) (by omega)) | exact wi (by omega) (by omega) | rfl) ?_; conv => whnf)
    first | exact trivial | exact fun _ _ h => h
  have hi1 : i < O.length := by have := of_decide_eq_true h1; omega
  clear h1
  conv => whnf
  refine ⟨fun h1 => ?_, fun h1 => ?_⟩
  rotate_left
  · have tl := fin
    conv at tl => whnf
    conv => whnf
    refine .via _ _ ?_ tl
    conv => whnf
    repeat (refine And.intro (by first | with_reducible rfl | exact congrArg (Value.int _) (wi (by omega) (by omega)) | exact wi (by omega) (by omega) | rfl) ?_; conv => whnf)
    first | exact trivial | exact fun _ _ h => h
  have hi2 : i < 40 := by have := of_decide_eq_true h1; omega
  clear h1 fin
  conv => whnf
  obtain ⟨b, o, c', e, hgo⟩ := hv.real hi1
  cases e
  have hgi := hgo i hi1
  have hoi := hO O[i] (List.getElem_mem hi1)
  generalize ho : O[i] = op at hgi hoi
  repeat (refine And.intro (by first | omega | (simp only [times]; omega)) ?_; conv => whnf)
  refine ⟨[.one (.int .i64 op.kind), .one (.int .i64 op.last), .one (.slice op.ab op.b.length op.cb)], ⟨rfl, rfl, rfl, trivial⟩, rfl, by simp only [times, Int.toNat_natCast]; exact hgi.sub hsm, ?_⟩
  conv => whnf
  refine xcall (great16_spec (o := op)) ?_
  rintro _ mm ⟨g, rfl, rfl, hg⟩
  conv => whnf
  refine ⟨fun h1 => ?_, fun h1 => ?_⟩
  · conv => whnf
    refine xcall (alive16_spec) ?_
    rintro _ m2 ⟨rfl, hs2⟩
    conv => whnf
    conv => whnf
    exact ⟨rfl, hsm.trans hs2⟩
  have hsmall := hg h1
  clear h1 hg
  conv => whnf
  have hgm := hgi.sub hsm
  have hTn : Told m (i + 1) ts := ⟨by omega, hT.la, hT.byt, hT.isr, hT.sm⟩
  have hRl : (ts.map (·.2)).length = ts.length := List.length_map _
  have hcl := hT.catlen
  have hSm : Sm 100 (lgA nmA pr (toN (Fr.cat (ts.map (·.2)))) (Fr.cat ((ts.map (·.2)).take s)).length) nb ns := lg_sm (by rw [toN_len]; omega) (by omega) (by omega)
  repeat (refine And.intro (by first | omega | (simp only [times]; omega)) ?_; conv => whnf)
  refine ⟨_, by simp only [times, Int.toNat_natCast]; exact mcell_rng (j := 0) hgm rfl, rfl, ?_⟩
  conv => whnf
  refine ⟨fun h1 => ?_, fun h1 => ?_⟩
  · have hk0 : op.kind = 0 := by simpa using h1
    clear h1
    have hN : ∀ {q : Prop}, (op.kind == 1) = true → q := fun h => by rw [hk0] at h; cases h
    conv => whnf
    repeat (refine And.intro (by first | omega | (simp only [times]; omega)) ?_; conv => whnf)
    refine ⟨_, by simp only [times, Int.toNat_natCast]; exact mcell_rng (j := 2) hgm rfl, rfl, ?_⟩
    conv => whnf
    cases hr : Fr.isRec op.b.length with
    | false =>
      have hbl := hs.sub (a := blk1 bl (logO bf nmA ts.length s)) (by simp) _ _ (blk1_same ..)
      first | refine xretk (lapp_bad hbl (hoi.b.sub hsm) hr) ?_ | refine xret (lapp_bad hbl (hoi.b.sub hsm) hr) ?_
      conv => whnf
      refine ⟨fun h => absurd h (by decide), fun _ => ?_⟩
      conv => whnf
      repeat (refine And.intro (by first | omega | (simp only [times]; omega)) ?_; conv => whnf)
      refine ⟨_, by simp only [times, Int.toNat_natCast]; exact mcell_rng (j := 0) hgm rfl, rfl, ?_⟩
      conv => whnf
      refine ⟨fun h => absurd h (by exact hN h), fun _ => ?_⟩
      conv => whnf
      refine ⟨(i + 1, va), ⟨by omega, by omega, ts, p, pa, s, nb, ns, pr, hs, h, hp, hTn, hsl, hown, by omega, by omega⟩, by first | omega | (simp only; omega), ?_⟩
      conv => whnf
      repeat (refine And.intro (by first | with_reducible rfl | (first | exact congrArg (Value.int _) (iadd' (by omega))) | exact congrArg (Value.int _) (wi (by omega) (by omega)) | exact wi (by omega) (by omega) | rfl) ?_; conv => whnf)
      first | exact trivial | exact fun _ _ h => h
    | true =>
      have hb5 : op.b.length ≤ 500 := by
        have : 1 ≤ op.b.length ∧ op.b.length ≤ 20000 := by simpa [Fr.isRec] using hr
        rcases hsmall with h | h <;> omega
      have hw := wr_len (l := op.b) (by omega)
      obtain ⟨q1, hq1, hs2, back⟩ := Split.pick2 hs
      refine xcall (lapp_ok (lb := op.b) hs2 h hSm (hoi.b.sub hsm) hoi.byt hr (by omega) nmA_ok (by decide) (by omega)) ?_
      rintro _ m2 ⟨p2, rfl, hs3, h2⟩
      conv => whnf
      rw [lg_app (s := s) (b := op.b) hp (by rw [hRl]; exact hsl)] at h2
      have hs3 : Split m2 [blk1 bl (logO bf nmA (ts.length + 1) s), p2, pa, m] := back _ _ _ hs3
      have hgm2 := hgi.sub (hs3.sub (a := m) (by simp))
      refine ⟨fun _ => ?_, fun h => absurd h (by decide)⟩
      conv => whnf
      repeat (refine And.intro (by first | omega | (simp only [times]; omega)) ?_; conv => whnf)
      refine ⟨_, by simp only [times, Int.toNat_natCast]; exact mcell_rng (j := 2) hgm2 rfl, rfl, ?_⟩
      conv => whnf
      refine .mk _ (buildL1) ?_
      rintro _ _ ⟨b6, hb6, rfl, rfl⟩
      conv => whnf
      have hs6 := hs3.new hb6 (.cells #[.slice op.ab op.b.length op.cb] 23)
      refine .mk _ (pushLat (i := 3) hs6 rfl (Mem.set_same ..) rfl hown (by rw [List.length_map]; omega)) ?_
      rintro _ m7 ⟨va', pa', rfl, hs7, hown'⟩
      conv => whnf
      have hs7 : Split m7 [blk1 b6 (.cells #[.slice op.ab op.b.length op.cb] 23), blk1 bl (logO bf nmA (ts.length + 1) s), p2, pa', m] := hs7
      have hs8 := hs7.drop
      have hgm7 := hgi.sub (hs8.sub (a := m) (by simp))
      repeat (refine And.intro (by first | omega | (simp only [times]; omega)) ?_; conv => whnf)
      refine ⟨_, by simp only [times, Int.toNat_natCast]; exact mcell_rng (j := 0) hgm7 rfl, rfl, ?_⟩
      conv => whnf
      refine ⟨fun h => absurd h (by exact hN h), fun _ => ?_⟩
      conv => whnf
      refine ⟨(i + 1, va'), ⟨by omega, by omega, ts ++ [(.slice op.ab op.b.length op.cb, op.b)], p2, pa', s, nb + (Fr.wr op.b).length, ns, true, ?_, ?_, by simp, ⟨?_, ?_, ?_, ?_, ?_⟩, ?_, ?_, ?_, by omega⟩, by first | omega | (simp only; omega), ?_⟩
      · rw [List.length_append]; exact hs8
      · rw [List.map_append]; exact h2
      · rw [List.length_append]; simp only [List.length_cons, List.length_nil]; omega
      · intro q hq
        rcases List.mem_append.1 hq with hq | hq
        · exact hT.la q hq
        · rw [List.mem_singleton.1 hq]; exact hoi.b
      · intro q hq
        rcases List.mem_append.1 hq with hq | hq
        · exact hT.byt q hq
        · rw [List.mem_singleton.1 hq]; exact hoi.byt
      · intro q hq
        rcases List.mem_append.1 hq with hq | hq
        · exact hT.isr q hq
        · rw [List.mem_singleton.1 hq]; exact hr
      · intro q hq
        rcases List.mem_append.1 hq with hq | hq
        · exact hT.sm q hq
        · rw [List.mem_singleton.1 hq]; simp only; omega
      · rw [List.length_append]; omega
      · rw [List.map_append]; exact hown'
      · omega
      conv => whnf
      repeat (refine And.intro (by first | with_reducible rfl | (first | exact congrArg (Value.int _) (iadd' (by omega))) | exact congrArg (Value.int _) (wi (by omega) (by omega)) | exact wi (by omega) (by omega) | rfl) ?_; conv => whnf)
      first | exact trivial | exact fun _ _ h => h
  · have hk0 : op.kind ≠ 0 := by simpa using h1
    clear h1
    conv => whnf
    repeat (refine And.intro (by first | omega | (simp only [times]; omega)) ?_; conv => whnf)
    refine ⟨_, by simp only [times, Int.toNat_natCast]; exact mcell_rng (j := 0) hgm rfl, rfl, ?_⟩
    conv => whnf
    refine ⟨fun h1 => ?_, fun h1 => ?_⟩
    · conv => whnf
      obtain ⟨q1, hq1, hs2, back⟩ := Split.pick2 hs
      refine xcall (lsync_spec hs2 h hSm) ?_
      rintro _ m2 ⟨p2, ns2, rfl, hs3, h2, hn2⟩
      conv => whnf
      have hs3 : Split m2 [blk1 bl (logO bf nmA ts.length ts.length), p2, pa, m] := back _ _ _ hs3
      rw [lg_sync, hRl] at h2
      refine ⟨(i + 1, va), ⟨by omega, by omega, ts, p2, pa, ts.length, nb, ns2, pr, hs3, h2, hp, hTn, Nat.le_refl _, hown, by omega, by omega⟩, by first | omega | (simp only; omega), ?_⟩
      conv => whnf
      repeat (refine And.intro (by first | with_reducible rfl | (first | exact congrArg (Value.int _) (iadd' (by omega))) | exact congrArg (Value.int _) (wi (by omega) (by omega)) | exact wi (by omega) (by omega) | rfl) ?_; conv => whnf)
      first | exact trivial | exact fun _ _ h => h
    · conv => whnf
      refine ⟨(i + 1, va), ⟨by omega, by omega, ts, p, pa, s, nb, ns, pr, hs, h, hp, hTn, hsl, hown, by omega, by omega⟩, by first | omega | (simp only; omega), ?_⟩
      conv => whnf
      repeat (refine And.intro (by first | with_reducible rfl | (first | exact congrArg (Value.int _) (iadd' (by omega))) | exact congrArg (Value.int _) (wi (by omega) (by omega)) | exact wi (by omega) (by omega) | rfl) ?_; conv => whnf)
      first | exact trivial | exact fun _ _ h => h
end Go.E.Ytcjmmhamnglmkaa
