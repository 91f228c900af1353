/-
  Digs, Walk, Walk2, Walk3, RefT, RefW, RefD, WalkP, Tree3, Tree4, WalkS, WalkH, WalkG, WalkL, E16, E18, E24, DigDat, WalkE, WalkB, WalkF, T16Dat, FiB, FiC, FiD, FiK, FiE, FiF, FiG, FiH
-/
import Derived.Test.YtgjlajcebcmbaaaGreatDoorSnapNamesZ8
import Derived.ProofKit
import Derived.OpenShut
import Derived.ChangeArms
import Derived.Laws.MakeOwn
/-
  Lists of digests.
-/
namespace Go.E.YtgjlajcebcmbaaaGreatDoor
open Go.Proofs
set_option maxRecDepth 100000
def dcs (D : List (List Nat)) : List Value := D.flatMap fun d => (nc d).map (Value.int .u8)
def D32 (D : List (List Nat)) : Prop := ∀ d ∈ D, d.length = 32
theorem dcs_append (a b : List (List Nat)) : dcs (a ++ b) = dcs a ++ dcs b := by simp [dcs]
theorem dcs_len : ∀ {D : List (List Nat)}, D32 D → (dcs D).length = D.length * 32
  | [], _ => rfl
  | d :: D, h => by
    have ih := dcs_len (D := D) fun x hx => h x (by simp [hx])
    have := h d (by simp)
    simp only [dcs, List.flatMap_cons, List.length_append, List.length_map, List.length_cons] at ih ⊢
    omega
theorem dcs_one {D : List (List Nat)} : ∀ u ∈ dcs D, u.oneCell' = true := by
  intro u hu
  obtain ⟨d, _, h⟩ := List.mem_flatMap.1 hu
  obtain ⟨x, _, rfl⟩ := List.mem_map.1 h
  rfl
theorem dcs_at : ∀ {D : List (List Nat)} {i j : Nat} {u : Value}, D32 D → (hi : i < D.length) → ((nc D[i]).map (Value.int .u8))[j]? = some u → (dcs D)[i * 32 + j]? = some u
  | d :: D, 0, j, u, h, _, hu => by
    have hl := (List.getElem?_eq_some_iff.1 hu).1
    simp only [dcs, List.flatMap_cons]
    rw [List.getElem?_append_left (by simpa using hl)]
    simpa using hu
  | d :: D, i + 1, j, u, h, hi, hu => by
    have hd := h d (by simp)
    have ih := dcs_at (D := D) (i := i) (j := j) (u := u) (fun x hx => h x (by simp [hx])) (by simpa using hi) (by simpa using hu)
    simp only [dcs, List.flatMap_cons] at ih ⊢
    rw [List.getElem?_append_right (by simp [hd]; omega)]
    simp only [List.length_map, hd]
    rw [show (i + 1) * 32 + j - 32 = i * 32 + j by omega]
    exact ih
/-- digests that lie somewhere; owned; or none, wherever -/
structure Dl (m : Mem) (v : Value) (D : List (List Nat)) : Prop where
  lies : Lies m 32 v (dcs D)
  ok : D32 D
def Da (m : Mem) (v : Value) (D : List (List Nat)) : Prop := Dl m v D ∨ (D = [] ∧ ∃ a, v = .slice (some a) 0 0)
theorem Dl.sub {m m' : Mem} {v : Value} {D : List (List Nat)} (h : Dl m v D) (hs : Sub m m') : Dl m' v D := ⟨h.lies.sub hs, h.ok⟩
theorem Dl.da {m : Mem} {v : Value} {D : List (List Nat)} (h : Dl m v D) : Da m v D := .inl h
theorem Da.sub {m m' : Mem} {v : Value} {D : List (List Nat)} (h : Da m v D) (hs : Sub m m') : Da m' v D := h.imp (·.sub hs) id
theorem Da.ok {m : Mem} {v : Value} {D : List (List Nat)} (h : Da m v D) : D32 D := by
  rcases h with h | ⟨rfl, _⟩
  · exact h.ok
  · intro d hd; cases hd
theorem Dl.shape {m : Mem} {v : Value} {D : List (List Nat)} (h : Dl m v D) : ∃ a c, v = .slice a D.length c := by
  have hl := dcs_len h.ok
  rcases h.lies with ⟨c, rfl, e⟩ | ⟨b, o, c, n, arr, t, fr, rfl, _, e, _⟩
  · rw [e] at hl
    have : D.length = 0 := by simp only [List.length_nil] at hl; omega
    exact ⟨none, c, by rw [this]⟩
  · have : D.length = n := by omega
    exact ⟨_, c, by rw [this]⟩
theorem Da.shape {m : Mem} {v : Value} {D : List (List Nat)} (h : Da m v D) : ∃ a c, v = .slice a D.length c := by
  rcases h with h | ⟨rfl, a, rfl⟩
  · exact h.shape
  · exact ⟨_, _, rfl⟩
theorem Dl.real {m : Mem} {v : Value} {D : List (List Nat)} (h : Dl m v D) {i : Nat} (hi : i < D.length) : ∃ b o c, v = .slice (some ⟨b, o, none⟩) D.length c ∧ ∀ j (hj : j < D.length), MRange m b (o + j * 32) (LB.cells [.ints .u8 32 (nc D[j])]) := by
  have hl := dcs_len h.ok
  rcases h.lies with ⟨c, rfl, e⟩ | ⟨b, o, c, n, arr, t, fr, rfl, g1, e, _, g2, _⟩
  · rw [e] at hl; simp at hl; omega
  · have : D.length = n := by omega
    refine ⟨b, o, c, by rw [this], fun j hj => ⟨arr, t, fr, g1, fun k u hu => ?_⟩⟩
    rw [Nat.add_assoc]
    exact g2 _ _ (dcs_at h.ok hj (by simpa [LB.cells, Seg.cells] using hu))
theorem Da.real {m : Mem} {v : Value} {D : List (List Nat)} (h : Da m v D) {i : Nat} (hi : i < D.length) : ∃ b o c, v = .slice (some ⟨b, o, none⟩) D.length c ∧ ∀ j (hj : j < D.length), MRange m b (o + j * 32) (LB.cells [.ints .u8 32 (nc D[j])]) := by
  rcases h with h | ⟨rfl, _⟩
  · exact h.real hi
  · simp at hi
end Go.E.YtgjlajcebcmbaaaGreatDoor

/-
  Contracts of walk.
-/
namespace Go.E.YtgjlajcebcmbaaaGreatDoor
open Go.Proofs
set_option maxRecDepth 100000
theorem nc_inj {a b : List Nat} (h : nc a = nc b) : a = b := by
  have := congrArg (List.map Int.toNat) h
  simpa [nc, Function.comp_def] using this
theorem eqLB_dig (n k : Nat) (a b : List Nat) : eqLB [.ints .u8 n (nc a)] [.ints .u8 k (nc b)] = decide (a = b) := by
  by_cases h : a = b
  · subst h; simp [eqLB]
  · have : ¬ nc a = nc b := fun e => h (nc_inj e)
    simp only [eqLB, decide_eq_false h, Bool.and_true]
    exact beq_false_of_ne this
theorem dig_at (t : List Nat) (k : Nat) : ((nc t).drop (times (k : Int) 32)).take 32 = nc (Tr.dig t k) := by
  have : times (k : Int) 32 = 32 * k := by simp [times]; omega
  rw [this, nc_cut]; rfl
def Pls (l : List Int) : Prop := ∀ x ∈ l, -9223372036854775808 ≤ x ∧ x ≤ 9223372036854775807
namespace Tr
def digs (t : List Nat) (l : List Int) : List (List Nat) := (kidsL l).map fun k => dig t k.toNat
/-- the children of places whose digests are unlike others -/
def unl (t : List Nat) : List Int → List (List Nat) → List Int
  | k :: ks, d :: ds => if dig t k.toNat = d then unl t ks ds else k :: unl t ks ds
  | _, _ => []
theorem unl_snoc (t : List Nat) : ∀ {ks : List Int} {ds : List (List Nat)} {k : Int} {d : List Nat}, ks.length = ds.length → unl t (ks ++ [k]) (ds ++ [d]) = if dig t k.toNat = d then unl t ks ds else unl t ks ds ++ [k]
  | [], [], k, d, _ => by simp [unl]
  | k' :: ks, d' :: ds, k, d, h => by
    have ih := unl_snoc t (ks := ks) (ds := ds) (k := k) (d := d) (by simpa using h)
    simp only [List.cons_append, unl, ih]
    split <;> split <;> simp
theorem unl_len (t : List Nat) : ∀ {ks : List Int} {ds : List (List Nat)}, (unl t ks ds).length ≤ ks.length
  | [], _ => by simp [unl]
  | k :: ks, [] => by simp [unl]
  | k :: ks, d :: ds => by
    have := unl_len t (ks := ks) (ds := ds)
    unfold unl
    split
    · simp only [List.length_cons]; omega
    · simp only [List.length_cons]; omega
end Tr
end Go.E.YtgjlajcebcmbaaaGreatDoor

/-
  Contracts of walk: the walk.
-/
namespace Go.E.YtgjlajcebcmbaaaGreatDoor
open Go.Proofs
set_option maxRecDepth 100000
namespace Tr
def leaves (l : List Int) : List Int := (l.map leafOf).filter fun n => decide (0 ≤ n)
end Tr
end Go.E.YtgjlajcebcmbaaaGreatDoor

/-
  Contracts of walk: a walk of two trees.
-/
namespace Go.E.YtgjlajcebcmbaaaGreatDoor
open Go.Proofs
set_option maxRecDepth 100000
namespace Tr
def wk (a b : List Nat) : Nat → List Int → Nat → Nat → List Int × Nat × Nat
  | 0, _, looks, r => ([], looks, r)
  | f + 1, l, looks, r => if (digs b l).length = 0 then (l, looks, r + 1) else
    let l' := unl a (kidsL l) (digs b l)
    if l'.length = 0 then ([], looks + (digs b l).length, r + 1) else wk a b f l' (looks + (digs b l).length) (r + 1)
def walk (a b : List Nat) : List Int × Nat × Nat := if dig a 0 = dig b 0 then ([], 1, 0) else wk a b 3 [0] 1 0
/-- the places of a level -/
def Lev (f : Nat) (l : List Int) : Prop := (f = 3 ∧ l = [0]) ∨ (f = 2 ∧ ∀ x ∈ l, 1 ≤ x ∧ x < 5) ∨ (f = 1 ∧ ∀ x ∈ l, 5 ≤ x ∧ x < 21)
theorem unl_sub (t : List Nat) : ∀ {ks : List Int} {ds : List (List Nat)}, ∀ x ∈ unl t ks ds, x ∈ ks
  | [], _, x, h => by simp [unl] at h
  | k :: ks, [], x, h => by simp [unl] at h
  | k :: ks, d :: ds, x, h => by
    unfold unl at h
    split at h
    · exact List.mem_cons_of_mem _ (unl_sub t x h)
    · rcases List.mem_cons.1 h with rfl | h
      · simp
      · exact List.mem_cons_of_mem _ (unl_sub t x h)
theorem digs_len (t : List Nat) (l : List Int) : (digs t l).length = (kidsL l).length := by simp [digs]
theorem Lev.step {f : Nat} {l : List Int} (h : Lev f l) (hd : (kidsL l).length ≠ 0) {a : List Nat} {D : List (List Nat)} : ∃ f', f = f' + 1 ∧ 0 < f' ∧ Lev f' (unl a (kidsL l) D) := by
  rcases h with ⟨rfl, rfl⟩ | ⟨rfl, h⟩ | ⟨rfl, h⟩
  · refine ⟨2, rfl, by decide, .inr (.inl ⟨rfl, fun x hx => ?_⟩)⟩
    have := unl_sub _ x hx
    simp [kidsL, kids] at this
    omega
  · refine ⟨1, rfl, by decide, .inr (.inr ⟨rfl, fun x hx => ?_⟩)⟩
    obtain ⟨p, hp, hk⟩ := List.mem_flatMap.1 (unl_sub _ x hx)
    have := h p hp
    unfold kids at hk
    rw [if_pos (by omega)] at hk
    simp at hk
    omega
  · exfalso
    apply hd
    have : kidsL l = [] := by
      rw [kidsL, List.flatMap_eq_nil_iff]
      intro p hp
      have := h p hp
      rw [kids, if_neg (by omega)]
    rw [this]; rfl
theorem Lev.pls {f : Nat} {l : List Int} (h : Lev f l) : Pls l := by
  intro x hx
  rcases h with ⟨rfl, rfl⟩ | ⟨rfl, h⟩ | ⟨rfl, h⟩
  · simp at hx; omega
  · have := h x hx; omega
  · have := h x hx; omega
theorem wk_end {a b : List Nat} {f : Nat} {l : List Int} {looks r : Nat} (h : (kidsL l).length = 0) : wk a b (f + 1) l looks r = (l, looks, r + 1) := by rw [wk, if_pos (by rw [digs_len]; exact h)]
theorem wk_none {a b : List Nat} {f : Nat} {l : List Int} {looks r : Nat} (h : (kidsL l).length ≠ 0) (h2 : (unl a (kidsL l) (digs b l)).length = 0) : wk a b (f + 1) l looks r = ([], looks + (kidsL l).length, r + 1) := by
  rw [wk, if_neg (by rw [digs_len]; exact h)]
  simp only [h2, if_true, digs_len]
theorem wk_more {a b : List Nat} {f : Nat} {l : List Int} {looks r : Nat} (h : (kidsL l).length ≠ 0) (h2 : (unl a (kidsL l) (digs b l)).length ≠ 0) : wk a b (f + 1) l looks r = wk a b f (unl a (kidsL l) (digs b l)) (looks + (kidsL l).length) (r + 1) := by
  rw [wk, if_neg (by rw [digs_len]; exact h)]
  simp only [h2, if_false, digs_len]
end Tr
end Go.E.YtgjlajcebcmbaaaGreatDoor

/-
  Contracts of maundref20: places.
-/
namespace Go.E.YtgjlajcebcmbaaaGreatDoor
open Go.Proofs
set_option maxRecDepth 100000
theorem buildI4 {m : Mem} {x y z w : Int} : PrimSpec Tryz.prog (.buildSlice 38 4 [0, 1, 2, 3]) [.v (.int .i64 x), .v (.int .i64 y), .v (.int .i64 z), .v (.int .i64 w)] m fun r m' => ∃ b, m b = none ∧ r = [.v (.slice (some ⟨b, 0, none⟩) 4 4)] ∧ m' = m.set b (.cells (ic [x, y, z, w]).toArray 3) :=
  buildSlice_spec (n := 4) tt_ok hIs rfl hI' rfl rfl (by simp [CV.cs]) (by simp) (by simp)
theorem Io.blk {m : Mem} {b n : Nat} {l : List Int} (h : m b = some (.cells (ic l).toArray 3)) (hn : l.length = n) : Io m (.slice (some ⟨b, 0, none⟩) n n) l := by
  subst hn
  refine .inr ⟨b, 0, l.length, l.length, _, rfl, h, by simp, Nat.le_refl _, by simp, fun j u hu => ?_, ic_one⟩
  rw [Nat.zero_add, List.getElem?_toArray]; exact hu
namespace Tr
/-- does a walk come to a place? -/
def comesF (a b : List Nat) : Nat → Int → Bool
  | 0, _ => true
  | f + 1, p => if p < 0 then true else decide (dig a p.toNat ≠ dig b p.toNat) && comesF a b f (up p)
def comes (a b : List Nat) (p : Nat) : Bool := comesF a b 4 p
end Tr
end Go.E.YtgjlajcebcmbaaaGreatDoor

/-
  Contracts of maundref21.
-/
namespace Go.E.YtgjlajcebcmbaaaGreatDoor
open Go.Proofs
set_option maxRecDepth 100000
end Go.E.YtgjlajcebcmbaaaGreatDoor

/-
  Contracts of maundref21: the leaves, the looks, and the levels.
-/
namespace Go.E.YtgjlajcebcmbaaaGreatDoor
open Go.Proofs
set_option maxRecDepth 100000
namespace Tr
def lev (p : Nat) : Nat := if p = 0 then 0 else if p < 5 then 1 else 2
def rout (a b : List Nat) : Nat → List Int
  | 0 => []
  | k + 1 => if comes a b k then (if 4 < k then rout a b k ++ [(k : Int) - 5] else rout a b k) else rout a b k
def rlooks (a b : List Nat) : Nat → Nat
  | 0 => 1
  | k + 1 => if comes a b k then rlooks a b k + (kids k).length else rlooks a b k
def rlev (a b : List Nat) (j : Nat) : Nat → Bool
  | 0 => false
  | k + 1 => if comes a b k && decide (lev k = j) then true else rlev a b j k
def cnt (x y z : Bool) : Nat := (if x then 1 else 0) + (if y then 1 else 0) + (if z then 1 else 0)
theorem rout_len (a b : List Nat) : ∀ k, (rout a b k).length ≤ k
  | 0 => by simp [rout]
  | k + 1 => by
    have := rout_len a b k
    unfold rout
    split
    · split
      · simp; omega
      · omega
    · omega
theorem rlooks_le (a b : List Nat) : ∀ k, rlooks a b k ≤ 1 + 4 * k
  | 0 => by simp [rlooks]
  | k + 1 => by
    have := rlooks_le a b k; have := kids_len k
    unfold rlooks
    split <;> omega
end Tr
end Go.E.YtgjlajcebcmbaaaGreatDoor

/-
  A walk is what the document says of it: plainly.
-/
namespace Go.E.YtgjlajcebcmbaaaGreatDoor
open Go.Proofs
set_option maxRecDepth 100000
namespace Tr
def uu (a b : List Nat) (k : Int) : Bool := decide (dig a k.toNat ≠ dig b k.toNat)
theorem unl_filter (a b : List Nat) : ∀ ks : List Int, unl a ks (ks.map fun k => dig b k.toNat) = ks.filter (uu a b)
  | [] => by simp [unl]
  | k :: ks => by
    rw [List.map_cons, unl, unl_filter a b ks, List.filter_cons]
    by_cases h : dig a k.toNat = dig b k.toNat
    · rw [if_pos h, if_neg (by simp [uu, h])]
    · rw [if_neg h, if_pos (by simp [uu, h])]
theorem comesF_neg {a b : List Nat} {f : Nat} {p : Int} (h : p < 0) : comesF a b f p = true := by
  cases f with
  | zero => rfl
  | succ f => rw [comesF, if_pos h]
theorem comesF_pos {a b : List Nat} {f p : Nat} : comesF a b (f + 1) (p : Int) = (uu a b p && comesF a b f (up p)) := by
  rw [comesF, if_neg (by omega)]; rfl
theorem comes_0 (a b : List Nat) : comes a b 0 = uu a b 0 := by
  have h0 : up ((0 : Nat) : Int) = -1 := by rw [up, if_neg (by omega)]
  rw [comes, comesF_pos, h0, comesF_neg (by decide), Bool.and_true]; rfl
theorem comes_1 (a b : List Nat) {q : Nat} (h : 1 ≤ q ∧ q < 5) : comes a b q = (uu a b q && uu a b 0) := by
  have h0 : up ((0 : Nat) : Int) = -1 := by rw [up, if_neg (by omega)]
  have h1 : up (q : Int) = ((0 : Nat) : Int) := by rw [up, if_pos (by omega)]; omega
  rw [comes, comesF_pos, h1, comesF_pos, h0, comesF_neg (by decide), Bool.and_true]; rfl
theorem comes_2 (a b : List Nat) {p q : Nat} (h : 1 ≤ q ∧ q < 5) (hp : 4 * q + 1 ≤ p ∧ p ≤ 4 * q + 4) : comes a b p = (uu a b p && (uu a b q && uu a b 0)) := by
  have h0 : up ((0 : Nat) : Int) = -1 := by rw [up, if_neg (by omega)]
  have h1 : up (q : Int) = ((0 : Nat) : Int) := by rw [up, if_pos (by omega)]; omega
  have h2 : up (p : Int) = (q : Int) := by rw [up, if_pos (by omega)]; omega
  rw [comes, comesF_pos, h2, comesF_pos, h1, comesF_pos, h0, comesF_neg (by decide), Bool.and_true]; rfl
theorem rout_filter (a b : List Nat) : ∀ k, rout a b k = ((List.range k).filter fun p => comes a b p && decide (4 < p)).map fun (p : Nat) => (p : Int) - 5
  | 0 => rfl
  | k + 1 => by
    rw [rout, rout_filter a b k, List.range_succ, List.filter_append, List.map_append]
    by_cases hc : comes a b k = true
    · by_cases h4 : 4 < k
      · simp [hc, h4]
      · simp [hc, h4]
    · simp [hc]
def blk (q : Nat) : List Nat := [4 * q + 1, 4 * q + 2, 4 * q + 3, 4 * q + 4]
theorem kids_blk {q : Nat} (h : q < 5) : kids q = (blk q).map fun (p : Nat) => (p : Int) := by
  rw [kids, if_pos (by omega)]; simp [blk]
theorem range21 : List.range 21 = [0, 1, 2, 3, 4] ++ (blk 1 ++ (blk 2 ++ (blk 3 ++ blk 4))) := by decide
/-- a block's leaves -/
def lvs (a b : List Nat) (q : Nat) : List Int := if uu a b q then (kids q).filter (uu a b) else []
theorem blk_filter {a b : List Nat} (h0 : uu a b 0 = true) {q : Nat} (h : 1 ≤ q ∧ q < 5) : ((blk q).filter fun p => comes a b p && decide (4 < p)).map (fun (p : Nat) => (p : Int) - 5) = (lvs a b q).map fun p => p - 5 := by
  have hc : (blk q).filter (fun p => comes a b p && decide (4 < p)) = (blk q).filter (fun (p : Nat) => uu a b p && uu a b q) := by
    refine List.filter_congr fun p hp => ?_
    have hp' : 4 * q + 1 ≤ p ∧ p ≤ 4 * q + 4 := by simp [blk] at hp; omega
    rw [comes_2 a b h hp', h0, Bool.and_true, decide_eq_true (by omega), Bool.and_true]
  rw [hc, lvs]
  by_cases hq : uu a b q = true
  · rw [if_pos hq, kids_blk h.2, List.filter_map, List.map_map]
    simp only [hq, Bool.and_true]
    rfl
  · rw [if_neg hq]
    have : uu a b q = false := by simpa using hq
    simp [this]
theorem rout_all {a b : List Nat} (h0 : uu a b 0 = true) : rout a b 21 = (lvs a b 1 ++ (lvs a b 2 ++ (lvs a b 3 ++ lvs a b 4))).map fun p => p - 5 := by
  rw [rout_filter, range21, List.filter_append, List.filter_append, List.filter_append, List.filter_append, List.map_append, List.map_append, List.map_append, List.map_append, blk_filter h0 (by decide), blk_filter h0 (by decide), blk_filter h0 (by decide), blk_filter h0 (by decide)]
  simp
theorem rout_none {a b : List Nat} (h0 : uu a b 0 = false) : rout a b 21 = [] := by
  rw [rout_filter, List.map_eq_nil_iff, List.filter_eq_nil_iff]
  intro p hp
  have hp21 := List.mem_range.1 hp
  by_cases h4 : 4 < p
  · rw [comes_2 a b (q := (p - 1) / 4) (by omega) (by omega), h0]; simp
  · simp [h4]
theorem rlooks_5 (a b : List Nat) : ∀ k, rlooks a b (5 + k) = rlooks a b 5
  | 0 => rfl
  | k + 1 => by
    rw [show 5 + (k + 1) = (5 + k) + 1 by omega, rlooks, rlooks_5 a b k]
    have : kids ((5 + k : Nat) : Int) = [] := by rw [kids, if_neg (by omega)]
    rw [this]; simp
theorem rlev2 (a b : List Nat) : ∀ k, rlev a b 2 k = !(rout a b k).isEmpty
  | 0 => rfl
  | k + 1 => by
    rw [rlev, rout, rlev2 a b k]
    by_cases hc : comes a b k = true
    · by_cases h4 : 4 < k
      · have : lev k = 2 := by rw [lev, if_neg (by omega), if_neg (by omega)]
        simp [hc, h4, this]
      · have : lev k ≠ 2 := by unfold lev; split; decide; rw [if_pos (by omega)]; decide
        simp [hc, h4, this]
    · simp [hc]
theorem rlev_5 (a b : List Nat) {j : Nat} (hj : j < 2) : ∀ k, rlev a b j (5 + k) = rlev a b j 5
  | 0 => rfl
  | k + 1 => by
    rw [show 5 + (k + 1) = (5 + k) + 1 by omega, rlev, rlev_5 a b hj k]
    have : lev (5 + k) = 2 := by rw [lev, if_neg (by omega), if_neg (by omega)]
    rw [this, decide_eq_false (by omega), Bool.and_false]; rfl
theorem kidsL_nil_of {l : List Int} (h : ∀ x ∈ l, 5 ≤ x) : kidsL l = [] := by
  rw [kidsL, List.flatMap_eq_nil_iff]
  intro p hp
  have := h p hp
  rw [kids, if_neg (by omega)]
theorem lv2 (a b : List Nat) : (kidsL ([1, 2, 3, 4].filter (uu a b))).filter (uu a b) = lvs a b 1 ++ (lvs a b 2 ++ (lvs a b 3 ++ lvs a b 4)) := by
  cases h1 : uu a b 1 <;> cases h2 : uu a b 2 <;> cases h3 : uu a b 3 <;> cases h4 : uu a b 4 <;> simp [lvs, kidsL, h1, h2, h3, h4]
theorem lv1_len (a b : List Nat) : (kidsL ([1, 2, 3, 4].filter (uu a b))).length = 4 * ([1, 2, 3, 4].filter (uu a b)).length := by
  cases h1 : uu a b 1 <;> cases h2 : uu a b 2 <;> cases h3 : uu a b 3 <;> cases h4 : uu a b 4 <;> simp [kidsL, kids, h1, h2, h3, h4]
theorem lvs_ge {a b : List Nat} : ∀ x ∈ lvs a b 1 ++ (lvs a b 2 ++ (lvs a b 3 ++ lvs a b 4)), 5 ≤ x ∧ x < 21 := by
  have h : ∀ q : Nat, 1 ≤ q ∧ q < 5 → ∀ x ∈ lvs a b q, 5 ≤ x ∧ x < 21 := fun q hq x hx => by
    unfold lvs at hx
    split at hx
    · have := (List.mem_filter.1 hx).1
      rw [kids, if_pos (by omega)] at this
      simp at this; omega
    · simp at hx
  intro x hx
  simp only [List.mem_append] at hx
  rcases hx with hx | hx | hx | hx
  · exact h 1 (by decide) x hx
  · exact h 2 (by decide) x hx
  · exact h 3 (by decide) x hx
  · exact h 4 (by decide) x hx
theorem leaves_of {l : List Int} (h : ∀ x ∈ l, 5 ≤ x ∧ x < 21) : leaves l = l.map fun p => p - 5 := by
  have h1 : l.map leafOf = l.map fun p => p - 5 := List.map_congr_left fun p hp => by rw [leafOf, if_pos (h p hp)]
  rw [leaves, h1, List.filter_eq_self]
  intro x hx
  obtain ⟨p, hp, rfl⟩ := List.mem_map.1 hx
  have := h p hp
  exact decide_eq_true (by omega)
theorem walk_ref (a b : List Nat) : leaves (walk a b).1 = rout a b 21 ∧ (walk a b).2.1 = rlooks a b 21 ∧ (walk a b).2.2 = cnt (rlev a b 0 21) (rlev a b 1 21) (rlev a b 2 21) := by
  have e1 := rlooks_5 a b 16
  have e2 := rlev_5 a b (j := 0) (by decide) 16
  have e3 := rlev_5 a b (j := 1) (by decide) 16
  have c0 := comes_0 a b
  have c1 := comes_1 a b (q := 1) (by decide)
  have c2 := comes_1 a b (q := 2) (by decide)
  have c3 := comes_1 a b (q := 3) (by decide)
  have c4 := comes_1 a b (q := 4) (by decide)
  rw [show 5 + 16 = 21 from rfl] at e1 e2 e3
  rw [e1, e2, e3, rlev2]
  by_cases h0 : dig a 0 = dig b 0
  · have hu : uu a b 0 = false := by simp [uu, h0]
    rw [rout_none hu, walk, if_pos h0]
    simp only [rlooks, rlev, c0, c1, c2, c3, c4, hu, Bool.and_false, Bool.false_and]
    refine ⟨rfl, rfl, rfl⟩
  · have hu : uu a b 0 = true := by simp [uu, h0]
    have hk0 : kidsL [0] = [1, 2, 3, 4] := rfl
    have hd0 : ∀ l : List Int, digs b l = (kidsL l).map fun k => dig b k.toNat := fun l => rfl
    have hge := @lvs_ge a b
    rw [rout_all hu, walk, if_neg h0]
    rw [← lv2] at hge ⊢
    have hll := lv1_len a b
    have hro : rlooks a b 5 = 5 + 4 * ([1, 2, 3, 4].filter (uu a b)).length := by
      simp only [rlooks, c0, c1, c2, c3, c4, hu, Bool.and_true]
      cases h1 : uu a b 1 <;> cases h2 : uu a b 2 <;> cases h3 : uu a b 3 <;> cases h4 : uu a b 4 <;> simp [kids, h1, h2, h3, h4]
    have hr0 : rlev a b 0 5 = true := by
      simp only [rlev, c0, c1, c2, c3, c4, hu, Bool.and_true]
      cases h1 : uu a b 1 <;> cases h2 : uu a b 2 <;> cases h3 : uu a b 3 <;> cases h4 : uu a b 4 <;> simp [lev, h1, h2, h3, h4]
    have hr1 : rlev a b 1 5 = !(([1, 2, 3, 4].filter (uu a b)).isEmpty) := by
      simp only [rlev, c0, c1, c2, c3, c4, hu, Bool.and_true]
      cases h1 : uu a b 1 <;> cases h2 : uu a b 2 <;> cases h3 : uu a b 3 <;> cases h4 : uu a b 4 <;> simp [lev, h1, h2, h3, h4]
    rw [hro, hr0, hr1]
    have w0 := wk_none (a := a) (b := b) (f := 2) (l := [0]) (looks := 1) (r := 0) (by rw [hk0]; decide)
    have w1 := wk_more (a := a) (b := b) (f := 2) (l := [0]) (looks := 1) (r := 0) (by rw [hk0]; decide)
    rw [hd0, unl_filter, hk0] at w0 w1
    generalize hL1 : [1, 2, 3, 4].filter (uu a b) = L1 at *
    by_cases hz : L1.length = 0
    · have hL : L1 = [] := List.length_eq_zero_iff.1 hz
      rw [w0 hz]
      subst hL
      refine ⟨?_, rfl, rfl⟩
      simp [kidsL, leaves]
    · have hne : L1.isEmpty = false := by
        cases L1 with
        | nil => simp at hz
        | cons x l => rfl
      have w2 := wk_none (a := a) (b := b) (f := 1) (l := L1) (looks := 1 + 4) (r := 0 + 1) (by omega)
      have w3 := wk_more (a := a) (b := b) (f := 1) (l := L1) (looks := 1 + 4) (r := 0 + 1) (by omega)
      rw [hd0, unl_filter] at w2 w3
      rw [w1 hz]
      generalize hL2 : (kidsL L1).filter (uu a b) = L2 at *
      show leaves (wk a b 2 L1 (1 + 4) (0 + 1)).1 = _ ∧ (wk a b 2 L1 (1 + 4) (0 + 1)).2.1 = _ ∧ (wk a b 2 L1 (1 + 4) (0 + 1)).2.2 = _
      by_cases hz2 : L2.length = 0
      · have hL : L2 = [] := List.length_eq_zero_iff.1 hz2
        rw [w2 hz2]
        subst hL
        refine ⟨rfl, by simp only [hll], ?_⟩
        rw [hne]; rfl
      · have hne2 : (L2.map fun p => p - 5).isEmpty = false := by
          cases L2 with
          | nil => simp at hz2
          | cons x l => rfl
        have hk2 : (kidsL L2).length = 0 := by rw [kidsL_nil_of fun x hx => (hge x hx).1]; rfl
        rw [w3 hz2, wk_end hk2]
        refine ⟨leaves_of hge, by simp only [hll], ?_⟩
        rw [hne, hne2]; rfl
end Tr
end Go.E.YtgjlajcebcmbaaaGreatDoor

/-
  Contracts of tree: trees of texts.
-/
namespace Go.E.YtgjlajcebcmbaaaGreatDoor
open Go.Proofs
set_option maxRecDepth 100000
namespace Tr
/-- a leaf's digest -/
def leafD (l : List Nat) : List Nat := Sha.sum (0 :: l)
def lv (ls : List (List Nat)) : Nat → List Nat
  | 0 => List.replicate 672 0
  | i + 1 => put (lv ls i) (5 + i) (leafD (ls.getD i []))
def inn (t : List Nat) : Nat → List Nat
  | 0 => t
  | j + 1 => put (inn t j) (4 - j) (Sha.sum (below (inn t j) (4 - j)))
def ofT (ls : List (List Nat)) : List Nat := inn (lv ls 16) 5
theorem sum_len (l : List Nat) : (Sha.sum l).length = 32 := by simp [Sha.sum, Sha.digest]
theorem sum_byt (l : List Nat) : ∀ x ∈ Sha.sum l, x < 256 := by
  intro x hx
  simp only [Sha.sum, Sha.digest, List.mem_map] at hx
  obtain ⟨i, _, rfl⟩ := hx
  exact Nat.mod_lt _ (by decide)
theorem inn_succ (t : List Nat) (j : Nat) : inn t (j + 1) = put (inn t j) (4 - j) (Sha.sum (below (inn t j) (4 - j))) := rfl
theorem lv_ok (ls : List (List Nat)) : ∀ {i : Nat}, i ≤ 16 → Ok (lv ls i)
  | 0, _ => ⟨by simp [lv], by simp [lv]⟩
  | i + 1, h => put_ok (lv_ok ls (by omega)) (sum_len _) (sum_byt _) (by omega)
theorem inn_ok {t : List Nat} (h : Ok t) : ∀ (j : Nat), Ok (inn t j)
  | 0 => h
  | j + 1 => put_ok (inn_ok h j) (sum_len _) (sum_byt _) (by omega)
theorem ofT_ok (ls : List (List Nat)) : Ok (ofT ls) := inn_ok (lv_ok ls (Nat.le_refl _)) 5
end Tr
theorem nc_put (t d : List Nat) (p : Nat) (hd : d.length = 32) : (nc t).take (32 * p) ++ (nc d ++ (nc t).drop (32 * p + 32)) = nc (Tr.put t p d) := by
  simp only [nc, Tr.put, List.map_append, List.map_take, List.map_drop, List.append_assoc]
theorem put_eq (t : List Nat) {d : List Nat} {k : Nat} (hd : d.length = 32) : (nc t).take (times (k : Int) 32) ++ (nc d ++ (nc t).drop (times (k : Int) 32 + 32)) = nc (Tr.put t k d) := by
  have : times (k : Int) 32 = 32 * k := by simp [times]; omega
  rw [this]; exact nc_put t d k hd
end Go.E.YtgjlajcebcmbaaaGreatDoor

/-
  Contracts of tree: a leaf's new text.
-/
namespace Go.E.YtgjlajcebcmbaaaGreatDoor
open Go.Proofs
set_option maxRecDepth 100000
namespace Tr
def upF : Nat → List Nat → Int → List Nat
  | 0, t, _ => t
  | f + 1, t, p => if p < 0 then t else upF f (put t p.toNat (Sha.sum (below t p.toNat))) (up p)
theorem upF_ok : ∀ {f : Nat} {t : List Nat} {p : Int}, Ok t → p < 5 → Ok (upF f t p)
  | 0, _, _, h, _ => h
  | f + 1, t, p, h, hp => by
    unfold upF
    split
    · exact h
    · exact upF_ok (put_ok h (sum_len _) (sum_byt _) (by omega)) (by unfold up; split <;> omega)
theorem upF_neg {f : Nat} {t : List Nat} {p : Int} (h : p < 0) : upF f t p = t := by
  cases f with
  | zero => rfl
  | succ f => rw [upF, if_pos h]
theorem upF_step {f : Nat} {t : List Nat} {p : Int} (h : ¬ p < 0) : upF (f + 1) t p = upF f (put t p.toNat (Sha.sum (below t p.toNat))) (up p) := by rw [upF, if_neg h]
/-- a tree with a leaf's text -/
def withT (t : List Nat) (n : Nat) (l : List Nat) : List Nat := upF 3 (put t (5 + n) (leafD l)) (up (5 + n))
end Tr
end Go.E.YtgjlajcebcmbaaaGreatDoor

/-
  Trees as lists of digests; the digests of fixed trees.
-/
namespace Go.E.YtgjlajcebcmbaaaGreatDoor
open Go.Proofs
set_option maxRecDepth 100000
namespace Tr
theorem flat_len : ∀ {ds : List (List Nat)}, D32 ds → ds.flatten.length = 32 * ds.length
  | [], _ => rfl
  | d :: ds, h => by
    have ih := flat_len (ds := ds) fun x hx => h x (by simp [hx])
    have := h d (by simp)
    rw [List.flatten_cons, List.length_append, List.length_cons]; omega
theorem flat_split {ds : List (List Nat)} (h : D32 ds) {p : Nat} (hp : p < ds.length) : ds.flatten = (ds.take p).flatten ++ (ds[p] ++ (ds.drop (p + 1)).flatten) ∧ (ds.take p).flatten.length = 32 * p ∧ ds[p].length = 32 := by
  refine ⟨?_, ?_, h _ (List.getElem_mem hp)⟩
  · have : ds = ds.take p ++ (ds[p] :: ds.drop (p + 1)) := by rw [List.getElem_cons_drop, List.take_append_drop]
    conv => lhs; rw [this]
    rw [List.flatten_append, List.flatten_cons]
  · rw [flat_len fun x hx => h x (List.mem_of_mem_take hx), List.length_take]; omega
theorem dig_flat {ds : List (List Nat)} (h : D32 ds) {p : Nat} (hp : p < ds.length) : dig ds.flatten p = ds[p] := by
  obtain ⟨e, h1, h2⟩ := flat_split h hp
  rw [dig, e, List.drop_append, h1, Nat.sub_self, List.drop_zero, List.drop_of_length_le (by omega), List.nil_append, List.take_append_of_le_length (by omega), List.take_of_length_le (by omega)]
theorem put_flat {ds : List (List Nat)} (h : D32 ds) {p : Nat} (hp : p < ds.length) {d : List Nat} (hd : d.length = 32) : put ds.flatten p d = (ds.set p d).flatten ∧ D32 (ds.set p d) := by
  obtain ⟨e, h1, h2⟩ := flat_split h hp
  refine ⟨?_, fun x hx => ?_⟩
  · have e2 : (ds.set p d).flatten = (ds.take p).flatten ++ (d ++ (ds.drop (p + 1)).flatten) := by
      rw [List.set_eq_take_append_cons_drop, if_pos hp, List.flatten_append, List.flatten_cons]
    rw [e2, put, e, List.take_append_of_le_length (by omega), List.take_of_length_le (by omega), List.drop_append, h1, List.drop_of_length_le (by omega), List.nil_append, List.drop_append, h2, List.drop_of_length_le (by omega), List.nil_append, show 32 * p + 32 - 32 * p - 32 = 0 by omega, List.drop_zero, List.append_assoc]
  · rcases List.mem_or_eq_of_mem_set hx with hx | rfl
    · exact h x hx
    · exact hd
theorem below_flat {ds : List (List Nat)} (h : D32 ds) (hl : ds.length = 21) {p : Nat} (hp : p < 5) : below ds.flatten p = 1 :: (ds.getD (4 * p + 1) [] ++ (ds.getD (4 * p + 2) [] ++ (ds.getD (4 * p + 3) [] ++ ds.getD (4 * p + 4) []))) := by
  rw [below, if_pos hp, kids, if_pos (by omega)]
  have g : ∀ k : Nat, k < 21 → dig ds.flatten k = ds.getD k [] := fun k hk => by
    rw [dig_flat h (by omega), List.getD_eq_getElem?_getD, List.getElem?_eq_getElem (by omega)]; rfl
  simp only [List.flatMap_cons, List.flatMap_nil, List.append_nil]
  rw [show (4 * (p : Int) + 1).toNat = 4 * p + 1 by omega, show (4 * (p : Int) + 2).toNat = 4 * p + 2 by omega, show (4 * (p : Int) + 3).toNat = 4 * p + 3 by omega, show (4 * (p : Int) + 4).toNat = 4 * p + 4 by omega, g _ (by omega), g _ (by omega), g _ (by omega), g _ (by omega)]
end Tr
end Go.E.YtgjlajcebcmbaaaGreatDoor

/-
  The digests of fixed trees (chapter 21).
-/
namespace Go.E
namespace Tr21
def d0 : List Nat := [110, 52, 11, 156, 255, 179, 122, 152, 156, 165, 68, 230, 187, 120, 10, 44, 120, 144, 29, 63, 179, 55, 56, 118, 133, 17, 163, 6, 23, 175, 160, 29]
def d1 : List Nat := [61, 152, 27, 166, 100, 234, 31, 54, 218, 48, 102, 189, 149, 118, 183, 26, 29, 3, 165, 0, 95, 59, 219, 179, 88, 22, 97, 45, 15, 7, 140, 24]
def d2 : List Nat := [223, 120, 159, 7, 224, 114, 144, 222, 181, 63, 117, 247, 15, 115, 197, 134, 38, 132, 186, 86, 194, 70, 20, 107, 62, 236, 150, 67, 91, 64, 143, 15]
def dx : List Nat := [60, 126, 155, 201, 48, 220, 147, 240, 31, 166, 153, 133, 239, 36, 45, 159, 158, 134, 31, 60, 83, 85, 170, 36, 206, 94, 244, 180, 184, 167, 12, 203]
def e1 : List Nat := [102, 123, 221, 182, 33, 238, 20, 74, 216, 248, 3, 194, 246, 90, 64, 41, 219, 102, 67, 252, 220, 177, 89, 37, 110, 68, 173, 34, 54, 101, 27, 36]
def r1 : List Nat := [182, 37, 136, 178, 86, 184, 241, 99, 36, 127, 133, 61, 139, 217, 139, 28, 74, 124, 252, 182, 77, 247, 140, 208, 86, 142, 85, 124, 131, 42, 112, 162]
def dy : List Nat := [53, 83, 235, 53, 26, 218, 199, 12, 245, 202, 164, 254, 250, 28, 175, 140, 236, 114, 100, 3, 254, 75, 52, 193, 79, 27, 184, 217, 128, 194, 11, 149]
def e3 : List Nat := [2, 118, 57, 77, 73, 238, 152, 84, 205, 154, 254, 8, 152, 100, 254, 15, 192, 205, 53, 241, 134, 1, 176, 86, 99, 63, 217, 136, 131, 43, 137, 37]
def r2 : List Nat := [65, 91, 194, 50, 94, 101, 90, 49, 203, 185, 179, 111, 80, 132, 64, 47, 200, 230, 172, 124, 109, 243, 4, 246, 101, 58, 186, 54, 65, 151, 242, 12]
theorem d0_eq : Sha.sum [0] = d0 := by
  rw [← Sha.sumK_eq]; decide +kernel
theorem d1_eq : Sha.sum (1 :: (d0 ++ (d0 ++ (d0 ++ d0)))) = d1 := by
  rw [← Sha.sumK_eq]; decide +kernel
theorem d2_eq : Sha.sum (1 :: (d1 ++ (d1 ++ (d1 ++ d1)))) = d2 := by
  rw [← Sha.sumK_eq]; decide +kernel
theorem dx_eq : Sha.sum [0, 120] = dx := by
  rw [← Sha.sumK_eq]; decide +kernel
theorem e1_eq : Sha.sum (1 :: (d0 ++ (d0 ++ (d0 ++ dx)))) = e1 := by
  rw [← Sha.sumK_eq]; decide +kernel
theorem r1_eq : Sha.sum (1 :: (e1 ++ (d1 ++ (d1 ++ d1)))) = r1 := by
  rw [← Sha.sumK_eq]; decide +kernel
theorem dy_eq : Sha.sum [0, 121] = dy := by
  rw [← Sha.sumK_eq]; decide +kernel
theorem e3_eq : Sha.sum (1 :: (d0 ++ (dy ++ (d0 ++ d0)))) = e3 := by
  rw [← Sha.sumK_eq]; decide +kernel
theorem r2_eq : Sha.sum (1 :: (e1 ++ (d1 ++ (e3 ++ d1)))) = r2 := by
  rw [← Sha.sumK_eq]; decide +kernel
end Tr21
end Go.E

/-
  The fixed trees of chapter 21.
-/
namespace Go.E.YtgjlajcebcmbaaaGreatDoor
open Go.Proofs
set_option maxRecDepth 100000
namespace Tr
open Tr21
def belowD (ds : List (List Nat)) (p : Nat) : List Nat := 1 :: (ds.getD (4 * p + 1) [] ++ (ds.getD (4 * p + 2) [] ++ (ds.getD (4 * p + 3) [] ++ ds.getD (4 * p + 4) [])))
structure Fl (ds : List (List Nat)) : Prop where
  d : D32 ds
  len : ds.length = 21
theorem Fl.set {ds : List (List Nat)} (h : Fl ds) {p : Nat} (hp : p < 21) {d : List Nat} (hd : d.length = 32) : put ds.flatten p d = (ds.set p d).flatten ∧ Fl (ds.set p d) := by
  have := h.len
  obtain ⟨h1, h2⟩ := put_flat h.d (p := p) (by omega) hd
  exact ⟨h1, h2, by simp [h.len]⟩
theorem Fl.below {ds : List (List Nat)} (h : Fl ds) {p : Nat} (hp : p < 5) : below ds.flatten p = belowD ds p := below_flat h.d h.len hp
theorem Fl.up {ds : List (List Nat)} (h : Fl ds) {p : Nat} (hp : p < 5) : put ds.flatten p (Sha.sum (Tr.below ds.flatten p)) = (ds.set p (Sha.sum (belowD ds p))).flatten ∧ Fl (ds.set p (Sha.sum (belowD ds p))) := by
  rw [h.below hp]; exact h.set (by omega) (sum_len _)
def lvC (h : List Nat) : Nat → List (List Nat)
  | 0 => List.replicate 21 (List.replicate 32 0)
  | i + 1 => (lvC h i).set (5 + i) h
theorem lvC_flat : ∀ {i : Nat}, i ≤ 16 → lv (List.replicate 16 []) i = (lvC d0 i).flatten ∧ Fl (lvC d0 i)
  | 0, _ => ⟨by decide, by intro d hd; rw [lvC] at hd; rw [(List.mem_replicate.1 hd).2]; rfl, rfl⟩
  | i + 1, h => by
    obtain ⟨h1, h2⟩ := lvC_flat (i := i) (by omega)
    have hg : (List.replicate 16 ([] : List Nat)).getD i [] = [] := by
      rw [List.getD_eq_getElem?_getD, List.getElem?_replicate, if_pos (by omega)]; rfl
    have hd : leafD [] = d0 := d0_eq
    rw [lv, h1, hg, hd]
    exact h2.set (by omega) rfl
def z32 : List Nat := List.replicate 32 0
def lA : List (List Nat) := [d2, d1, d1, d1, d1, d0, d0, d0, d0, d0, d0, d0, d0, d0, d0, d0, d0, d0, d0, d0, d0]
theorem ofT_A : ofT (List.replicate 16 []) = lA.flatten ∧ Fl lA := by
  obtain ⟨h1, h2⟩ := lvC_flat (Nat.le_refl 16)
  have s0 : lvC d0 16 = [z32, z32, z32, z32, z32, d0, d0, d0, d0, d0, d0, d0, d0, d0, d0, d0, d0, d0, d0, d0, d0] := rfl
  rw [s0] at h1 h2
  rw [ofT, h1, inn_succ, inn_succ, inn_succ, inn_succ, inn_succ, show ∀ t, inn t 0 = t from fun _ => rfl]
  obtain ⟨a4, b4⟩ := h2.up (p := 4) (by decide)
  rw [show belowD [z32, z32, z32, z32, z32, d0, d0, d0, d0, d0, d0, d0, d0, d0, d0, d0, d0, d0, d0, d0, d0] 4 = 1 :: (d0 ++ (d0 ++ (d0 ++ d0))) from rfl, d1_eq] at a4 b4
  rw [show 4 - 0 = 4 from rfl, a4]
  obtain ⟨a3, b3⟩ := b4.up (p := 3) (by decide)
  rw [show ∀ x y, belowD (([z32, z32, z32, z32, x, d0, d0, d0, d0, d0, d0, d0, d0, d0, d0, d0, d0, d0, d0, d0, d0] : List (List Nat)).set 4 y) 3 = 1 :: (d0 ++ (d0 ++ (d0 ++ d0))) from fun _ _ => rfl, d1_eq] at a3 b3
  rw [show 4 - 1 = 3 from rfl, a3]
  obtain ⟨a2, b2⟩ := b3.up (p := 2) (by decide)
  rw [show ∀ x y u v, belowD ((([z32, z32, z32, u, x, d0, d0, d0, d0, d0, d0, d0, d0, d0, d0, d0, d0, d0, d0, d0, d0] : List (List Nat)).set 4 y).set 3 v) 2 = 1 :: (d0 ++ (d0 ++ (d0 ++ d0))) from fun _ _ _ _ => rfl, d1_eq] at a2 b2
  rw [show 4 - 2 = 2 from rfl, a2]
  have c2 : Fl [z32, z32, d1, d1, d1, d0, d0, d0, d0, d0, d0, d0, d0, d0, d0, d0, d0, d0, d0, d0, d0] := b2
  change put (put (List.flatten [z32, z32, d1, d1, d1, d0, d0, d0, d0, d0, d0, d0, d0, d0, d0, d0, d0, d0, d0, d0, d0]) 1 (Sha.sum (Tr.below (List.flatten [z32, z32, d1, d1, d1, d0, d0, d0, d0, d0, d0, d0, d0, d0, d0, d0, d0, d0, d0, d0, d0]) 1))) 0 (Sha.sum (Tr.below (put (List.flatten [z32, z32, d1, d1, d1, d0, d0, d0, d0, d0, d0, d0, d0, d0, d0, d0, d0, d0, d0, d0, d0]) 1 (Sha.sum (Tr.below (List.flatten [z32, z32, d1, d1, d1, d0, d0, d0, d0, d0, d0, d0, d0, d0, d0, d0, d0, d0, d0, d0, d0]) 1))) 0)) = _ ∧ _
  obtain ⟨a1, b1⟩ := c2.up (p := 1) (by decide)
  rw [show belowD [z32, z32, d1, d1, d1, d0, d0, d0, d0, d0, d0, d0, d0, d0, d0, d0, d0, d0, d0, d0, d0] 1 = 1 :: (d0 ++ (d0 ++ (d0 ++ d0))) from rfl, d1_eq] at a1 b1
  rw [a1]
  have c1 : Fl [z32, d1, d1, d1, d1, d0, d0, d0, d0, d0, d0, d0, d0, d0, d0, d0, d0, d0, d0, d0, d0] := b1
  obtain ⟨a0, b0⟩ := c1.up (p := 0) (by decide)
  rw [show belowD [z32, d1, d1, d1, d1, d0, d0, d0, d0, d0, d0, d0, d0, d0, d0, d0, d0, d0, d0, d0, d0] 0 = 1 :: (d1 ++ (d1 ++ (d1 ++ d1))) from rfl, d2_eq] at a0 b0
  exact ⟨a0, b0⟩
theorem with_flat {ds : List (List Nat)} (h : Fl ds) {n : Nat} (hn : n < 16) {l d x y : List Nat} {q : Nat} (hq : q = (4 + n) / 4) (hd : Sha.sum (0 :: l) = d) (hx : Sha.sum (belowD (ds.set (5 + n) d) q) = x) (hy : Sha.sum (belowD ((ds.set (5 + n) d).set q x) 0) = y) :
    withT ds.flatten n l = (((ds.set (5 + n) d).set q x).set 0 y).flatten ∧ Fl (((ds.set (5 + n) d).set q x).set 0 y) := by
  subst hd hx hy
  have u1 : Tr.up (5 + (n : Int)) = (q : Int) := by rw [Tr.up, if_pos (by omega)]; omega
  have u2 : Tr.up (q : Int) = ((0 : Nat) : Int) := by rw [Tr.up, if_pos (by omega)]; omega
  have u3 : Tr.up ((0 : Nat) : Int) = -1 := by rw [Tr.up, if_neg (by omega)]
  obtain ⟨a1, b1⟩ := h.set (p := 5 + n) (by omega) (sum_len (0 :: l))
  obtain ⟨a2, b2⟩ := b1.up (p := q) (by omega)
  obtain ⟨a3, b3⟩ := b2.up (p := 0) (by decide)
  refine ⟨?_, b3⟩
  rw [withT, u1, leafD, a1, upF_step (by omega), Int.toNat_natCast, a2, u2, upF_step (by omega), Int.toNat_natCast, a3, u3, upF_neg (by decide)]
def lB1 : List (List Nat) := [r1, e1, d1, d1, d1, d0, d0, d0, dx, d0, d0, d0, d0, d0, d0, d0, d0, d0, d0, d0, d0]
def lB : List (List Nat) := [r2, e1, d1, e3, d1, d0, d0, d0, dx, d0, d0, d0, d0, d0, dy, d0, d0, d0, d0, d0, d0]
theorem with_B1 : withT lA.flatten 3 [120] = lB1.flatten ∧ Fl lB1 := with_flat ofT_A.2 (n := 3) (q := 1) (by decide) (by decide) dx_eq e1_eq r1_eq
theorem with_B : withT lB1.flatten 9 [121] = lB.flatten ∧ Fl lB := with_flat with_B1.2 (n := 9) (q := 3) (by decide) (by decide) dy_eq e3_eq r2_eq
theorem walk_AB : walk lA.flatten lB.flatten = ([8, 14], 13, 3) := by decide +kernel
theorem walk_AA : walk lA.flatten lA.flatten = ([], 1, 0) := by rw [walk, if_pos rfl]
end Tr
end Go.E.YtgjlajcebcmbaaaGreatDoor

/-
  Laws of chapter 21: fixed trees, equal lists, any trees.
-/
namespace Go.E.YtgjlajcebcmbaaaGreatDoor
open Go.Proofs
set_option maxRecDepth 100000
namespace Tr
/-- a tree of any digests -/
def rawF (D : List (List Nat)) : Nat → List Nat
  | 0 => List.replicate 672 0
  | i + 1 => if h : i < D.length then put (rawF D i) i D[i] else rawF D i
def raw (D : List (List Nat)) : List Nat := rawF D 21
theorem rawF_ok {D : List (List Nat)} (hD : D32 D) (hb : ∀ d ∈ D, ∀ x ∈ d, x < 256) : ∀ {i : Nat}, i ≤ 21 → Ok (rawF D i)
  | 0, _ => ⟨by simp [rawF], by simp [rawF]⟩
  | i + 1, h => by
    have ih := rawF_ok hD hb (i := i) (by omega)
    unfold rawF
    split
    · rename_i hi
      exact put_ok ih (hD _ (List.getElem_mem hi)) (hb _ (List.getElem_mem hi)) (by omega)
    · exact ih
theorem rawF_stop {D : List (List Nat)} : ∀ {k i : Nat}, D.length ≤ i → rawF D (i + k) = rawF D i
  | 0, _, _ => rfl
  | k + 1, i, h => by
    rw [← Nat.add_assoc, rawF, dif_neg (by omega), rawF_stop h]
end Tr
theorem buildI3 {m : Mem} {x y z : Int} : PrimSpec Tryz.prog (.buildSlice 38 3 [0, 1, 2]) [.v (.int .i64 x), .v (.int .i64 y), .v (.int .i64 z)] m fun r m' => ∃ b, m b = none ∧ r = [.v (.slice (some ⟨b, 0, none⟩) 3 3)] ∧ m' = m.set b (.cells (ic [x, y, z]).toArray 3) :=
  buildSlice_spec (n := 3) tt_ok hIs rfl hI' rfl rfl (by simp [CV.cs]) (by simp) (by simp)
end Go.E.YtgjlajcebcmbaaaGreatDoor

/-
  From a contract to a law's row: what arguments are that were read; that they read the same behind the call.
-/
namespace Go.E
open Go.ChangeShapes Go.WideShapes Go.RowKit

/-- a cell that was read: of the kind of z, and as such a cell may be -/
def KW : Value → Value → Prop
  | .int k _, .int k' n => k = k' ∧ (Lit.int k n).wf = true
  | .bool _, .bool _ => True
  | .string _, .string s => s.size ≤ maxLen
  | _, _ => False
def KWs : List Value → List Value → Prop
  | [], [] => True
  | z :: zs, x :: xs => KW z x ∧ KWs zs xs
  | _, _ => False
theorem KWs.length : ∀ {z x : List Value}, KWs z x → z.length = x.length
  | [], [], _ => rfl
  | _ :: _, _ :: _, h => by simp [KWs.length h.2]
  | [], _ :: _, h => h.elim
  | _ :: _, [], h => h.elim
theorem KWs.append : ∀ {z x z' x' : List Value}, KWs z x → KWs z' x' → KWs (z ++ z') (x ++ x')
  | [], [], _, _, _, h => h
  | _ :: _, _ :: _, _, _, h, h' => ⟨h.1, KWs.append h.2 h'⟩
  | [], _ :: _, _, _, h, _ => h.elim
  | _ :: _, [], _, _, h, _ => h.elim

section
variable {H : Type} {enc : TypeId × Value → H} {P : Program} {w : World} {base : Nat} {spare : Nat → Bool} {held : Bool}

theorem kws_items {D : Nat} {e : TypeId} {s : Nat} {z cs : List Value} (IH : ∀ i, goodB P D e ((z.drop (i * s)).take s) = true → KWs ((z.drop (i * s)).take s) ((cs.drop (i * s)).take s)) : ∀ (n k : Nat), (n + k) * s = z.length → cs.length = z.length →
    (∀ i, i < n + k → goodB P D e ((z.drop (i * s)).take s) = true) → KWs (z.drop (k * s)) (cs.drop (k * s))
  | 0, k, hl, hc, _ => by
    have h1 : z.drop (k * s) = [] := List.drop_eq_nil_of_le (by rw [← hl]; simp)
    have h2 : cs.drop (k * s) = [] := List.drop_eq_nil_of_le (by rw [hc, ← hl]; simp)
    rw [h1, h2]; trivial
  | n + 1, k, hl, hc, hg => by
    have ih := kws_items IH n (k + 1) (by rw [← hl]; congr 1; omega) hc (fun i hi => hg i (by omega))
    have := (IH k (hg k (by omega))).append ih
    have e1 : (k + 1) * s = k * s + s := by rw [Nat.add_mul, Nat.one_mul]
    rw [e1, ← List.drop_drop, ← List.drop_drop, List.take_append_drop, List.take_append_drop] at this
    exact this
theorem kws_fields {D : Nat} {z cs : List Value} (IH : ∀ (f : TypeId) (off : Nat), off + P.cellsOf f ≤ z.length → goodB P D f ((z.drop off).take (P.cellsOf f)) = true → (∃ fuel x, DataW.trod enc P w base spare held fuel f ((cs.drop off).take (P.cellsOf f)) = some x) → KWs ((z.drop off).take (P.cellsOf f)) ((cs.drop off).take (P.cellsOf f))) :
    ∀ (fs : List Field) (off : Nat), cs.length = z.length → goodF P (goodB P D) fs z off = true → (∀ f ∈ fs, ∃ fuel x, DataW.trod enc P w base spare held fuel f.type ((cs.drop f.offset).take (P.cellsOf f.type)) = some x) → KWs (z.drop off) (cs.drop off)
  | [], off, hc, hg, _ => by
    simp only [goodF, beq_iff_eq] at hg
    have h1 : z.drop off = [] := List.drop_eq_nil_of_le (by omega)
    have h2 : cs.drop off = [] := List.drop_eq_nil_of_le (by omega)
    rw [h1, h2]; trivial
  | f :: fs, off, hc, hg, ht => by
    simp only [goodF, Bool.and_eq_true, bne_iff_ne, ne_eq, beq_iff_eq] at hg
    obtain ⟨⟨⟨⟨_, ho⟩, hle⟩, hgf⟩, hr⟩ := hg
    have hle := of_decide_eq_true hle
    have h0 := ht f (by simp)
    rw [ho] at h0
    have := (IH f.type off hle hgf h0).append (kws_fields IH fs (off + P.cellsOf f.type) hc hr (fun f' hf => ht f' (by simp [hf])))
    rw [← List.drop_drop, ← List.drop_drop, List.take_append_drop, List.take_append_drop] at this
    exact this

theorem mapM_all {α β : Type} {f : α → Option β} : ∀ {l : List α} {r : List β}, l.mapM f = some r → ∀ x ∈ l, ∃ y, f x = some y
  | [], _, _, x, hx => by cases hx
  | a :: l, r, h, x, hx => by
    rw [List.mapM_cons] at h
    simp only [bind, Option.bind_eq_some_iff, pure, Option.some.injEq] at h
    obtain ⟨y, hy, ys, hys, _⟩ := h
    rcases List.mem_cons.1 hx with rfl | hx
    · exact ⟨y, hy⟩
    · exact mapM_all hys x hx

theorem trod_kw : ∀ (D : Nat) (t : TypeId) (z cs : List Value) (fuel : Nat) (x : DataW H × List MemPlace), goodB P D t z = true → z.length = P.cellsOf t → DataW.trod enc P w base spare held fuel t cs = some x → KWs z cs
  | 0, _, _, _, _, _, h, _, _ => by simp [goodB] at h
  | D + 1, t, z, cs, 0, x, h, hz, ht => by simp [DataW.trod] at ht
  | D + 1, t, z, cs, fuel + 1, x, h, hz, ht => by
    have IH := trod_kw D
    unfold goodB at h
    cases hu : P.underlying t with
    | none => simp [hu] at h
    | some kd =>
      rw [hu] at h
      cases kd with
      | bool =>
        simp only at h
        split at h
        · obtain ⟨b, rfl, _⟩ := DataW.trod_bool hu ht
          exact ⟨trivial, trivial⟩
        · cases h
      | int q =>
        simp only at h
        split at h
        · rename_i k' v
          have := kEq_eq h; subst this
          obtain ⟨n, rfl, _, hw⟩ := DataW.trod_int hu ht
          exact ⟨⟨rfl, hw⟩, trivial⟩
        · cases h
      | string =>
        simp only at h
        split at h
        · obtain ⟨s, rfl, _, hs⟩ := DataW.trod_string hu ht
          exact ⟨hs, trivial⟩
        · cases h
      | array n e =>
        simp only [Bool.and_eq_true, beq_iff_eq, List.all_eq_true, List.mem_range] at h
        obtain ⟨⟨hi, hlen⟩, hall⟩ := h
        obtain ⟨xs, k, hk, _, hl, hxl, hp⟩ := DataW.trod_array hu ht
        have := kws_items (P := P) (D := D) (e := e) (s := P.cellsOf e) (z := z) (cs := cs) (fun i hg => by
          by_cases hin : i < n
          · have hy := hp i hin
            rw [List.getElem?_eq_getElem (by omega)] at hy
            refine IH e _ _ k _ hg ?_ hy
            simp only [List.length_take, List.length_drop]
            have hle : i * P.cellsOf e + P.cellsOf e ≤ z.length := by
              rw [hlen, show i * P.cellsOf e + P.cellsOf e = (i + 1) * P.cellsOf e by rw [Nat.add_mul, Nat.one_mul]]
              exact Nat.mul_le_mul_right _ hin
            omega
          · have hge : z.length ≤ i * P.cellsOf e := by
              rw [hlen]; exact Nat.mul_le_mul_right _ (Nat.le_of_not_lt hin)
            rw [List.drop_eq_nil_of_le hge, List.drop_eq_nil_of_le (by omega)]
            simp [KWs]) n 0 (by simp; omega) (by omega) (fun i hi => hall i (by omega))
        simpa using this
      | struct fs =>
        simp only [Bool.and_eq_true, Bool.not_eq_true'] at h
        obtain ⟨_, hf⟩ := h
        obtain ⟨xs, k, hk, _, hl, hxl, hp⟩ := DataW.trod_struct hu ht
        have hfit : ∀ (f : TypeId) (off : Nat), off + P.cellsOf f ≤ z.length → goodB P D f ((z.drop off).take (P.cellsOf f)) = true → (∃ fuel x, DataW.trod enc P w base spare held fuel f ((cs.drop off).take (P.cellsOf f)) = some x) → KWs ((z.drop off).take (P.cellsOf f)) ((cs.drop off).take (P.cellsOf f)) := by
          intro f off hle hg ⟨fu, y, hy⟩
          exact IH f _ _ fu y hg (by simp only [List.length_take, List.length_drop]; omega) hy
        have := kws_fields hfit fs.toList 0 (by omega) hf (fun f hf' => by
          obtain ⟨i, hi, he⟩ := List.getElem_of_mem hf'
          have hy := hp i f (by rw [← Array.getElem?_toList, List.getElem?_eq_getElem hi, he])
          rw [List.getElem?_eq_getElem (by simp at hi; omega)] at hy
          exact ⟨k, _, hy⟩)
        simpa using this
      | _ => simp at h

def InLB : LB → LB → Prop
  | [], [] => True
  | .one z :: zs, .one x :: xs => KW z x ∧ InLB zs xs
  | .ints k n _ :: zs, .ints k' n' l :: xs => (k' = k ∧ n' = n ∧ l.length = n ∧ ∀ x ∈ l, (Lit.int k x).wf = true) ∧ InLB zs xs
  | _, _ => False
def plainLB : LB → Bool
  | [] => true
  | .one _ :: r => plainLB r
  | .ints _ _ _ :: r => plainLB r
  | .vals _ _ :: _ => false
theorem kws_ints {k : IntKind} : ∀ (l : List Int) (z' cs : List Value), KWs (l.map (Value.int k) ++ z') cs → ∃ (l' : List Int) (r : List Value), cs = l'.map (Value.int k) ++ r ∧ l'.length = l.length ∧ (∀ x ∈ l', (Lit.int k x).wf = true) ∧ KWs z' r
  | [], z', cs, h => ⟨[], cs, rfl, rfl, by simp, h⟩
  | a :: l, z', [], h => h.elim
  | a :: l, z', c :: cs, h => by
    obtain ⟨h1, h2⟩ := h
    obtain ⟨l', r, rfl, h3, h4, h5⟩ := kws_ints l z' cs h2
    cases c <;> simp only [KW] at h1
    obtain ⟨rfl, h1⟩ := h1
    rename_i n
    refine ⟨n :: l', r, rfl, by simp [h3], ?_, h5⟩
    intro x hx
    rcases List.mem_cons.1 hx with rfl | hx
    · exact h1
    · exact h4 x hx
theorem KW.one {z x : Value} (h : KW z x) : x.oneCell' = true := by
  cases z <;> cases x <;> simp only [KW] at h <;> rfl
theorem inLB_of : ∀ {z : LB} {cs : List Value}, plainLB z = true → LB.ok z → KWs (LB.cells z) cs → ∃ c, LB.cells c = cs ∧ LB.ok c ∧ InLB z c
  | [], [], _, _, _ => ⟨[], rfl, trivial, trivial⟩
  | [], _ :: _, _, _, h => h.elim
  | .one z :: zs, [], _, _, h => h.elim
  | .one z :: zs, x :: xs, hp, hz, h => by
    obtain ⟨h1, h2⟩ := h
    obtain ⟨c, rfl, hc, h3⟩ := inLB_of (z := zs) hp hz.2 h2
    exact ⟨.one x :: c, rfl, ⟨h1.one, hc⟩, h1, h3⟩
  | .ints k n l :: zs, cs, hp, hz, h => by
    obtain ⟨l', r, rfl, h1, h2, h3⟩ := kws_ints l (LB.cells zs) cs h
    obtain ⟨c, rfl, hc, h4⟩ := inLB_of (z := zs) hp hz.2 h3
    have hl : l.length = n := hz.1
    exact ⟨.ints k n l' :: c, rfl, ⟨(by show l'.length = n; omega), hc⟩, ⟨rfl, rfl, by omega, h2⟩, h4⟩
  | .vals _ _ :: _, _, hp, _, _ => by simp [plainLB] at hp

/-- an argument that is a struct or an array of plain cells -/
theorem open_flat {T : Tab} (hT : TabOk P T) {t : TypeId} {ti : TI} (ht : T t = some ti) (he : ti.eq = true) (hp : plainLB ti.zero = true) {r : Reach} {b0 : Nat} {v : Value} {d : DataW H} {ps : List MemPlace}
    (hval : Value.okWide P w r b0 t v) (hd : DataW.Trod enc P w base spare held t v d ps) : ∃ c, v = .agg (LB.cells c).toArray ∧ LB.ok c ∧ InLB ti.zero c := by
  have ho := hT t ti ht
  obtain ⟨ha, hg, _, hsz⟩ := ho.eqOk he
  obtain ⟨ds, hds, hk⟩ := ho.desc
  obtain ⟨j, hj, hjs, _, z, hz, hzc⟩ := ho.inf
  have hv : ∃ cs, v = .agg cs := by
    unfold Value.okWide at hval
    rw [← hk] at ha
    rw [hds] at hval
    cases ds <;> simp [TK.of, TK.agg] at ha <;> (obtain ⟨cs, h, _⟩ := hval; exact ⟨cs, h⟩)
  obtain ⟨cs, rfl⟩ := hv
  obtain ⟨fuel, hf⟩ := hd
  have hf' : DataW.trod enc P w base spare held fuel t cs.toList = some (d, ps) := hf
  have hlen : (LB.cells ti.zero).length = P.cellsOf t := by
    rw [hsz, ← hjs]; simp [Program.cellsOf, hj]
  obtain ⟨c, h1, h2, h3⟩ := inLB_of hp ho.zok (trod_kw 50 t _ _ fuel _ hg hlen hf')
  exact ⟨c, by rw [h1], h2, h3⟩

theorem trodAll_stays (hl : laidOutB P = true) {W W' : World} (hb : Below W.heap.size W W') {sp : Nat → Bool} : ∀ {ts : List TypeId} {vs : List Value} {ds : List (DataW H)} {ps : List MemPlace}, (∀ t ∈ ts, P.readableRec t = true ∧ t < P.types.size) →
    DataW.TrodAll enc P W 0 (fun _ => true) true ts vs ds ps → (∀ p ∈ ps, p.block < W.heap.size) → (∀ p ∈ ps, sp p.block = true) → DataW.TrodAll enc P W' 0 sp true ts vs ds ps
  | [], [], [], ps, _, h, _, _ => h
  | t :: ts, v :: vs, d :: ds, ps, hr, h, hlt, hs => by
    obtain ⟨p, q, h1, h2, rfl⟩ := h
    refine ⟨p, q, WideElems.Trod_stays hl (hr t (by simp)).1 (hr t (by simp)).2 h1 (fun x hx => hb.same (hlt x (by simp [hx]))) (fun x hx => hs x (by simp [hx])),
      trodAll_stays hl hb (fun t' ht' => hr t' (by simp [ht'])) h2 (fun x hx => hlt x (by simp [hx])) (fun x hx => hs x (by simp [hx])), rfl⟩
  | [], _ :: _, _, _, _, h, _, _ => h.elim
  | [], [], _ :: _, _, _, h, _, _ => h.elim
  | _ :: _, [], _, _, _, h, _, _ => h.elim
  | _ :: _, _ :: _, [], _, _, h, _, _ => h.elim

/-- THE LAW's ROW IS SHUT: it returned true, and below the heap's old size nothing has turned. -/
theorem lawPost (hl : laidOutB P = true) {f : Func} {s : ChangeSpec} {W W' : World} {args : Array Value} {ds gs : List (DataW H)} {before : List MemPlace} {tb : TypeId} (hvars : s.vars = [])
    (hfn : s.fn H (ds ++ gs) = { results := [.lit (.bool true)], args := ds }) (hres : f.resultTypes = #[tb]) (hbool : P.underlying tb = some .bool) (hread : f.params.toList.all (fun t => P.readableRec t && decide (t < P.types.size)) = true)
    (hW : DataW.Whole enc P f.params.toList s.vars false W args.toList ds gs before) (hb : Below W.heap.size W W') : s.post enc P f false true false false W args (.bool true) W' := by
  have hlt := hW.lt
  have hW' := hW
  obtain ⟨p, q, hA, hV, rfl, hfz, hnd⟩ := hW
  rw [hvars] at hV
  obtain ⟨rfl, rfl⟩ := trodVars_none hV
  have hread' : ∀ t ∈ f.params.toList, P.readableRec t = true ∧ t < P.types.size := fun t ht => by
    have := List.all_eq_true.1 hread t ht
    simpa using this
  have hA' : DataW.TrodAll enc P W' 0 (fun b => decide (b < W.heap.size)) true f.params.toList args.toList ds p :=
    trodAll_stays hl hb hread' hA (fun x hx => hlt x (by simp [hx])) (fun x hx => by simpa using hlt x (by simp [hx]))
  refine ⟨ds, [], p ++ [], [], p, [], hW', ?_, ?_, ?_, World.keptBut_mono (fun x hx => ⟨hx, .inr (.inl (by simpa using hx))⟩) (hb.frame _), fun h => by cases h⟩
  · rw [hfn, hres]
    exact trodAll_cons_mk (shut_bool hbool _) trodAll_mk0
  · rw [hfn]; exact hA'
  · rw [hfn, hvars]; rfl
end
end Go.E

/-
  What arguments that are slices of plain cells are.
-/
namespace Go.E
open Go.ChangeShapes Go.WideShapes Go.RowKit
section
variable {H : Type} {enc : TypeId × Value → H} {P : Program} {w : World} {base : Nat} {spare : Nat → Bool} {held : Bool}

theorem chunks_flat {α : Type} (l : List α) (s : Nat) : ∀ (n k : Nat), (k + n) * s ≤ l.length → ((List.range' k n).map (fun i => (l.drop (i * s)).take s)).flatten = (l.drop (k * s)).take (n * s)
  | 0, k, _ => by simp
  | n + 1, k, h => by
    have ih := chunks_flat l s n (k + 1) (by rw [show k + 1 + n = k + (n + 1) by omega]; exact h)
    simp only [List.range'_succ, List.map_cons, List.flatten_cons, ih]
    rw [show (n + 1) * s = s + n * s by rw [Nat.add_mul]; omega, show (k + 1) * s = k * s + s by rw [Nat.add_mul]; omega]
    rw [List.take_add, List.drop_drop]
/-- a slice whose elements are plain: each element's cells, as they were read -/
theorem open_slice {T : Tab} (hT : TabOk P T) {t e : TypeId} {ti ei : TI} (ht : T t = some ti) (hk : ti.k = .slice e) (he : T e = some ei) (hg : goodB P 50 e (LB.cells ei.zero) = true) (hsz : (LB.cells ei.zero).length = ei.size) (hpos : 0 < ei.size)
    (hall : ∀ z ∈ LB.cells ei.zero, ∀ x, KW z x → x.oneCell' = true) {r : Reach} {b0 : Nat} {v : Value} {d : DataW H} {ps : List MemPlace}
    (hval : Value.okWide P w r b0 t v) (hd : DataW.Trod enc P w base spare held t v d ps) :
    ∃ els : List (List Value), Lies (fun b => w.heap[b]?) ei.size v els.flatten ∧ lenV v = els.length ∧ (∀ c ∈ els, KWs (LB.cells ei.zero) c) ∧ els.length ≤ maxLen ∧ v.oneCell' = true := by
  have hsl := (hT t ti ht).slice hk
  obtain ⟨j, hj, hjs, _, z, hz, hzc⟩ := (hT e ei he).inf
  have hcell : P.cellsOf e = ei.size := by simp [Program.cellsOf, hj, hjs]
  obtain ⟨fuel, hf⟩ := hd
  have hvc : ∃ v', v = v' ∧ v.cells.toList = [v'] ∧ v.oneCell' = true := by
    unfold Value.okWide at hval
    rw [hsl] at hval
    simp only [Cell.okWide, hsl, Cell.ok] at hval
    cases v <;> simp at hval
    exact ⟨_, rfl, rfl, rfl⟩
  obtain ⟨v', rfl, hc1, hone⟩ := hvc
  have hf' : DataW.trod enc P w base spare held fuel t v.cells.toList = some (d, ps) := hf
  rw [hc1] at hf'
  rcases DataW.trod_slice hsl hf' with ⟨h0, _⟩ | ⟨a, len, cap, elems, rest, n, _, h0, _, hb, hl, hm, hlen, hel, _, _⟩
  · simp only [List.cons.injEq, and_true] at h0
    subst h0
    exact ⟨[], .inl ⟨0, rfl, rfl⟩, rfl, by simp, by simp, rfl⟩
  · simp only [List.cons.injEq, and_true] at h0
    subst h0
    have hw : w.has P r b0 a e cap := by
      unfold Value.okWide at hval
      rw [hsl] at hval
      simp only [Cell.okWide, hsl, Cell.ok] at hval
      exact hval.2.2
    obtain ⟨_, hspot, row, cells, hshape, _⟩ := hw
    obtain ⟨b, o, spot⟩ := a
    simp only at hspot
    subst hspot
    have hblk : ∃ arr t' fr, w.heap[b]? = some (.cells arr t' fr) := by
      unfold World.shape? at hshape
      simp only at hshape
      cases hx : w.heap[b]? with
      | none => simp [hx] at hshape
      | some ob => cases ob <;> simp [hx] at hshape <;> exact ⟨_, _, _, rfl⟩
    obtain ⟨arr, t', fr, harr⟩ := hblk
    rw [hcell] at hel
    have each : ∀ i, i < len → ∃ cs y, KWs (LB.cells ei.zero) cs ∧ cs = ((arr.toList.drop o).drop (i * ei.size)).take ei.size ∧ DataW.trod enc P w base spare held n e cs = some y ∧ o + i * ei.size + ei.size ≤ arr.size := by
      intro i hi
      have h1 := hel i hi
      have h2 : ∃ y, elems[i]? = some y := ⟨elems[i]'(by omega), by simp [show i < elems.length by omega]⟩
      obtain ⟨y, hy⟩ := h2
      rw [hy, Option.bind_eq_some_iff] at h1
      obtain ⟨cs, g1, g2⟩ := h1
      obtain ⟨_, g3, g4⟩ := World.cells?_some g1
      have g5 : ∀ k, k < ei.size → arr[o + i * ei.size + k]? = cs[k]? := by
        intro k hk'
        have := g4 k hk'
        rw [add_none, add_none, cell_at harr] at this
        exact this
      have hlast : o + i * ei.size + ei.size ≤ arr.size := by
        have := g5 (ei.size - 1) (by omega)
        rw [List.getElem?_eq_getElem (by omega)] at this
        have := (Array.getElem?_eq_some_iff.1 this).1
        omega
      refine ⟨cs, y, trod_kw 50 e _ _ n _ hg (by rw [hsz, hcell]) g2, ?_, g2, hlast⟩
      apply List.ext_getElem?
      intro k
      by_cases hk' : k < ei.size
      · rw [← g5 k hk', List.getElem?_take, if_pos hk', List.getElem?_drop, List.getElem?_drop, Array.getElem?_toList]
        congr 1; omega
      · rw [List.getElem?_eq_none (by omega), List.getElem?_eq_none (by simp; omega)]
    have hbound : len * ei.size ≤ (arr.toList.drop o).length ∨ len = 0 := by
      by_cases h0 : len = 0
      · exact .inr h0
      · obtain ⟨_, _, _, _, _, g⟩ := each (len - 1) (by omega)
        left
        have : len * ei.size = (len - 1) * ei.size + ei.size := by
          rw [← Nat.succ_mul]; congr 1; omega
        simp
        omega
    have hflat := chunks_flat (arr.toList.drop o) ei.size len 0 (by
      rw [Nat.zero_add]
      rcases hbound with h | h
      · exact h
      · rw [h]; simp)
    refine ⟨(List.range' 0 len).map (fun i => ((arr.toList.drop o).drop (i * ei.size)).take ei.size), .inr ⟨b, o, cap, len, arr, t', fr, rfl, harr, ?_, hl, ?_, ?_⟩, by simp [lenV], ?_, by simp; omega, rfl⟩
    · rw [hflat]
      simp only [Nat.zero_mul, List.drop_zero, List.length_take]
      rcases hbound with h | h
      · omega
      · rw [h]; simp
    · intro j' u hu
      rw [hflat] at hu
      simp only [Nat.zero_mul, List.drop_zero, List.getElem?_take] at hu
      split at hu
      · rw [List.getElem?_drop, Array.getElem?_toList] at hu; exact hu
      · simp at hu
    · intro u hu
      obtain ⟨c, hc, huc⟩ := List.mem_flatten.1 hu
      obtain ⟨i, hi, rfl⟩ := List.mem_map.1 hc
      simp at hi
      obtain ⟨cs, y, k1, k2, _⟩ := each i hi
      rw [← k2] at huc
      have : ∀ (zs cs : List Value), KWs zs cs → (∀ z ∈ zs, ∀ x, KW z x → x.oneCell' = true) → ∀ u ∈ cs, u.oneCell' = true := by
        intro zs
        induction zs with
        | nil => intro cs h _ u hu; cases cs with
          | nil => simp at hu
          | cons => exact h.elim
        | cons z zs ih => intro cs h h' u hu; cases cs with
          | nil => exact h.elim
          | cons c cs =>
            rcases List.mem_cons.1 hu with rfl | hu
            · exact h' z (by simp) _ h.1
            · exact ih cs h.2 (fun z hz => h' z (by simp [hz])) u hu
      exact this _ _ k1 hall u huc
    · intro c hc
      obtain ⟨i, hi, rfl⟩ := List.mem_map.1 hc
      simp at hi
      obtain ⟨cs, y, k1, k2, _⟩ := each i hi
      rw [← k2]; exact k1
/-- numbers -/
theorem kws_one {k : IntKind} {c : List Value} {z : Int} (h : KWs [.int k z] c) : ∃ n, c = [.int k n] ∧ (Lit.int k n).wf = true := by
  match c, h with
  | [.int k' n], h => obtain ⟨⟨rfl, h⟩, _⟩ := h; exact ⟨n, rfl, h⟩
theorem els_ints {k : IntKind} {z : Int} : ∀ {els : List (List Value)}, (∀ c ∈ els, KWs [.int k z] c) → ∃ l : List Int, els.flatten = l.map (Value.int k) ∧ l.length = els.length ∧ ∀ n ∈ l, (Lit.int k n).wf = true
  | [], _ => ⟨[], rfl, rfl, by simp⟩
  | c :: els, h => by
    obtain ⟨n, rfl, hn⟩ := kws_one (h c (by simp))
    obtain ⟨l, h1, h2, h3⟩ := els_ints (els := els) (fun c hc => h c (by simp [hc]))
    refine ⟨n :: l, by simp [h1], by simp [h2], ?_⟩
    intro x hx
    rcases List.mem_cons.1 hx with rfl | hx
    · exact hn
    · exact h3 x hx
theorem els_vecs {k : IntKind} {z : List Int} : ∀ {els : List (List Value)}, (∀ c ∈ els, KWs (z.map (Value.int k)) c) → ∃ ls : List (List Int), els = ls.map (fun l => l.map (Value.int k)) ∧ ∀ l ∈ ls, l.length = z.length ∧ ∀ n ∈ l, (Lit.int k n).wf = true
  | [], _ => ⟨[], rfl, by simp⟩
  | c :: els, h => by
    have hc := h c (by simp)
    obtain ⟨l', r, h1, h2, h3, h4⟩ := kws_ints z [] c (by simpa using hc)
    have hr : r = [] := by cases r with
      | nil => rfl
      | cons => exact h4.elim
    subst hr
    obtain ⟨ls, g1, g2⟩ := els_vecs (els := els) (fun c hc => h c (by simp [hc]))
    refine ⟨l' :: ls, by simp [h1, g1], ?_⟩
    intro x hx
    rcases List.mem_cons.1 hx with rfl | hx
    · exact ⟨h2, h3⟩
    · exact g2 x hx
end
end Go.E

/-
  What arguments are that were read, by their shapes: numbers, texts, structs, arrays, and slices of these, as deep as they go.
-/
namespace Go.E
open Go.ChangeShapes Go.WideShapes Go.RowKit

inductive Sh where
  | int (k : IntKind)
  | bool
  | str
  | slice (e : Sh)
  | unit
  | pair (a b : Sh)
  | rep (n : Nat) (e : Sh)
def Sh.size : Sh → Nat
  | .unit => 0
  | .pair a b => a.size + b.size
  | .rep n e => n * e.size
  | _ => 1
def Dat (m : Mem) : Sh → List Value → Prop
  | .int k, cs => ∃ n, cs = [.int k n] ∧ (Lit.int k n).wf = true
  | .bool, cs => ∃ b, cs = [.bool b]
  | .str, cs => ∃ s, cs = [.string s] ∧ s.size ≤ maxLen
  | .slice e, cs => ∃ (v : Value) (els : List (List Value)), cs = [v] ∧ (Lies m e.size v els.flatten ∨ (els = [] ∧ ∃ a, v = .slice (some a) 0 0)) ∧ lenV v = els.length ∧ (∀ c ∈ els, Dat m e c) ∧ els.length ≤ maxLen
  | .unit, cs => cs = []
  | .pair a b, cs => ∃ x y, cs = x ++ y ∧ Dat m a x ∧ Dat m b y
  | .rep n e, cs => ∃ els : List (List Value), cs = els.flatten ∧ els.length = n ∧ ∀ c ∈ els, Dat m e c
def intB : Option TypeDesc → IntKind → Bool
  | some (.int k), q => kEq k q
  | _, _ => false
/-- is it the type's shape? and: are these fields, from an offset on? -/
def chk (P : Program) : Sh → (TypeId → Bool) × (List Field → Nat → Bool)
  | .int k => (fun t => intB (P.underlying t) k, fun _ _ => false)
  | .bool => (fun t => match P.underlying t with | some .bool => true | _ => false, fun _ _ => false)
  | .str => (fun t => match P.underlying t with | some .string => true | _ => false, fun _ _ => false)
  | .slice e => (fun t => match P.underlying t with | some (.slice et) => (chk P e).1 et && (P.cellsOf et == e.size && Nat.blt 0 e.size) | _ => false, fun _ _ => false)
  | .unit => (fun _ => false, fun fs _ => fs.isEmpty)
  | .pair a b =>
    let F : List Field → Nat → Bool := fun fs off => match fs with
      | f :: fs => f.offset == off && ((chk P a).1 f.type && (P.cellsOf f.type == a.size && (chk P b).2 fs (off + a.size)))
      | [] => false
    (fun t => match P.underlying t with | some (.struct fs) => P.cellsOf t == a.size + b.size && F fs.toList 0 | _ => false, F)
  | .rep n e => (fun t => match P.underlying t with | some (.array k et) => Nat.beq k n && ((chk P e).1 et && (P.cellsOf et == e.size && P.cellsOf t == n * e.size)) | _ => false, fun _ _ => false)

section
variable {H : Type} {enc : TypeId × Value → H} {P : Program} {w : World} {base : Nat} {spare : Nat → Bool} {held : Bool}
theorem Dat.one {m : Mem} : ∀ {sh : Sh} {cs : List Value}, Dat m sh cs → ∀ u ∈ cs, u.oneCell' = true
  | .int k, cs, h, u, hu => by obtain ⟨n, rfl, _⟩ := h; simp at hu; subst hu; rfl
  | .bool, cs, h, u, hu => by obtain ⟨n, rfl⟩ := h; simp at hu; subst hu; rfl
  | .str, cs, h, u, hu => by obtain ⟨n, rfl, _⟩ := h; simp at hu; subst hu; rfl
  | .slice e, cs, h, u, hu => by
    obtain ⟨v, els, rfl, h1, _⟩ := h
    simp at hu; subst hu
    rcases h1 with h1 | ⟨_, a, rfl⟩
    · exact h1.one
    · rfl
  | .unit, cs, h, u, hu => by simp only [Dat] at h; subst h; cases hu
  | .pair a b, cs, h, u, hu => by
    obtain ⟨x, y, rfl, h1, h2⟩ := h
    rcases List.mem_append.1 hu with hu | hu
    · exact Dat.one h1 u hu
    · exact Dat.one h2 u hu
  | .rep n e, cs, h, u, hu => by
    obtain ⟨els, rfl, _, h1⟩ := h
    obtain ⟨c, hc, huc⟩ := List.mem_flatten.1 hu
    exact Dat.one (h1 c hc) u huc
theorem flat_len {els : List (List Value)} {s : Nat} (h : ∀ c ∈ els, c.length = s) : els.flatten.length = els.length * s := by
  induction els with
  | nil => simp
  | cons a els ih =>
    simp only [List.flatten_cons, List.length_append, List.length_cons]
    rw [ih (fun c hc => h c (by simp [hc])), h a (by simp), Nat.add_mul]; omega
theorem Dat.length {m : Mem} : ∀ {sh : Sh} {cs : List Value}, Dat m sh cs → cs.length = sh.size
  | .int k, cs, h => by obtain ⟨n, rfl, _⟩ := h; rfl
  | .bool, cs, h => by obtain ⟨n, rfl⟩ := h; rfl
  | .str, cs, h => by obtain ⟨n, rfl, _⟩ := h; rfl
  | .slice e, cs, h => by obtain ⟨v, els, rfl, _⟩ := h; rfl
  | .unit, cs, h => by simp only [Dat] at h; subst h; rfl
  | .pair a b, cs, h => by
    obtain ⟨x, y, rfl, h1, h2⟩ := h
    simp only [List.length_append, Sh.size, Dat.length h1, Dat.length h2]
  | .rep n e, cs, h => by
    obtain ⟨els, rfl, h2, h1⟩ := h
    rw [flat_len (fun c hc => Dat.length (h1 c hc)), h2]; rfl

theorem chunk_list {α : Type} (l : List α) (s n : Nat) (h : l.length = n * s) : ((List.range' 0 n).map (fun i => (l.drop (i * s)).take s)).flatten = l := by
  rw [chunks_flat l s n 0 (by rw [Nat.zero_add, h]; exact Nat.le_refl _)]
  simp [← h]
theorem cell_some {a : Addr} {v : Value} (h : w.cell? a = some v) : ∃ b o arr t fr, a = ⟨b, o, none⟩ ∧ w.heap[b]? = some (.cells arr t fr) ∧ arr[o]? = some v := by
  obtain ⟨b, o, sp⟩ := a
  unfold World.cell? at h
  simp only at h
  split at h
  · rename_i arr t fr hb
    cases sp with
    | some _ => simp at h
    | none => exact ⟨b, o, arr, t, fr, rfl, hb, by simpa using h⟩
  · cases h
theorem add_zero (a : Addr) : a.add 0 = a := by simp [Addr.add]
/-- THE OPENING -/
theorem trod_dat (hsp : ∀ b, spare b = true) : ∀ (sh : Sh), (∀ (t : TypeId) (cs : List Value) (fuel : Nat) (x : DataW H × List MemPlace), (chk P sh).1 t = true → DataW.trod enc P w base spare held fuel t cs = some x → Dat (fun b => w.heap[b]?) sh cs) ∧
    (∀ (fs : List Field) (off : Nat) (cs : List Value), (chk P sh).2 fs off = true → cs.length = off + sh.size → (∀ f ∈ fs, ∃ fuel x, DataW.trod enc P w base spare held fuel f.type ((cs.drop f.offset).take (P.cellsOf f.type)) = some x) → Dat (fun b => w.heap[b]?) sh (cs.drop off)) := by
  intro sh
  induction sh with
  | int k =>
    refine ⟨fun t cs fuel x h ht => ?_, fun fs off cs h => by simp [chk] at h⟩
    simp only [chk] at h
    cases hu : P.underlying t with
    | none => rw [hu] at h; cases h
    | some d =>
      rw [hu] at h
      cases d <;> simp only [intB] at h <;> try cases h
      rename_i q
      have := kEq_eq h; subst this
      obtain ⟨n, rfl, _, hw⟩ := DataW.trod_int hu ht
      exact ⟨n, rfl, hw⟩
  | bool =>
    refine ⟨fun t cs fuel x h ht => ?_, fun fs off cs h => by simp [chk] at h⟩
    simp only [chk] at h
    split at h
    · rename_i hu; obtain ⟨b, rfl, _⟩ := DataW.trod_bool hu ht; exact ⟨b, rfl⟩
    · cases h
  | str =>
    refine ⟨fun t cs fuel x h ht => ?_, fun fs off cs h => by simp [chk] at h⟩
    simp only [chk] at h
    split at h
    · rename_i hu; obtain ⟨s, rfl, _, hs⟩ := DataW.trod_string hu ht; exact ⟨s, rfl, hs⟩
    · cases h
  | unit =>
    refine ⟨fun t cs fuel x h ht => by simp [chk] at h, fun fs off cs h hl _ => ?_⟩
    simp only [Sh.size] at hl
    exact List.drop_eq_nil_of_le (by omega)
  | pair a b iha ihb =>
    have F : ∀ (fs : List Field) (off : Nat) (cs : List Value), (chk P (.pair a b)).2 fs off = true → cs.length = off + (Sh.pair a b).size → (∀ f ∈ fs, ∃ fuel x, DataW.trod enc P w base spare held fuel f.type ((cs.drop f.offset).take (P.cellsOf f.type)) = some x) → Dat (fun b => w.heap[b]?) (.pair a b) (cs.drop off) := by
      intro fs off cs h hl hf
      cases fs with
      | nil => simp [chk] at h
      | cons f fs =>
        simp only [chk, Bool.and_eq_true, beq_iff_eq] at h
        obtain ⟨ho, h1, h2, h3⟩ := h
        simp only [Sh.size] at hl
        obtain ⟨fu, x, hx⟩ := hf f (by simp)
        rw [ho, h2] at hx
        refine ⟨(cs.drop off).take a.size, cs.drop (off + a.size), ?_, iha.1 _ _ _ _ h1 hx, ihb.2 fs (off + a.size) cs h3 (by omega) (fun g hg => hf g (by simp [hg]))⟩
        rw [← List.drop_drop, List.take_append_drop]
    refine ⟨fun t cs fuel x h ht => ?_, F⟩
    have h' : (match P.underlying t with | some (.struct fs) => P.cellsOf t == a.size + b.size && (chk P (.pair a b)).2 fs.toList 0 | _ => false) = true := h
    split at h'
    · rename_i fs hu
      simp only [Bool.and_eq_true, beq_iff_eq] at h'
      obtain ⟨xs, k, hk, _, hl, hxl, hp⟩ := DataW.trod_struct hu ht
      have := F fs.toList 0 cs h'.2 (by simp only [Sh.size]; omega) (fun f hf => by
        obtain ⟨i, hi, he⟩ := List.getElem_of_mem hf
        have hy := hp i f (by rw [← Array.getElem?_toList, List.getElem?_eq_getElem hi, he])
        rw [List.getElem?_eq_getElem (by simp at hi; omega)] at hy
        exact ⟨k, _, hy⟩)
      simpa using this
    · cases h'
  | rep n e ih =>
    refine ⟨fun t cs fuel x h ht => ?_, fun fs off cs h => by simp [chk] at h⟩
    simp only [chk] at h
    split at h
    · rename_i k et hu
      simp only [Bool.and_eq_true, beq_iff_eq] at h
      obtain ⟨hkn, h1, h2, h3⟩ := h
      have hkn := Nat.eq_of_beq_eq_true hkn
      subst hkn
      obtain ⟨xs, fu, hfu, _, hl, hxl, hp⟩ := DataW.trod_array hu ht
      rw [h2] at hp
      refine ⟨(List.range' 0 k).map (fun i => (cs.drop (i * e.size)).take e.size), (chunk_list cs e.size k (by omega)).symm, by simp, ?_⟩
      intro c hc
      obtain ⟨i, hi, rfl⟩ := List.mem_map.1 hc
      simp at hi
      have hy := hp i hi
      rw [List.getElem?_eq_getElem (by omega)] at hy
      exact ih.1 _ _ _ _ h1 hy
    · cases h
  | slice e ih =>
    refine ⟨fun t cs fuel x h ht => ?_, fun fs off cs h => by simp [chk] at h⟩
    simp only [chk] at h
    split at h
    · rename_i et hu
      simp only [Bool.and_eq_true, beq_iff_eq] at h
      obtain ⟨h1, h2, h3⟩ := h
      have hpos : 0 < e.size := by rw [Nat.blt_eq] at h3; exact h3
      rcases DataW.trod_slice hu ht with ⟨rfl, _⟩ | ⟨a, len, cap, elems, rest, n, _, rfl, _, hb, hl, hm, hlen, hel, hrest, _⟩
      · exact ⟨_, [], rfl, .inl (.inl ⟨0, rfl, rfl⟩), rfl, by simp, by simp⟩
      · rw [h2] at hel hrest
        have first : ∀ i, (∃ cs y, (w.cells? base (a.add (i * e.size)) e.size).bind (DataW.trod enc P w base spare held n et) = some y ∧ cs = y) → ∃ cs y, w.cells? base (a.add (i * e.size)) e.size = some cs ∧ DataW.trod enc P w base spare held n et cs = some y := by
          rintro i ⟨_, y, hy, _⟩
          rw [Option.bind_eq_some_iff] at hy
          obtain ⟨cs, g1, g2⟩ := hy
          exact ⟨cs, y, g1, g2⟩
        have hel' : ∀ i, i < len → ∃ cs y, w.cells? base (a.add (i * e.size)) e.size = some cs ∧ DataW.trod enc P w base spare held n et cs = some y := by
          intro i hi
          have := hel i hi
          rw [List.getElem?_eq_getElem (by omega)] at this
          exact first i ⟨_, _, this, rfl⟩
        have hblk : cap = 0 ∨ ∃ b o arr t fr, a = ⟨b, o, none⟩ ∧ w.heap[b]? = some (.cells arr t fr) := by
          by_cases hc : cap = 0
          · exact .inl hc
          · right
            have : ∃ cs y, w.cells? base (a.add (0 * e.size)) e.size = some cs ∧ DataW.trod enc P w base spare held n et cs = some y := by
              by_cases hl0 : len = 0
              · obtain ⟨hr1, hr2⟩ := hrest (hsp _)
                have h0 := hr2 0 (by omega)
                obtain ⟨z, hz⟩ : ∃ z, rest[0]? = some z := ⟨_, List.getElem?_eq_getElem (by omega)⟩
                rw [hz, hl0] at h0
                exact first 0 ⟨_, _, h0, rfl⟩
              · exact hel' 0 (by omega)
            obtain ⟨cs, y, g1, _⟩ := this
            obtain ⟨_, g3, g4⟩ := World.cells?_some g1
            have := g4 0 hpos
            rw [Nat.zero_mul, add_zero, add_zero, List.getElem?_eq_getElem (by omega)] at this
            obtain ⟨b, o, arr, t, fr, e1, e2, _⟩ := cell_some this
            exact ⟨b, o, arr, t, fr, e1, e2⟩
        rcases hblk with rfl | ⟨b, o, arr, t', fr, rfl, harr⟩
        · obtain rfl : len = 0 := by omega
          exact ⟨_, [], rfl, .inr ⟨rfl, a, rfl⟩, rfl, by simp, by simp⟩
        · have each : ∀ i, i < len → ∃ cs y, cs = ((arr.toList.drop o).drop (i * e.size)).take e.size ∧ DataW.trod enc P w base spare held n et cs = some y ∧ o + i * e.size + e.size ≤ arr.size := by
            intro i hi
            obtain ⟨cs, y, g1, g2⟩ := hel' i hi
            obtain ⟨_, g3, g4⟩ := World.cells?_some g1
            have g5 : ∀ k, k < e.size → arr[o + i * e.size + k]? = cs[k]? := by
              intro k hk'
              have := g4 k hk'
              rw [add_none, add_none, cell_at harr] at this
              exact this
            have hlast : o + i * e.size + e.size ≤ arr.size := by
              have := g5 (e.size - 1) (by omega)
              rw [List.getElem?_eq_getElem (by omega)] at this
              have := (Array.getElem?_eq_some_iff.1 this).1
              omega
            refine ⟨cs, y, ?_, g2, hlast⟩
            apply List.ext_getElem?
            intro k
            by_cases hk' : k < e.size
            · rw [← g5 k hk', List.getElem?_take, if_pos hk', List.getElem?_drop, List.getElem?_drop, Array.getElem?_toList]
              congr 1; omega
            · rw [List.getElem?_eq_none (by omega), List.getElem?_eq_none (by simp; omega)]
          have hbound : len * e.size ≤ (arr.toList.drop o).length ∨ len = 0 := by
            by_cases h0 : len = 0
            · exact .inr h0
            · obtain ⟨_, _, _, _, g⟩ := each (len - 1) (by omega)
              left
              have : len * e.size = (len - 1) * e.size + e.size := by
                rw [← Nat.succ_mul]; congr 1; omega
              simp
              omega
          have hflat := chunks_flat (arr.toList.drop o) e.size len 0 (by
            rw [Nat.zero_add]
            rcases hbound with h | h
            · exact h
            · rw [h]; simp)
          have hdat : ∀ c ∈ (List.range' 0 len).map (fun i => ((arr.toList.drop o).drop (i * e.size)).take e.size), Dat (fun b => w.heap[b]?) e c := by
            intro c hc
            obtain ⟨i, hi, rfl⟩ := List.mem_map.1 hc
            simp at hi
            obtain ⟨cs, y, k1, k2, _⟩ := each i hi
            rw [← k1]
            exact ih.1 _ _ _ _ h1 k2
          refine ⟨_, (List.range' 0 len).map (fun i => ((arr.toList.drop o).drop (i * e.size)).take e.size), rfl, .inl (.inr ⟨b, o, cap, len, arr, t', fr, rfl, harr, ?_, hl, ?_, ?_⟩), by simp [lenV], hdat, by simp; omega⟩
          · rw [flat_len (fun c hc => (hdat c hc).length)]; simp
          · intro j' u hu
            rw [hflat] at hu
            simp only [Nat.zero_mul, List.drop_zero, List.getElem?_take] at hu
            split at hu
            · rw [List.getElem?_drop, Array.getElem?_toList] at hu; exact hu
            · simp at hu
          · intro u hu
            obtain ⟨c, hc, huc⟩ := List.mem_flatten.1 hu
            exact (hdat c hc).one u huc
    · cases h
theorem flat_at : ∀ {els : List (List Value)} {s i j : Nat} {c : List Value} {u : Value}, (∀ c ∈ els, c.length = s) → els[i]? = some c → c[j]? = some u → els.flatten[i * s + j]? = some u
  | [], _, _, _, _, _, _, hi, _ => by simp at hi
  | a :: els, s, 0, j, c, u, hl, hi, hj => by
    simp at hi; subst hi
    have := (List.getElem?_eq_some_iff.1 hj).1
    rw [Nat.zero_mul, Nat.zero_add, List.flatten_cons, List.getElem?_append_left this]; exact hj
  | a :: els, s, i + 1, j, c, u, hl, hi, hj => by
    have ha := hl a (by simp)
    have ih := flat_at (els := els) (s := s) (fun c hc => hl c (by simp [hc])) (by simpa using hi) hj
    rw [List.flatten_cons, List.getElem?_append_right (by rw [ha, Nat.add_mul]; omega), ha, show (i + 1) * s + j - s = i * s + j by rw [Nat.add_mul]; omega]
    exact ih
/-- an element of a slice of equal parts -/
theorem Lies.elem {m : Mem} {s : Nat} {v : Value} {els : List (List Value)} (h : Lies m s v els.flatten) (hl : ∀ c ∈ els, c.length = s) (hp : 0 < s) (hv : lenV v = els.length) {i : Nat} (hi : i < els.length) :
    ∃ b o c, v = .slice (some ⟨b, o, none⟩) els.length c ∧ ∀ i c, els[i]? = some c → MRange m b (o + i * s) c := by
  rcases h with ⟨c, rfl, h⟩ | ⟨b, o, c, n, arr, t, fr, rfl, h1, h2, h3, h4, h5⟩
  · simp [lenV] at hv; omega
  · simp only [lenV] at hv; subst hv
    refine ⟨b, o, c, rfl, fun i c hc => ⟨arr, t, fr, h1, fun j u hu => ?_⟩⟩
    have := h4 _ u (flat_at hl hc hu)
    rw [show o + i * s + j = o + (i * s + j) by omega]; exact this
theorem dat_ints {m : Mem} {k : IntKind} {n : Nat} {cs : List Value} (h : Dat m (.rep n (.int k)) cs) : ∃ l : List Int, cs = l.map (Value.int k) ∧ l.length = n ∧ ∀ x ∈ l, (Lit.int k x).wf = true := by
  obtain ⟨els, rfl, rfl, h⟩ := h
  have := @els_ints k 0 els (fun c hc => by obtain ⟨n, rfl, hw⟩ := h c hc; exact ⟨⟨rfl, hw⟩, trivial⟩)
  obtain ⟨l, h1, h2, h3⟩ := this
  exact ⟨l, h1, h2, h3⟩
/-- a slice of numbers -/
theorem dat_sints {m : Mem} {k : IntKind} {cs : List Value} (h : Dat m (.slice (.int k)) cs) : ∃ (v : Value) (l : List Int), cs = [v] ∧ (Lies m 1 v (l.map (Value.int k)) ∨ (l = [] ∧ ∃ a, v = .slice (some a) 0 0)) ∧ lenV v = l.length ∧ (∀ x ∈ l, (Lit.int k x).wf = true) ∧ l.length ≤ maxLen := by
  obtain ⟨v, els, rfl, h1, h2, h3, h4⟩ := h
  obtain ⟨l, g1, g2, g3⟩ := @els_ints k 0 els (fun c hc => by obtain ⟨n, rfl, hw⟩ := h3 c hc; exact ⟨⟨rfl, hw⟩, trivial⟩)
  refine ⟨v, l, rfl, ?_, by omega, g3, by omega⟩
  rcases h1 with h1 | ⟨rfl, a, rfl⟩
  · rw [g1] at h1; exact .inl h1
  · exact .inr ⟨by apply List.eq_nil_of_length_eq_zero; simpa using g2, a, rfl⟩
theorem open_dat (hsp : ∀ b, spare b = true) {sh : Sh} {t : TypeId} {v : Value} {d : DataW H} {ps : List MemPlace} (hc : (chk P sh).1 t = true) (hd : DataW.Trod enc P w base spare held t v d ps) : Dat (fun b => w.heap[b]?) sh v.cells.toList := by
  obtain ⟨fuel, hf⟩ := hd
  exact (trod_dat hsp sh).1 _ _ _ _ hc hf
theorem val_slice {r : Reach} {b0 : Nat} {t e : TypeId} {v : Value} (hu : P.underlying t = some (.slice e)) (h : Value.okWide P w r b0 t v) : v.cells.toList = [v] ∧ v.oneCell' = true := by
  unfold Value.okWide at h
  rw [hu] at h
  simp only [Cell.okWide, hu, Cell.ok] at h
  cases v <;> simp at h
  exact ⟨rfl, rfl⟩
theorem val_string {r : Reach} {b0 : Nat} {t : TypeId} {v : Value} (hu : P.underlying t = some .string) (h : Value.okWide P w r b0 t v) : v.cells.toList = [v] ∧ v.oneCell' = true := by
  unfold Value.okWide at h
  rw [hu] at h
  simp only [Cell.okWide, hu, Cell.ok] at h
  cases v <;> simp at h
  exact ⟨rfl, rfl⟩
theorem val_int {k : IntKind} {r : Reach} {b0 : Nat} {t : TypeId} {v : Value} (hu : P.underlying t = some (.int k)) (h : Value.okWide P w r b0 t v) : v.cells.toList = [v] ∧ v.oneCell' = true := by
  unfold Value.okWide at h
  rw [hu] at h
  simp only [Cell.okWide, hu, Cell.ok] at h
  cases v <;> simp at h
  exact ⟨rfl, rfl⟩
theorem wf_i64 {n : Int} (h : (Lit.int .i64 n).wf = true) : -9223372036854775808 ≤ n ∧ n ≤ 9223372036854775807 := by
  simpa [Lit.wf, IntKind.min, IntKind.max, IntKind.signed, IntKind.bits] using h
theorem wf_u64 {n : Int} (h : (Lit.int .u64 n).wf = true) : 0 ≤ n ∧ n < 18446744073709551616 := by
  have : 0 ≤ n ∧ n ≤ 18446744073709551615 := by simpa [Lit.wf, IntKind.min, IntKind.max, IntKind.signed, IntKind.bits] using h
  omega
theorem wf_u8 {n : Int} (h : (Lit.int .u8 n).wf = true) : 0 ≤ n ∧ n < 256 := by
  have : 0 ≤ n ∧ n ≤ 255 := by simpa [Lit.wf, IntKind.min, IntKind.max, IntKind.signed, IntKind.bits] using h
  omega
theorem wf_u32 {n : Int} (h : (Lit.int .u32 n).wf = true) : 0 ≤ n ∧ n < 4294967296 := by
  have : 0 ≤ n ∧ n ≤ 4294967295 := by simpa [Lit.wf, IntKind.min, IntKind.max, IntKind.signed, IntKind.bits] using h
  omega
end
end Go.E

/-
  Lists of digests and of whole numbers that are arguments.
-/
namespace Go.E.YtgjlajcebcmbaaaGreatDoor
open Go.Proofs
set_option maxRecDepth 100000
theorem dat_dig {m : Mem} {cs : List Value} (h : Dat m (.rep 32 (.int .u8)) cs) : ∃ d : List Nat, cs = (nc d).map (Value.int .u8) ∧ d.length = 32 ∧ ∀ x ∈ d, x < 256 := by
  obtain ⟨l, rfl, h1, h2⟩ := dat_ints h
  have e : nc (l.map Int.toNat) = l := by
    simp only [nc, List.map_map]
    refine (List.map_congr_left fun x hx => ?_).trans (List.map_id l)
    have := wf_u8 (h2 x hx)
    show ((x.toNat : Nat) : Int) = x
    omega
  refine ⟨l.map Int.toNat, by rw [e], by simpa using h1, fun x hx => ?_⟩
  obtain ⟨y, hy, rfl⟩ := List.mem_map.1 hx
  have := wf_u8 (h2 y hy)
  omega
theorem dat_digs_rows {m : Mem} : ∀ {els : List (List Value)}, (∀ c ∈ els, Dat m (.rep 32 (.int .u8)) c) → ∃ D : List (List Nat), els = D.map (fun d => (nc d).map (Value.int .u8)) ∧ D32 D ∧ ∀ d ∈ D, ∀ x ∈ d, x < 256
  | [], _ => ⟨[], rfl, (by intro d hd; cases hd), (by intro d hd; cases hd)⟩
  | c :: els, h => by
    obtain ⟨d, rfl, h1, h2⟩ := dat_dig (h c (by simp))
    obtain ⟨D, rfl, h3, h4⟩ := dat_digs_rows (els := els) fun c hc => h c (by simp [hc])
    refine ⟨d :: D, rfl, fun x hx => ?_, fun x hx => ?_⟩
    · rcases List.mem_cons.1 hx with rfl | hx
      · exact h1
      · exact h3 x hx
    · rcases List.mem_cons.1 hx with rfl | hx
      · exact h2
      · exact h4 x hx
theorem dat_digs {m : Mem} {cs : List Value} (h : Dat m (.slice (.rep 32 (.int .u8))) cs) : ∃ v D, cs = [v] ∧ Da m v D ∧ ∀ d ∈ D, ∀ x ∈ d, x < 256 := by
  obtain ⟨v, els, rfl, h1, h2, h3, h4⟩ := h
  obtain ⟨D, rfl, h5, h6⟩ := dat_digs_rows h3
  refine ⟨v, D, rfl, ?_, h6⟩
  rcases h1 with h1 | ⟨h1, a, rfl⟩
  · refine .inl ⟨?_, h5⟩
    have e : (D.map fun d => (nc d).map (Value.int .u8)).flatten = dcs D := by rw [dcs, List.flatMap]
    rw [e] at h1
    exact h1
  · exact .inr ⟨by simpa using h1, a, rfl⟩
theorem dat_places {m : Mem} {cs : List Value} (h : Dat m (.slice (.int .i64)) cs) : ∃ v l, cs = [v] ∧ Ia m v l ∧ ∀ x ∈ l, -9223372036854775808 ≤ x ∧ x ≤ 9223372036854775807 := by
  obtain ⟨v, l, rfl, h1, h2, h3, h4⟩ := dat_sints h
  exact ⟨v, l, rfl, h1, fun x hx => by have := wf_i64 (h3 x hx); omega⟩
end Go.E.YtgjlajcebcmbaaaGreatDoor

/-
  Law WalkEnds.
-/
namespace Go.E.YtgjlajcebcmbaaaGreatDoor
open Go.Proofs
set_option maxRecDepth 100000
namespace Tr
theorem comesF_symm (a b : List Nat) : ∀ (f : Nat) (p : Int), comesF a b f p = comesF b a f p
  | 0, _ => rfl
  | f + 1, p => by
    rw [comesF, comesF, comesF_symm a b f]
    have : decide (dig a p.toNat ≠ dig b p.toNat) = decide (dig b p.toNat ≠ dig a p.toNat) := decide_eq_decide.2 ⟨Ne.symm, Ne.symm⟩
    rw [this]
theorem comes_symm (a b : List Nat) (p : Nat) : comes a b p = comes b a p := comesF_symm a b 4 p
theorem rout_symm (a b : List Nat) : ∀ k, rout a b k = rout b a k
  | 0 => rfl
  | k + 1 => by rw [rout, rout, rout_symm a b k, comes_symm]
theorem rlooks_symm (a b : List Nat) : ∀ k, rlooks a b k = rlooks b a k
  | 0 => rfl
  | k + 1 => by rw [rlooks, rlooks, rlooks_symm a b k, comes_symm]
/-- the places of the next level -/
def nxt (a b : List Nat) (l : List Int) : List Int := unl a (kidsL l) (digs b l)
theorem nxt_eq (a b : List Nat) (l : List Int) : nxt a b l = (kidsL l).filter (uu a b) := unl_filter a b (kidsL l)
theorem nxt1 (a b : List Nat) : nxt a b [0] = [1, 2, 3, 4].filter (uu a b) := nxt_eq a b [0]
theorem nxt2 (a b : List Nat) : nxt a b (nxt a b [0]) = lvs a b 1 ++ (lvs a b 2 ++ (lvs a b 3 ++ lvs a b 4)) := by rw [nxt_eq a b (nxt a b [0]), nxt1, lv2]
theorem ends {a b : List Nat} (h0 : dig a 0 ≠ dig b 0) : leaves (nxt a b (nxt a b [0])) = rout a b 21 ∧ rlooks a b 21 = 5 + (kidsL (nxt a b [0])).length ∧ (kidsL (nxt a b [0])).length = 4 * (nxt a b [0]).length ∧ (nxt a b [0]).length ≤ 4 := by
  have hu : uu a b 0 = true := by simp [uu, h0]
  have e1 := rlooks_5 a b 16
  rw [show 5 + 16 = 21 from rfl] at e1
  have hro : rlooks a b 5 = 5 + 4 * ([1, 2, 3, 4].filter (uu a b)).length := by
    simp only [rlooks, comes_0 a b, comes_1 a b (q := 1) (by decide), comes_1 a b (q := 2) (by decide), comes_1 a b (q := 3) (by decide), comes_1 a b (q := 4) (by decide), hu, Bool.and_true]
    cases h1 : uu a b 1 <;> cases h2 : uu a b 2 <;> cases h3 : uu a b 3 <;> cases h4 : uu a b 4 <;> simp [kids, h1, h2, h3, h4]
  refine ⟨?_, ?_, ?_, ?_⟩
  · rw [nxt2, rout_all hu, leaves_of lvs_ge]
  · rw [e1, hro, nxt1, lv1_len]
  · rw [nxt1, lv1_len]
  · rw [nxt1]; exact List.length_filter_le _ _
theorem nxt_pls (a b : List Nat) (l : List Int) : Pls (nxt a b l) := fun x hx => by
  have := kidsL_in x (unl_sub a x hx)
  omega
end Tr
end Go.E.YtgjlajcebcmbaaaGreatDoor

/-
  The walk's bounds: plainly.
-/
namespace Go.E.YtgjlajcebcmbaaaGreatDoor
open Go.Proofs
set_option maxRecDepth 100000
namespace Tr
theorem dig_at' (t : List Nat) (q i : Nat) : (dig t q)[i]? = if i < 32 then t[32 * q + i]? else none := by
  simp only [dig, List.getElem?_take, List.getElem?_drop]
theorem put_at {t d : List Nat} (ht : t.length = 672) (hd : d.length = 32) {p : Nat} (hp : p < 21) (i : Nat) : (put t p d)[i]? = if i < 32 * p then t[i]? else if i < 32 * p + 32 then d[i - 32 * p]? else t[i]? := by
  rw [put, List.append_assoc]
  by_cases h1 : i < 32 * p
  · rw [if_pos h1, List.getElem?_append_left (by rw [List.length_take]; omega), List.getElem?_take, if_pos h1]
  · rw [if_neg h1, List.getElem?_append_right (by rw [List.length_take]; omega), List.length_take, Nat.min_eq_left (by omega)]
    by_cases h2 : i < 32 * p + 32
    · rw [if_pos h2, List.getElem?_append_left (by omega)]
    · rw [if_neg h2, List.getElem?_append_right (by omega), List.getElem?_drop]
      congr 1; omega
theorem dig_put {t d : List Nat} (ht : t.length = 672) (hd : d.length = 32) {p q : Nat} (hp : p < 21) : dig (put t p d) q = if q = p then d else dig t q := by
  refine List.ext_getElem? fun i => ?_
  rw [dig_at', put_at ht hd hp]
  by_cases h : q = p
  · subst h
    rw [if_pos rfl]
    by_cases hi : i < 32
    · rw [if_pos hi, if_neg (by omega), if_pos (by omega)]; congr 1; omega
    · rw [if_neg hi, List.getElem?_eq_none (by omega)]
  · rw [if_neg h, dig_at']
    by_cases hi : i < 32
    · rw [if_pos hi, if_pos hi]
      by_cases h1 : 32 * q + i < 32 * p
      · rw [if_pos h1]
      · rw [if_neg h1, if_neg (by omega)]
    · rw [if_neg hi, if_neg hi]
theorem dig_lv (ls : List (List Nat)) : ∀ {i : Nat}, i ≤ 16 → ∀ j, j < i → dig (lv ls i) (5 + j) = leafD (ls.getD j [])
  | 0, _, j, hj => by omega
  | i + 1, hi, j, hj => by
    rw [lv, dig_put (d := leafD (ls.getD i [])) (lv_ok ls (by omega)).len (sum_len _) (by omega)]
    by_cases h : j = i
    · subst h; rw [if_pos rfl]
    · rw [if_neg (by omega)]; exact dig_lv ls (by omega) j (by omega)
theorem dig_inn {t : List Nat} (h : Ok t) {q : Nat} (hq : 5 ≤ q) : ∀ j, dig (inn t j) q = dig t q
  | 0 => rfl
  | j + 1 => by rw [inn_succ, dig_put (inn_ok h j).len (sum_len _) (by omega), if_neg (by omega)]; exact dig_inn h hq j
theorem dig_ofT (ls : List (List Nat)) {j : Nat} (hj : j < 16) : dig (ofT ls) (5 + j) = leafD (ls.getD j []) := by
  rw [ofT, dig_inn (lv_ok ls (Nat.le_refl _)) (by omega), dig_lv ls (Nat.le_refl _) j hj]
/-- the inner places that are unlike -/
def innN (a b : List Nat) (k : Nat) : Nat := (([1, 2, 3, 4].take k).filter (uu a b)).length
theorem lvs_len (a b : List Nat) (q : Nat) : (lvs a b q).length ≤ 4 * (if uu a b q then 1 else 0) := by
  unfold lvs
  split
  · exact Nat.le_trans (List.length_filter_le _ _) (kids_len _)
  · simp
theorem bounds {a b : List Nat} (h0 : dig a 0 ≠ dig b 0) : rlooks a b 21 = 5 + 4 * innN a b 4 ∧ (rout a b 21).length ≤ 4 * innN a b 4 ∧ innN a b 4 ≤ 4 := by
  obtain ⟨_, e2, e3, e4⟩ := ends h0
  have hu : uu a b 0 = true := by simp [uu, h0]
  have hn : nxt a b [0] = ([1, 2, 3, 4].take 4).filter (uu a b) := nxt1 a b
  refine ⟨by rw [e2, e3, hn]; rfl, ?_, by rw [hn] at e4; exact e4⟩
  rw [rout_all hu, List.length_map, List.length_append, List.length_append, List.length_append]
  have l1 := lvs_len a b 1
  have l2 := lvs_len a b 2
  have l3 := lvs_len a b 3
  have l4 := lvs_len a b 4
  have hi : innN a b 4 = (if uu a b 1 then 1 else 0) + (if uu a b 2 then 1 else 0) + (if uu a b 3 then 1 else 0) + (if uu a b 4 then 1 else 0) := by
    unfold innN
    cases h1 : uu a b 1 <;> cases h2 : uu a b 2 <;> cases h3 : uu a b 3 <;> cases h4 : uu a b 4 <;> simp [h1, h2, h3, h4]
  rw [hi]
  have c1 : uu a b ((1 : Nat) : Int) = uu a b 1 := rfl
  have c2 : uu a b ((2 : Nat) : Int) = uu a b 2 := rfl
  have c3 : uu a b ((3 : Nat) : Int) = uu a b 3 := rfl
  have c4 : uu a b ((4 : Nat) : Int) = uu a b 4 := rfl
  rw [c1] at l1
  rw [c2] at l2
  rw [c3] at l3
  rw [c4] at l4
  omega
theorem unlike_leaf {a b : List Nat} (h0 : dig a 0 ≠ dig b 0) : ∀ x ∈ rout a b 21, ∃ j : Nat, x = (j : Int) ∧ j < 16 ∧ dig a (5 + j) ≠ dig b (5 + j) := by
  have hu : uu a b 0 = true := by simp [uu, h0]
  intro x hx
  rw [rout_all hu, List.mem_map] at hx
  obtain ⟨p, hp, rfl⟩ := hx
  have hr := lvs_ge p hp
  have hf : uu a b p = true := by
    rw [← lv2] at hp
    exact (List.mem_filter.1 hp).2
  refine ⟨(p - 5).toNat, by omega, by omega, ?_⟩
  have e : 5 + (p - 5).toNat = p.toNat := by omega
  rw [e]
  simpa [uu] using hf
theorem rounds_le (a b : List Nat) : (walk a b).2.2 ≤ 3 := by
  rw [(walk_ref a b).2.2]
  cases rlev a b 0 21 <;> cases rlev a b 1 21 <;> cases rlev a b 2 21 <;> decide
theorem wk_pos (a b : List Nat) : ∀ (f : Nat) (l : List Int) (n r : Nat), r ≤ (wk a b f l n r).2.2
  | 0, l, n, r => Nat.le_refl _
  | f + 1, l, n, r => by
    unfold wk
    split
    · exact Nat.le_succ _
    · dsimp only
      split
      · exact Nat.le_succ _
      · exact Nat.le_trans (Nat.le_succ _) (wk_pos a b f _ _ _)
theorem rounds_0 (a b : List Nat) : (walk a b).2.2 = 0 ↔ dig a 0 = dig b 0 := by
  unfold walk
  by_cases h : dig a 0 = dig b 0
  · rw [if_pos h]; exact ⟨fun _ => h, fun _ => rfl⟩
  · rw [if_neg h]
    refine ⟨fun e => ?_, fun e => absurd e h⟩
    exfalso
    unfold wk at e
    split at e
    · cases e
    · dsimp only at e
      split at e
      · cases e
      · have := wk_pos a b 2 (unl a (kidsL [0]) (digs b [0])) (1 + (digs b [0]).length) (0 + 1)
        omega
theorem same_out {a b : List Nat} (h0 : dig a 0 = dig b 0) : rout a b 21 = [] ∧ rlooks a b 21 = 1 := by
  obtain ⟨w1, w2, _⟩ := walk_ref a b
  have hw : walk a b = ([], 1, 0) := by rw [walk, if_pos h0]
  rw [hw] at w1 w2
  exact ⟨w1.symm, w2.symm⟩
theorem innN_succ (a b : List Nat) {k : Nat} (hk : k < 4) : innN a b (k + 1) = innN a b k + (if dig a (k + 1) = dig b (k + 1) then 0 else 1) := by
  have g : ∀ j : Nat, uu a b (j : Int) = decide (dig a j ≠ dig b j) := fun j => rfl
  have g1 := g 1
  have g2 := g 2
  have g3 := g 3
  have g4 := g 4
  rw [show ((1 : Nat) : Int) = 1 from rfl] at g1
  rw [show ((2 : Nat) : Int) = 2 from rfl] at g2
  rw [show ((3 : Nat) : Int) = 3 from rfl] at g3
  rw [show ((4 : Nat) : Int) = 4 from rfl] at g4
  match k, hk with
  | 0, _ => by_cases e : dig a 1 = dig b 1 <;> simp [innN, List.filter_cons, g1, e]
  | 1, _ => cases e1 : uu a b 1 <;> by_cases e : dig a 2 = dig b 2 <;> simp [innN, List.filter_cons, g2, e, e1]
  | 2, _ => cases e1 : uu a b 1 <;> cases e2 : uu a b 2 <;> by_cases e : dig a 3 = dig b 3 <;> simp [innN, List.filter_cons, g3, e, e1, e2]
  | 3, _ => cases e1 : uu a b 1 <;> cases e2 : uu a b 2 <;> cases e3 : uu a b 3 <;> by_cases e : dig a 4 = dig b 4 <;> simp [innN, List.filter_cons, g4, e, e1, e2, e3]
theorem innN_le (a b : List Nat) (k : Nat) : innN a b k ≤ 4 := by
  unfold innN
  refine Nat.le_trans (List.length_filter_le _ _) ?_
  rw [List.length_take]; exact Nat.min_le_right _ _
end Tr
end Go.E.YtgjlajcebcmbaaaGreatDoor

/-
  Law WalkBounds.
-/
namespace Go.E.YtgjlajcebcmbaaaGreatDoor
open Go.Proofs
set_option maxRecDepth 100000
/-- sixteen texts -/
structure T16 (m : Mem) (vs : List Value) (ls : List (List Nat)) : Prop where
  vlen : vs.length = 16
  llen : ls.length = 16
  one : ∀ v ∈ vs, v.oneCell' = true
  la : ∀ i (h1 : i < vs.length) (h2 : i < ls.length), La m vs[i] (nc ls[i])
  byt : ∀ l ∈ ls, ∀ x ∈ l, x < 256
theorem T16.at {m : Mem} {vs : List Value} {ls : List (List Nat)} (h : T16 m vs ls) {i : Nat} (hi : i < 16) : ∃ a c, vs.getD i undef = .slice a (ls.getD i []).length c ∧ La m (.slice a (ls.getD i []).length c) (nc (ls.getD i [])) := by
  have hl := h.la i (by have := h.vlen; omega) (by have := h.llen; omega)
  have e1 : vs.getD i undef = vs[i]'(by have := h.vlen; omega) := by rw [List.getD_eq_getElem?_getD, List.getElem?_eq_getElem (by have := h.vlen; omega)]; rfl
  have e2 : ls.getD i [] = ls[i]'(by have := h.llen; omega) := by rw [List.getD_eq_getElem?_getD, List.getElem?_eq_getElem (by have := h.llen; omega)]; rfl
  rw [e1, e2]
  obtain ⟨a, c, e⟩ := hl.shape
  rw [show (nc (ls[i]'(by have := h.llen; omega))).length = (ls[i]'(by have := h.llen; omega)).length by simp [nc]] at e
  exact ⟨a, c, e, e ▸ hl⟩
theorem T16.sub {m m' : Mem} {vs : List Value} {ls : List (List Nat)} (h : T16 m vs ls) (hs : Sub m m') : T16 m' vs ls := ⟨h.vlen, h.llen, h.one, fun i h1 h2 => (h.la i h1 h2).sub hs, h.byt⟩
theorem La.cases {m : Mem} {v : Value} {l : List Int} (h : La m v l) : (∃ c, v = .slice none 0 c ∧ l = []) ∨ (∃ a, v = .slice (some a) 0 0 ∧ l = []) ∨ ∃ b o c, v = .slice (some ⟨b, o, none⟩) l.length c ∧ Lb m (.slice (some ⟨b, o, none⟩) l.length c) l := by
  rcases h with h | ⟨rfl, a, rfl⟩
  · rcases h.cases with ⟨c, rfl, rfl⟩ | ⟨b, o, c, arr, t, fr, rfl, _⟩
    · exact .inl ⟨c, rfl, rfl⟩
    · exact .inr (.inr ⟨b, o, c, rfl, h⟩)
  · exact .inr (.inl ⟨a, rfl, rfl⟩)
theorem T16.cases {m : Mem} {vs : List Value} {ls : List (List Nat)} (h : T16 m vs ls) {i : Nat} (hi : i < 16) : (∃ c, vs.getD i undef = .slice none 0 c ∧ ls.getD i [] = []) ∨ (∃ a, vs.getD i undef = .slice (some a) 0 0 ∧ ls.getD i [] = []) ∨ ∃ b o c, vs.getD i undef = .slice (some ⟨b, o, none⟩) (ls.getD i []).length c ∧ Lb m (.slice (some ⟨b, o, none⟩) (ls.getD i []).length c) (nc (ls.getD i [])) := by
  obtain ⟨a, c, e, hl⟩ := h.at hi
  rw [e]
  rcases La.cases hl with ⟨c', e1, e2⟩ | ⟨a', e1, e2⟩ | ⟨b, o, c', e1, h1⟩
  · exact .inl ⟨c', e1, by simpa [nc] using e2⟩
  · exact .inr (.inl ⟨a', e1, by simpa [nc] using e2⟩)
  · refine .inr (.inr ⟨b, o, c', ?_, ?_⟩)
    · rw [e1]; simp [nc]
    · have : (nc (ls.getD i [])).length = (ls.getD i []).length := by simp [nc]
      rw [this] at h1; exact h1
theorem strOf_nc {a b : List Nat} (ha : ∀ x ∈ a, x < 256) (hb : ∀ x ∈ b, x < 256) (h : strOf (nc a) = strOf (nc b)) : a = b := by
  have h1 := congrArg (fun s : ByteArray => s.data.toList) h
  simp only [strOf_data] at h1
  refine nc_inj (by8_inj ?_ ?_ h1)
  · intro x hx; simp only [nc, List.mem_map] at hx; obtain ⟨y, hy, rfl⟩ := hx; have := ha y hy; omega
  · intro x hx; simp only [nc, List.mem_map] at hx; obtain ⟨y, hy, rfl⟩ := hx; have := hb y hy; omega
theorem txt_ne {a b : ByteArray} (h : a ≠ b) : ¬ (a.toList == b.toList) = true := fun e => h (by
  have e := eq_of_beq e
  rw [ByteArray.toList_eq, ByteArray.toList_eq] at e
  cases a; cases b
  simp only at e
  congr 1
  exact Array.ext' e)
theorem T16.bytD {m : Mem} {vs : List Value} {ls : List (List Nat)} (h : T16 m vs ls) (j : Nat) : ∀ x ∈ ls.getD j [], x < 256 := fun x hx => by
  by_cases hj : j < ls.length
  · rw [List.getD_eq_getElem?_getD, List.getElem?_eq_getElem hj] at hx
    exact h.byt _ (List.getElem_mem hj) x hx
  · rw [List.getD_eq_getElem?_getD, List.getElem?_eq_none (by omega)] at hx; cases hx
end Go.E.YtgjlajcebcmbaaaGreatDoor

/-
  Sixteen texts that came in.
-/
namespace Go.E.YtgjlajcebcmbaaaGreatDoor
open Go.Proofs
set_option maxRecDepth 100000
theorem dat_text {m : Mem} {cs : List Value} (h : Dat m (.slice (.int .u8)) cs) : ∃ v l, cs = [v] ∧ La m v (nc l) ∧ ∀ x ∈ l, x < 256 := by
  obtain ⟨v, l, rfl, h1, h2, h3, h4⟩ := dat_sints h
  have hb : ∀ x ∈ l, 0 ≤ x ∧ x < 256 := fun x hx => wf_u8 (h3 x hx)
  have e : nc (l.map Int.toNat) = l := by
    simp only [nc, List.map_map]
    refine (List.map_congr_left fun x hx => ?_).trans (List.map_id _)
    have := hb x hx
    simp only [Function.comp, id]; omega
  refine ⟨v, l.map Int.toNat, rfl, ?_, fun x hx => ?_⟩
  · rw [e]
    rcases h1 with h1 | h1
    · exact .inl h1
    · exact .inr h1
  · obtain ⟨y, hy, rfl⟩ := List.mem_map.1 hx
    have := hb y hy; omega
theorem dat_texts {m : Mem} : ∀ {els : List (List Value)}, (∀ c ∈ els, Dat m (.slice (.int .u8)) c) → ∃ (vs : List Value) (ls : List (List Nat)), els.flatten = vs ∧ vs.length = els.length ∧ ls.length = els.length ∧ (∀ v ∈ vs, v.oneCell' = true) ∧ (∀ i (h1 : i < vs.length) (h2 : i < ls.length), La m vs[i] (nc ls[i])) ∧ ∀ l ∈ ls, ∀ x ∈ l, x < 256
  | [], _ => ⟨[], [], rfl, rfl, rfl, by simp, by intro i h; simp at h, by simp⟩
  | c :: els, h => by
    obtain ⟨v, l, rfl, h1, h2⟩ := dat_text (h c (by simp))
    obtain ⟨vs, ls, e1, e2, e3, e4, e5, e6⟩ := dat_texts (els := els) fun c hc => h c (by simp [hc])
    refine ⟨v :: vs, l :: ls, by simp [e1], by simp [e2], by simp [e3], ?_, ?_, ?_⟩
    · intro u hu
      rcases List.mem_cons.1 hu with rfl | hu
      · exact h1.one
      · exact e4 u hu
    · intro i hi1 hi2
      cases i with
      | zero => exact h1
      | succ i => exact e5 i (by simpa using hi1) (by simpa using hi2)
    · intro u hu
      rcases List.mem_cons.1 hu with rfl | hu
      · exact h2
      · exact e6 u hu
theorem dat_t16 {m : Mem} {cs : List Value} (h : Dat m (.rep 16 (.slice (.int .u8))) cs) : ∃ ls, T16 m cs ls := by
  obtain ⟨els, rfl, hn, h1⟩ := h
  obtain ⟨vs, ls, e1, e2, e3, e4, e5, e6⟩ := dat_texts h1
  rw [e1]
  exact ⟨ls, by omega, by omega, e4, e5, e6⟩
theorem val_agg {P : Program} {w : World} {r : Reach} {b0 k : Nat} {t e : TypeId} {v : Value} (hu : P.underlying t = some (.array k e)) (h : Value.okWide P w r b0 t v) : v = .agg (v.cells.toList ++ []).toArray := by
  unfold Value.okWide at h
  rw [hu] at h
  obtain ⟨cs, rfl, _⟩ := h
  simp [Value.cells]
end Go.E.YtgjlajcebcmbaaaGreatDoor

/-
  Files: new ones; an op.
-/
namespace Go.E.YtgjlajcebcmbaaaGreatDoor
open Go.Proofs
set_option maxRecDepth 100000
theorem new_neg {m : Mem} {q : Int} (h : q < 0) : Ret Tryz.prog 12 [i64 q] m [.v (.pointer none), i64 1] := by
  refine en12 rfl (goY ?_)
  conv => whnf
  refine ⟨fun _ => ?_, fun h => absurd h (by first | exact (by simpa using h) | (rw [decide_eq_true (by omega)] at h; cases h))⟩
  conv => whnf
  exact ⟨rfl, rfl⟩
theorem fs_new {m : Mem} {bf bm : Nat} {q : Int} (h : Split m [blk1 bf (filesO q bm 0 0), blk1 bm (mapF [] 0)]) : FA m bf q 0 0 [] := ⟨bm, 0, [], ⟨h, by simp, by simp, by simp⟩, rfl⟩
theorem new_spec {m : Mem} {q : Int} (h : 0 ≤ q) : Spec Tryz.prog 12 [i64 q] m fun r m' => ∃ bf p, r = [ptrB bf, i64 0] ∧ Split m' [p, m] ∧ FA p bf q 0 0 [] := by
  refine en12 rfl (goY ?_)
  conv => whnf
  refine ⟨fun h' => absurd (of_decide_eq_true h') (by omega), fun _ => ?_⟩
  conv => whnf
  refine .mk _ (makeMap_spec (enc := Value.string)) ?_
  rintro _ m1 ⟨bm, hbm, rfl, rfl⟩
  conv => whnf
  intro bf hbf
  conv => whnf
  have hs := ((Split.one m).new hbm (mapF [] 0)).new hbf (filesO q bm 0 0)
  have hs := hs.perm (l' := [m, blk1 bf (filesO q bm 0 0), blk1 bm (mapF [] 0)]) (by exact (List.Perm.cons _ (List.Perm.swap _ _ _)).trans (List.Perm.swap _ _ _))
  exact ⟨bf, _, rfl, (Split.rest hs).1, fs_new (Split.rest hs).2⟩
/-- an op -/
structure Opr where
  kind : Int
  n : Int
  name : ByteArray
  to : ByteArray
  ab : Option Addr
  cb : Nat
  b : List Nat
  al : Option Addr
  cl : Nat
  last : List Int
abbrev Opr.vb (o : Opr) : Value := .slice o.ab o.b.length o.cb
abbrev Opr.vl (o : Opr) : Value := .slice o.al o.last.length o.cl
abbrev Opr.cells (o : Opr) : List Value := [.int .i64 o.kind, .int .i64 o.n, .string o.name, .string o.to, .slice o.ab o.b.length o.cb, .slice o.al o.last.length o.cl]
abbrev Opr.cv (o : Opr) : CV := .a [.one (.int .i64 o.kind), .one (.int .i64 o.n), .one (.string o.name), .one (.string o.to), .one (.slice o.ab o.b.length o.cb), .one (.slice o.al o.last.length o.cl)]
structure Opr.Ok (m : Mem) (o : Opr) : Prop where
  b : La m o.vb (nc o.b)
  byt : ∀ x ∈ o.b, x < 256
  l : Ia m o.vl o.last
  lI : ∀ x ∈ o.last, -9223372036854775808 ≤ x ∧ x ≤ 9223372036854775807
  nI : -9223372036854775808 ≤ o.n ∧ o.n ≤ 9223372036854775807
  ll : o.last.length ≤ 9223372036854775807
theorem oOk : EncOk Opr.cells 6 := ⟨fun _ => rfl, fun x u hu => by simp [Opr.cells] at hu; rcases hu with rfl | rfl | rfl | rfl | rfl | rfl <;> rfl, by decide⟩
/-- ops that lie somewhere, or none, wherever -/
def Oa (m : Mem) (v : Value) (O : List Opr) : Prop := Lies m 6 v (O.flatMap Opr.cells) ∨ (O = [] ∧ ∃ a, v = .slice (some a) 0 0)
theorem Oa.shape {m : Mem} {v : Value} {O : List Opr} (h : Oa m v O) : ∃ a c, v = .slice a O.length c := by
  rcases h with h | ⟨rfl, a, rfl⟩
  · exact oOk.shape h
  · exact ⟨_, _, rfl⟩
theorem Oa.sub {m m' : Mem} {v : Value} {O : List Opr} (h : Oa m v O) (hs : Sub m m') : Oa m' v O := h.imp (·.sub hs) id
theorem Oa.real {m : Mem} {v : Value} {O : List Opr} (h : Oa m v O) {i : Nat} (hi : i < O.length) : ∃ b o c, v = .slice (some ⟨b, o, none⟩) O.length c ∧ ∀ j (hj : j < O.length), MRange m b (o + j * 6) O[j].cells := by
  rcases h with h | ⟨rfl, _⟩
  · exact oOk.real h hi
  · simp at hi
abbrev shOp : Sh := .pair (.int .i64) (.pair (.int .i64) (.pair .str (.pair .str (.pair (.slice (.int .u8)) (.pair (.slice (.int .i64)) .unit)))))
theorem dat_last {m : Mem} {cs : List Value} (h : Dat m (.slice (.int .i64)) cs) : ∃ v l, cs = [v] ∧ Ia m v l ∧ (∀ x ∈ l, -9223372036854775808 ≤ x ∧ x ≤ 9223372036854775807) ∧ l.length ≤ 9223372036854775807 := by
  obtain ⟨v, l, rfl, h1, h2, h3, h4⟩ := dat_sints h
  exact ⟨v, l, rfl, h1, fun x hx => wf_i64 (h3 x hx), h4⟩
theorem dat_op {m : Mem} {cs : List Value} (h : Dat m shOp cs) : ∃ o : Opr, cs = o.cells ∧ o.Ok m := by
  obtain ⟨_, _, rfl, ⟨n1, rfl, _⟩, _, _, rfl, ⟨n2, rfl, h2⟩, _, _, rfl, ⟨s1, rfl, _⟩, _, _, rfl, ⟨s2, rfl, _⟩, _, _, rfl, h5, _, _, rfl, h6, h7⟩ := h
  simp only [Dat] at h7
  subst h7
  obtain ⟨v, l, rfl, e1, e2⟩ := dat_text h5
  obtain ⟨w, k, rfl, g1, g2, g3⟩ := dat_last h6
  obtain ⟨a, c, rfl⟩ := e1.shape
  obtain ⟨a', c', rfl⟩ := g1.shape
  rw [nc_len] at e1 ⊢
  exact ⟨⟨n1, n2, s1, s2, a, c, l, a', c', k⟩, rfl, e1, e2, g1, g2, wf_i64 h2, g3⟩
theorem dat_op_rows {m : Mem} : ∀ {els : List (List Value)}, (∀ c ∈ els, Dat m shOp c) → ∃ O : List Opr, els.flatten = O.flatMap Opr.cells ∧ O.length = els.length ∧ ∀ o ∈ O, o.Ok m
  | [], _ => ⟨[], rfl, rfl, by simp⟩
  | c :: els, h => by
    obtain ⟨e, rfl, he⟩ := dat_op (h c (by simp))
    obtain ⟨E, h1, h2, h3⟩ := dat_op_rows (els := els) fun c hc => h c (by simp [hc])
    refine ⟨e :: E, by rw [List.flatten_cons, List.flatMap_cons, h1], by simp [h2], fun o ho => ?_⟩
    rcases List.mem_cons.1 ho with rfl | ho
    · exact he
    · exact h3 o ho
theorem dat_ops {m : Mem} {cs : List Value} (h : Dat m (.slice shOp) cs) : ∃ v O, cs = [v] ∧ Oa m v O ∧ (∀ o ∈ O, o.Ok m) ∧ O.length ≤ 9223372036854775807 := by
  obtain ⟨v, els, rfl, h1, h2, h3, h4⟩ := h
  obtain ⟨E, e1, e2, e3⟩ := dat_op_rows h3
  refine ⟨v, E, rfl, ?_, e3, by rw [e2]; exact h4⟩
  rcases h1 with h1 | ⟨rfl, a, rfl⟩
  · rw [e1] at h1; exact .inl h1
  · exact .inr ⟨List.eq_nil_of_length_eq_zero (by simpa using e2), a, rfl⟩
/-- of what may be small enough -/
def Opr.Small (o : Opr) : Prop := o.b.length ≤ 500 ∧ o.name.size ≤ 100 ∧ o.to.size ≤ 100
theorem great_spec {m : Mem} {o : Opr} (h : o.Ok m) : Spec Tryz.prog 34 [o.cv] m fun r m' => ∃ b, r = [boolV b] ∧ Sub m m' ∧ (b = false → o.Small) := by
  obtain ⟨kind, n, name, to, ab, cb, b, al, cl, last⟩ := o
  unfold Opr.Small
  refine en34 rfl (goY ?_)
  conv => whnf
  refine ⟨fun h1 => ?_, fun h1 => ?_⟩
  · conv => whnf
    exact ⟨_, rfl, Sub.refl _, fun h => (by cases h)⟩
  · conv => whnf
    refine ⟨fun h2 => ?_, fun h2 => ?_⟩
    · conv => whnf
      exact ⟨_, rfl, Sub.refl _, fun h => (by cases h)⟩
    · conv => whnf
      refine ⟨_, rfl, Sub.refl _, fun h3 => ?_⟩
      have h1 := of_decide_eq_false h1
      have h2 := of_decide_eq_false h2
      have h3 := of_decide_eq_false h3
      simp only at h1 h2 h3 ⊢
      omega
/-- what an op comes to -/
structure Did (p : Mem) (bf : Nat) (q : Int) (k nb ns : Nat) (A A' : List Af) : Prop where
  fa : FA p bf q nb ns A'
  sm : Sm (k + 1) A' nb ns
  tot : 0 < q → (totA A : Int) ≤ q → (totA A' : Int) ≤ q
end Go.E.YtgjlajcebcmbaaaGreatDoor

/-
  Files: what must come of fixed calls.
-/
namespace Go.E.YtgjlajcebcmbaaaGreatDoor
open Go.Proofs
set_option maxRecDepth 100000
theorem make8_spec {m : Mem} : PrimSpec Tryz.prog (.makeSlice 37) [.v (.int .i64 8), .v (.int .i64 8)] m fun r m' => ∃ b, m b = none ∧ r = [.v (.slice (some ⟨b, 0, none⟩) 8 8)] ∧ m' = m.set b (.cells (bc (List.replicate 8 0)).toArray 5) := by
  intro _ ty W hW
  obtain ⟨j, hj, hjs, hjb, z, hz, hzc⟩ := (tt_ok _ _ hU8).inf
  have hu := (tt_ok _ _ hBs).slice rfl
  have hr := run_makeSlice W 37 5 j z hu hj hz .i64 .i64 8 8 (by decide) (by decide) (by rw [hjs]; decide) (by rw [hjb]; decide) (by decide)
  rw [hjs, hzc] at hr
  refine ⟨[.v (.slice (some ⟨W.heap.size, 0, none⟩) 8 8)], m.set W.heap.size (.cells (bc (List.replicate 8 0)).toArray 5), W.alloc (.cells (bc (List.replicate 8 0)).toArray 5), ?_, ?_, ⟨W.heap.size, hW.none (Nat.le_refl _), rfl, rfl⟩, (After.refl hW).alloc _⟩
  · simp [Prim.run, Prim.out, Prim.tup, cond_false, resVal, CV.val, hr]
    exact congrArg (fun c => W.alloc (.cells c 5)) (by kernel_rfl)
  · intro x hx
    simp at hx; subst hx; rfl
/-- what stands beside, taken with what was there -/
theorem Split.side {mm b p m : Mem} (h : Split mm [b, p, m]) : ∃ q, Sub b q ∧ Sub m q ∧ Split mm [p, q] ∧ ∀ m' p', Split m' [p', q] → Split m' [p', m] := by
  have h1 := h.perm (l' := [p, b, m]) (List.Perm.swap _ _ _)
  obtain ⟨h2, h3⟩ := Split.rest h1
  exact ⟨allM [b, m], h3.sub (by simp), h3.sub (by simp), h2.perm (List.Perm.swap _ _ _), fun m' p' h4 => by
    have h5 : Split m' [p', b, m] := Split.under (a := [p']) h4 h3
    exact (h5.perm (l' := [b, p', m]) (List.Perm.swap _ _ _)).drop⟩
abbrev nmA : ByteArray := ⟨#[97]⟩
abbrev nmB : ByteArray := ⟨#[98]⟩
abbrev nmX : ByteArray := ⟨#[98, 46, 120]⟩
theorem srtB_one (x : ByteArray) : srtB [x] = [x] := List.perm_singleton.1 (srtB_same [x])
theorem al_1 {e : Int} {A' : List Af} {nb' : Nat} (h : AppR [] nmA [97, 98] 10 e A' 0 nb') : e = 0 ∧ A' = [⟨nmA, [97, 98], 0⟩] ∧ nb' = 2 := by
  rw [AppR, if_neg (by decide +kernel), if_neg (by decide +kernel)] at h
  exact h
theorem al_2 : syncA [⟨nmA, [97, 98], 0⟩] nmA = [⟨nmA, [97, 98], 2⟩] := by simp [syncA]
theorem al_2e : errA [⟨nmA, [97, 98], 0⟩] nmA = 0 ∧ (fileA [⟨nmA, [97, 98], 0⟩] nmA).isSome = true := by simp [errA, fileA]
theorem al_3 {e : Int} {A' : List Af} {nb' : Nat} (h : AppR [⟨nmA, [97, 98], 2⟩] nmA [99, 100] 10 e A' 2 nb') : e = 0 ∧ A' = [⟨nmA, [97, 98, 99, 100], 2⟩] ∧ nb' = 4 := by
  rw [AppR, if_neg (by decide +kernel), if_neg (by decide +kernel)] at h
  obtain ⟨h1, h2, h3⟩ := h
  exact ⟨h1, by rw [h2]; simp [appA], h3⟩
theorem al_4 : crashA [⟨nmA, [97, 98, 99, 100], 2⟩] [1] = [⟨nmA, [97, 98, 99], 3⟩] := by
  simp only [crashA, List.map_cons, List.map_nil, srtB_one, List.length_cons, List.length_nil, crashTo, crash1]
  simp [lastN]
  decide
theorem al_5 : errA [⟨nmA, [97, 98, 99], 3⟩] nmA = 0 ∧ (((fileA [⟨nmA, [97, 98, 99], 3⟩] nmA).map (·.l)).getD []) = [97, 98, 99] := by simp [errA, fileA]
theorem al_6 {e : Int} {A' : List Af} {nb' : Nat} (h : AppR [⟨nmA, [97, 98, 99], 3⟩] nmB (List.replicate 8 0) 10 e A' 4 nb') : e = 5 ∧ A' = [⟨nmA, [97, 98, 99], 3⟩] ∧ nb' = 4 := by
  rw [AppR, if_neg (by decide +kernel), if_pos (by decide +kernel)] at h
  exact h
theorem al_7 : renEA [⟨nmA, [97, 98, 99], 3⟩] nmA nmX = 0 ∧ renA [⟨nmA, [97, 98, 99], 3⟩] nmA nmX = [⟨nmX, [97, 98, 99], 3⟩] := by
  have h : nameOk (chs nmX) = true := by decide +kernel
  simp [renEA, renA, fileA, h, rmA, putA]
theorem al_8 : totA [⟨nmX, [97, 98, 99], 3⟩] = 3 ∧ ((fileA [⟨nmX, [97, 98, 99], 3⟩] nmX).map (·.safe)).getD 0 = 3 ∧ errA [⟨nmX, [97, 98, 99], 3⟩] nmA = 4 := by
  have h : ¬ nmA = nmX := by decide +kernel
  simp [totA, errA, fileA, h]
theorem sm_al {k : Nat} {A : List Af} {nb ns : Nat} (h1 : A.all (fun a => decide (a.l.length ≤ 500)) = true) (h2 : A.length ≤ 1) (h3 : nb ≤ 500) (h4 : ns ≤ 1) : Sm 1 A nb ns :=
  ⟨fun a ha => by have := List.all_eq_true.1 h1 a ha; simpa using this, h2, by omega, h4, by omega⟩
end Go.E.YtgjlajcebcmbaaaGreatDoor

/-
  Law FilesQuota.
-/
namespace Go.E.YtgjlajcebcmbaaaGreatDoor
open Go.Proofs
set_option maxRecDepth 100000
theorem Opr.Ok.sub {m m' : Mem} {o : Opr} (h : o.Ok m) (hs : Sub m m') : o.Ok m' := ⟨h.b.sub hs, h.byt, h.l.sub hs, h.lI, h.nI, h.ll⟩
/-- files beside what came in -/
structure Qin (m mm : Mem) (bf : Nat) (q : Int) (i : Nat) : Prop where
  ex : ∃ p nb ns A, Split mm [p, m] ∧ FA p bf q nb ns A ∧ Sm i A nb ns ∧ (totA A : Int) ≤ q
end Go.E.YtgjlajcebcmbaaaGreatDoor

/-
  Files: what a crash leaves.
-/
namespace Go.E.YtgjlajcebcmbaaaGreatDoor
open Go.Proofs
set_option maxRecDepth 100000
theorem FA.safe {p : Mem} {bf : Nat} {q : Int} {nb ns : Nat} {A : List Af} (h : FA p bf q nb ns A) : ∀ a ∈ A, a.safe ≤ a.l.length := by
  obtain ⟨bm, clock, F, h1, rfl⟩ := h
  intro a ha
  obtain ⟨f, hf, rfl⟩ := List.mem_map.1 ha
  exact (h1.ok f hf).safe
theorem lastN_le (a : Af) (x : Int) (h : a.safe ≤ a.l.length) : a.safe + lastN a x ≤ a.l.length := by
  unfold lastN; omega
theorem lastN_zero (a : Af) (x : Int) (h : a.safe = a.l.length) : lastN a x = 0 := by
  unfold lastN; omega
/-- what a crash may leave of a file -/
structure Cr (a b : Af) : Prop where
  name : b.name = a.name
  lo : a.safe ≤ b.safe
  hi : b.safe ≤ b.l.length
  pre : b.l = a.l.take b.l.length
  all : a.safe = a.l.length → b = a
theorem Cr.refl {a : Af} (h : a.safe ≤ a.l.length) : Cr a a := ⟨rfl, Nat.le_refl _, h, by rw [List.take_length], fun _ => rfl⟩
theorem Cr.len {a b : Af} (h : Cr a b) : b.l.length ≤ a.l.length := by
  have := congrArg List.length h.pre
  rw [List.length_take] at this
  omega
theorem crashTo_map (N : List ByteArray) (last : List Int) (A : List Af) : ∀ i, ∃ g : Af → Af, crashTo N last A i = A.map g ∧ ∀ a : Af, a.safe ≤ a.l.length → Cr a (g a) ∧ ((∃ j, j < i ∧ N.getD j ByteArray.empty = a.name) → (g a).safe = (g a).l.length)
  | 0 => ⟨id, by simp [crashTo], fun a h => ⟨.refl h, fun ⟨j, hj, _⟩ => by omega⟩⟩
  | i + 1 => by
    obtain ⟨g, h1, h2⟩ := crashTo_map N last A i
    refine ⟨fun a => if (g a).name = N.getD i ByteArray.empty then ⟨(g a).name, (g a).l.take ((g a).safe + lastN (g a) (last.getD i 0)), (g a).safe + lastN (g a) (last.getD i 0)⟩ else g a, by rw [crashTo, h1, crash1, List.map_map]; rfl, fun a ha => ?_⟩
    obtain ⟨h3, h4⟩ := h2 a ha
    have hle := lastN_le (g a) (last.getD i 0) h3.hi
    by_cases hn : (g a).name = N.getD i ByteArray.empty
    · simp only [if_pos hn]
      refine ⟨⟨h3.name, by have := h3.lo; simp only; omega, by simp only [List.length_take]; omega, ?_, fun he => ?_⟩, fun _ => by simp only [List.length_take]; omega⟩
      · simp only [List.length_take]
        conv => lhs; rw [h3.pre]
        rw [List.take_take]
        try (congr 1; have := h3.len; omega)
      · have e := h3.all he
        rw [e] at hle ⊢
        rw [lastN_zero a _ he, Nat.add_zero, he, List.take_length]
        cases a; simp only at he ⊢; rw [he]
    · simp only [if_neg hn]
      refine ⟨h3, fun ⟨j, hj, hjn⟩ => h4 ⟨j, ?_, hjn⟩⟩
      rcases Nat.lt_or_ge j i with h | h
      · exact h
      · obtain rfl : j = i := by omega
        exact absurd (h3.name.trans hjn.symm) hn
theorem name_at {A : List Af} {a : Af} (ha : a ∈ A) : ∃ j, j < A.length ∧ (srtB (A.map (·.name))).getD j ByteArray.empty = a.name := by
  have h1 : a.name ∈ srtB (A.map (·.name)) := (srtB_same _).symm.subset (List.mem_map.2 ⟨a, ha, rfl⟩)
  obtain ⟨j, hj, e⟩ := List.getElem_of_mem h1
  have hl : (srtB (A.map (·.name))).length = A.length := by rw [(srtB_same _).length_eq, List.length_map]
  exact ⟨j, by omega, by rw [List.getD_eq_getElem?_getD, List.getElem?_eq_getElem hj, Option.getD_some, e]⟩
theorem crash_map {A : List Af} {last : List Int} (hA : ∀ a ∈ A, a.safe ≤ a.l.length) : ∃ g : Af → Af, crashA A last = A.map g ∧ ∀ a ∈ A, Cr a (g a) ∧ (g a).safe = (g a).l.length := by
  obtain ⟨g, h1, h2⟩ := crashTo_map (srtB (A.map (·.name))) last A A.length
  exact ⟨g, h1, fun a ha => by
    obtain ⟨h3, h4⟩ := h2 a (hA a ha)
    exact ⟨h3, h4 (name_at ha)⟩⟩
theorem crash_again {A : List Af} {last : List Int} (hA : ∀ a ∈ A, a.safe = a.l.length) : crashA A last = A := by
  obtain ⟨g, h1, h2⟩ := crash_map (last := last) fun a ha => Nat.le_of_eq (hA a ha)
  rw [h1]
  exact (List.map_congr_left fun a ha => (h2 a ha).1.all (hA a ha)).trans (List.map_id _)
theorem file_some {A : List Af} {i : Nat} (hi : i < (srtB (A.map (·.name))).length) : ∃ a ∈ A, fileA A (srtB (A.map (·.name)))[i] = some a := by
  have h1 := (srtB_same (A.map (·.name))).subset (List.getElem_mem hi)
  obtain ⟨a, ha, e⟩ := List.mem_map.1 h1
  cases h : fileA A (srtB (A.map (·.name)))[i] with
  | some b => exact ⟨b, List.mem_of_find?_eq_some h, rfl⟩
  | none =>
    have := List.find?_eq_none.1 h a ha
    simp [e] at this
theorem file_map {A : List Af} {g : Af → Af} (hg : ∀ a ∈ A, (g a).name = a.name) (name : ByteArray) : fileA (A.map g) name = (fileA A name).map g := by
  induction A with
  | nil => rfl
  | cons a A ih =>
    have ih := ih fun a ha => hg a (List.mem_cons_of_mem _ ha)
    simp only [fileA, List.map_cons, List.find?_cons] at ih ⊢
    rw [hg a (List.mem_cons_self ..)]
    split
    · rfl
    · exact ih
theorem names_map {A : List Af} {g : Af → Af} (hg : ∀ a ∈ A, (g a).name = a.name) : (A.map g).map (·.name) = A.map (·.name) := by
  rw [List.map_map]
  exact List.map_congr_left fun a ha => hg a ha
end Go.E.YtgjlajcebcmbaaaGreatDoor

/-
  Law FilesCrash, from the second crash on.
-/
namespace Go.E.YtgjlajcebcmbaaaGreatDoor
open Go.Proofs
set_option maxRecDepth 100000
/-- a file's text -/
def txt (A : List Af) (name : ByteArray) : ByteArray := strOf (nc (((fileA A name).map (·.l)).getD []))
theorem strOf_nil : strOf [] = ByteArray.empty := by rfl
end Go.E.YtgjlajcebcmbaaaGreatDoor

/-
  Law FilesCrash, from the first crash on.
-/
namespace Go.E.YtgjlajcebcmbaaaGreatDoor
open Go.Proofs
set_option maxRecDepth 100000
theorem strOf_size (l : List Int) : (strOf l).size = l.length := by
  have := congrArg List.length (strOf_data l)
  simpa [by8] using this
theorem strOf_cut (l : List Int) (n : Nat) : (strOf (l.take n)).toList = ((strOf l).extract 0 n).toList := by
  rw [ByteArray.toList_eq, ByteArray.toList_eq, ByteArray.data_extract, Array.toList_extract, strOf_data, strOf_data]
  simp [by8, List.map_take, List.extract]
def sfe (A : List Af) (name : ByteArray) : Int := ((((fileA A name).map (·.safe)).getD 0 : Nat) : Int)
end Go.E.YtgjlajcebcmbaaaGreatDoor

/-
  Law FilesCrash, behind the ops.
-/
namespace Go.E.YtgjlajcebcmbaaaGreatDoor
open Go.Proofs
set_option maxRecDepth 100000
theorem kept2 {p1 p2 mx my : Mem} {b1 b2 : Nat} {o1 o2 : Obj} {l : List Nat} (h1 : p1 b1 = some o1) (h2 : p2 b2 = some o2) (hx : Sub p1 mx) (hy : Sub p1 my) (kx : Sub p2 mx) (ky : Sub p2 my) (hl : ∀ x ∈ l, x = b1 ∨ x = b2) : Kept l mx my := fun x hx' => by
  rcases hl x hx' with rfl | rfl
  · rw [hx _ _ h1, hy _ _ h1]
  · rw [kx _ _ h2, ky _ _ h2]
end Go.E.YtgjlajcebcmbaaaGreatDoor

/-
  Law FilesCrash, whole: the ops.
-/
namespace Go.E.YtgjlajcebcmbaaaGreatDoor
open Go.Proofs
set_option maxRecDepth 100000
end Go.E.YtgjlajcebcmbaaaGreatDoor
