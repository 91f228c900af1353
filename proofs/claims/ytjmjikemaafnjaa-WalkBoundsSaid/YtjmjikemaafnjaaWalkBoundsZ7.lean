/-
  Sha6, Sha7, Sha8a, Tree2, Digs, Walk, Walk2, Walk3, RefT, RefW, RefD, WalkP, Tree3, Tree4, WalkS
-/
import Derived.Test.YtjmjikemaafnjaaWalkBoundsZ6
/-
  Contracts of sha: the digest of lists of bytes.
-/
namespace Go.E.Ytjmjikemaafnjaa
open Go.Proofs
set_option maxRecDepth 100000
theorem Lb.piece {m : Mem} {b o n c : Nat} {l : List Int} (h : Lb m (.slice (some ⟨b, o, none⟩) n c) l) (i len : Nat) (hk : i + len ≤ l.length) : Lb m (.slice (some ⟨b, o + i, none⟩) len len) ((l.drop i).take len) := by
  rcases h.cases with ⟨c, h1, h2⟩ | ⟨b', o', c', arr, t, fr, h1, h2, h3, h4⟩
  · cases h1
  · cases h1
    refine Lb.mk h2 (by simp; omega) (Nat.le_refl _) (fun j x hj => ?_)
    rw [List.getElem?_take] at hj
    split at hj
    · rw [List.getElem?_drop] at hj
      rw [Nat.add_assoc]; exact h4 _ _ hj
    · cases hj
theorem Lb.cap {m : Mem} {b o n c : Nat} {l : List Int} (h : Lb m (.slice (some ⟨b, o, none⟩) n c) l) : l.length ≤ c := by
  rcases h.cases with ⟨c, h1, h2⟩ | ⟨b', o', c', arr, t, fr, h1, h2, h3, h4⟩
  · cases h1
  · cases h1; exact h3
theorem blocks_succ : ∀ (k : Nat) (h p : List Nat), Sha.blocks h (k + 1) p = Sha.block (Sha.blocks h k p) ((p.drop (64 * k)).take 64)
  | 0, h, p => by simp [Sha.blocks]
  | k + 1, h, p => by
    rw [Sha.blocks, blocks_succ k, Sha.blocks, List.drop_drop]
    congr 3; omega
theorem add8_w8 (h v : List Nat) : W8 (Sha.add8 h v) := by
  refine ⟨by simp [Sha.add8], fun j => getD_lt (by decide) (fun x hx => ?_) j⟩
  simp only [Sha.add8, List.mem_map] at hx
  obtain ⟨i, _, rfl⟩ := hx
  exact Nat.mod_lt _ (by decide)
theorem blocks_w8 {h : List Nat} (hh : W8 h) (p : List Nat) : ∀ k, W8 (Sha.blocks h k p)
  | 0 => hh
  | k + 1 => by rw [blocks_succ]; exact add8_w8 _ _
theorem H0_w8 : W8 Sha.H0 := ⟨rfl, fun j => getD_lt (by decide) (by decide) j⟩
theorem pad_len (l : List Nat) : (Sha.pad l).length = 64 * ((Sha.pad l).length / 64) := by
  have : (Sha.pad l).length % 64 = 0 := by
    simp only [Sha.pad, List.length_append, List.length_replicate, be8_len, List.length_cons, List.length_nil, Sha.zeros]
    omega
  omega
theorem pad_le (l : List Nat) : (Sha.pad l).length ≤ l.length + 73 := by
  simp only [Sha.pad, List.length_append, List.length_replicate, be8_len, List.length_cons, List.length_nil, Sha.zeros]
  omega
theorem pad_byte {l : List Nat} (h : ∀ x ∈ l, x < 256) : ∀ x ∈ Sha.pad l, x < 256 := by
  intro x hx
  simp only [Sha.pad, List.mem_append, List.mem_singleton, List.mem_replicate, Sha.be8, List.mem_map] at hx
  rcases hx with ((h1 | rfl) | ⟨_, rfl⟩) | ⟨i, _, rfl⟩
  · exact h _ h1
  · decide
  · decide
  · exact Nat.mod_lt _ (by decide)
theorem over_obj {old : List Value} {new : LB} {t : TypeId} (hk : old.length ≤ LB.size new) : Obj.cells ((old.toArray).toList.take 0 ++ (LB.cells new ++ (old.toArray).toList.drop (0 + LB.size new))).toArray t = .cells (LB.cells new).toArray t := by
  have : (old.toArray).toList.drop (0 + LB.size new) = [] := List.drop_eq_nil_of_le (by simpa using hk)
  rw [this]; simp
abbrev st8 (h : List Nat) : Obj := .cells (LB.cells [.ints .u32 8 (nc h)]).toArray 64
abbrev dg32 (h : List Int) : Obj := .cells (LB.cells [.ints .u8 32 h]).toArray 26
set_option maxHeartbeats 2000000 in
theorem sum_spec {m : Mem} {v : Value} {ps : List (Value × List Int)} {l : List Nat} (h : Lists m v ps) (hcat : catB ps = nc l) (hb : l.length ≤ 1000000) (hn : ps.length ≤ 10000000) (h256 : ∀ x ∈ l, x < 256) :
    Spec Try.prog 27 [.v v] m fun r m' => r = [.a [.ints .u8 32 (nc (Sha.sum l))]] ∧ Sub m m' := by
  refine en27 rfl (goY ?_)
  conv => whnf
  intro bo hbo
  conv => whnf
  first | refine xretk (first_spec) ?_ | refine xret (first_spec) ?_
  conv => whnf
  intro b3 hb3
  conv => whnf
  refine ⟨_, _, _, Mem.set_same .., ⟨by decide, fun j _ => by simp⟩, ?_⟩
  have hs := (((Split.one m).new hbo (dg32 (List.replicate 32 0))).new hb3 (st8 (List.replicate 8 0))).setAt (i := 0) rfl (blk1_same ..) (st8 Sha.H0)
  rw [blk1_set] at hs
  change Split _ [blk1 b3 (st8 Sha.H0), blk1 bo (dg32 (List.replicate 32 0)), m] at hs
  conv => whnf
  obtain ⟨M1, hM⟩ : ∃ M1, M1 = ((m.set bo (dg32 (List.replicate 32 0))).set b3 (st8 (List.replicate 8 0))).set b3 (st8 Sha.H0) := ⟨_, rfl⟩
  rw [← hM] at hs
  change XCall _ _ _ (((m.set bo (dg32 (List.replicate 32 0))).set b3 (st8 (List.replicate 8 0))).set b3 (st8 Sha.H0)) _
  rw [← hM]
  clear hM
  have hs0 : Sub m M1 := hs.sub (by simp)
  refine xcall (padded_spec ⟨h.lies.sub hs0, fun p hp => (h.la p hp).sub hs0⟩ hcat hb hn) ?_
  rintro _ m1 ⟨v', p, rfl, hs1, hv1⟩
  conv => whnf
  have hs1 := hs1.under (a := [p]) hs
  refine xcall (chunk_spec hv1.lb.one) ?_
  rintro _ m2 ⟨c1, c2, hc1, hc2, rfl, rfl⟩
  conv => whnf
  have hs2 := (hs1.new hc1 _).new hc2 (.cells #[.int .i64 64] 3)
  have hpl := pad_len l
  have hpe := pad_le l
  have hne : nc (Sha.pad l) ≠ [] := by simp [nc, Sha.pad]
  obtain ⟨b, o, c, rfl⟩ := hv1.lb.real hne
  have hcap := Lb.cap hv1.lb
  have hl1 : (nc (Sha.pad l)).length = (Sha.pad l).length := by simp
  obtain ⟨n, hn2⟩ : ∃ n, n = (Sha.pad l).length / 64 := ⟨_, rfl⟩
  rw [← hn2] at hpl
  rw [hl1] at hcap
  have hlb := hv1.lb
  rw [hl1, hpl] at hlb hs2 ⊢
  refine .mk 39 #[.pointer (some ⟨c1, 0, none⟩), .pointer (some ⟨c2, 0, none⟩)] rfl rfl rfl (ι := Nat)
    (fun k mm => k ≤ n ∧ Split mm [blk1 c2 (.cells #[.int .i64 64] 3), blk1 c1 (.cells #[.slice (some ⟨b, o, none⟩) (64 * n) c] 46), p, blk1 b3 (st8 (Sha.blocks Sha.H0 k (Sha.pad l))), blk1 bo (dg32 (List.replicate 32 0)), m]) 0 ⟨by omega, hs2⟩
    (fun k x j => x = [piece b o k] ∧ j = k + 1 ∧ k < n) (fun k x j ⟨h1, _⟩ => by subst h1; rfl) ?_
    (fun mm => Split mm [blk1 c2 (.cells #[.int .i64 64] 3), blk1 c1 (.cells #[.slice (some ⟨b, o, none⟩) (64 * n) c] 46), p, blk1 b3 (st8 (Sha.blocks Sha.H0 n (Sha.pad l))), blk1 bo (dg32 (List.replicate 32 0)), m]) ?_ ?_
  · rintro k _ _ mm ⟨hk, hs⟩ ⟨rfl, rfl, hlt⟩
    conv => whnf
    have hw := blocks_w8 H0_w8 (Sha.pad l) k
    refine ⟨[.ints .u32 8 (nc (Sha.blocks Sha.H0 k (Sha.pad l)))], ⟨show (nc _).length = 8 by simp [hw.len], trivial⟩, rfl, MRange.mid [] [] (hs.get (a := blk1 b3 (st8 (Sha.blocks Sha.H0 k (Sha.pad l)))) (by simp) (blk1_same ..)) rfl, ?_⟩
    conv => whnf
    have hpc := Lb.piece (hlb.sub (hs.sub (a := p) (by simp))) (64 * k) 64 (by rw [hl1]; omega)
    have e1 : ((nc (Sha.pad l)).drop (64 * k)).take 64 = nc (((Sha.pad l).drop (64 * k)).take 64) := by simp only [nc, List.map_drop, List.map_take]
    rw [e1] at hpc
    first | refine xretk (block_spec (by simp; omega) (fun x hx => pad_byte h256 x (List.mem_of_mem_drop (List.mem_of_mem_take hx))) hpc (Nat.le_refl _) hw) ?_ | refine xret (block_spec (by simp; omega) (fun x hx => pad_byte h256 x (List.mem_of_mem_drop (List.mem_of_mem_take hx))) hpc (Nat.le_refl _) hw) ?_
    conv => whnf
    have hg := hs.get (a := blk1 b3 (st8 (Sha.blocks Sha.H0 k (Sha.pad l)))) (by simp) (blk1_same ..)
    have hsz : (LB.cells [.ints .u32 8 (nc (Sha.blocks Sha.H0 k (Sha.pad l)))]).length = 8 := by simp [LB.cells, Seg.cells, hw.len]
    refine ⟨_, _, _, hg, ⟨by show 0 + 8 ≤ (LB.cells _).toArray.size; simp only [List.size_toArray]; omega, fun j _ => by simp⟩, ?_⟩
    rw [over_obj (by show _ ≤ 8; omega)]
    conv => whnf
    refine ⟨hlt, ?_⟩
    have hs' := hs.setAt (i := 3) rfl (blk1_same ..) (st8 (Sha.blocks Sha.H0 (k + 1) (Sha.pad l)))
    rw [blk1_set] at hs'
    rw [← blocks_succ]
    exact hs'
  · intro lb ob _ hround
    refine (chunkIter_spec (I := fun k mm => ∃ m1, (k ≤ n ∧ Split m1 [blk1 c2 (.cells #[.int .i64 64] 3), blk1 c1 (.cells #[.slice (some ⟨b, o, none⟩) (64 * n) c] 46), p, blk1 b3 (st8 (Sha.blocks Sha.H0 k (Sha.pad l))), blk1 bo (dg32 (List.replicate 32 0)), m]) ∧ m1 lb = none ∧ mm = m1.set lb ob) (l := lb) (b1 := c1) (b2 := c2) (b := b) (o := o) (n := n) (c := c) (by omega) (by omega) ?_ ?_ ⟨_, ⟨Nat.zero_le _, hs2⟩, by assumption, rfl⟩).mono ?_
    · rintro k mm ⟨m1, ⟨_, hs⟩, hl, rfl⟩
      have g1 := hs.get (a := blk1 c1 (.cells #[.slice (some ⟨b, o, none⟩) (64 * n) c] 46)) (by simp) (blk1_same ..)
      have g2 := hs.get (a := blk1 c2 (.cells #[.int .i64 64] 3)) (by simp) (blk1_same ..)
      exact ⟨by rw [Mem.set_ne _ _ (by rintro rfl; rw [hl] at g1; cases g1)]; exact g1, by rw [Mem.set_ne _ _ (by rintro rfl; rw [hl] at g2; cases g2)]; exact g2⟩
    · rintro k mm hk ⟨m1, hi, hl, rfl⟩
      exact hround k _ _ m1 hi ⟨rfl, rfl, hk⟩ hl
    · rintro r m' ⟨rfl, m1, ⟨_, hs⟩, hl, rfl⟩
      exact ⟨m1, hs, hl, rfl⟩
  · intro mm hs
    conv => whnf
    have hw := blocks_w8 H0_w8 (Sha.pad l) n
    refine ⟨[.ints .u32 8 (nc (Sha.blocks Sha.H0 n (Sha.pad l)))], ⟨show (nc _).length = 8 by simp [hw.len], trivial⟩, rfl, MRange.mid [] [] (hs.get (a := blk1 b3 (st8 (Sha.blocks Sha.H0 n (Sha.pad l)))) (by simp) (blk1_same ..)) rfl, ?_⟩
    conv => whnf
    first | refine xretk (digest_spec) ?_ | refine xret (digest_spec) ?_
    conv => whnf
    have hg := hs.get (a := blk1 bo (dg32 (List.replicate 32 0))) (by simp) (blk1_same ..)
    refine ⟨_, _, _, hg, ⟨Nat.le_refl 32, fun j _ => by simp⟩, ?_⟩
    rw [over_obj (show (LB.cells [.ints .u8 32 (List.replicate 32 0)]).length ≤ LB.size [.ints .u8 32 (nc (Sha.digest (Sha.blocks Sha.H0 n (Sha.pad l))))] from Nat.le_refl 32)]
    have hs' := hs.setAt (i := 4) rfl (blk1_same ..) (dg32 (nc (Sha.digest (Sha.blocks Sha.H0 n (Sha.pad l)))))
    rw [blk1_set] at hs'
    change Split _ [_, _, _, _, _, _] at hs'
    conv => whnf
    refine ⟨[.ints .u8 32 (nc (Sha.digest (Sha.blocks Sha.H0 n (Sha.pad l))))], ⟨show (nc _).length = 32 by simp [Sha.digest], trivial⟩, rfl, MRange.mid [] [] (Mem.set_same ..) rfl, ?_⟩
    exact ⟨by rw [Sha.sum, ← hn2], hs'.sub (by simp)⟩
end Go.E.Ytjmjikemaafnjaa

/-
  Contracts of sha: the point, the number of blocks.
-/
namespace Go.E.Ytjmjikemaafnjaa
open Go.Proofs
set_option maxRecDepth 100000
theorem catB1 {v : Value} {l : List Nat} : catB [(v, nc l)] = nc l := by simp [catB]
theorem catB2 {v w : Value} {l k : List Nat} : catB [(v, nc l), (w, nc k)] = nc (l ++ k) := by simp [catB, nc]
/-- the point, step by step -/
def pt (l : List Nat) (i : Nat) : Nat := (List.range i).foldl (fun n i => n * 256 + (Sha.sum l).getD i 0) 0
theorem pt_succ (l : List Nat) (i : Nat) : pt l (i + 1) = pt l i * 256 + (Sha.sum l).getD i 0 := by simp [pt, List.range_succ]
theorem sum_lt (l : List Nat) (i : Nat) : (Sha.sum l).getD i 0 < 256 := by
  refine getD_lt (by decide) (fun x hx => ?_) i
  simp only [Sha.sum, Sha.digest, List.mem_map] at hx
  obtain ⟨i, _, rfl⟩ := hx
  exact Nat.mod_lt _ (by decide)
theorem pt_lt (l : List Nat) : ∀ i, pt l i < 256 ^ i
  | 0 => by simp [pt]
  | i + 1 => by
    have := pt_lt l i; have := sum_lt l i
    rw [pt_succ, Nat.pow_succ]; omega
theorem shl8 {x : Nat} (hx : x < 72057594037927936) : shlOf .u64 (x : Int) 8 = ((x * 256 : Nat) : Int) := by
  show IntKind.u64.wrap ((x : Int) * 2 ^ (min ((8 : Int).toNat) 64)) = _
  have : (min ((8 : Int).toNat) 64) = 8 := by decide
  rw [this, show ((2 : Int) ^ 8) = 256 from rfl, wu (by omega) (by omega)]; omega
theorem pt_or {l : List Nat} {i : Nat} (hi : i < 8) : bitsOf .or .u64 (shlOf .u64 ((pt l i : Nat) : Int) 8) (IntKind.u64.wrap (((Sha.sum l).getD i 0 : Nat) : Int)) = ((pt l (i + 1) : Nat) : Int) := by
  have h1 := pt_lt l i
  have h2 : (256 : Nat) ^ i ≤ 256 ^ 7 := Nat.pow_le_pow_right (by decide) (by omega)
  rw [show (256 : Nat) ^ 7 = 72057594037927936 from rfl] at h2
  have h3 := sum_lt l i
  rw [pt_succ]
  generalize pt l i = x at h1 ⊢
  generalize (Sha.sum l).getD i 0 = y at h3 ⊢
  have hx : x < 72057594037927936 := Nat.lt_of_lt_of_le h1 h2
  clear h1 h2
  rw [shl8 hx, wu (n := (y : Int)) (by omega) (by omega), or_u64 (Nat.lt_of_lt_of_le (show x * 256 < 18446744073709551616 by omega) (by decide)) (Nat.lt_of_lt_of_le h3 (by decide))]
  have := @or_low x y 8 (by simpa using h3)
  rw [show (2 : Nat) ^ 8 = 256 from rfl] at this
  rw [this]
end Go.E.Ytjmjikemaafnjaa

/-
  The digest of 'abc'; builds.
-/
namespace Go.E.Ytjmjikemaafnjaa
open Go.Proofs
set_option maxRecDepth 100000
theorem abc_sum : Sha.sum [97, 98, 99] = [186, 120, 22, 191, 143, 1, 207, 234, 65, 65, 64, 222, 93, 174, 34, 35, 176, 3, 97, 163, 150, 23, 122, 156, 180, 16, 255, 97, 242, 0, 21, 173] := by
  rw [← Sha.sumK_eq]; decide +kernel
def abcD : List Int := [186, 120, 22, 191, 143, 1, 207, 234, 65, 65, 64, 222, 93, 174, 34, 35, 176, 3, 97, 163, 150, 23, 122, 156, 180, 16, 255, 97, 242, 0, 21, 173]
theorem sum_abc {m : Mem} {v : Value} {ps : List (Value × List Int)} (h : Lists m v ps) (hcat : catB ps = [97, 98, 99]) (hn : ps.length ≤ 10000000) :
    Spec Try.prog 27 [.v v] m fun r m' => r = [.a [.ints .u8 32 [186, 120, 22, 191, 143, 1, 207, 234, 65, 65, 64, 222, 93, 174, 34, 35, 176, 3, 97, 163, 150, 23, 122, 156, 180, 16, 255, 97, 242, 0, 21, 173]]] ∧ Sub m m' := by
  refine (sum_spec (l := [97, 98, 99]) h hcat (by decide) hn (by decide)).mono ?_
  rintro r m' ⟨rfl, h⟩
  rw [abc_sum]
  exact ⟨rfl, h⟩
end Go.E.Ytjmjikemaafnjaa

/-
  Contracts of tree: digests.
-/
namespace Go.E.Ytjmjikemaafnjaa
open Go.Proofs
set_option maxRecDepth 100000
namespace Tr
/-- a tree is 672 bytes; the digest at a place -/
def dig (t : List Nat) (p : Nat) : List Nat := (t.drop (32 * p)).take 32
def put (t : List Nat) (p : Nat) (d : List Nat) : List Nat := t.take (32 * p) ++ d ++ t.drop (32 * p + 32)
/-- what an inner place's digest is made of -/
def below (t : List Nat) (p : Nat) : List Nat := if p < 5 then 1 :: ((kids p).flatMap fun k => dig t k.toNat) else []
structure Ok (t : List Nat) : Prop where
  len : t.length = 672
  byt : ∀ x ∈ t, x < 256
theorem dig_len {t : List Nat} (h : t.length = 672) {p : Nat} (hp : p < 21) : (dig t p).length = 32 := by simp [dig]; omega
theorem dig_byt {t : List Nat} (h : ∀ x ∈ t, x < 256) (p : Nat) : ∀ x ∈ dig t p, x < 256 := fun x hx => h x (List.mem_of_mem_drop (List.mem_of_mem_take hx))
theorem put_ok {t d : List Nat} (h : Ok t) (hd : d.length = 32) (hb : ∀ x ∈ d, x < 256) {p : Nat} (hp : p < 21) : Ok (put t p d) := by
  refine ⟨by have := h.len; simp [put]; omega, fun x hx => ?_⟩
  simp only [put, List.mem_append] at hx
  rcases hx with (hx | hx) | hx
  · exact h.byt x (List.mem_of_mem_take hx)
  · exact hb x hx
  · exact h.byt x (List.mem_of_mem_drop hx)
theorem below_len {t : List Nat} (h : t.length = 672) {p : Nat} : (below t p).length ≤ 129 := by
  unfold below
  split
  · rename_i h5
    unfold kids
    rw [if_pos (by omega)]
    simp only [List.flatMap_cons, List.flatMap_nil, List.length_cons, List.length_append, List.length_nil, dig, List.length_take]
    omega
  · simp
theorem below_byt {t : List Nat} (h : Ok t) {p : Nat} : ∀ x ∈ below t p, x < 256 := by
  unfold below
  split
  · intro x hx
    rcases List.mem_cons.1 hx with rfl | hx
    · decide
    · obtain ⟨k, _, hk⟩ := List.mem_flatMap.1 hx
      exact dig_byt h.byt _ x hk
  · simp
end Tr
theorem nc_cut (t : List Nat) (i n : Nat) : ((nc t).drop i).take n = nc ((t.drop i).take n) := by simp only [nc, List.map_drop, List.map_take]
abbrev treeV (t : List Nat) : CV := .a [.ints .u8 672 (nc t)]
abbrev digV' (d : List Nat) : CV := .a [.ints .u8 32 (nc d)]
theorem dig_lb {m : Mem} {b k : Nat} {t : List Nat} {T : TypeId} {fr : Nat × Nat} (h : m b = some (.cells (LB.cells [.ints .u8 672 (nc t)]).toArray T fr)) (ht : t.length = 672) (hk : k < 21) : Lb m (.slice (some ⟨b, k * 32, none⟩) 32 32) (nc (Tr.dig t k)) := by
  refine Lb.mk h (by simp [Tr.dig]; omega) (Nat.le_refl _) (fun j x hj => ?_)
  rw [Tr.dig, ← nc_cut, List.getElem?_take] at hj
  split at hj
  · rw [List.getElem?_drop, Nat.mul_comm] at hj
    simp [LB.cells, Seg.cells]
    simp at hj
    obtain ⟨y, h1, rfl⟩ := hj
    exact ⟨y, h1, rfl⟩
  · cases hj
set_option maxHeartbeats 1000000 in
theorem below_spec {m : Mem} {t : List Nat} {p : Nat} (ht : t.length = 672) (hp : p < 5) : Spec Try.prog 28 [treeV t, i64 p] m fun r m' => ∃ v q, r = [.v v] ∧ Split m' [q, m] ∧ Bs q v (nc (Tr.below t p)) := by
  have hk : Tr.kids p = [4 * (p : Int) + 1, 4 * (p : Int) + 2, 4 * (p : Int) + 3, 4 * (p : Int) + 4] := by rw [Tr.kids, if_pos (by omega)]
  refine en28 rfl (goY ?_)
  conv => whnf
  intro b hb
  conv => whnf
  have hs0 := (Split.one m).new hb (.cells (LB.cells [.ints .u8 672 (nc t)]).toArray 28)
  refine xcall (kids_spec (p := (p : Int)) (by omega)) ?_
  rintro _ m1 ⟨v1, q1, rfl, hs1, hv1⟩
  conv => whnf
  have hs1 := hs1.under (a := [q1]) hs0
  have hs1 : Split m1 [q1, _, m] := hs1
  obtain ⟨a1, c1, rfl⟩ := hv1.il.shape
  have hl4 : (Tr.kids p).length = 4 := by rw [hk]; rfl
  rw [hl4] at hv1 ⊢
  conv => whnf
  refine ⟨fun h => absurd h (by decide), fun _ => ?_⟩
  conv => whnf
  refine .mk _ (build1) ?_
  rintro _ _ ⟨b2, hb2, rfl, rfl⟩
  conv => whnf
  have hs2 := hs1.new hb2 (.cells (bc [1]).toArray 5)
  refine .mk (ι := Nat × Value) (fun i => 4 - i.1) (fun ⟨i, v⟩ mm => i ≤ 4 ∧ ∃ q, Split mm [q, q1, blk1 b (.cells (LB.cells [.ints .u8 672 (nc t)]).toArray 28), m] ∧ Bs q v (nc (1 :: (((Tr.kids p).take i).flatMap fun k => Tr.dig t k.toNat)))) (fun ⟨i, v⟩ => [(2, .c (ptrV b)), (6, .c (.v v)), (15, .c (.v (.slice a1 4 c1))), (16, .c (i64 4)), (17, .c (i64 i))]) (fun _ => []) (0, _) ⟨by omega, _, hs2, Bs.blk (l := [1]) (blk1_same ..) rfl⟩ ?_ ?_
  · conv => whnf
    repeat (refine And.intro (by first | with_reducible rfl | exact congrArg (Value.int _) (wi (by omega) (by omega)) | exact wi (by omega) (by omega) | rfl) ?_; conv => whnf)
    first | exact trivial | exact fun _ _ h => h
  rintro ⟨i, v⟩ mm ⟨hi, q, hs, hv⟩
  conv => whnf
  refine ⟨fun h1 => ?_, fun h1 => ?_⟩
  · have h1' := of_decide_eq_true h1
    have hlt : i < 4 := by omega
    have hlt' : i < (Tr.kids p).length := by omega
    have hv1' : Il mm (.slice a1 (Tr.kids p).length c1) (Tr.kids p) := by rw [hl4]; exact hv1.il.sub (hs.sub (by simp))
    obtain ⟨bk, ok, ck, hh, hg⟩ := hv1'.real hlt'
    injection hh with hh1 _ hh3
    subst hh1
    clear hh3 ck
    have hg := hg i hlt'
    have hki : (Tr.kids p)[i] = ((4 * p + i + 1 : Nat) : Int) := by
      simp only [hk]
      rcases i with _ | _ | _ | _ | i <;> simp <;> omega
    have hst : (Tr.kids p).take (i + 1) = (Tr.kids p).take i ++ [((4 * p + i + 1 : Nat) : Int)] := by rw [List.take_succ_eq_append_getElem hlt', hki]
    rw [hki] at hg
    have hk20 : 4 * p + i + 1 < 21 := by omega
    generalize 4 * p + i + 1 = k at hg hst hk20
    conv => whnf
    repeat (refine And.intro (by first | omega | (simp only [times]; omega)) ?_; conv => whnf)
    refine ⟨_, by simp only [times, Int.toNat_natCast, Nat.mul_one]; exact hg, rfl, ?_⟩
    conv => whnf
    repeat (refine And.intro (by first | omega | (simp only [times]; omega)) ?_; conv => whnf)
    intro o' ho _
    obtain rfl : o' = k * 32 := by have := ho (by decide); rw [this]; simp [times]
    have hdl := (Tr.dig_len ht hk20)
    have hlb := dig_lb (hs.sub (a := blk1 b (.cells (LB.cells [.ints .u8 672 (nc t)]).toArray 28)) (by simp) _ _ (blk1_same ..)) ht hk20
    conv => whnf
    have hbl : (nc (1 :: ((Tr.kids (p : Int)).take i).flatMap fun k => Tr.dig t k.toNat)).length + (nc (Tr.dig t k)).length ≤ 1000000000 := by
      have h1 := Tr.below_len ht (p := p)
      have : (nc (1 :: ((Tr.kids (p : Int)).take i).flatMap fun k => Tr.dig t k.toNat)).length ≤ 129 := by
        have h2 : Tr.below t p = (1 :: ((Tr.kids (p : Int)).take i).flatMap fun k => Tr.dig t k.toNat) ++ ((Tr.kids (p : Int)).drop i).flatMap fun k => Tr.dig t k.toNat := by
          rw [Tr.below, if_pos hp, List.cons_append, ← List.flatMap_append, List.take_append_drop]
        rw [h2, List.length_append] at h1
        rw [List.length_map]; omega
      have h3 : (nc (Tr.dig t k)).length = 32 := by simp [hdl]
      omega
    refine .mk _ (appendBat (i := 0) hs rfl hv hlb.la hbl) ?_
    rintro _ m2 ⟨v', q', rfl, hs', hv'⟩
    conv => whnf
    refine ⟨(i + 1, v'), ⟨by omega, q', hs', ?_⟩, by simp only; omega, ?_⟩
    · have := hv'.own
      rw [← nc_append] at this
      rw [hst, List.flatMap_append]
      simpa using this
    · conv => whnf
      repeat (refine And.intro (by first | with_reducible rfl | (first | exact congrArg (Value.int _) (iadd (by omega))) | exact congrArg (Value.int _) (wi (by omega) (by omega)) | exact wi (by omega) (by omega) | rfl) ?_; conv => whnf)
      first | exact trivial | exact fun _ _ h => h
  · have h1' := of_decide_eq_false h1
    obtain rfl : i = 4 := by omega
    conv => whnf
    refine ⟨v, q, rfl, (hs.erase 1).erase 1, ?_⟩
    rw [Tr.below, if_pos hp]
    rw [List.take_of_length_le (by omega)] at hv
    exact hv
end Go.E.Ytjmjikemaafnjaa

/-
  Lists of digests.
-/
namespace Go.E.Ytjmjikemaafnjaa
open Go.Proofs
set_option maxRecDepth 100000
theorem hDs : ∃ ti, tt.get 22 = some ti ∧ ti.k = .slice 26 := ⟨_, rfl, rfl⟩
theorem hDg : ∃ ti, tt.get 26 = some ti ∧ ti.size = 32 ∧ ti.bytes = 32 ∧ (LB.cells ti.zero).length = 32 := ⟨_, rfl, rfl, rfl, rfl⟩
def dcs (D : List (List Nat)) : List Value := D.flatMap fun d => (nc d).map (Value.int .u8)
def D32 (D : List (List Nat)) : Prop := ∀ d ∈ D, d.length = 32
theorem dcs_append (a b : List (List Nat)) : dcs (a ++ b) = dcs a ++ dcs b := by simp [dcs]
theorem dcs_len : ∀ {D : List (List Nat)}, D32 D → (dcs D).length = D.length * 32
  | [], _ => rfl
  | d :: D, h => by
    have ih := dcs_len (D := D) fun x hx => h x (by simp [hx])
    have := h d (by simp)
    simp only [dcs, List.flatMap_cons, List.length_append, List.length_map, List.length_cons] at ih ⊢
    omega
theorem dcs_one {D : List (List Nat)} : ∀ u ∈ dcs D, u.oneCell' = true := by
  intro u hu
  obtain ⟨d, _, h⟩ := List.mem_flatMap.1 hu
  obtain ⟨x, _, rfl⟩ := List.mem_map.1 h
  rfl
theorem dcs_at : ∀ {D : List (List Nat)} {i j : Nat} {u : Value}, D32 D → (hi : i < D.length) → ((nc D[i]).map (Value.int .u8))[j]? = some u → (dcs D)[i * 32 + j]? = some u
  | d :: D, 0, j, u, h, _, hu => by
    have hl := (List.getElem?_eq_some_iff.1 hu).1
    simp only [dcs, List.flatMap_cons]
    rw [List.getElem?_append_left (by simpa using hl)]
    simpa using hu
  | d :: D, i + 1, j, u, h, hi, hu => by
    have hd := h d (by simp)
    have ih := dcs_at (D := D) (i := i) (j := j) (u := u) (fun x hx => h x (by simp [hx])) (by simpa using hi) (by simpa using hu)
    simp only [dcs, List.flatMap_cons] at ih ⊢
    rw [List.getElem?_append_right (by simp [hd]; omega)]
    simp only [List.length_map, hd]
    rw [show (i + 1) * 32 + j - 32 = i * 32 + j by omega]
    exact ih
/-- digests that lie somewhere; owned; or none, wherever -/
structure Dl (m : Mem) (v : Value) (D : List (List Nat)) : Prop where
  lies : Lies m 32 v (dcs D)
  ok : D32 D
structure Do (m : Mem) (v : Value) (D : List (List Nat)) : Prop where
  own : Own m 26 32 v (dcs D)
  ok : D32 D
def Da (m : Mem) (v : Value) (D : List (List Nat)) : Prop := Dl m v D ∨ (D = [] ∧ ∃ a, v = .slice (some a) 0 0)
theorem Dl.sub {m m' : Mem} {v : Value} {D : List (List Nat)} (h : Dl m v D) (hs : Sub m m') : Dl m' v D := ⟨h.lies.sub hs, h.ok⟩
theorem Do.dl {m : Mem} {v : Value} {D : List (List Nat)} (h : Do m v D) : Dl m v D := ⟨h.own.lies, h.ok⟩
theorem Do.sub {m m' : Mem} {v : Value} {D : List (List Nat)} (h : Do m v D) (hs : Sub m m') : Do m' v D := ⟨h.own.sub hs, h.ok⟩
theorem Dl.da {m : Mem} {v : Value} {D : List (List Nat)} (h : Dl m v D) : Da m v D := .inl h
theorem Da.sub {m m' : Mem} {v : Value} {D : List (List Nat)} (h : Da m v D) (hs : Sub m m') : Da m' v D := h.imp (·.sub hs) id
theorem Da.ok {m : Mem} {v : Value} {D : List (List Nat)} (h : Da m v D) : D32 D := by
  rcases h with h | ⟨rfl, _⟩
  · exact h.ok
  · intro d hd; cases hd
theorem Do.nil (m : Mem) : Do m (.slice none 0 0) [] := ⟨.inl ⟨rfl, rfl⟩, fun d hd => by cases hd⟩
theorem Dl.shape {m : Mem} {v : Value} {D : List (List Nat)} (h : Dl m v D) : ∃ a c, v = .slice a D.length c := by
  have hl := dcs_len h.ok
  rcases h.lies with ⟨c, rfl, e⟩ | ⟨b, o, c, n, arr, t, fr, rfl, _, e, _⟩
  · rw [e] at hl
    have : D.length = 0 := by simp only [List.length_nil] at hl; omega
    exact ⟨none, c, by rw [this]⟩
  · have : D.length = n := by omega
    exact ⟨_, c, by rw [this]⟩
theorem Da.shape {m : Mem} {v : Value} {D : List (List Nat)} (h : Da m v D) : ∃ a c, v = .slice a D.length c := by
  rcases h with h | ⟨rfl, a, rfl⟩
  · exact h.shape
  · exact ⟨_, _, rfl⟩
theorem Dl.real {m : Mem} {v : Value} {D : List (List Nat)} (h : Dl m v D) {i : Nat} (hi : i < D.length) : ∃ b o c, v = .slice (some ⟨b, o, none⟩) D.length c ∧ ∀ j (hj : j < D.length), MRange m b (o + j * 32) (LB.cells [.ints .u8 32 (nc D[j])]) := by
  have hl := dcs_len h.ok
  rcases h.lies with ⟨c, rfl, e⟩ | ⟨b, o, c, n, arr, t, fr, rfl, g1, e, _, g2, _⟩
  · rw [e] at hl; simp at hl; omega
  · have : D.length = n := by omega
    refine ⟨b, o, c, by rw [this], fun j hj => ⟨arr, t, fr, g1, fun k u hu => ?_⟩⟩
    rw [Nat.add_assoc]
    exact g2 _ _ (dcs_at h.ok hj (by simpa [LB.cells, Seg.cells] using hu))
theorem Da.real {m : Mem} {v : Value} {D : List (List Nat)} (h : Da m v D) {i : Nat} (hi : i < D.length) : ∃ b o c, v = .slice (some ⟨b, o, none⟩) D.length c ∧ ∀ j (hj : j < D.length), MRange m b (o + j * 32) (LB.cells [.ints .u8 32 (nc D[j])]) := by
  rcases h with h | ⟨rfl, _⟩
  · exact h.real hi
  · simp at hi
theorem buildD1 {m : Mem} {d : List Nat} (hd : d.length = 32) : PrimSpec Try.prog (.buildSlice 22 1 [0]) [digV' d] m fun r m' => ∃ b, m b = none ∧ r = [.v (.slice (some ⟨b, 0, none⟩) 1 1)] ∧ m' = m.set b (.cells (dcs [d]).toArray 26) := by
  obtain ⟨ti, h1, h2⟩ := hDs
  obtain ⟨ei, g1, g2, g3, g4⟩ := hDg
  refine (buildSlice_spec (n := 1) tt_ok h1 h2 g1 rfl rfl (by simp [CV.cs, LB.cells, Seg.cells, hd, g2]) (by omega) (by omega)).mono fun r m' ⟨b, e1, e2, e3⟩ => ⟨b, e1, e2, ?_⟩
  rw [e3]
  simp [fl, CV.cs, LB.cells, Seg.cells, dcs]
/-- one digest more -/
theorem pushD {m p : Mem} {ls : List Mem} {b' : Nat} {d : List Nat} {y : Value} {D : List (List Nat)} (hs : Split m (p :: ls)) (hb : m b' = none) (hd : d.length = 32) (hy : Do p y D) (hl : D.length ≤ 10000000) :
    PrimSpec Try.prog (.builtin .append [22, 22]) [.v y, .v (.slice (some ⟨b', 0, none⟩) 1 1)] (m.set b' (.cells (dcs [d]).toArray 26)) fun r m' => ∃ y' p', r = [.v y'] ∧ Split m' (p' :: ls) ∧ Do p' y' (D ++ [d]) := by
  obtain ⟨ti, h1, h2⟩ := hDs
  obtain ⟨ei, g1, g2, g3, g4⟩ := hDg
  have hs1 := hs.new hb (.cells (dcs [d]).toArray 26)
  have hds : D32 [d] := fun x hx => by rw [List.mem_singleton.1 hx]; exact hd
  have e1 : lenV y = D.length := by obtain ⟨a, c, rfl⟩ := hy.dl.shape; rfl
  have e2 : lenV (.slice (some ⟨b', 0, none⟩) 1 1) = 1 := rfl
  have hl1 := dcs_len hds
  have g : Gives (m.set b' (.cells (dcs [d]).toArray 26)) ei.size ti.k (.slice (some ⟨b', 0, none⟩) 1 1) (dcs [d]) := by
    rw [h2, g2]
    exact .inl ⟨_, rfl, .inl (.inr ⟨b', 0, 1, 1, _, _, _, rfl, Mem.set_same .., by rw [hl1]; rfl, Nat.le_refl _, fun j u hu => by rw [Nat.zero_add, List.getElem?_toArray]; exact hu, dcs_one⟩)⟩
  have hy' : Own p 26 ei.size y (dcs D) := by rw [g2]; exact hy.own
  refine (append_at tt_ok h1 h2 g1 h1 (by rw [g2, g4]) hs1 (i := 1) rfl hy' g (by rw [e1, e2, g3]; omega) (by rw [e1, e2]; omega)).mono fun r m' ⟨v', p', q1, q2, q3⟩ => ⟨v', p', q1, q2.erase 0, ?_, ?_⟩
  · have := q3.own
    rw [g2] at this
    rw [dcs_append]; exact this
  · intro x hx
    rcases List.mem_append.1 hx with hx | hx
    · exact hy.ok x hx
    · exact hds x hx
end Go.E.Ytjmjikemaafnjaa

/-
  Contracts of walk.
-/
namespace Go.E.Ytjmjikemaafnjaa
open Go.Proofs
set_option maxRecDepth 100000
theorem nc_inj {a b : List Nat} (h : nc a = nc b) : a = b := by
  have := congrArg (List.map Int.toNat) h
  simpa [nc, Function.comp_def] using this
theorem eqLB_dig (n k : Nat) (a b : List Nat) : eqLB [.ints .u8 n (nc a)] [.ints .u8 k (nc b)] = decide (a = b) := by
  by_cases h : a = b
  · subst h; simp [eqLB]
  · have : ¬ nc a = nc b := fun e => h (nc_inj e)
    simp only [eqLB, decide_eq_false h, Bool.and_true]
    exact beq_false_of_ne this
theorem dig_at (t : List Nat) (k : Nat) : ((nc t).drop (times (k : Int) 32)).take 32 = nc (Tr.dig t k) := by
  have : times (k : Int) 32 = 32 * k := by simp [times]; omega
  rw [this, nc_cut]; rfl
theorem walkSame_spec {m : Mem} {a b : List Nat} : Ret Try.prog 12 [treeV a, treeV b] m [boolV (decide (Tr.dig a 0 = Tr.dig b 0))] := by
  refine en12 rfl (goY ?_)
  conv => whnf
  refine ⟨?_, rfl⟩
  have e : ∀ t : List Nat, List.take (31 + 1) (nc t) = nc (Tr.dig t 0) := fun t => by simp [Tr.dig, nc, List.map_take]
  rw [e, e, eqLB_dig]
theorem walkKids_spec {m : Mem} {v : Value} {l : List Int} (hv : Ia m v l) (hl : l.length ≤ 1000000) (hI : ∀ x ∈ l, -9223372036854775808 ≤ x ∧ x ≤ 9223372036854775807) : Spec Try.prog 24 [.v v] m fun r m' => ∃ v' q, r = [.v v'] ∧ Split m' [q, m] ∧ Io q v' (Tr.kidsL l) := by
  obtain ⟨a, c, rfl⟩ := hv.shape
  refine en24 rfl (goY ?_)
  conv => whnf
  refine .mk (ι := Nat × Value) (fun i => l.length - i.1) (fun ⟨i, v⟩ mm => i ≤ l.length ∧ ∃ q, Split mm [q, m] ∧ Io q v (Tr.kidsL (l.take i))) (fun ⟨i, v⟩ => [(3, .c (.v v)), (6, .c (.v (.slice a l.length c))), (7, .c (i64 l.length)), (8, .c (i64 i))]) (fun _ => []) (0, .slice none 0 0) ⟨by omega, emp, (Split.one m).addEmp, Io.nil _⟩ ?_ ?_
  · conv => whnf
    repeat (refine And.intro (by first | with_reducible rfl | exact congrArg (Value.int _) (wi (by omega) (by omega)) | exact wi (by omega) (by omega) | rfl) ?_; conv => whnf)
    first | exact trivial | exact fun _ _ h => h
  rintro ⟨i, v⟩ mm ⟨hi, q, hs, hv'⟩
  conv => whnf
  refine ⟨fun h1 => ?_, fun h1 => ?_⟩
  · have h1' := of_decide_eq_true h1
    have hlt : i < l.length := by omega
    obtain ⟨b, o, c', hh, hg⟩ := hv.real hlt
    injection hh with hh1 _ hh3
    subst hh1
    clear hh3 c'
    have hg := hg i hlt
    have hIi := hI _ (List.getElem_mem hlt)
    have hst : Tr.kidsL (l.take (i + 1)) = Tr.kidsL (l.take i) ++ Tr.kids l[i] := by
      rw [List.take_succ_eq_append_getElem hlt, Tr.kidsL, Tr.kidsL, List.flatMap_append]; simp
    have hlen := Tr.kidsL_len (l.take i)
    have hlen4 := Tr.kids_len l[i]
    have htk : (l.take i).length ≤ i := by rw [List.length_take]; omega
    generalize l[i] = x at hg hIi hst hlen4
    conv => whnf
    repeat (refine And.intro (by first | omega | (simp only [times]; omega)) ?_; conv => whnf)
    refine ⟨_, by simp only [times, Int.toNat_natCast, Nat.mul_one]; exact mcell_sub hg (hs.sub (by simp)), rfl, ?_⟩
    conv => whnf
    refine xcall (kids_spec hIi) ?_
    rintro _ m1 ⟨v1, q1, rfl, hs1, hv1⟩
    conv => whnf
    have hs1 := hs1.under (a := [q1]) hs
    refine .mk _ (appendIat (i := 1) hs1 rfl hv' (hv1.il.ia.sub (hs1.sub (by simp))) (by omega)) ?_
    rintro _ m2 ⟨v2, q2, rfl, hs2, hv2⟩
    conv => whnf
    refine ⟨(i + 1, v2), ⟨by omega, q2, hs2.erase 0, by rw [hst]; exact hv2⟩, by simp only; omega, ?_⟩
    conv => whnf
    repeat (refine And.intro (by first | with_reducible rfl | (first | exact congrArg (Value.int _) (iadd (by omega))) | exact congrArg (Value.int _) (wi (by omega) (by omega)) | exact wi (by omega) (by omega) | rfl) ?_; conv => whnf)
    first | exact trivial | exact fun _ _ h => h
  · have h1' := of_decide_eq_false h1
    obtain rfl : i = l.length := by omega
    rw [List.take_length] at hv'
    conv => whnf
    exact ⟨v, q, rfl, hs, hv'⟩
def Pls (l : List Int) : Prop := ∀ x ∈ l, -9223372036854775808 ≤ x ∧ x ≤ 9223372036854775807
namespace Tr
def digs (t : List Nat) (l : List Int) : List (List Nat) := (kidsL l).map fun k => dig t k.toNat
/-- the children of places whose digests are unlike others -/
def unl (t : List Nat) : List Int → List (List Nat) → List Int
  | k :: ks, d :: ds => if dig t k.toNat = d then unl t ks ds else k :: unl t ks ds
  | _, _ => []
theorem unl_snoc (t : List Nat) : ∀ {ks : List Int} {ds : List (List Nat)} {k : Int} {d : List Nat}, ks.length = ds.length → unl t (ks ++ [k]) (ds ++ [d]) = if dig t k.toNat = d then unl t ks ds else unl t ks ds ++ [k]
  | [], [], k, d, _ => by simp [unl]
  | k' :: ks, d' :: ds, k, d, h => by
    have ih := unl_snoc t (ks := ks) (ds := ds) (k := k) (d := d) (by simpa using h)
    simp only [List.cons_append, unl, ih]
    split <;> split <;> simp
theorem unl_len (t : List Nat) : ∀ {ks : List Int} {ds : List (List Nat)}, (unl t ks ds).length ≤ ks.length
  | [], _ => by simp [unl]
  | k :: ks, [] => by simp [unl]
  | k :: ks, d :: ds => by
    have := unl_len t (ks := ks) (ds := ds)
    unfold unl
    split
    · simp only [List.length_cons]; omega
    · simp only [List.length_cons]; omega
end Tr
theorem digests_spec {m : Mem} {t : List Nat} {v : Value} {l : List Int} (ht : t.length = 672) (hv : Ia m v l) (hl : l.length ≤ 1000000) (hI : Pls l) : Spec Try.prog 15 [treeV t, .v v] m fun r m' => ∃ v' q, r = [.v v'] ∧ Split m' [q, m] ∧ Do q v' (Tr.digs t l) := by
  obtain ⟨a, c, rfl⟩ := hv.shape
  have hkl := Tr.kidsL_len l
  have hin : ∀ i (h : i < (Tr.kidsL l).length), ∃ k : Nat, (Tr.kidsL l)[i] = k ∧ k < 21 := fun i h => by
    have := Tr.kidsL_in _ (List.getElem_mem h)
    exact ⟨((Tr.kidsL l)[i]).toNat, by omega, by omega⟩
  refine en15 rfl (goY ?_)
  conv => whnf
  refine xcall (walkKids_spec hv hl hI) ?_
  rintro _ m1 ⟨v1, q1, rfl, hs1, hv1⟩
  conv => whnf
  obtain ⟨a1, c1, rfl⟩ := hv1.il.shape
  conv => whnf
  refine .mk (ι := Nat × Value) (fun i => (Tr.kidsL l).length - i.1) (fun ⟨i, v⟩ mm => i ≤ (Tr.kidsL l).length ∧ ∃ q, Split mm [q, q1, m] ∧ Do q v (((Tr.kidsL l).take i).map fun k => Tr.dig t k.toNat)) (fun ⟨i, v⟩ => [(2, .p 0 0), (5, .c (.v v)), (9, .c (.v (.slice a1 (Tr.kidsL l).length c1))), (10, .c (i64 (Tr.kidsL l).length)), (11, .c (i64 i))]) (fun _ => [(28, [.ints .u8 672 (nc t)])]) (0, .slice none 0 0) ⟨by omega, emp, hs1.addEmp, Do.nil _⟩ ?_ ?_
  · conv => whnf
    repeat (refine And.intro (by first | with_reducible rfl | exact congrArg (Value.int _) (wi (by omega) (by omega)) | exact wi (by omega) (by omega) | rfl) ?_; conv => whnf)
    first | exact trivial | exact fun _ _ h => h
  rintro ⟨i, v⟩ mm ⟨hi, q, hs, hv'⟩
  conv => whnf
  refine ⟨fun h1 => ?_, fun h1 => ?_⟩
  · have h1' := of_decide_eq_true h1
    have hlt : i < (Tr.kidsL l).length := by omega
    obtain ⟨b, o, c', hh, hg⟩ := (hv1.il.sub (hs.sub (a := q1) (by simp))).real hlt
    injection hh with hh1 _ hh3
    subst hh1
    clear hh3 c'
    have hg := hg i hlt
    obtain ⟨k, hk, hk21⟩ := hin i hlt
    have hst : ((Tr.kidsL l).take (i + 1)).map (fun k => Tr.dig t k.toNat) = ((Tr.kidsL l).take i).map (fun k => Tr.dig t k.toNat) ++ [Tr.dig t k] := by
      rw [List.take_succ_eq_append_getElem hlt, List.map_append, hk]; simp
    rw [hk] at hg
    conv => whnf
    repeat (refine And.intro (by first | omega | (simp only [times]; omega)) ?_; conv => whnf)
    refine ⟨_, by simp only [times, Int.toNat_natCast, Nat.mul_one]; exact hg, rfl, ?_⟩
    conv => whnf
    repeat (refine And.intro (by first | omega | (simp only [times]; omega)) ?_; conv => whnf)
    simp only [dig_at]
    have hdl := Tr.dig_len ht hk21
    refine .mk _ (buildD1 hdl) ?_
    rintro _ _ ⟨b2, hb2, rfl, rfl⟩
    conv => whnf
    refine .mk _ (pushD hs hb2 hdl hv' (by simp; omega)) ?_
    rintro _ m2 ⟨v2, q2, rfl, hs2, hv2⟩
    conv => whnf
    refine ⟨(i + 1, v2), ⟨by omega, q2, hs2, by rw [hst]; exact hv2⟩, by simp only; omega, ?_⟩
    conv => whnf
    repeat (refine And.intro (by first | with_reducible rfl | (first | exact congrArg (Value.int _) (iadd (by omega))) | exact congrArg (Value.int _) (wi (by omega) (by omega)) | exact wi (by omega) (by omega) | rfl) ?_; conv => whnf)
    first | exact trivial | exact fun _ _ h => h
  · have h1' := of_decide_eq_false h1
    obtain rfl : i = (Tr.kidsL l).length := by omega
    rw [List.take_length] at hv'
    conv => whnf
    exact ⟨v, q, rfl, hs.erase 1, hv'⟩
end Go.E.Ytjmjikemaafnjaa

/-
  Contracts of walk: the walk.
-/
namespace Go.E.Ytjmjikemaafnjaa
open Go.Proofs
set_option maxRecDepth 100000
theorem unlike_bad {m : Mem} {t : List Nat} {v w : Value} {l : List Int} {D : List (List Nat)} (hv : Ia m v l) (hw : Da m w D) (hl : l.length ≤ 1000000) (hI : Pls l) (hne : (Tr.kidsL l).length ≠ D.length) : Spec Try.prog 13 [treeV t, .v v, .v w] m fun r m' => r = [.v (.slice none 0 0), i64 3] ∧ Sub m m' := by
  obtain ⟨a, c, rfl⟩ := hv.shape
  obtain ⟨aw, cw, rfl⟩ := hw.shape
  refine en13 rfl (goY ?_)
  conv => whnf
  refine xcall (walkKids_spec hv hl hI) ?_
  rintro _ m1 ⟨v1, q1, rfl, hs1, hv1⟩
  conv => whnf
  obtain ⟨a1, c1, rfl⟩ := hv1.il.shape
  conv => whnf
  refine ⟨fun _ => ?_, fun h => absurd h (by (simp at h; omega))⟩
  conv => whnf
  exact ⟨rfl, hs1.sub (by simp)⟩
set_option maxHeartbeats 1000000 in
theorem unlike_ok {m : Mem} {t : List Nat} {v w : Value} {l : List Int} {D : List (List Nat)} (ht : t.length = 672) (hv : Ia m v l) (hw : Da m w D) (hl : l.length ≤ 1000000) (hI : Pls l) (heq : (Tr.kidsL l).length = D.length) : Spec Try.prog 13 [treeV t, .v v, .v w] m fun r m' => ∃ v' q, r = [.v v', i64 0] ∧ Split m' [q, m] ∧ Io q v' (Tr.unl t (Tr.kidsL l) D) := by
  obtain ⟨a, c, rfl⟩ := hv.shape
  obtain ⟨aw, cw, rfl⟩ := hw.shape
  have hkl := Tr.kidsL_len l
  have hin : ∀ i (h : i < (Tr.kidsL l).length), ∃ k : Nat, (Tr.kidsL l)[i] = k ∧ k < 21 := fun i h => by
    have := Tr.kidsL_in _ (List.getElem_mem h)
    exact ⟨((Tr.kidsL l)[i]).toNat, by omega, by omega⟩
  refine en13 rfl (goY ?_)
  conv => whnf
  refine xcall (walkKids_spec hv hl hI) ?_
  rintro _ m1 ⟨v1, q1, rfl, hs1, hv1⟩
  conv => whnf
  obtain ⟨a1, c1, rfl⟩ := hv1.il.shape
  conv => whnf
  refine ⟨fun h => absurd h (by (simp at h; omega)), fun _ => ?_⟩
  conv => whnf
  refine .mk (ι := Nat × Value) (fun i => (Tr.kidsL l).length - i.1) (fun ⟨i, v⟩ mm => i ≤ (Tr.kidsL l).length ∧ ∃ q, Split mm [q, q1, m] ∧ Io q v (Tr.unl t ((Tr.kidsL l).take i) (D.take i))) (fun ⟨i, v⟩ => [(2, .c (.v (.slice aw D.length cw))), (3, .p 0 0), (9, .c (.v v)), (19, .c (.v (.slice a1 (Tr.kidsL l).length c1))), (20, .c (i64 (Tr.kidsL l).length)), (21, .c (i64 i))]) (fun _ => [(28, [.ints .u8 672 (nc t)])]) (0, .slice none 0 0) ⟨by omega, emp, hs1.addEmp, Io.nil _⟩ ?_ ?_
  · conv => whnf
    repeat (refine And.intro (by first | with_reducible rfl | exact congrArg (Value.int _) (wi (by omega) (by omega)) | exact wi (by omega) (by omega) | rfl) ?_; conv => whnf)
    first | exact trivial | exact fun _ _ h => h
  rintro ⟨i, v⟩ mm ⟨hi, q, hs, hv'⟩
  conv => whnf
  refine ⟨fun h1 => ?_, fun h1 => ?_⟩
  · have h1' := of_decide_eq_true h1
    have hlt : i < (Tr.kidsL l).length := by omega
    have hltd : i < D.length := by omega
    obtain ⟨b, o, c', hh, hg⟩ := (hv1.il.sub (hs.sub (a := q1) (by simp))).real hlt
    injection hh with hh1 _ hh3
    subst hh1
    clear hh3 c'
    obtain ⟨bw, ow, c', hh, hgw⟩ := (hw.sub (hs.sub (a := m) (by simp))).real hltd
    injection hh with hh1 _ hh3
    subst hh1
    clear hh3 c'
    have hg := hg i hlt
    have hgw := hgw i hltd
    obtain ⟨k, hk, hk21⟩ := hin i hlt
    have hdl := Tr.dig_len ht hk21
    have hDi := hw.ok _ (List.getElem_mem hltd)
    have hst := Tr.unl_snoc t (ks := (Tr.kidsL l).take i) (ds := D.take i) (k := (Tr.kidsL l)[i]) (d := D[i]) (by simp; omega)
    rw [← List.take_succ_eq_append_getElem hlt, ← List.take_succ_eq_append_getElem hltd, hk, Int.toNat_natCast] at hst
    have hul := Tr.unl_len t (ks := (Tr.kidsL l).take i) (ds := D.take i)
    rw [List.length_take] at hul
    rw [hk] at hg
    generalize D[i] = d at hgw hDi hst
    conv => whnf
    repeat (refine And.intro (by first | omega | (simp only [times]; omega)) ?_; conv => whnf)
    refine ⟨_, by simp only [times, Int.toNat_natCast, Nat.mul_one]; exact hg, rfl, ?_⟩
    conv => whnf
    repeat (refine And.intro (by first | omega | (simp only [times]; omega)) ?_; conv => whnf)
    refine ⟨[.ints .u8 32 (nc d)], ⟨show (nc d).length = 32 by simp [hDi], trivial⟩, rfl, by simp only [times, Int.toNat_natCast]; exact hgw, ?_⟩
    conv => whnf
    simp only [dig_at, eqLB_dig]
    refine ⟨fun h2 => ?_, fun h2 => ?_⟩
    · have h2' : ¬ Tr.dig t k = d := by simpa using h2
      rw [if_neg h2'] at hst
      conv => whnf
      refine .mk _ (buildI1) ?_
      rintro _ _ ⟨b2, hb2, rfl, rfl⟩
      conv => whnf
      refine .mk _ (pushI hs hb2 hv' (by omega)) ?_
      rintro _ m2 ⟨v2, q2, rfl, hs2, hv2⟩
      conv => whnf
      refine ⟨(i + 1, v2), ⟨by omega, q2, hs2, by rw [hst]; exact hv2⟩, by simp only; omega, ?_⟩
      conv => whnf
      repeat (refine And.intro (by first | with_reducible rfl | (first | exact congrArg (Value.int _) (iadd (by omega))) | exact congrArg (Value.int _) (wi (by omega) (by omega)) | exact wi (by omega) (by omega) | rfl) ?_; conv => whnf)
      first | exact trivial | exact fun _ _ h => h
    · have h2' : Tr.dig t k = d := by simpa using h2
      rw [if_pos h2'] at hst
      conv => whnf
      refine ⟨(i + 1, v), ⟨by omega, q, hs, by rw [hst]; exact hv'⟩, by simp only; omega, ?_⟩
      conv => whnf
      repeat (refine And.intro (by first | with_reducible rfl | (first | exact congrArg (Value.int _) (iadd (by omega))) | exact congrArg (Value.int _) (wi (by omega) (by omega)) | exact wi (by omega) (by omega) | rfl) ?_; conv => whnf)
      first | exact trivial | exact fun _ _ h => h
  · have h1' := of_decide_eq_false h1
    obtain rfl : i = (Tr.kidsL l).length := by omega
    rw [List.take_length, heq, List.take_length] at hv'
    conv => whnf
    exact ⟨v, q, rfl, hs.erase 1, hv'⟩
namespace Tr
def leaves (l : List Int) : List Int := (l.map leafOf).filter fun n => decide (0 ≤ n)
end Tr
theorem leaves_spec {m : Mem} {v : Value} {l : List Int} (hv : Ia m v l) (hl : l.length ≤ 1000000) : Spec Try.prog 17 [.v v] m fun r m' => ∃ v' q, r = [.v v'] ∧ Split m' [q, m] ∧ Io q v' (Tr.leaves l) := by
  obtain ⟨a, c, rfl⟩ := hv.shape
  refine en17 rfl (goY ?_)
  conv => whnf
  refine .mk (ι := Nat × Value) (fun i => l.length - i.1) (fun ⟨i, v⟩ mm => i ≤ l.length ∧ ∃ q, Split mm [q, m] ∧ Io q v (Tr.leaves (l.take i))) (fun ⟨i, v⟩ => [(3, .c (.v v)), (7, .c (.v (.slice a l.length c))), (8, .c (i64 l.length)), (9, .c (i64 i))]) (fun _ => []) (0, .slice none 0 0) ⟨by omega, emp, (Split.one m).addEmp, Io.nil _⟩ ?_ ?_
  · conv => whnf
    repeat (refine And.intro (by first | with_reducible rfl | exact congrArg (Value.int _) (wi (by omega) (by omega)) | exact wi (by omega) (by omega) | rfl) ?_; conv => whnf)
    first | exact trivial | exact fun _ _ h => h
  rintro ⟨i, v⟩ mm ⟨hi, q, hs, hv'⟩
  conv => whnf
  refine ⟨fun h1 => ?_, fun h1 => ?_⟩
  · have h1' := of_decide_eq_true h1
    have hlt : i < l.length := by omega
    obtain ⟨b, o, c', hh, hg⟩ := hv.real hlt
    injection hh with hh1 _ hh3
    subst hh1
    clear hh3 c'
    have hg := hg i hlt
    have hst : Tr.leaves (l.take (i + 1)) = Tr.leaves (l.take i) ++ (if 0 ≤ Tr.leafOf l[i] then [Tr.leafOf l[i]] else []) := by
      rw [List.take_succ_eq_append_getElem hlt, Tr.leaves, Tr.leaves, List.map_append, List.filter_append]
      congr 1
      by_cases h : 0 ≤ Tr.leafOf l[i] <;> simp [h]
    have hll : (Tr.leaves (l.take i)).length ≤ i := by
      refine Nat.le_trans (List.length_filter_le _ _) ?_
      rw [List.length_map, List.length_take]; omega
    generalize l[i] = x at hg hst
    conv => whnf
    repeat (refine And.intro (by first | omega | (simp only [times]; omega)) ?_; conv => whnf)
    refine ⟨_, by simp only [times, Int.toNat_natCast, Nat.mul_one]; exact mcell_sub hg (hs.sub (by simp)), rfl, ?_⟩
    conv => whnf
    first | refine xretk (leaf_place_spec) ?_ | refine xret (leaf_place_spec) ?_
    conv => whnf
    refine ⟨fun h2 => ?_, fun h2 => ?_⟩
    · have h2' := of_decide_eq_true h2
      rw [if_pos h2'] at hst
      conv => whnf
      refine .mk _ (buildI1) ?_
      rintro _ _ ⟨b2, hb2, rfl, rfl⟩
      conv => whnf
      refine .mk _ (pushI hs hb2 hv' (by omega)) ?_
      rintro _ m2 ⟨v2, q2, rfl, hs2, hv2⟩
      conv => whnf
      refine ⟨(i + 1, v2), ⟨by omega, q2, hs2, by rw [hst]; exact hv2⟩, by simp only; omega, ?_⟩
      conv => whnf
      repeat (refine And.intro (by first | with_reducible rfl | (first | exact congrArg (Value.int _) (iadd (by omega))) | exact congrArg (Value.int _) (wi (by omega) (by omega)) | exact wi (by omega) (by omega) | rfl) ?_; conv => whnf)
      first | exact trivial | exact fun _ _ h => h
    · have h2' := of_decide_eq_false h2
      rw [if_neg h2', List.append_nil] at hst
      conv => whnf
      refine ⟨(i + 1, v), ⟨by omega, q, hs, by rw [hst]; exact hv'⟩, by simp only; omega, ?_⟩
      conv => whnf
      repeat (refine And.intro (by first | with_reducible rfl | (first | exact congrArg (Value.int _) (iadd (by omega))) | exact congrArg (Value.int _) (wi (by omega) (by omega)) | exact wi (by omega) (by omega) | rfl) ?_; conv => whnf)
      first | exact trivial | exact fun _ _ h => h
  · have h1' := of_decide_eq_false h1
    obtain rfl : i = l.length := by omega
    rw [List.take_length] at hv'
    conv => whnf
    exact ⟨v, q, rfl, hs, hv'⟩
end Go.E.Ytjmjikemaafnjaa

/-
  Contracts of walk: a walk of two trees.
-/
namespace Go.E.Ytjmjikemaafnjaa
open Go.Proofs
set_option maxRecDepth 100000
namespace Tr
def wk (a b : List Nat) : Nat → List Int → Nat → Nat → List Int × Nat × Nat
  | 0, _, looks, r => ([], looks, r)
  | f + 1, l, looks, r => if (digs b l).length = 0 then (l, looks, r + 1) else
    let l' := unl a (kidsL l) (digs b l)
    if l'.length = 0 then ([], looks + (digs b l).length, r + 1) else wk a b f l' (looks + (digs b l).length) (r + 1)
def walk (a b : List Nat) : List Int × Nat × Nat := if dig a 0 = dig b 0 then ([], 1, 0) else wk a b 3 [0] 1 0
/-- the places of a level -/
def Lev (f : Nat) (l : List Int) : Prop := (f = 3 ∧ l = [0]) ∨ (f = 2 ∧ ∀ x ∈ l, 1 ≤ x ∧ x < 5) ∨ (f = 1 ∧ ∀ x ∈ l, 5 ≤ x ∧ x < 21)
theorem unl_sub (t : List Nat) : ∀ {ks : List Int} {ds : List (List Nat)}, ∀ x ∈ unl t ks ds, x ∈ ks
  | [], _, x, h => by simp [unl] at h
  | k :: ks, [], x, h => by simp [unl] at h
  | k :: ks, d :: ds, x, h => by
    unfold unl at h
    split at h
    · exact List.mem_cons_of_mem _ (unl_sub t x h)
    · rcases List.mem_cons.1 h with rfl | h
      · simp
      · exact List.mem_cons_of_mem _ (unl_sub t x h)
theorem digs_len (t : List Nat) (l : List Int) : (digs t l).length = (kidsL l).length := by simp [digs]
theorem Lev.step {f : Nat} {l : List Int} (h : Lev f l) (hd : (kidsL l).length ≠ 0) {a : List Nat} {D : List (List Nat)} : ∃ f', f = f' + 1 ∧ 0 < f' ∧ Lev f' (unl a (kidsL l) D) := by
  rcases h with ⟨rfl, rfl⟩ | ⟨rfl, h⟩ | ⟨rfl, h⟩
  · refine ⟨2, rfl, by decide, .inr (.inl ⟨rfl, fun x hx => ?_⟩)⟩
    have := unl_sub _ x hx
    simp [kidsL, kids] at this
    omega
  · refine ⟨1, rfl, by decide, .inr (.inr ⟨rfl, fun x hx => ?_⟩)⟩
    obtain ⟨p, hp, hk⟩ := List.mem_flatMap.1 (unl_sub _ x hx)
    have := h p hp
    unfold kids at hk
    rw [if_pos (by omega)] at hk
    simp at hk
    omega
  · exfalso
    apply hd
    have : kidsL l = [] := by
      rw [kidsL, List.flatMap_eq_nil_iff]
      intro p hp
      have := h p hp
      rw [kids, if_neg (by omega)]
    rw [this]; rfl
theorem Lev.pls {f : Nat} {l : List Int} (h : Lev f l) : Pls l := by
  intro x hx
  rcases h with ⟨rfl, rfl⟩ | ⟨rfl, h⟩ | ⟨rfl, h⟩
  · simp at hx; omega
  · have := h x hx; omega
  · have := h x hx; omega
theorem wk_end {a b : List Nat} {f : Nat} {l : List Int} {looks r : Nat} (h : (kidsL l).length = 0) : wk a b (f + 1) l looks r = (l, looks, r + 1) := by rw [wk, if_pos (by rw [digs_len]; exact h)]
theorem wk_none {a b : List Nat} {f : Nat} {l : List Int} {looks r : Nat} (h : (kidsL l).length ≠ 0) (h2 : (unl a (kidsL l) (digs b l)).length = 0) : wk a b (f + 1) l looks r = ([], looks + (kidsL l).length, r + 1) := by
  rw [wk, if_neg (by rw [digs_len]; exact h)]
  simp only [h2, if_true, digs_len]
theorem wk_more {a b : List Nat} {f : Nat} {l : List Int} {looks r : Nat} (h : (kidsL l).length ≠ 0) (h2 : (unl a (kidsL l) (digs b l)).length ≠ 0) : wk a b (f + 1) l looks r = wk a b f (unl a (kidsL l) (digs b l)) (looks + (kidsL l).length) (r + 1) := by
  rw [wk, if_neg (by rw [digs_len]; exact h)]
  simp only [h2, if_false, digs_len]
end Tr
set_option maxHeartbeats 2000000 in
theorem walk_spec {m : Mem} {a b : List Nat} (ha : a.length = 672) (hb : b.length = 672) : Spec Try.prog 20 [treeV a, treeV b] m fun r m' => ∃ v q, r = [.v v, i64 (Tr.walk a b).2.1, i64 (Tr.walk a b).2.2] ∧ Split m' [q, m] ∧ Io q v (Tr.walk a b).1 ∧ (Tr.walk a b).1.length ≤ 64 := by
  refine en20 rfl (goY ?_)
  conv => whnf
  refine .mk 0 _ rfl (ι := Nat × List Int × Value × Nat × Nat) (fun i => i.1) (fun ⟨f, l, v, looks, r⟩ mm => Tr.Lev f l ∧ l.length * 4 ^ f ≤ 64 ∧ looks ≤ 1 + 64 * (3 - f) ∧ r + f = 3 ∧ Tr.dig a 0 ≠ Tr.dig b 0 ∧ Tr.wk a b f l looks r = Tr.wk a b 3 [0] 1 0 ∧ ∃ q, Split mm [q, m] ∧ Io q v l)
    (fun ⟨f, l, v, looks, r⟩ => [(2, .p 0 0), (3, .p 1 0), (7, .c (.v v)), (8, .c (i64 looks)), (9, .c (i64 r))]) (fun _ => [(28, [.ints .u8 672 (nc a)]), (28, [.ints .u8 672 (nc b)])]) ?_ ?_
  · conv => whnf
    first | refine xretk (walkSame_spec) ?_ | refine xret (walkSame_spec) ?_
    conv => whnf
    refine ⟨fun h => ?_, fun h => ?_⟩
    · have h' := of_decide_eq_true h
      conv => whnf
      rw [Tr.walk, if_pos h']
      exact ⟨_, emp, rfl, (Split.one m).addEmp, Io.nil _, by simp⟩
    · have h' := of_decide_eq_false h
      conv => whnf
      refine .mk _ (buildI1) ?_
      rintro _ _ ⟨b2, hb2, rfl, rfl⟩
      conv => whnf
      have hs := (Split.one m).new hb2 (.cells #[.int .i64 0] 3)
      have hw : Tr.walk a b = Tr.wk a b 3 [0] 1 0 := by rw [Tr.walk, if_neg h']
      have hv : Il (m.set b2 (.cells #[.int .i64 0] 3)) (.slice (some ⟨b2, 0, none⟩) 1 1) [0] := Il.blk1 (Mem.set_same ..)
      have hL : Tr.Lev 3 [0] := .inl ⟨rfl, rfl⟩
      have hk : (Tr.kidsL [0]).length = 4 := rfl
      refine xcall (digests_spec hb hv.ia (by simp) hL.pls) ?_
      rintro _ m1 ⟨v1, q1, rfl, hs1a, hv1⟩
      conv => whnf
      have hs1 := hs1a.under (a := [q1]) hs
      obtain ⟨a1, c1, rfl⟩ := hv1.dl.shape
      rw [Tr.digs_len, hk]
      conv => whnf
      refine ⟨fun h => absurd h (by decide), fun _ => ?_⟩
      conv => whnf
      have hsv : Sub (m.set b2 (.cells #[.int .i64 0] 3)) m1 := hs1a.sub (by simp)
      refine xcall (unlike_ok ha (hv.ia.sub hsv) (hv1.dl.da.sub (hs1.sub (by simp))) (by simp) hL.pls (Tr.digs_len b [0]).symm) ?_
      rintro _ m2 ⟨v2, q2, rfl, hs2, hv2⟩
      conv => whnf
      have hs2 := hs2.under (a := [q2]) hs1
      have hs2 : Split m2 [q2, q1, _, m] := hs2
      obtain ⟨a2, c2, rfl⟩ := hv2.il.shape
      obtain ⟨f', hf', hf0, hL'⟩ := hL.step (a := a) (D := Tr.digs b [0]) (by rw [hk]; decide)
      obtain rfl : f' = 2 := by omega
      have hul := Tr.unl_len a (ks := Tr.kidsL [0]) (ds := Tr.digs b [0])
      rw [hk] at hul
      have e5 : IntKind.i64.wrap (1 + ((4 : Nat) : Int)) = 5 := rfl
      have e1 : IntKind.i64.wrap (0 + 1) = 1 := rfl
      conv => whnf
      rw [e5, e1]
      refine ⟨fun h => ?_, fun h => ?_⟩
      · have h2' : 0 < (Tr.unl a (Tr.kidsL [0]) (Tr.digs b [0])).length := by have := of_decide_eq_true h; omega
        conv => whnf
        refine ⟨(2, _, _, 5, 1), ⟨hL', by omega, by decide, rfl, h', ?_, q2, (hs2.erase 1).erase 1, hv2⟩, ?_⟩
        · rw [Tr.wk_more (l := [0]) (by rw [hk]; decide) (by omega), hk]
        · conv => whnf
          repeat (refine And.intro (by first | with_reducible rfl | exact congrArg (Value.int _) (wi (by omega) (by omega)) | exact wi (by omega) (by omega) | rfl) ?_; conv => whnf)
          first | exact trivial | exact fun _ _ h => h
      · have h2' : (Tr.unl a (Tr.kidsL [0]) (Tr.digs b [0])).length = 0 := by have := of_decide_eq_false h; omega
        conv => whnf
        rw [hw, Tr.wk_none (l := [0]) (by rw [hk]; decide) h2', hk]
        exact ⟨_, emp, rfl, ((hs2.erase 0).erase 0).erase 0 |>.addEmp, Io.nil _, by simp⟩
  · rintro ⟨f, l, v, looks, r⟩ mm ⟨hL, hl, hlk, hr, hne, he, q, hs, hv⟩
    obtain ⟨f, rfl⟩ : ∃ g, f = g + 1 := ⟨f - 1, by rcases hL with ⟨rfl, _⟩ | ⟨rfl, _⟩ | ⟨rfl, _⟩ <;> rfl⟩
    have hpow : l.length * 4 ^ (f + 1) = 4 * l.length * 4 ^ f := by rw [Nat.pow_succ, Nat.mul_comm (4 ^ f) 4, ← Nat.mul_assoc, Nat.mul_comm l.length 4]
    have hp1 : 1 ≤ 4 ^ f := Nat.one_le_pow _ _ (by decide)
    have hl16 : 4 * l.length ≤ 64 := Nat.le_trans (Nat.le_mul_of_pos_right _ hp1) (by omega)
    have hkl := Tr.kidsL_len l
    have er : IntKind.i64.wrap ((r : Int) + 1) = ((r + 1 : Nat) : Int) := iadd (by omega)
    conv => whnf
    refine xcall (digests_spec hb (hv.il.ia.sub (hs.sub (a := q) (by simp))) (by omega) hL.pls) ?_
    rintro _ m1 ⟨v1, q1, rfl, hs1, hv1⟩
    conv => whnf
    have hs1 := hs1.under (a := [q1]) hs
    obtain ⟨a1, c1, rfl⟩ := hv1.dl.shape
    rw [Tr.digs_len] at hv1
    rw [Tr.digs_len, er]
    conv => whnf
    refine ⟨fun h => ?_, fun h => ?_⟩
    · have h' : (Tr.kidsL l).length = 0 := by have := eq_of_beq h; omega
      conv => whnf
      rw [Tr.walk, if_neg hne, ← he, Tr.wk_end h']
      exact ⟨v, q, rfl, hs1.erase 0, hv, by simp only; omega⟩
    · have h' : (Tr.kidsL l).length ≠ 0 := by intro e; rw [e] at h; simp at h
      have ek : IntKind.i64.wrap ((looks : Int) + ((Tr.kidsL l).length : Int)) = ((looks + (Tr.kidsL l).length : Nat) : Int) := by rw [wi (by omega) (by omega)]; omega
      conv => whnf
      rw [ek]
      refine xcall (unlike_ok ha (hv.il.ia.sub (hs1.sub (by simp))) (hv1.dl.da.sub (hs1.sub (by simp))) (by omega) hL.pls (Tr.digs_len b l).symm) ?_
      rintro _ m2 ⟨v2, q2, rfl, hs2, hv2⟩
      conv => whnf
      have hs2 := hs2.under (a := [q2]) hs1
      have hs2 : Split m2 [q2, q1, q, m] := hs2
      obtain ⟨a2, c2, rfl⟩ := hv2.il.shape
      obtain ⟨f', hf', hf0, hL'⟩ := hL.step (a := a) (D := Tr.digs b l) h'
      obtain rfl : f' = f := by omega
      have hul := Tr.unl_len a (ks := Tr.kidsL l) (ds := Tr.digs b l)
      conv => whnf
      refine ⟨fun h => ?_, fun h => ?_⟩
      · have h2' : 0 < (Tr.unl a (Tr.kidsL l) (Tr.digs b l)).length := by have := of_decide_eq_true h; omega
        conv => whnf
        have hpl : (Tr.unl a (Tr.kidsL l) (Tr.digs b l)).length * 4 ^ f' ≤ 64 := Nat.le_trans (Nat.mul_le_mul_right _ (Nat.le_trans hul hkl)) (by omega)
        refine ⟨(f', _, _, looks + (Tr.kidsL l).length, r + 1), ⟨hL', hpl, by omega, by omega, hne, ?_, q2, (hs2.erase 1).erase 1, hv2⟩, by simp only; omega, ?_⟩
        · rw [← he, Tr.wk_more h' (by omega)]
        · conv => whnf
          repeat (refine And.intro (by first | with_reducible rfl | exact congrArg (Value.int _) (wi (by omega) (by omega)) | exact wi (by omega) (by omega) | rfl) ?_; conv => whnf)
          first | exact trivial | exact fun _ _ h => h
      · have h2' : (Tr.unl a (Tr.kidsL l) (Tr.digs b l)).length = 0 := by have := of_decide_eq_false h; omega
        conv => whnf
        rw [Tr.walk, if_neg hne, ← he, Tr.wk_none h' h2']
        exact ⟨_, emp, rfl, ((hs2.erase 0).erase 0).erase 0 |>.addEmp, Io.nil _, by simp⟩
theorem diff_spec {m : Mem} {a b : List Nat} (ha : a.length = 672) (hb : b.length = 672) : Spec Try.prog 8 [treeV a, treeV b] m fun r m' => ∃ v q, r = [.v v, i64 (Tr.walk a b).2.1] ∧ Split m' [q, m] ∧ Io q v (Tr.leaves (Tr.walk a b).1) := by
  refine en8 rfl (goY ?_)
  conv => whnf
  refine xcall (walk_spec ha hb) ?_
  rintro _ m1 ⟨v1, q1, rfl, hs1, hv1, hlen⟩
  conv => whnf
  refine xcall (leaves_spec (hv1.il.ia.sub (hs1.sub (by simp))) (by omega)) ?_
  rintro _ m2 ⟨v2, q2, rfl, hs2, hv2⟩
  conv => whnf
  have hs2 := hs2.under (a := [q2]) hs1
  exact ⟨v2, q2, rfl, hs2.erase 1, hv2⟩
theorem rounds_spec {m : Mem} {a b : List Nat} (ha : a.length = 672) (hb : b.length = 672) : Spec Try.prog 11 [treeV a, treeV b] m fun r m' => r = [i64 (Tr.walk a b).2.2] ∧ Sub m m' := by
  refine en11 rfl (goY ?_)
  conv => whnf
  refine xcall (walk_spec ha hb) ?_
  rintro _ m1 ⟨v1, q1, rfl, hs1, hv1, _⟩
  conv => whnf
  exact ⟨rfl, hs1.sub (by simp)⟩
end Go.E.Ytjmjikemaafnjaa

/-
  Contracts of maundref20: places.
-/
namespace Go.E.Ytjmjikemaafnjaa
open Go.Proofs
set_option maxRecDepth 100000
theorem buildI4 {m : Mem} {x y z w : Int} : PrimSpec Try.prog (.buildSlice 23 4 [0, 1, 2, 3]) [.v (.int .i64 x), .v (.int .i64 y), .v (.int .i64 z), .v (.int .i64 w)] m fun r m' => ∃ b, m b = none ∧ r = [.v (.slice (some ⟨b, 0, none⟩) 4 4)] ∧ m' = m.set b (.cells (ic [x, y, z, w]).toArray 3) :=
  buildSlice_spec (n := 4) tt_ok hIs rfl hI' rfl rfl (by simp [CV.cs]) (by simp) (by simp)
theorem Io.blk {m : Mem} {b n : Nat} {l : List Int} (h : m b = some (.cells (ic l).toArray 3)) (hn : l.length = n) : Io m (.slice (some ⟨b, 0, none⟩) n n) l := by
  subst hn
  refine .inr ⟨b, 0, l.length, l.length, _, rfl, h, by simp, Nat.le_refl _, by simp, fun j u hu => ?_, ic_one⟩
  rw [Nat.zero_add, List.getElem?_toArray]; exact hu
theorem rkids_spec {m : Mem} {p : Int} (hp : -9223372036854775808 ≤ p ∧ p ≤ 9223372036854775807) : Spec Try.prog 23 [i64 p] m fun r m' => ∃ v q, r = [.v v] ∧ Split m' [q, m] ∧ Io q v (Tr.kids p) := by
  refine en23 rfl (goY ?_)
  conv => whnf
  refine ⟨fun h => ?_, fun h => ?_⟩
  · have h' := of_decide_eq_true h
    conv => whnf
    rw [Tr.kids, if_neg (by omega)]
    exact ⟨_, emp, rfl, (Split.one m).addEmp, Io.nil _⟩
  have h' := of_decide_eq_false h
  conv => whnf
  refine ⟨fun h => ?_, fun h => ?_⟩
  · have h'' := of_decide_eq_true h
    conv => whnf
    rw [Tr.kids, if_neg (by omega)]
    exact ⟨_, emp, rfl, (Split.one m).addEmp, Io.nil _⟩
  have h'' := of_decide_eq_false h
  have e4 : IntKind.i64.wrap (4 * p) = 4 * p := wi (by omega) (by omega)
  have e : ∀ k : Int, 0 ≤ k ∧ k ≤ 4 → IntKind.i64.wrap (4 * p + k) = 4 * p + k := fun k hk => wi (by omega) (by omega)
  conv => whnf
  rw [e4, e 1 (by decide), e 2 (by decide), e 3 (by decide), e 4 (by decide)]
  refine .mk _ (buildI4) ?_
  rintro _ _ ⟨b, hb, rfl, rfl⟩
  conv => whnf
  rw [Tr.kids, if_pos (by omega)]
  exact ⟨_, _, rfl, (Split.one m).new hb _, Io.blk (blk1_same ..) rfl⟩
theorem rlevel_spec {m : Mem} {p : Int} : Ret Try.prog 22 [i64 p] m [i64 (if p = 0 then 0 else if 0 < p ∧ p < 5 then 1 else if 4 < p ∧ p < 21 then 2 else -1)] := by
  refine en22 rfl (goY ?_)
  conv => whnf
  repeat' (first | (refine ⟨fun h => ?_, fun h => ?_⟩ <;> conv => whnf) | fail)
  all_goals refine ⟨?_, rfl⟩
  all_goals (simp only [List.cons.injEq, and_true, CV.v.injEq, Value.int.injEq, true_and]; simp only [decide_eq_true_eq, decide_eq_false_iff_not, beq_iff_eq, beq_eq_false_iff_ne, ne_eq] at *; split <;> first | omega | (split <;> first | omega | (split <;> omega)))
theorem rup_spec {m : Mem} {p : Int} (hp : -9223372036854775808 ≤ p ∧ p ≤ 9223372036854775807) : Spec Try.prog 31 [i64 p] m fun r m' => r = [i64 (Tr.up p)] ∧ Sub m m' := by
  refine en31 rfl (goY ?_)
  conv => whnf
  refine .mk (ι := Nat) (fun k => 5 - k) (fun k mm => k ≤ 5 ∧ Sub m mm ∧ ¬ (1 ≤ p ∧ p ≤ 4 * k)) (fun k => [(0, .c (i64 p)), (3, .c (i64 k))]) (fun _ => []) 0 ⟨by omega, Sub.refl _, by omega⟩ ?_ ?_
  · conv => whnf
    repeat (refine And.intro (by first | with_reducible rfl | exact congrArg (Value.int _) (wi (by omega) (by omega)) | exact wi (by omega) (by omega) | rfl) ?_; conv => whnf)
    first | exact trivial | exact fun _ _ h => h
  rintro k mm ⟨hk, hs, hno⟩
  conv => whnf
  refine ⟨fun h1 => ?_, fun h1 => ?_⟩
  · have h1' := of_decide_eq_true h1
    have hlt : k < 5 := by omega
    have hkd : Tr.kids k = [4 * (k : Int) + 1, 4 * (k : Int) + 2, 4 * (k : Int) + 3, 4 * (k : Int) + 4] := by rw [Tr.kids, if_pos (by omega)]
    conv => whnf
    refine xcall (rkids_spec (p := (k : Int)) (by omega)) ?_
    rintro _ m1 ⟨v1, q1, rfl, hs1, hv1⟩
    conv => whnf
    rw [hkd] at hv1
    have hil := hv1.il.sub (hs1.sub (by simp))
    obtain ⟨b, o, c, rfl, hg⟩ := hil.real (i := 0) (by simp)
    have hsm : Sub m m1 := hs.trans (hs1.sub (by simp))
    refine .mk (ι := Nat) (fun i => 4 - i) (fun i mm => i ≤ 4 ∧ mm = m1 ∧ ∀ j : Nat, j < i → p ≠ 4 * k + j + 1) (fun i => [(0, .c (i64 p)), (3, .c (i64 k)), (4, .c (.v (.slice (some ⟨b, o, none⟩) 4 c))), (5, .c (i64 i))]) (fun _ => []) 0 ⟨by omega, rfl, by omega⟩ ?_ ?_
    · conv => whnf
      repeat (refine And.intro (by first | with_reducible rfl | exact congrArg (Value.int _) (wi (by omega) (by omega)) | exact wi (by omega) (by omega) | rfl) ?_; conv => whnf)
      first | exact trivial | exact fun _ _ h => h
    rintro i mm' ⟨hi, he, hnj⟩
    subst mm'
    conv => whnf
    refine ⟨fun h2 => ?_, fun h2 => ?_⟩
    · have h2' := of_decide_eq_true h2
      have hli : i < 4 := by omega
      have hgi := hg i (by simpa using hli)
      have hvi : ([4 * (k : Int) + 1, 4 * (k : Int) + 2, 4 * (k : Int) + 3, 4 * (k : Int) + 4] : List Int)[i]'(by simpa using hli) = 4 * k + i + 1 := by
        rcases i with _ | _ | _ | _ | i <;> simp <;> omega
      rw [hvi] at hgi
      conv => whnf
      repeat (refine And.intro (by first | omega | (simp only [times]; omega)) ?_; conv => whnf)
      refine ⟨_, by simp only [times, Int.toNat_natCast, Nat.mul_one]; exact hgi, rfl, ?_⟩
      conv => whnf
      refine ⟨fun h3 => ?_, fun h3 => ?_⟩
      · have h3' : 4 * (k : Int) + i + 1 = p := by simpa using h3
        conv => whnf
        refine ⟨?_, hsm⟩
        rw [Tr.up, if_pos (by omega), show (p - 1) / 4 = k by omega]
      · have h3' : ¬ 4 * (k : Int) + i + 1 = p := by simpa using h3
        conv => whnf
        refine ⟨i + 1, ⟨by omega, rfl, fun j hj => ?_⟩, by omega, ?_⟩
        · by_cases e : j = i
          · subst e; omega
          · exact hnj j (by omega)
        · conv => whnf
          repeat (refine And.intro (by first | with_reducible rfl | (first | exact congrArg (Value.int _) (iadd (by omega))) | exact congrArg (Value.int _) (wi (by omega) (by omega)) | exact wi (by omega) (by omega) | rfl) ?_; conv => whnf)
          first | exact trivial | exact fun _ _ h => h
    · have h2' := of_decide_eq_false h2
      have n0 := hnj 0 (by omega); have n1 := hnj 1 (by omega); have n2 := hnj 2 (by omega); have n3 := hnj 3 (by omega)
      conv => whnf
      refine ⟨k + 1, ⟨by omega, hsm, by omega⟩, by omega, ?_⟩
      conv => whnf
      repeat (refine And.intro (by first | with_reducible rfl | (first | exact congrArg (Value.int _) (iadd (by omega))) | exact congrArg (Value.int _) (wi (by omega) (by omega)) | exact wi (by omega) (by omega) | rfl) ?_; conv => whnf)
      first | exact trivial | exact fun _ _ h => h
  · have h1' := of_decide_eq_false h1
    obtain rfl : k = 5 := by omega
    conv => whnf
    refine ⟨?_, hs⟩
    rw [Tr.up, if_neg (by omega)]
namespace Tr
/-- does a walk come to a place? -/
def comesF (a b : List Nat) : Nat → Int → Bool
  | 0, _ => true
  | f + 1, p => if p < 0 then true else decide (dig a p.toNat ≠ dig b p.toNat) && comesF a b f (up p)
def comes (a b : List Nat) (p : Nat) : Bool := comesF a b 4 p
end Tr
theorem comes_spec {m : Mem} {a b : List Nat} {p : Nat} (ha : a.length = 672) (hb : b.length = 672) (hp : p < 21) : Spec Try.prog 21 [treeV a, treeV b, i64 p] m fun r m' => r = [boolV (Tr.comes a b p)] ∧ Sub m m' := by
  refine en21 rfl (goY ?_)
  conv => whnf
  refine .mk (ι := Nat × Int) (fun i => i.1) (fun ⟨f, q⟩ mm => Sub m mm ∧ q < 21 ∧ (q < 0 ∨ (q = 0 ∧ 1 < f) ∨ (q < 5 ∧ 2 < f) ∨ 3 < f) ∧ -1 ≤ q ∧ Tr.comesF a b f q = Tr.comes a b p) (fun ⟨f, q⟩ => [(3, .p 0 0), (4, .p 1 0), (7, .c (i64 q))]) (fun _ => [(27, [.ints .u8 672 (nc a)]), (27, [.ints .u8 672 (nc b)])]) (4, (p : Int)) ⟨Sub.refl _, by omega, by omega, by omega, rfl⟩ ?_ ?_
  · conv => whnf
    repeat (refine And.intro (by first | with_reducible rfl | exact congrArg (Value.int _) (wi (by omega) (by omega)) | exact wi (by omega) (by omega) | rfl) ?_; conv => whnf)
    first | exact trivial | exact fun _ _ h => h
  rintro ⟨f, q⟩ mm ⟨hs, hq, hf, hq1, he⟩
  conv => whnf
  refine ⟨fun h1 => ?_, fun h1 => ?_⟩
  · have h1' := of_decide_eq_true h1
    obtain ⟨k, rfl⟩ : ∃ k : Nat, q = k := ⟨q.toNat, by omega⟩
    obtain ⟨g, rfl⟩ : ∃ g, f = g + 1 := ⟨f - 1, by omega⟩
    rw [Tr.comesF, if_neg (by omega), Int.toNat_natCast] at he
    have hup : -1 ≤ Tr.up (k : Int) ∧ Tr.up (k : Int) < 21 ∧ (Tr.up (k : Int) < 0 ∨ (Tr.up (k : Int) = 0 ∧ 0 < k) ∨ (Tr.up (k : Int) < 5 ∧ 5 ≤ k)) := by unfold Tr.up; split <;> omega
    conv => whnf
    repeat (refine And.intro (by first | omega | (simp only [times]; omega)) ?_; conv => whnf)
    simp only [dig_at, eqLB_dig]
    refine ⟨fun h2 => ?_, fun h2 => ?_⟩
    · have h2' := of_decide_eq_true h2
      conv => whnf
      refine ⟨?_, hs⟩
      rw [← he, decide_eq_false (by simpa using h2'), Bool.false_and]
    · have h2' := of_decide_eq_false h2
      rw [decide_eq_true (by simpa using h2'), Bool.true_and] at he
      conv => whnf
      refine xcall (rup_spec (p := (k : Int)) (by omega)) ?_
      rintro _ m2 ⟨rfl, hs2⟩
      conv => whnf
      refine ⟨(g, Tr.up k), ⟨hs.trans hs2, hup.2.1, by omega, hup.1, he⟩, by simp only; omega, ?_⟩
      conv => whnf
      repeat (refine And.intro (by first | with_reducible rfl | exact congrArg (Value.int _) (wi (by omega) (by omega)) | exact wi (by omega) (by omega) | rfl) ?_; conv => whnf)
      first | exact trivial | exact fun _ _ h => h
  · have h1' := of_decide_eq_false h1
    conv => whnf
    refine ⟨?_, hs⟩
    rw [← he]
    cases f with
    | zero => rfl
    | succ f => rw [Tr.comesF, if_pos (by omega)]
end Go.E.Ytjmjikemaafnjaa

/-
  Contracts of maundref21.
-/
namespace Go.E.Ytjmjikemaafnjaa
open Go.Proofs
set_option maxRecDepth 100000
theorem rdigests_spec {m : Mem} {t : List Nat} {v : Value} {l : List Int} (ht : t.length = 672) (hv : Ia m v l) (hl : l.length ≤ 100000) (hI : Pls l) : Spec Try.prog 16 [treeV t, .v v] m fun r m' => ∃ v' q, r = [.v v'] ∧ Split m' [q, m] ∧ Do q v' (Tr.digs t l) := by
  obtain ⟨a, c, rfl⟩ := hv.shape
  have hkl := Tr.kidsL_len l
  refine en16 rfl (goY ?_)
  conv => whnf
  refine .mk (ι := Nat × Value) (fun i => l.length - i.1) (fun ⟨i, v⟩ mm => i ≤ l.length ∧ ∃ q, Split mm [q, m] ∧ Do q v (Tr.digs t (l.take i))) (fun ⟨i, v⟩ => [(1, .c (.v (.slice a l.length c))), (2, .p 0 0), (5, .c (.v v)), (6, .c (i64 i))]) (fun _ => [(27, [.ints .u8 672 (nc t)])]) (0, .slice none 0 0) ⟨by omega, emp, (Split.one m).addEmp, Do.nil _⟩ ?_ ?_
  · conv => whnf
    repeat (refine And.intro (by first | with_reducible rfl | exact congrArg (Value.int _) (wi (by omega) (by omega)) | exact wi (by omega) (by omega) | rfl) ?_; conv => whnf)
    first | exact trivial | exact fun _ _ h => h
  rintro ⟨i, v⟩ mm ⟨hi, q, hs, hv'⟩
  conv => whnf
  refine ⟨fun h1 => ?_, fun h1 => ?_⟩
  · have h1' := of_decide_eq_true h1
    have hlt : i < l.length := by omega
    obtain ⟨b, o, c', hh, hg⟩ := hv.real hlt
    injection hh with hh1 _ hh3
    subst hh1
    clear hh3 c'
    have hg := hg i hlt
    have hIi := hI _ (List.getElem_mem hlt)
    have hst : Tr.digs t (l.take (i + 1)) = Tr.digs t (l.take i) ++ (Tr.kids l[i]).map (fun k => Tr.dig t k.toNat) := by
      rw [List.take_succ_eq_append_getElem hlt, Tr.digs, Tr.digs, ← List.map_append]; congr 1
      rw [Tr.kidsL, Tr.kidsL, List.flatMap_append]; simp
    have hlen := Tr.kidsL_len (l.take i)
    have htk : (l.take i).length ≤ i := by rw [List.length_take]; omega
    have hk4 := Tr.kids_len l[i]
    have hkr : ∀ j (h : j < (Tr.kids l[i]).length), ∃ k : Nat, (Tr.kids l[i])[j] = k ∧ k < 21 := fun j h => by
      have := Tr.kidsL_in (l := [l[i]]) ((Tr.kids l[i])[j]) (by simp [Tr.kidsL])
      exact ⟨((Tr.kids l[i])[j]).toNat, by omega, by omega⟩
    generalize l[i] = x at hg hIi hst hk4 hkr
    conv => whnf
    repeat (refine And.intro (by first | omega | (simp only [times]; omega)) ?_; conv => whnf)
    refine ⟨_, by simp only [times, Int.toNat_natCast, Nat.mul_one]; exact mcell_sub hg (hs.sub (by simp)), rfl, ?_⟩
    conv => whnf
    refine xcall (rkids_spec hIi) ?_
    rintro _ m1 ⟨v1, q1, rfl, hs1, hv1⟩
    conv => whnf
    have hs1 := hs1.under (a := [q1]) hs
    obtain ⟨a1, c1, rfl⟩ := hv1.il.shape
    have hs1 : Split m1 [q, q1, m] := hs1.perm (List.Perm.swap _ _ _)
    conv => whnf
    refine .mk (ι := Nat × Value) (fun j => (Tr.kids x).length - j.1) (fun ⟨j, v⟩ mm => j ≤ (Tr.kids x).length ∧ ∃ q, Split mm [q, q1, m] ∧ Do q v (Tr.digs t (l.take i) ++ ((Tr.kids x).take j).map (fun k => Tr.dig t k.toNat))) (fun ⟨j, v⟩ => [(1, .c (.v (.slice (some ⟨b, o, none⟩) l.length c))), (2, .p 0 0), (5, .c (.v v)), (6, .c (i64 i)), (7, .c (.v (.slice a1 (Tr.kids x).length c1))), (8, .c (i64 j))]) (fun _ => [(27, [.ints .u8 672 (nc t)])]) (0, v) ⟨by omega, q, hs1, by simpa using hv'⟩ ?_ ?_
    · conv => whnf
      repeat (refine And.intro (by first | with_reducible rfl | exact congrArg (Value.int _) (wi (by omega) (by omega)) | exact wi (by omega) (by omega) | rfl) ?_; conv => whnf)
      first | exact trivial | exact fun _ _ h => h
    rintro ⟨j, v⟩ mm' ⟨hj, q', hs', hv''⟩
    conv => whnf
    refine ⟨fun h2 => ?_, fun h2 => ?_⟩
    · have h2' := of_decide_eq_true h2
      have hlj : j < (Tr.kids x).length := by omega
      obtain ⟨b1, o1, c', hh, hg1⟩ := (hv1.il.sub (hs'.sub (a := q1) (by simp))).real hlj
      injection hh with hh1 _ hh3
      subst hh1
      clear hh3 c'
      have hg1 := hg1 j hlj
      obtain ⟨k, hk, hk21⟩ := hkr j hlj
      have hst2 : ((Tr.kids x).take (j + 1)).map (fun k => Tr.dig t k.toNat) = ((Tr.kids x).take j).map (fun k => Tr.dig t k.toNat) ++ [Tr.dig t k] := by
        rw [List.take_succ_eq_append_getElem hlj, List.map_append, hk]; simp
      rw [hk] at hg1
      have hdl := Tr.dig_len ht hk21
      have hll : (Tr.digs t (l.take i) ++ ((Tr.kids x).take j).map (fun k => Tr.dig t k.toNat)).length ≤ 10000000 := by
        rw [List.length_append, Tr.digs_len, List.length_map, List.length_take]; omega
      conv => whnf
      repeat (refine And.intro (by first | omega | (simp only [times]; omega)) ?_; conv => whnf)
      refine ⟨_, by simp only [times, Int.toNat_natCast, Nat.mul_one]; exact hg1, rfl, ?_⟩
      conv => whnf
      repeat (refine And.intro (by first | omega | (simp only [times]; omega)) ?_; conv => whnf)
      simp only [dig_at]
      refine .mk _ (buildD1 hdl) ?_
      rintro _ _ ⟨b2, hb2, rfl, rfl⟩
      conv => whnf
      refine .mk _ (pushD hs' hb2 hdl hv'' hll) ?_
      rintro _ m2 ⟨v2, q2, rfl, hs2, hv2⟩
      conv => whnf
      refine ⟨(j + 1, v2), ⟨by omega, q2, hs2, by rw [hst2, ← List.append_assoc]; exact hv2⟩, by simp only; omega, ?_⟩
      conv => whnf
      repeat (refine And.intro (by first | with_reducible rfl | (first | exact congrArg (Value.int _) (iadd (by omega))) | exact congrArg (Value.int _) (wi (by omega) (by omega)) | exact wi (by omega) (by omega) | rfl) ?_; conv => whnf)
      first | exact trivial | exact fun _ _ h => h
    · have h2' := of_decide_eq_false h2
      obtain rfl : j = (Tr.kids x).length := by omega
      rw [List.take_length, ← hst] at hv''
      conv => whnf
      refine ⟨(i + 1, v), ⟨by omega, q', hs'.erase 1, hv''⟩, by simp only; omega, ?_⟩
      conv => whnf
      repeat (refine And.intro (by first | with_reducible rfl | (first | exact congrArg (Value.int _) (iadd (by omega))) | exact congrArg (Value.int _) (wi (by omega) (by omega)) | exact wi (by omega) (by omega) | rfl) ?_; conv => whnf)
      first | exact trivial | exact fun _ _ h => h
  · have h1' := of_decide_eq_false h1
    obtain rfl : i = l.length := by omega
    rw [List.take_length] at hv'
    conv => whnf
    exact ⟨v, q, rfl, hs, hv'⟩
theorem runlike_bad {m : Mem} {t : List Nat} {v w : Value} {l : List Int} {D : List (List Nat)} (ht : t.length = 672) (hv : Ia m v l) (hw : Da m w D) (hl : l.length ≤ 100000) (hI : Pls l) (hne : (Tr.kidsL l).length ≠ D.length) : Spec Try.prog 14 [treeV t, .v v, .v w] m fun r m' => r = [.v (.slice none 0 0), i64 3] ∧ Sub m m' := by
  obtain ⟨a, c, rfl⟩ := hv.shape
  obtain ⟨aw, cw, rfl⟩ := hw.shape
  refine en14 rfl (goY ?_)
  conv => whnf
  refine xcall (rdigests_spec ht hv hl hI) ?_
  rintro _ m1 ⟨v1, q1, rfl, hs1, hv1⟩
  conv => whnf
  obtain ⟨a1, c1, rfl⟩ := hv1.dl.shape
  rw [Tr.digs_len]
  conv => whnf
  refine ⟨fun _ => ?_, fun h => absurd h (by (simp at h; omega))⟩
  conv => whnf
  exact ⟨rfl, hs1.sub (by simp)⟩
set_option maxHeartbeats 2000000 in
theorem runlike_ok {m : Mem} {t : List Nat} {v w : Value} {l : List Int} {D : List (List Nat)} (ht : t.length = 672) (hv : Ia m v l) (hw : Da m w D) (hl : l.length ≤ 100000) (hI : Pls l) (heq : (Tr.kidsL l).length = D.length) : Spec Try.prog 14 [treeV t, .v v, .v w] m fun r m' => ∃ v' q, r = [.v v', i64 0] ∧ Split m' [q, m] ∧ Io q v' (Tr.unl t (Tr.kidsL l) D) := by
  obtain ⟨a, c, rfl⟩ := hv.shape
  obtain ⟨aw, cw, rfl⟩ := hw.shape
  have hkl := Tr.kidsL_len l
  have htk0 : ∀ i, i ≤ l.length → (Tr.kidsL (l.take i)).length ≤ (Tr.kidsL l).length := fun i hi => by
    have : Tr.kidsL l = Tr.kidsL (l.take i) ++ Tr.kidsL (l.drop i) := by rw [Tr.kidsL, Tr.kidsL, Tr.kidsL, ← List.flatMap_append, List.take_append_drop]
    rw [this, List.length_append]; omega
  refine en14 rfl (goY ?_)
  conv => whnf
  refine xcall (rdigests_spec ht hv hl hI) ?_
  rintro _ m1 ⟨v1, qd, rfl, hsd, hvd⟩
  conv => whnf
  obtain ⟨ad, cd, rfl⟩ := hvd.dl.shape
  rw [Tr.digs_len]
  conv => whnf
  refine ⟨fun h => absurd h (by (simp at h; omega)), fun _ => ?_⟩
  conv => whnf
  refine .mk (ι := Nat × Value) (fun i => l.length - i.1) (fun ⟨i, v⟩ mm => i ≤ l.length ∧ ∃ q, Split mm [q, qd, m] ∧ Io q v (Tr.unl t (Tr.kidsL (l.take i)) (D.take (Tr.kidsL (l.take i)).length))) (fun ⟨i, v⟩ => [(1, .c (.v (.slice a l.length c))), (2, .c (.v (.slice aw D.length cw))), (8, .c (.v (.slice ad (Tr.kidsL l).length cd))), (9, .c (.v v)), (10, .c (i64 (Tr.kidsL (l.take i)).length)), (11, .c (i64 i))]) (fun _ => [(27, [.ints .u8 672 (nc t)])]) (0, .slice none 0 0) ⟨by omega, emp, hsd.addEmp, Io.nil _⟩ ?_ ?_
  · conv => whnf
    repeat (refine And.intro (by first | with_reducible rfl | exact congrArg (Value.int _) (wi (by omega) (by omega)) | exact wi (by omega) (by omega) | rfl) ?_; conv => whnf)
    first | exact trivial | exact fun _ _ h => h
  rintro ⟨i, v⟩ mm ⟨hi, q, hs, hv'⟩
  conv => whnf
  refine ⟨fun h1 => ?_, fun h1 => ?_⟩
  · have h1' := of_decide_eq_true h1
    have hlt : i < l.length := by omega
    obtain ⟨b, o, c', hh, hg⟩ := hv.real hlt
    injection hh with hh1 _ hh3
    subst hh1
    clear hh3 c'
    have hg := hg i hlt
    have hIi := hI _ (List.getElem_mem hlt)
    have hkl1 : Tr.kidsL (l.take (i + 1)) = Tr.kidsL (l.take i) ++ Tr.kids l[i] := by
      rw [List.take_succ_eq_append_getElem hlt, Tr.kidsL, Tr.kidsL, List.flatMap_append]; simp
    have hall : Tr.kidsL l = Tr.kidsL (l.take i) ++ (Tr.kids l[i] ++ Tr.kidsL (l.drop (i + 1))) := by
      rw [← List.append_assoc, ← hkl1, Tr.kidsL, Tr.kidsL, Tr.kidsL, ← List.flatMap_append, List.take_append_drop]
    have htk1 := htk0 (i + 1) (by omega)
    rw [hkl1, List.length_append] at htk1
    have hk4 := Tr.kids_len l[i]
    generalize l[i] = x at hg hIi hkl1 hall htk1 hk4
    generalize hK : Tr.kidsL (l.take i) = K at *
    conv => whnf
    repeat (refine And.intro (by first | omega | (simp only [times]; omega)) ?_; conv => whnf)
    refine ⟨_, by simp only [times, Int.toNat_natCast, Nat.mul_one]; exact mcell_sub hg (hs.sub (by simp)), rfl, ?_⟩
    conv => whnf
    refine xcall (rkids_spec hIi) ?_
    rintro _ m2 ⟨v1, q1, rfl, hs1, hv1⟩
    conv => whnf
    have hs1 := hs1.under (a := [q1]) hs
    obtain ⟨a1, c1, rfl⟩ := hv1.il.shape
    have hs1 : Split m2 [q, q1, qd, m] := hs1.perm (List.Perm.swap _ _ _)
    conv => whnf
    refine .mk (ι := Nat × Value) (fun j => (Tr.kids x).length - j.1) (fun ⟨j, v⟩ mm => j ≤ (Tr.kids x).length ∧ ∃ q, Split mm [q, q1, qd, m] ∧ Io q v (Tr.unl t (K ++ (Tr.kids x).take j) (D.take (K.length + j)))) (fun ⟨j, v⟩ => [(1, .c (.v (.slice (some ⟨b, o, none⟩) l.length c))), (2, .c (.v (.slice aw D.length cw))), (8, .c (.v (.slice ad (Tr.kidsL l).length cd))), (9, .c (.v v)), (10, .c (i64 ((K.length + j : Nat) : Int))), (11, .c (i64 i)), (12, .c (.v (.slice a1 (Tr.kids x).length c1))), (13, .c (i64 j))]) (fun _ => [(27, [.ints .u8 672 (nc t)])]) (0, v) ⟨by omega, q, hs1, by simpa using hv'⟩ ?_ ?_
    · conv => whnf
      repeat (refine And.intro (by first | with_reducible rfl | exact congrArg (Value.int _) (wi (by omega) (by omega)) | exact wi (by omega) (by omega) | rfl) ?_; conv => whnf)
      first | exact trivial | exact fun _ _ h => h
    rintro ⟨j, v⟩ mm' ⟨hj, q', hs', hv''⟩
    conv => whnf
    refine ⟨fun h2 => ?_, fun h2 => ?_⟩
    · have h2' := of_decide_eq_true h2
      have hlj : j < (Tr.kids x).length := by omega
      have hat : K.length + j < (Tr.kidsL l).length := by omega
      have hatD : K.length + j < D.length := by omega
      have hatd : K.length + j < (Tr.digs t l).length := by rw [Tr.digs_len]; omega
      obtain ⟨bd, od, c', hh, hgd⟩ := (hvd.dl.sub (hs'.sub (a := qd) (by simp))).real hatd
      injection hh with hh1 _ hh3
      subst hh1
      clear hh3 c'
      have hgd := hgd _ hatd
      obtain ⟨bw, ow, c', hh, hgw⟩ := (hw.sub (hs'.sub (a := m) (by simp))).real hatD
      injection hh with hh1 _ hh3
      subst hh1
      clear hh3 c'
      have hgw := hgw _ hatD
      have hkd : (Tr.digs t l)[K.length + j] = Tr.dig t ((Tr.kids x)[j]).toNat := by
        simp only [Tr.digs, List.getElem_map]
        congr 2
        simp only [hall]
        rw [List.getElem_append_right (by omega), List.getElem_append_left (by omega)]
        congr 1; omega
      have hst := Tr.unl_snoc t (ks := K ++ (Tr.kids x).take j) (ds := D.take (K.length + j)) (k := (Tr.kids x)[j]) (d := D[K.length + j]) (by simp; omega)
      rw [List.append_assoc, ← List.take_succ_eq_append_getElem hlj, ← List.take_succ_eq_append_getElem hatD, Nat.add_assoc] at hst
      have hdl1 := hvd.ok _ (List.getElem_mem hatd)
      have hDl1 := hw.ok _ (List.getElem_mem hatD)
      have hul := Tr.unl_len t (ks := K ++ (Tr.kids x).take j) (ds := D.take (K.length + j))
      rw [List.length_append, List.length_take] at hul
      rw [hkd] at hgd hdl1
      generalize D[K.length + j] = d at *
      have ej : IntKind.i64.wrap (((K.length + j : Nat) : Int) + 1) = ((K.length + (j + 1) : Nat) : Int) := by rw [wi (by omega) (by omega)]; omega
      conv => whnf
      repeat (refine And.intro (by first | omega | (simp only [times]; omega)) ?_; conv => whnf)
      refine ⟨[.ints .u8 32 (nc (Tr.dig t ((Tr.kids x)[j]).toNat))], ⟨show (nc _).length = 32 by simp [hdl1], trivial⟩, rfl, by simp only [times, Int.toNat_natCast]; exact hgd, ?_⟩
      conv => whnf
      repeat (refine And.intro (by first | omega | (simp only [times]; omega)) ?_; conv => whnf)
      refine ⟨[.ints .u8 32 (nc d)], ⟨show (nc d).length = 32 by simp [hDl1], trivial⟩, rfl, by simp only [times, Int.toNat_natCast]; exact hgw, ?_⟩
      conv => whnf
      simp only [eqLB_dig]
      obtain ⟨b1, o1, c', hh, hg1⟩ := (hv1.il.sub (hs'.sub (a := q1) (by simp))).real hlj
      injection hh with hh1 _ hh3
      subst hh1
      clear hh3 c'
      have hg1 := hg1 j hlj
      generalize (Tr.kids x)[j] = k at *
      refine ⟨fun h3 => ?_, fun h3 => ?_⟩
      · have h3' : ¬ Tr.dig t k.toNat = d := by simpa using h3
        rw [if_neg h3'] at hst
        conv => whnf
        repeat (refine And.intro (by first | omega | (simp only [times]; omega)) ?_; conv => whnf)
        refine ⟨_, by simp only [times, Int.toNat_natCast, Nat.mul_one]; exact hg1, rfl, ?_⟩
        conv => whnf
        refine .mk _ (buildI1) ?_
        rintro _ _ ⟨b2, hb2, rfl, rfl⟩
        conv => whnf
        refine .mk _ (pushI hs' hb2 hv'' (by omega)) ?_
        rintro _ m3 ⟨v2, q2, rfl, hs2, hv2⟩
        conv => whnf
        rw [ej]
        refine ⟨(j + 1, v2), ⟨by omega, q2, hs2, by rw [hst]; exact hv2⟩, by simp only; omega, ?_⟩
        conv => whnf
        repeat (refine And.intro (by first | with_reducible rfl | (first | exact congrArg (Value.int _) (iadd (by omega))) | exact congrArg (Value.int _) (wi (by omega) (by omega)) | exact wi (by omega) (by omega) | rfl) ?_; conv => whnf)
        first | exact trivial | exact fun _ _ h => h
      · have h3' : Tr.dig t k.toNat = d := by simpa using h3
        rw [if_pos h3'] at hst
        conv => whnf
        rw [ej]
        refine ⟨(j + 1, v), ⟨by omega, q', hs', by rw [hst]; exact hv''⟩, by simp only; omega, ?_⟩
        conv => whnf
        repeat (refine And.intro (by first | with_reducible rfl | (first | exact congrArg (Value.int _) (iadd (by omega))) | exact congrArg (Value.int _) (wi (by omega) (by omega)) | exact wi (by omega) (by omega) | rfl) ?_; conv => whnf)
        first | exact trivial | exact fun _ _ h => h
    · have h2' := of_decide_eq_false h2
      obtain rfl : j = (Tr.kids x).length := by omega
      rw [List.take_length] at hv''
      conv => whnf
      refine ⟨(i + 1, v), ⟨by omega, q', hs'.erase 1, by rw [hkl1, List.length_append]; exact hv''⟩, by simp only; omega, ?_⟩
      have e10 : (Tr.kidsL (l.take (i + 1))).length = K.length + (Tr.kids x).length := by rw [hkl1, List.length_append]
      conv => whnf
      repeat (refine And.intro (by first | with_reducible rfl | (first | exact congrArg (Value.int _) (iadd (by omega)) | (simp only [e10]; done)) | exact congrArg (Value.int _) (wi (by omega) (by omega)) | exact wi (by omega) (by omega) | rfl) ?_; conv => whnf)
      first | exact trivial | exact fun _ _ h => h
  · have h1' := of_decide_eq_false h1
    obtain rfl : i = l.length := by omega
    rw [List.take_length, heq, List.take_length] at hv'
    conv => whnf
    exact ⟨v, q, rfl, hs.erase 1, hv'⟩
end Go.E.Ytjmjikemaafnjaa

/-
  Contracts of maundref21: the leaves, the looks, and the levels.
-/
namespace Go.E.Ytjmjikemaafnjaa
open Go.Proofs
set_option maxRecDepth 100000
namespace Tr
def lev (p : Nat) : Nat := if p = 0 then 0 else if p < 5 then 1 else 2
def rout (a b : List Nat) : Nat → List Int
  | 0 => []
  | k + 1 => if comes a b k then (if 4 < k then rout a b k ++ [(k : Int) - 5] else rout a b k) else rout a b k
def rlooks (a b : List Nat) : Nat → Nat
  | 0 => 1
  | k + 1 => if comes a b k then rlooks a b k + (kids k).length else rlooks a b k
def rlev (a b : List Nat) (j : Nat) : Nat → Bool
  | 0 => false
  | k + 1 => if comes a b k && decide (lev k = j) then true else rlev a b j k
def cnt (x y z : Bool) : Nat := (if x then 1 else 0) + (if y then 1 else 0) + (if z then 1 else 0)
theorem rout_len (a b : List Nat) : ∀ k, (rout a b k).length ≤ k
  | 0 => by simp [rout]
  | k + 1 => by
    have := rout_len a b k
    unfold rout
    split
    · split
      · simp; omega
      · omega
    · omega
theorem rlooks_le (a b : List Nat) : ∀ k, rlooks a b k ≤ 1 + 4 * k
  | 0 => by simp [rlooks]
  | k + 1 => by
    have := rlooks_le a b k; have := kids_len k
    unfold rlooks
    split <;> omega
end Tr
set_option maxHeartbeats 2000000 in
theorem rdiff_spec {m : Mem} {a b : List Nat} (ha : a.length = 672) (hb : b.length = 672) : Spec Try.prog 9 [treeV a, treeV b] m fun r m' => ∃ v q, r = [.v v, i64 (Tr.rlooks a b 21), i64 (Tr.cnt (Tr.rlev a b 0 21) (Tr.rlev a b 1 21) (Tr.rlev a b 2 21))] ∧ Split m' [q, m] ∧ Io q v (Tr.rout a b 21) := by
  refine en9 rfl (goY ?_)
  conv => whnf
  refine .mk (ι := Nat × Value) (fun i => 21 - i.1) (fun ⟨k, v⟩ mm => k ≤ 21 ∧ ∃ q, Split mm [q, m] ∧ Io q v (Tr.rout a b k)) (fun ⟨k, v⟩ => [(2, .p 0 0), (3, .p 1 0), (7, .c (.v v)), (8, .c (i64 (Tr.rlooks a b k))), (9, .p 2 0), (10, .c (i64 k))])
    (fun ⟨k, _⟩ => [(27, [.ints .u8 672 (nc a)]), (27, [.ints .u8 672 (nc b)]), (52, [.vals 3 [.bool (Tr.rlev a b 0 k), .bool (Tr.rlev a b 1 k), .bool (Tr.rlev a b 2 k)]])]) (0, .slice none 0 0) ⟨by omega, emp, (Split.one m).addEmp, Io.nil _⟩ ?_ ?_
  · conv => whnf
    repeat (refine And.intro (by first | with_reducible rfl | exact congrArg (Value.int _) (wi (by omega) (by omega)) | exact wi (by omega) (by omega) | rfl) ?_; conv => whnf)
    first | exact trivial | exact fun _ _ h => h
  rintro ⟨k, v⟩ mm ⟨hk, q, hs, hv⟩
  have hlk := Tr.rlooks_le a b k
  have hol := Tr.rout_len a b k
  conv => whnf
  refine ⟨fun h1 => ?_, fun h1 => ?_⟩
  · have h1' := of_decide_eq_true h1
    have hlt : k < 21 := by omega
    conv => whnf
    refine xcall ((comes_spec (p := k) ha hb hlt).new (Split.one mm)) ?_
    rintro _ m1 ⟨w1, ⟨rfl, _⟩, hs1⟩
    conv => whnf
    have hs1 := (hs1.under (a := [w1]) hs).drop
    have hs1 : Split m1 [q, m] := hs1
    refine ⟨fun h2 => ?_, fun h2 => ?_⟩
    · have hc : Tr.comes a b k = false := by simpa using h2
      conv => whnf
      refine ⟨(k + 1, v), ⟨by omega, q, hs1, by rw [Tr.rout, hc]; exact hv⟩, by simp only; omega, ?_⟩
      simp only [Tr.rlooks, Tr.rlev, hc, Bool.false_and]
      conv => whnf
      repeat (refine And.intro (by first | with_reducible rfl | (first | exact congrArg (Value.int _) (iadd (by omega))) | exact congrArg (Value.int _) (wi (by omega) (by omega)) | exact wi (by omega) (by omega) | rfl) ?_; conv => whnf)
      first | exact trivial | exact fun _ _ h => h
    · have hc : Tr.comes a b k = true := by simpa using h2
      have e3 : ((if (k : Int) = 0 then 0 else if 0 < (k : Int) ∧ (k : Int) < 5 then 1 else if 4 < (k : Int) ∧ (k : Int) < 21 then 2 else -1 : Int)) = ((Tr.lev k : Nat) : Int) := by
        unfold Tr.lev
        by_cases h0 : k = 0
        · subst h0; rfl
        · rw [if_neg (by omega), if_neg h0]
          by_cases h5 : k < 5
          · rw [if_pos (by omega), if_pos h5]; rfl
          · rw [if_neg (by omega), if_neg h5, if_pos (by omega)]; rfl
      have hl3 : Tr.lev k < 3 := by unfold Tr.lev; split; omega; split <;> omega
      have hset : ([.bool (Tr.rlev a b 0 k), .bool (Tr.rlev a b 1 k), .bool (Tr.rlev a b 2 k)] : List Value).set (Tr.lev k) (.bool true) = [.bool (Tr.rlev a b 0 (k + 1)), .bool (Tr.rlev a b 1 (k + 1)), .bool (Tr.rlev a b 2 (k + 1))] := by
        simp only [Tr.rlev, hc, Bool.true_and]
        generalize Tr.lev k = x at hl3
        rcases x with _ | _ | _ | x
        · rfl
        · rfl
        · rfl
        · omega
      have hk4 := Tr.kids_len k
      have eadd : IntKind.i64.wrap (((Tr.rlooks a b k : Nat) : Int) + ((Tr.kids k).length : Int)) = ((Tr.rlooks a b (k + 1) : Nat) : Int) := by
        rw [wi (by omega) (by omega), Tr.rlooks, hc]; simp
      conv => whnf
      first | refine xretk (rlevel_spec) ?_ | refine xret (rlevel_spec) ?_
      conv => whnf
      rw [e3]
      repeat (refine And.intro (by first | omega | (simp only [times]; omega)) ?_; conv => whnf)
      simp only [times, Int.toNat_natCast, Nat.mul_one, Nat.zero_add, hset]
      refine xcall (rkids_spec (p := (k : Int)) (by omega)) ?_
      rintro _ m2 ⟨v1, q1, rfl, hs2, hv1⟩
      conv => whnf
      have hs2 := (hs2.under (a := [q1]) hs1).drop
      have hs2 : Split m2 [q, m] := hs2
      obtain ⟨a1, c1, rfl⟩ := hv1.il.shape
      conv => whnf
      rw [eadd]
      refine ⟨fun h3 => ?_, fun h3 => ?_⟩
      · have h3' : 4 < k := by have := of_decide_eq_true h3; omega
        have e5 : IntKind.i64.wrap ((k : Int) - 5) = (k : Int) - 5 := wi (by omega) (by omega)
        conv => whnf
        rw [e5]
        refine .mk _ (buildI1) ?_
        rintro _ _ ⟨b2, hb2, rfl, rfl⟩
        conv => whnf
        refine .mk _ (pushI hs2 hb2 hv (by omega)) ?_
        rintro _ m3 ⟨v2, q2, rfl, hs3, hv2⟩
        conv => whnf
        refine ⟨(k + 1, v2), ⟨by omega, q2, hs3, by rw [Tr.rout, hc, if_pos rfl, if_pos h3']; exact hv2⟩, by simp only; omega, ?_⟩
        conv => whnf
        repeat (refine And.intro (by first | with_reducible rfl | (first | exact congrArg (Value.int _) (iadd (by omega))) | exact congrArg (Value.int _) (wi (by omega) (by omega)) | exact wi (by omega) (by omega) | rfl) ?_; conv => whnf)
        first | exact trivial | exact fun _ _ h => h
      · have h3' : ¬ 4 < k := by have := of_decide_eq_false h3; omega
        conv => whnf
        refine ⟨(k + 1, v), ⟨by omega, q, hs2, by rw [Tr.rout, hc, if_pos rfl, if_neg h3']; exact hv⟩, by simp only; omega, ?_⟩
        conv => whnf
        repeat (refine And.intro (by first | with_reducible rfl | (first | exact congrArg (Value.int _) (iadd (by omega))) | exact congrArg (Value.int _) (wi (by omega) (by omega)) | exact wi (by omega) (by omega) | rfl) ?_; conv => whnf)
        first | exact trivial | exact fun _ _ h => h
  · have h1' := of_decide_eq_false h1
    obtain rfl : k = 21 := by omega
    generalize Tr.rlev a b 0 21 = x0
    generalize Tr.rlev a b 1 21 = x1
    generalize Tr.rlev a b 2 21 = x2
    have cl : ∀ i : Nat, i < 3 → ([.bool x0, .bool x1, .bool x2] : List Value).getD i undef = .bool ([x0, x1, x2].getD i false) := fun i hi => by
      rcases i with _ | _ | _ | i
      · rfl
      · rfl
      · rfl
      · omega
    conv => whnf
    refine .mk (ι := Nat) (fun i => 3 - i) (fun i mm' => i ≤ 3 ∧ mm' = mm) (fun i => [(7, .c (.v v)), (8, .c (i64 (Tr.rlooks a b 21))), (9, .p 2 0), (11, .c (i64 (((([x0, x1, x2].take i).filter id).length : Nat) : Int))), (12, .c (i64 i))]) (fun _ => [(27, [.ints .u8 672 (nc a)]), (27, [.ints .u8 672 (nc b)]), (52, [.vals 3 [.bool x0, .bool x1, .bool x2]])]) 0 ⟨by omega, rfl⟩ ?_ ?_
    · conv => whnf
      repeat (refine And.intro (by first | with_reducible rfl | exact congrArg (Value.int _) (wi (by omega) (by omega)) | exact wi (by omega) (by omega) | rfl) ?_; conv => whnf)
      first | exact trivial | exact fun _ _ h => h
    rintro i mm' ⟨hi, he⟩
    subst mm'
    conv => whnf
    refine ⟨fun h2 => ?_, fun h2 => ?_⟩
    · have h2' := of_decide_eq_true h2
      have hli : i < 3 := by omega
      have hfl : (([x0, x1, x2].take i).filter id).length ≤ 3 := Nat.le_trans (List.length_filter_le _ _) (by simp; omega)
      have hst : (([x0, x1, x2].take (i + 1)).filter id).length = (([x0, x1, x2].take i).filter id).length + (if [x0, x1, x2].getD i false = true then 1 else 0) := by
        rw [List.take_succ_eq_append_getElem (by simpa using hli), List.filter_append, List.length_append]
        congr 1
        rw [List.getD_eq_getElem?_getD, List.getElem?_eq_getElem (by simpa using hli)]
        generalize [x0, x1, x2][i] = y
        cases y <;> rfl
      conv => whnf
      repeat (refine And.intro (by first | omega | (simp only [times]; omega)) ?_; conv => whnf)
      simp only [times, Int.toNat_natCast, Nat.mul_one, Nat.zero_add, cl i hli]
      refine ⟨fun h3 => ?_, fun h3 => ?_⟩
      · rw [if_pos h3] at hst
        conv => whnf
        refine ⟨i + 1, ⟨by omega, rfl⟩, by omega, ?_⟩
        rw [hst]
        conv => whnf
        repeat (refine And.intro (by first | with_reducible rfl | (first | exact congrArg (Value.int _) (iadd (by omega))) | exact congrArg (Value.int _) (wi (by omega) (by omega)) | exact wi (by omega) (by omega) | rfl) ?_; conv => whnf)
        first | exact trivial | exact fun _ _ h => h
      · rw [if_neg (by rw [h3]; decide)] at hst
        conv => whnf
        refine ⟨i + 1, ⟨by omega, rfl⟩, by omega, ?_⟩
        rw [hst]
        conv => whnf
        repeat (refine And.intro (by first | with_reducible rfl | (first | exact congrArg (Value.int _) (iadd (by omega))) | exact congrArg (Value.int _) (wi (by omega) (by omega)) | exact wi (by omega) (by omega) | rfl) ?_; conv => whnf)
        first | exact trivial | exact fun _ _ h => h
    · have h2' := of_decide_eq_false h2
      obtain rfl : i = 3 := by omega
      conv => whnf
      refine ⟨v, q, ?_, hs, hv⟩
      have : (([x0, x1, x2].take 3).filter id).length = Tr.cnt x0 x1 x2 := by cases x0 <;> cases x1 <;> cases x2 <;> rfl
      rw [this]
end Go.E.Ytjmjikemaafnjaa

/-
  A walk is what the document says of it: plainly.
-/
namespace Go.E.Ytjmjikemaafnjaa
open Go.Proofs
set_option maxRecDepth 100000
namespace Tr
def uu (a b : List Nat) (k : Int) : Bool := decide (dig a k.toNat ≠ dig b k.toNat)
theorem unl_filter (a b : List Nat) : ∀ ks : List Int, unl a ks (ks.map fun k => dig b k.toNat) = ks.filter (uu a b)
  | [] => by simp [unl]
  | k :: ks => by
    rw [List.map_cons, unl, unl_filter a b ks, List.filter_cons]
    by_cases h : dig a k.toNat = dig b k.toNat
    · rw [if_pos h, if_neg (by simp [uu, h])]
    · rw [if_neg h, if_pos (by simp [uu, h])]
theorem comesF_neg {a b : List Nat} {f : Nat} {p : Int} (h : p < 0) : comesF a b f p = true := by
  cases f with
  | zero => rfl
  | succ f => rw [comesF, if_pos h]
theorem comesF_pos {a b : List Nat} {f p : Nat} : comesF a b (f + 1) (p : Int) = (uu a b p && comesF a b f (up p)) := by
  rw [comesF, if_neg (by omega)]; rfl
theorem comes_0 (a b : List Nat) : comes a b 0 = uu a b 0 := by
  have h0 : up ((0 : Nat) : Int) = -1 := by rw [up, if_neg (by omega)]
  rw [comes, comesF_pos, h0, comesF_neg (by decide), Bool.and_true]; rfl
theorem comes_1 (a b : List Nat) {q : Nat} (h : 1 ≤ q ∧ q < 5) : comes a b q = (uu a b q && uu a b 0) := by
  have h0 : up ((0 : Nat) : Int) = -1 := by rw [up, if_neg (by omega)]
  have h1 : up (q : Int) = ((0 : Nat) : Int) := by rw [up, if_pos (by omega)]; omega
  rw [comes, comesF_pos, h1, comesF_pos, h0, comesF_neg (by decide), Bool.and_true]; rfl
theorem comes_2 (a b : List Nat) {p q : Nat} (h : 1 ≤ q ∧ q < 5) (hp : 4 * q + 1 ≤ p ∧ p ≤ 4 * q + 4) : comes a b p = (uu a b p && (uu a b q && uu a b 0)) := by
  have h0 : up ((0 : Nat) : Int) = -1 := by rw [up, if_neg (by omega)]
  have h1 : up (q : Int) = ((0 : Nat) : Int) := by rw [up, if_pos (by omega)]; omega
  have h2 : up (p : Int) = (q : Int) := by rw [up, if_pos (by omega)]; omega
  rw [comes, comesF_pos, h2, comesF_pos, h1, comesF_pos, h0, comesF_neg (by decide), Bool.and_true]; rfl
theorem rout_filter (a b : List Nat) : ∀ k, rout a b k = ((List.range k).filter fun p => comes a b p && decide (4 < p)).map fun (p : Nat) => (p : Int) - 5
  | 0 => rfl
  | k + 1 => by
    rw [rout, rout_filter a b k, List.range_succ, List.filter_append, List.map_append]
    by_cases hc : comes a b k = true
    · by_cases h4 : 4 < k
      · simp [hc, h4]
      · simp [hc, h4]
    · simp [hc]
def blk (q : Nat) : List Nat := [4 * q + 1, 4 * q + 2, 4 * q + 3, 4 * q + 4]
theorem kids_blk {q : Nat} (h : q < 5) : kids q = (blk q).map fun (p : Nat) => (p : Int) := by
  rw [kids, if_pos (by omega)]; simp [blk]
theorem range21 : List.range 21 = [0, 1, 2, 3, 4] ++ (blk 1 ++ (blk 2 ++ (blk 3 ++ blk 4))) := by decide
/-- a block's leaves -/
def lvs (a b : List Nat) (q : Nat) : List Int := if uu a b q then (kids q).filter (uu a b) else []
theorem blk_filter {a b : List Nat} (h0 : uu a b 0 = true) {q : Nat} (h : 1 ≤ q ∧ q < 5) : ((blk q).filter fun p => comes a b p && decide (4 < p)).map (fun (p : Nat) => (p : Int) - 5) = (lvs a b q).map fun p => p - 5 := by
  have hc : (blk q).filter (fun p => comes a b p && decide (4 < p)) = (blk q).filter (fun (p : Nat) => uu a b p && uu a b q) := by
    refine List.filter_congr fun p hp => ?_
    have hp' : 4 * q + 1 ≤ p ∧ p ≤ 4 * q + 4 := by simp [blk] at hp; omega
    rw [comes_2 a b h hp', h0, Bool.and_true, decide_eq_true (by omega), Bool.and_true]
  rw [hc, lvs]
  by_cases hq : uu a b q = true
  · rw [if_pos hq, kids_blk h.2, List.filter_map, List.map_map]
    simp only [hq, Bool.and_true]
    rfl
  · rw [if_neg hq]
    have : uu a b q = false := by simpa using hq
    simp [this]
theorem rout_all {a b : List Nat} (h0 : uu a b 0 = true) : rout a b 21 = (lvs a b 1 ++ (lvs a b 2 ++ (lvs a b 3 ++ lvs a b 4))).map fun p => p - 5 := by
  rw [rout_filter, range21, List.filter_append, List.filter_append, List.filter_append, List.filter_append, List.map_append, List.map_append, List.map_append, List.map_append, blk_filter h0 (by decide), blk_filter h0 (by decide), blk_filter h0 (by decide), blk_filter h0 (by decide)]
  simp
theorem rout_none {a b : List Nat} (h0 : uu a b 0 = false) : rout a b 21 = [] := by
  rw [rout_filter, List.map_eq_nil_iff, List.filter_eq_nil_iff]
  intro p hp
  have hp21 := List.mem_range.1 hp
  by_cases h4 : 4 < p
  · rw [comes_2 a b (q := (p - 1) / 4) (by omega) (by omega), h0]; simp
  · simp [h4]
theorem rlooks_5 (a b : List Nat) : ∀ k, rlooks a b (5 + k) = rlooks a b 5
  | 0 => rfl
  | k + 1 => by
    rw [show 5 + (k + 1) = (5 + k) + 1 by omega, rlooks, rlooks_5 a b k]
    have : kids ((5 + k : Nat) : Int) = [] := by rw [kids, if_neg (by omega)]
    rw [this]; simp
theorem rlev2 (a b : List Nat) : ∀ k, rlev a b 2 k = !(rout a b k).isEmpty
  | 0 => rfl
  | k + 1 => by
    rw [rlev, rout, rlev2 a b k]
    by_cases hc : comes a b k = true
    · by_cases h4 : 4 < k
      · have : lev k = 2 := by rw [lev, if_neg (by omega), if_neg (by omega)]
        simp [hc, h4, this]
      · have : lev k ≠ 2 := by unfold lev; split; decide; rw [if_pos (by omega)]; decide
        simp [hc, h4, this]
    · simp [hc]
theorem rlev_5 (a b : List Nat) {j : Nat} (hj : j < 2) : ∀ k, rlev a b j (5 + k) = rlev a b j 5
  | 0 => rfl
  | k + 1 => by
    rw [show 5 + (k + 1) = (5 + k) + 1 by omega, rlev, rlev_5 a b hj k]
    have : lev (5 + k) = 2 := by rw [lev, if_neg (by omega), if_neg (by omega)]
    rw [this, decide_eq_false (by omega), Bool.and_false]; rfl
theorem kidsL_nil_of {l : List Int} (h : ∀ x ∈ l, 5 ≤ x) : kidsL l = [] := by
  rw [kidsL, List.flatMap_eq_nil_iff]
  intro p hp
  have := h p hp
  rw [kids, if_neg (by omega)]
theorem lv2 (a b : List Nat) : (kidsL ([1, 2, 3, 4].filter (uu a b))).filter (uu a b) = lvs a b 1 ++ (lvs a b 2 ++ (lvs a b 3 ++ lvs a b 4)) := by
  cases h1 : uu a b 1 <;> cases h2 : uu a b 2 <;> cases h3 : uu a b 3 <;> cases h4 : uu a b 4 <;> simp [lvs, kidsL, h1, h2, h3, h4]
theorem lv1_len (a b : List Nat) : (kidsL ([1, 2, 3, 4].filter (uu a b))).length = 4 * ([1, 2, 3, 4].filter (uu a b)).length := by
  cases h1 : uu a b 1 <;> cases h2 : uu a b 2 <;> cases h3 : uu a b 3 <;> cases h4 : uu a b 4 <;> simp [kidsL, kids, h1, h2, h3, h4]
theorem lvs_ge {a b : List Nat} : ∀ x ∈ lvs a b 1 ++ (lvs a b 2 ++ (lvs a b 3 ++ lvs a b 4)), 5 ≤ x ∧ x < 21 := by
  have h : ∀ q : Nat, 1 ≤ q ∧ q < 5 → ∀ x ∈ lvs a b q, 5 ≤ x ∧ x < 21 := fun q hq x hx => by
    unfold lvs at hx
    split at hx
    · have := (List.mem_filter.1 hx).1
      rw [kids, if_pos (by omega)] at this
      simp at this; omega
    · simp at hx
  intro x hx
  simp only [List.mem_append] at hx
  rcases hx with hx | hx | hx | hx
  · exact h 1 (by decide) x hx
  · exact h 2 (by decide) x hx
  · exact h 3 (by decide) x hx
  · exact h 4 (by decide) x hx
theorem leaves_of {l : List Int} (h : ∀ x ∈ l, 5 ≤ x ∧ x < 21) : leaves l = l.map fun p => p - 5 := by
  have h1 : l.map leafOf = l.map fun p => p - 5 := List.map_congr_left fun p hp => by rw [leafOf, if_pos (h p hp)]
  rw [leaves, h1, List.filter_eq_self]
  intro x hx
  obtain ⟨p, hp, rfl⟩ := List.mem_map.1 hx
  have := h p hp
  exact decide_eq_true (by omega)
theorem walk_ref (a b : List Nat) : leaves (walk a b).1 = rout a b 21 ∧ (walk a b).2.1 = rlooks a b 21 ∧ (walk a b).2.2 = cnt (rlev a b 0 21) (rlev a b 1 21) (rlev a b 2 21) := by
  have e1 := rlooks_5 a b 16
  have e2 := rlev_5 a b (j := 0) (by decide) 16
  have e3 := rlev_5 a b (j := 1) (by decide) 16
  have c0 := comes_0 a b
  have c1 := comes_1 a b (q := 1) (by decide)
  have c2 := comes_1 a b (q := 2) (by decide)
  have c3 := comes_1 a b (q := 3) (by decide)
  have c4 := comes_1 a b (q := 4) (by decide)
  rw [show 5 + 16 = 21 from rfl] at e1 e2 e3
  rw [e1, e2, e3, rlev2]
  by_cases h0 : dig a 0 = dig b 0
  · have hu : uu a b 0 = false := by simp [uu, h0]
    rw [rout_none hu, walk, if_pos h0]
    simp only [rlooks, rlev, c0, c1, c2, c3, c4, hu, Bool.and_false, Bool.false_and]
    refine ⟨rfl, rfl, rfl⟩
  · have hu : uu a b 0 = true := by simp [uu, h0]
    have hk0 : kidsL [0] = [1, 2, 3, 4] := rfl
    have hd0 : ∀ l : List Int, digs b l = (kidsL l).map fun k => dig b k.toNat := fun l => rfl
    have hge := @lvs_ge a b
    rw [rout_all hu, walk, if_neg h0]
    rw [← lv2] at hge ⊢
    have hll := lv1_len a b
    have hro : rlooks a b 5 = 5 + 4 * ([1, 2, 3, 4].filter (uu a b)).length := by
      simp only [rlooks, c0, c1, c2, c3, c4, hu, Bool.and_true]
      cases h1 : uu a b 1 <;> cases h2 : uu a b 2 <;> cases h3 : uu a b 3 <;> cases h4 : uu a b 4 <;> simp [kids, h1, h2, h3, h4]
    have hr0 : rlev a b 0 5 = true := by
      simp only [rlev, c0, c1, c2, c3, c4, hu, Bool.and_true]
      cases h1 : uu a b 1 <;> cases h2 : uu a b 2 <;> cases h3 : uu a b 3 <;> cases h4 : uu a b 4 <;> simp [lev, h1, h2, h3, h4]
    have hr1 : rlev a b 1 5 = !(([1, 2, 3, 4].filter (uu a b)).isEmpty) := by
      simp only [rlev, c0, c1, c2, c3, c4, hu, Bool.and_true]
      cases h1 : uu a b 1 <;> cases h2 : uu a b 2 <;> cases h3 : uu a b 3 <;> cases h4 : uu a b 4 <;> simp [lev, h1, h2, h3, h4]
    rw [hro, hr0, hr1]
    have w0 := wk_none (a := a) (b := b) (f := 2) (l := [0]) (looks := 1) (r := 0) (by rw [hk0]; decide)
    have w1 := wk_more (a := a) (b := b) (f := 2) (l := [0]) (looks := 1) (r := 0) (by rw [hk0]; decide)
    rw [hd0, unl_filter, hk0] at w0 w1
    generalize hL1 : [1, 2, 3, 4].filter (uu a b) = L1 at *
    by_cases hz : L1.length = 0
    · have hL : L1 = [] := List.length_eq_zero_iff.1 hz
      rw [w0 hz]
      subst hL
      refine ⟨?_, rfl, rfl⟩
      simp [kidsL, leaves]
    · have hne : L1.isEmpty = false := by
        cases L1 with
        | nil => simp at hz
        | cons x l => rfl
      have w2 := wk_none (a := a) (b := b) (f := 1) (l := L1) (looks := 1 + 4) (r := 0 + 1) (by omega)
      have w3 := wk_more (a := a) (b := b) (f := 1) (l := L1) (looks := 1 + 4) (r := 0 + 1) (by omega)
      rw [hd0, unl_filter] at w2 w3
      rw [w1 hz]
      generalize hL2 : (kidsL L1).filter (uu a b) = L2 at *
      show leaves (wk a b 2 L1 (1 + 4) (0 + 1)).1 = _ ∧ (wk a b 2 L1 (1 + 4) (0 + 1)).2.1 = _ ∧ (wk a b 2 L1 (1 + 4) (0 + 1)).2.2 = _
      by_cases hz2 : L2.length = 0
      · have hL : L2 = [] := List.length_eq_zero_iff.1 hz2
        rw [w2 hz2]
        subst hL
        refine ⟨rfl, by simp only [hll], ?_⟩
        rw [hne]; rfl
      · have hne2 : (L2.map fun p => p - 5).isEmpty = false := by
          cases L2 with
          | nil => simp at hz2
          | cons x l => rfl
        have hk2 : (kidsL L2).length = 0 := by rw [kidsL_nil_of fun x hx => (hge x hx).1]; rfl
        rw [w3 hz2, wk_end hk2]
        refine ⟨leaves_of hge, by simp only [hll], ?_⟩
        rw [hne, hne2]; rfl
end Tr
end Go.E.Ytjmjikemaafnjaa

/-
  Contracts of tree: trees of texts.
-/
namespace Go.E.Ytjmjikemaafnjaa
open Go.Proofs
set_option maxRecDepth 100000
namespace Tr
/-- a leaf's digest -/
def leafD (l : List Nat) : List Nat := Sha.sum (0 :: l)
def lv (ls : List (List Nat)) : Nat → List Nat
  | 0 => List.replicate 672 0
  | i + 1 => put (lv ls i) (5 + i) (leafD (ls.getD i []))
def inn (t : List Nat) : Nat → List Nat
  | 0 => t
  | j + 1 => put (inn t j) (4 - j) (Sha.sum (below (inn t j) (4 - j)))
def ofT (ls : List (List Nat)) : List Nat := inn (lv ls 16) 5
theorem sum_len (l : List Nat) : (Sha.sum l).length = 32 := by simp [Sha.sum, Sha.digest]
theorem sum_byt (l : List Nat) : ∀ x ∈ Sha.sum l, x < 256 := by
  intro x hx
  simp only [Sha.sum, Sha.digest, List.mem_map] at hx
  obtain ⟨i, _, rfl⟩ := hx
  exact Nat.mod_lt _ (by decide)
theorem inn_succ (t : List Nat) (j : Nat) : inn t (j + 1) = put (inn t j) (4 - j) (Sha.sum (below (inn t j) (4 - j))) := rfl
theorem lv_ok (ls : List (List Nat)) : ∀ {i : Nat}, i ≤ 16 → Ok (lv ls i)
  | 0, _ => ⟨by simp [lv], by simp [lv]⟩
  | i + 1, h => put_ok (lv_ok ls (by omega)) (sum_len _) (sum_byt _) (by omega)
theorem inn_ok {t : List Nat} (h : Ok t) : ∀ (j : Nat), Ok (inn t j)
  | 0 => h
  | j + 1 => put_ok (inn_ok h j) (sum_len _) (sum_byt _) (by omega)
theorem ofT_ok (ls : List (List Nat)) : Ok (ofT ls) := inn_ok (lv_ok ls (Nat.le_refl _)) 5
end Tr
theorem nc_put (t d : List Nat) (p : Nat) (hd : d.length = 32) : (nc t).take (32 * p) ++ (nc d ++ (nc t).drop (32 * p + 32)) = nc (Tr.put t p d) := by
  simp only [nc, Tr.put, List.map_append, List.map_take, List.map_drop, List.append_assoc]
theorem put_eq (t : List Nat) {d : List Nat} {k : Nat} (hd : d.length = 32) : (nc t).take (times (k : Int) 32) ++ (nc d ++ (nc t).drop (times (k : Int) 32 + 32)) = nc (Tr.put t k d) := by
  have : times (k : Int) 32 = 32 * k := by simp [times]; omega
  rw [this]; exact nc_put t d k hd
theorem leafD_spec {m : Mem} {v : Value} {l : List Nat} (hv : La m v (nc l)) (hb : l.length ≤ 100000) (h256 : ∀ x ∈ l, x < 256) : Spec Try.prog 26 [.v v] m fun r m' => r = [digV' (Tr.leafD l)] ∧ Sub m m' := by
  refine en26 rfl (goY ?_)
  conv => whnf
  refine .mk _ (build1) ?_
  rintro _ _ ⟨b, hb, rfl, rfl⟩
  conv => whnf
  refine .mk _ (buildL2) ?_
  rintro _ _ ⟨b2, hb2, rfl, rfl⟩
  conv => whnf
  have h1 := Mem.sub_set (.cells (bc [0]).toArray 5) hb
  have h2 := Mem.sub_set (.cells #[.slice (some ⟨b, 0, none⟩) 1 1, v] 46) hb2
  refine xcall (sum_spec (l := 0 :: l) (Lists.two (l := nc [0]) (k := nc l) (Mem.set_same ..) ((Lb.blk (l := [0]) (Mem.set_same ..) rfl).la.sub h2) (hv.sub (h1.trans h2))) (by simp [catB]) (by simp; omega) (by simp) (by intro x hx; rcases List.mem_cons.1 hx with rfl | hx; decide; exact h256 x hx)) ?_
  rintro _ m1 ⟨rfl, hs⟩
  conv => whnf
  exact ⟨rfl, (h1.trans h2).trans hs⟩
set_option maxHeartbeats 2000000 in
theorem of_spec {m : Mem} {vs : List Value} {ls : List (List Nat)} (hvs : vs.length = 16) (hls : ls.length = 16) (hone : ∀ v ∈ vs, v.oneCell' = true) (hv : ∀ i (h1 : i < vs.length) (h2 : i < ls.length), La m vs[i] (nc ls[i])) (hb : ∀ l ∈ ls, l.length ≤ 100000 ∧ ∀ x ∈ l, x < 256) : Spec Try.prog 18 [.a [.vals 16 vs]] m fun r m' => r = [treeV (Tr.ofT ls)] ∧ Sub m m' := by
  refine en18 rfl (goY ?_)
  conv => whnf
  refine .mk (ι := Nat) (fun i => 16 - i) (fun i mm => i ≤ 16 ∧ Sub m mm) (fun i => [(2, .p 1 0), (3, .p 2 0), (7, .c (.a [.vals 16 vs])), (8, .c (i64 i))]) (fun i => [(47, [.vals 16 vs]), (28, [.ints .u8 672 (List.replicate 672 0)]), (28, [.ints .u8 672 (nc (Tr.lv ls i))])]) 0 ⟨by omega, Sub.refl _⟩ ?_ ?_
  · conv => whnf
    repeat (refine And.intro (by first | with_reducible rfl | (first | (simp [Tr.lv]; done)) | exact congrArg (Value.int _) (wi (by omega) (by omega)) | exact wi (by omega) (by omega) | rfl) ?_; conv => whnf)
    first | exact trivial | exact fun _ _ h => h
  rintro i mm ⟨hi, hs⟩
  have hok := Tr.lv_ok ls hi
  conv => whnf
  refine ⟨fun h1 => ?_, fun h1 => ?_⟩
  · have h1' := of_decide_eq_true h1
    have hlt : i < 16 := by omega
    have hvi := hv i (by omega) (by omega)
    have hli := hb _ (List.getElem_mem (show i < ls.length by omega))
    have hlg : ls.getD i [] = ls[i] := by rw [List.getD_eq_getElem?_getD, List.getElem?_eq_getElem (by omega)]; rfl
    have hvg : vs.getD i undef = vs[i] := by rw [List.getD_eq_getElem?_getD, List.getElem?_eq_getElem (by omega)]; rfl
    have e5 : IntKind.i64.wrap (5 + (i : Int)) = ((5 + i : Nat) : Int) := by rw [wi (by omega) (by omega)]; omega
    conv => whnf
    repeat (refine And.intro (by first | omega | (simp only [times]; omega)) ?_; conv => whnf)
    simp only [times, Int.toNat_natCast, Nat.mul_one, hvg]
    refine xcall (leafD_spec (hvi.sub hs) hli.1 hli.2) ?_
    rintro _ m2 ⟨rfl, hs2⟩
    conv => whnf
    rw [e5]
    repeat (refine And.intro (by first | omega | (simp only [times]; omega)) ?_; conv => whnf)
    refine ⟨i + 1, ⟨by omega, hs.trans hs2⟩, by omega, ?_⟩
    rw [show Tr.lv ls (i + 1) = Tr.put (Tr.lv ls i) (5 + i) (Tr.leafD ls[i]) by rw [Tr.lv, hlg]]
    conv => whnf
    repeat (refine And.intro (by first | with_reducible rfl | (first | exact congrArg (Value.int _) (iadd (by omega)) | exact put_eq _ (Tr.sum_len _)) | exact congrArg (Value.int _) (wi (by omega) (by omega)) | exact wi (by omega) (by omega) | rfl) ?_; conv => whnf)
    first | exact trivial | exact fun _ _ h => h
  · have h1' := of_decide_eq_false h1
    obtain rfl : i = 16 := by omega
    have hof : Tr.ofT ls = Tr.inn (Tr.lv ls 16) 5 := rfl
    rw [hof]
    generalize Tr.lv ls 16 = t0 at hok ⊢
    conv => whnf
    refine .mk (ι := Nat) (fun j => 5 - j) (fun j mm => j ≤ 5 ∧ Sub m mm) (fun j => [(2, .p 1 0), (3, .p 2 0), (6, .c (i64 (4 - (j : Int))))]) (fun j => [(47, [.vals 16 vs]), (28, [.ints .u8 672 (List.replicate 672 0)]), (28, [.ints .u8 672 (nc (Tr.inn t0 j))])]) 0 ⟨by omega, hs⟩ ?_ ?_
    · conv => whnf
      repeat (refine And.intro (by first | with_reducible rfl | exact congrArg (Value.int _) (wi (by omega) (by omega)) | exact wi (by omega) (by omega) | rfl) ?_; conv => whnf)
      first | exact trivial | exact fun _ _ h => h
    rintro j mm ⟨hj, hs⟩
    have hok' := Tr.inn_ok hok j
    conv => whnf
    refine ⟨fun h2 => ?_, fun h2 => ?_⟩
    · have h2' := of_decide_eq_true h2
      have e4 : (4 - (j : Int)) = ((4 - j : Nat) : Int) := by omega
      conv => whnf
      rw [e4]
      refine xcall (below_spec hok'.len (p := 4 - j) (by omega)) ?_
      rintro _ m1 ⟨v1, q1, rfl, hs1, hv1⟩
      conv => whnf
      refine .mk _ (buildL1) ?_
      rintro _ _ ⟨b2, hb2, rfl, rfl⟩
      conv => whnf
      have hs2 := hs1.new hb2 (.cells #[v1] 46)
      have hbl := Tr.below_len hok'.len (p := 4 - j)
      refine xcall (sum_spec (l := Tr.below (Tr.inn t0 j) (4 - j)) (Lists.one (Mem.set_same ..) (hv1.lb.la.sub (hs2.sub (by simp)))) catB1 (by omega) (by simp) (Tr.below_byt hok')) ?_
      rintro _ m3 ⟨rfl, hs3⟩
      conv => whnf
      repeat (refine And.intro (by first | omega | (simp only [times]; omega)) ?_; conv => whnf)
      refine ⟨j + 1, ⟨by omega, hs.trans ((hs2.sub (a := mm) (by simp)).trans hs3)⟩, by omega, ?_⟩
      rw [Tr.inn_succ]
      generalize Tr.inn t0 j = t1
      conv => whnf
      repeat (refine And.intro (by first | with_reducible rfl | (first | exact congrArg (Value.int _) (by rw [wi (by omega) (by omega)]; omega) | exact put_eq _ (Tr.sum_len _)) | exact congrArg (Value.int _) (wi (by omega) (by omega)) | exact wi (by omega) (by omega) | rfl) ?_; conv => whnf)
      first | exact trivial | exact fun _ _ h => h
    · have h2' := of_decide_eq_false h2
      obtain rfl : j = 5 := by omega
      conv => whnf
      exact ⟨rfl, hs⟩
end Go.E.Ytjmjikemaafnjaa

/-
  Contracts of tree: a leaf's new text.
-/
namespace Go.E.Ytjmjikemaafnjaa
open Go.Proofs
set_option maxRecDepth 100000
namespace Tr
def upF : Nat → List Nat → Int → List Nat
  | 0, t, _ => t
  | f + 1, t, p => if p < 0 then t else upF f (put t p.toNat (Sha.sum (below t p.toNat))) (up p)
theorem upF_ok : ∀ {f : Nat} {t : List Nat} {p : Int}, Ok t → p < 5 → Ok (upF f t p)
  | 0, _, _, h, _ => h
  | f + 1, t, p, h, hp => by
    unfold upF
    split
    · exact h
    · exact upF_ok (put_ok h (sum_len _) (sum_byt _) (by omega)) (by unfold up; split <;> omega)
theorem upF_neg {f : Nat} {t : List Nat} {p : Int} (h : p < 0) : upF f t p = t := by
  cases f with
  | zero => rfl
  | succ f => rw [upF, if_pos h]
theorem upF_step {f : Nat} {t : List Nat} {p : Int} (h : ¬ p < 0) : upF (f + 1) t p = upF f (put t p.toNat (Sha.sum (below t p.toNat))) (up p) := by rw [upF, if_neg h]
/-- a tree with a leaf's text -/
def withT (t : List Nat) (n : Nat) (l : List Nat) : List Nat := upF 3 (put t (5 + n) (leafD l)) (up (5 + n))
end Tr
set_option maxHeartbeats 2000000 in
theorem up_spec {m : Mem} {t : List Nat} {p : Int} (ht : Tr.Ok t) (hp : -1 ≤ p ∧ p < 5) : Spec Try.prog 29 [treeV t, i64 p] m fun r m' => r = [treeV (Tr.upF 3 t p)] ∧ Sub m m' := by
  have fu : ∀ {p : Int}, -1 ≤ p ∧ p < 5 → ¬ p < 0 → -1 ≤ Tr.up p ∧ Tr.up p < 5 ∧ Tr.up p < p := fun h1 h2 => by unfold Tr.up; split <;> omega
  refine en29 rfl (goY ?_)
  conv => whnf
  refine .mk 0 _ rfl (ι := Nat × List Nat × Int) (fun i => i.1) (fun ⟨f, t', p'⟩ mm => Sub m mm ∧ Tr.Ok t' ∧ (-1 ≤ p' ∧ p' < 5) ∧ (p' < 0 ∨ 0 < f) ∧ (p' < 0 ∨ p' = 0 ∨ 1 < f) ∧ Tr.upF f t' p' = Tr.upF 3 t p)
    (fun ⟨f, t', p'⟩ => [(1, .c (i64 p')), (2, .p 0 0), (4, .p 1 0)]) (fun ⟨f, t', p'⟩ => [(28, [.ints .u8 672 (nc t')]), (28, [.ints .u8 672 (List.replicate 672 0)])]) ?_ ?_
  · conv => whnf
    refine ⟨fun h => ?_, fun h => ?_⟩
    · have h' := of_decide_eq_true h
      conv => whnf
      exact ⟨by rw [Tr.upF_neg h'], Sub.refl _⟩
    · have h' := of_decide_eq_false h
      obtain ⟨k, rfl⟩ : ∃ k : Nat, p = k := ⟨p.toNat, by omega⟩
      have hf := fu hp h'
      conv => whnf
      refine xcall (below_spec ht.len (p := k) (by omega)) ?_
      rintro _ m1 ⟨v1, q1, rfl, hs1, hv1⟩
      conv => whnf
      refine .mk _ (buildL1) ?_
      rintro _ _ ⟨b2, hb2, rfl, rfl⟩
      conv => whnf
      have hs2 := hs1.new hb2 (.cells #[v1] 46)
      have hbl := Tr.below_len ht.len (p := k)
      refine xcall (sum_spec (l := Tr.below t k) (Lists.one (Mem.set_same ..) (hv1.lb.la.sub (hs2.sub (by simp)))) catB1 (by omega) (by simp) (Tr.below_byt ht)) ?_
      rintro _ m3 ⟨rfl, hs3⟩
      conv => whnf
      repeat (refine And.intro (by first | omega | (simp only [times]; omega)) ?_; conv => whnf)
      first | refine xretk (up_place_spec) ?_ | refine xret (up_place_spec) ?_
      conv => whnf
      have hst := Tr.upF_step (f := 2) (t := t) h'
      rw [Int.toNat_natCast] at hst
      have hok := Tr.put_ok ht (Tr.sum_len (Tr.below t k)) (Tr.sum_byt (Tr.below t k)) (p := k) (by omega)
      refine ⟨(2, Tr.put t k (Sha.sum (Tr.below t k)), Tr.up k), ⟨(hs2.sub (by simp)).trans hs3, hok, ⟨hf.1, hf.2.1⟩, .inr (by decide), .inr (.inr (by decide)), hst.symm⟩, ?_⟩
      have hdl := Tr.sum_len (Tr.below t k)
      generalize Sha.sum (Tr.below t k) = d at hdl ⊢
      conv => whnf
      repeat (refine And.intro (by first | with_reducible rfl | (first | exact put_eq _ hdl) | exact congrArg (Value.int _) (wi (by omega) (by omega)) | exact wi (by omega) (by omega) | rfl) ?_; conv => whnf)
      first | exact trivial | exact fun _ _ h => h
  · rintro ⟨f, t', p'⟩ mm ⟨hs, hok, hp', hf1, hf2, he⟩
    conv => whnf
    refine ⟨fun h => ?_, fun h => ?_⟩
    · have h' := of_decide_eq_true h
      conv => whnf
      exact ⟨by rw [← he, Tr.upF_neg h'], hs⟩
    · have h' := of_decide_eq_false h
      obtain ⟨k, rfl⟩ : ∃ k : Nat, p' = k := ⟨p'.toNat, by omega⟩
      have hf := fu hp' h'
      obtain ⟨f', rfl⟩ : ∃ f', f = f' + 1 := ⟨f - 1, by omega⟩
      have hst := Tr.upF_step (f := f') (t := t') h'
      rw [Int.toNat_natCast] at hst
      have hbl := Tr.below_len hok.len (p := k)
      conv => whnf
      refine xcall (below_spec hok.len (p := k) (by omega)) ?_
      rintro _ m1 ⟨v1, q1, rfl, hs1, hv1⟩
      conv => whnf
      refine .mk _ (buildL1) ?_
      rintro _ _ ⟨b2, hb2, rfl, rfl⟩
      conv => whnf
      have hs2 := hs1.new hb2 (.cells #[v1] 46)
      refine xcall (sum_spec (l := Tr.below t' k) (Lists.one (Mem.set_same ..) (hv1.lb.la.sub (hs2.sub (by simp)))) catB1 (by omega) (by simp) (Tr.below_byt hok)) ?_
      rintro _ m3 ⟨rfl, hs3⟩
      conv => whnf
      repeat (refine And.intro (by first | omega | (simp only [times]; omega)) ?_; conv => whnf)
      first | refine xretk (up_place_spec) ?_ | refine xret (up_place_spec) ?_
      conv => whnf
      have hdl := Tr.sum_len (Tr.below t' k)
      have hdb := Tr.sum_byt (Tr.below t' k)
      have hok' := Tr.put_ok hok hdl hdb (p := k) (by omega)
      have hup : Tr.up (k : Int) < 0 ∨ (Tr.up (k : Int) = 0 ∧ 0 < k) := by unfold Tr.up; split <;> omega
      refine ⟨(f', Tr.put t' k (Sha.sum (Tr.below t' k)), Tr.up k), ⟨hs.trans ((hs2.sub (a := mm) (by simp)).trans hs3), hok', ⟨hf.1, hf.2.1⟩, by omega, by omega, by rw [← he, hst]⟩, by simp only; omega, ?_⟩
      generalize Sha.sum (Tr.below t' k) = d at hdl ⊢
      conv => whnf
      repeat (refine And.intro (by first | with_reducible rfl | (first | exact put_eq _ hdl) | exact congrArg (Value.int _) (wi (by omega) (by omega)) | exact wi (by omega) (by omega) | rfl) ?_; conv => whnf)
      first | exact trivial | exact fun _ _ h => h
theorem with_spec {m : Mem} {t : List Nat} {n : Nat} {v : Value} {l : List Nat} (ht : Tr.Ok t) (hn : n < 16) (hv : La m v (nc l)) (hb : l.length ≤ 100000) (h256 : ∀ x ∈ l, x < 256) : Spec Try.prog 19 [treeV t, i64 n, .v v] m fun r m' => r = [treeV (Tr.withT t n l)] ∧ Sub m m' := by
  have e5 : IntKind.i64.wrap (5 + (n : Int)) = ((5 + n : Nat) : Int) := by rw [wi (by omega) (by omega)]; omega
  have e5' : ((5 + n : Nat) : Int) = 5 + (n : Int) := by omega
  have hdl : (Tr.leafD l).length = 32 := Tr.sum_len _
  have hok := Tr.put_ok ht hdl (Tr.sum_byt _) (p := 5 + n) (by omega)
  have hw : Tr.withT t n l = Tr.upF 3 (Tr.put t (5 + n) (Tr.leafD l)) (Tr.up ((5 + n : Nat) : Int)) := by rw [e5']; rfl
  have hup : -1 ≤ Tr.up ((5 + n : Nat) : Int) ∧ Tr.up ((5 + n : Nat) : Int) < 5 := by unfold Tr.up; split <;> omega
  refine en19 rfl (goY ?_)
  conv => whnf
  refine ⟨fun h => absurd h (by (have := of_decide_eq_true h; omega)), fun _ => ?_⟩
  conv => whnf
  refine ⟨fun h => absurd h (by (have := of_decide_eq_true h; omega)), fun _ => ?_⟩
  conv => whnf
  refine xcall (leafD_spec hv hb h256) ?_
  rintro _ m1 ⟨rfl, hs1⟩
  conv => whnf
  rw [e5]
  repeat (refine And.intro (by first | omega | (simp only [times]; omega)) ?_; conv => whnf)
  have hpe := put_eq t (k := 5 + n) hdl
  simp only [hpe]
  first | refine xretk (up_place_spec) ?_ | refine xret (up_place_spec) ?_
  conv => whnf
  refine xcall (up_spec hok hup) ?_
  rintro _ m2 ⟨rfl, hs2⟩
  conv => whnf
  exact ⟨by rw [hw], hs1.trans hs2⟩
end Go.E.Ytjmjikemaafnjaa

/-
  Trees as lists of digests; the digests of fixed trees.
-/
namespace Go.E.Ytjmjikemaafnjaa
open Go.Proofs
set_option maxRecDepth 100000
namespace Tr
theorem flat_len : ∀ {ds : List (List Nat)}, D32 ds → ds.flatten.length = 32 * ds.length
  | [], _ => rfl
  | d :: ds, h => by
    have ih := flat_len (ds := ds) fun x hx => h x (by simp [hx])
    have := h d (by simp)
    rw [List.flatten_cons, List.length_append, List.length_cons]; omega
theorem flat_split {ds : List (List Nat)} (h : D32 ds) {p : Nat} (hp : p < ds.length) : ds.flatten = (ds.take p).flatten ++ (ds[p] ++ (ds.drop (p + 1)).flatten) ∧ (ds.take p).flatten.length = 32 * p ∧ ds[p].length = 32 := by
  refine ⟨?_, ?_, h _ (List.getElem_mem hp)⟩
  · have : ds = ds.take p ++ (ds[p] :: ds.drop (p + 1)) := by rw [List.getElem_cons_drop, List.take_append_drop]
    conv => lhs; rw [this]
    rw [List.flatten_append, List.flatten_cons]
  · rw [flat_len fun x hx => h x (List.mem_of_mem_take hx), List.length_take]; omega
theorem dig_flat {ds : List (List Nat)} (h : D32 ds) {p : Nat} (hp : p < ds.length) : dig ds.flatten p = ds[p] := by
  obtain ⟨e, h1, h2⟩ := flat_split h hp
  rw [dig, e, List.drop_append, h1, Nat.sub_self, List.drop_zero, List.drop_of_length_le (by omega), List.nil_append, List.take_append_of_le_length (by omega), List.take_of_length_le (by omega)]
theorem put_flat {ds : List (List Nat)} (h : D32 ds) {p : Nat} (hp : p < ds.length) {d : List Nat} (hd : d.length = 32) : put ds.flatten p d = (ds.set p d).flatten ∧ D32 (ds.set p d) := by
  obtain ⟨e, h1, h2⟩ := flat_split h hp
  refine ⟨?_, fun x hx => ?_⟩
  · have e2 : (ds.set p d).flatten = (ds.take p).flatten ++ (d ++ (ds.drop (p + 1)).flatten) := by
      rw [List.set_eq_take_append_cons_drop, if_pos hp, List.flatten_append, List.flatten_cons]
    rw [e2, put, e, List.take_append_of_le_length (by omega), List.take_of_length_le (by omega), List.drop_append, h1, List.drop_of_length_le (by omega), List.nil_append, List.drop_append, h2, List.drop_of_length_le (by omega), List.nil_append, show 32 * p + 32 - 32 * p - 32 = 0 by omega, List.drop_zero, List.append_assoc]
  · rcases List.mem_or_eq_of_mem_set hx with hx | rfl
    · exact h x hx
    · exact hd
theorem below_flat {ds : List (List Nat)} (h : D32 ds) (hl : ds.length = 21) {p : Nat} (hp : p < 5) : below ds.flatten p = 1 :: (ds.getD (4 * p + 1) [] ++ (ds.getD (4 * p + 2) [] ++ (ds.getD (4 * p + 3) [] ++ ds.getD (4 * p + 4) []))) := by
  rw [below, if_pos hp, kids, if_pos (by omega)]
  have g : ∀ k : Nat, k < 21 → dig ds.flatten k = ds.getD k [] := fun k hk => by
    rw [dig_flat h (by omega), List.getD_eq_getElem?_getD, List.getElem?_eq_getElem (by omega)]; rfl
  simp only [List.flatMap_cons, List.flatMap_nil, List.append_nil]
  rw [show (4 * (p : Int) + 1).toNat = 4 * p + 1 by omega, show (4 * (p : Int) + 2).toNat = 4 * p + 2 by omega, show (4 * (p : Int) + 3).toNat = 4 * p + 3 by omega, show (4 * (p : Int) + 4).toNat = 4 * p + 4 by omega, g _ (by omega), g _ (by omega), g _ (by omega), g _ (by omega)]
end Tr
end Go.E.Ytjmjikemaafnjaa
