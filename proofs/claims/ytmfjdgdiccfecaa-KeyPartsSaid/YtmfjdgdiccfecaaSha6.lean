/-
  Contracts of sha: the digest of lists of bytes.
-/
import Derived.Test.YtmfjdgdiccfecaaSha5
namespace Go.E.Ytmfjdgdiccfecaa
open Go.Proofs
set_option maxRecDepth 100000
theorem Lb.piece {m : Mem} {b o n c : Nat} {l : List Int} (h : Lb m (.slice (some ⟨b, o, none⟩) n c) l) (i len : Nat) (hk : i + len ≤ l.length) : Lb m (.slice (some ⟨b, o + i, none⟩) len len) ((l.drop i).take len) := by
  rcases h.cases with ⟨c, h1, h2⟩ | ⟨b', o', c', arr, t, fr, h1, h2, h3, h4⟩
  · cases h1
  · cases h1
    refine Lb.mk h2 (by simp; omega) (Nat.le_refl _) (fun j x hj => ?_)
    rw [List.getElem?_take] at hj
    split at hj
    · rw [List.getElem?_drop] at hj
      rw [Nat.add_assoc]; exact h4 _ _ hj
    · cases hj
theorem Lb.cap {m : Mem} {b o n c : Nat} {l : List Int} (h : Lb m (.slice (some ⟨b, o, none⟩) n c) l) : l.length ≤ c := by
  rcases h.cases with ⟨c, h1, h2⟩ | ⟨b', o', c', arr, t, fr, h1, h2, h3, h4⟩
  · cases h1
  · cases h1; exact h3
theorem blocks_succ : ∀ (k : Nat) (h p : List Nat), Sha.blocks h (k + 1) p = Sha.block (Sha.blocks h k p) ((p.drop (64 * k)).take 64)
  | 0, h, p => by simp [Sha.blocks]
  | k + 1, h, p => by
    rw [Sha.blocks, blocks_succ k, Sha.blocks, List.drop_drop]
    congr 3; omega
theorem add8_w8 (h v : List Nat) : W8 (Sha.add8 h v) := by
  refine ⟨by simp [Sha.add8], fun j => getD_lt (by decide) (fun x hx => ?_) j⟩
  simp only [Sha.add8, List.mem_map] at hx
  obtain ⟨i, _, rfl⟩ := hx
  exact Nat.mod_lt _ (by decide)
theorem blocks_w8 {h : List Nat} (hh : W8 h) (p : List Nat) : ∀ k, W8 (Sha.blocks h k p)
  | 0 => hh
  | k + 1 => by rw [blocks_succ]; exact add8_w8 _ _
theorem H0_w8 : W8 Sha.H0 := ⟨rfl, fun j => getD_lt (by decide) (by decide) j⟩
theorem pad_len (l : List Nat) : (Sha.pad l).length = 64 * ((Sha.pad l).length / 64) := by
  have : (Sha.pad l).length % 64 = 0 := by
    simp only [Sha.pad, List.length_append, List.length_replicate, be8_len, List.length_cons, List.length_nil, Sha.zeros]
    omega
  omega
theorem pad_le (l : List Nat) : (Sha.pad l).length ≤ l.length + 73 := by
  simp only [Sha.pad, List.length_append, List.length_replicate, be8_len, List.length_cons, List.length_nil, Sha.zeros]
  omega
theorem pad_byte {l : List Nat} (h : ∀ x ∈ l, x < 256) : ∀ x ∈ Sha.pad l, x < 256 := by
  intro x hx
  simp only [Sha.pad, List.mem_append, List.mem_singleton, List.mem_replicate, Sha.be8, List.mem_map] at hx
  rcases hx with ((h1 | rfl) | ⟨_, rfl⟩) | ⟨i, _, rfl⟩
  · exact h _ h1
  · decide
  · decide
  · exact Nat.mod_lt _ (by decide)
theorem over_obj {old : List Value} {new : LB} {t : TypeId} (hk : old.length ≤ LB.size new) : Obj.cells ((old.toArray).toList.take 0 ++ (LB.cells new ++ (old.toArray).toList.drop (0 + LB.size new))).toArray t = .cells (LB.cells new).toArray t := by
  have : (old.toArray).toList.drop (0 + LB.size new) = [] := List.drop_eq_nil_of_le (by simpa using hk)
  rw [this]; simp
abbrev st8 (h : List Nat) : Obj := .cells (LB.cells [.ints .u32 8 (nc h)]).toArray 54
abbrev dg32 (h : List Int) : Obj := .cells (LB.cells [.ints .u8 32 h]).toArray 44
set_option maxHeartbeats 2000000 in
theorem sum_spec {m : Mem} {v : Value} {ps : List (Value × List Int)} {l : List Nat} (h : Lists m v ps) (hcat : catB ps = nc l) (hb : l.length ≤ 1000000) (hn : ps.length ≤ 10000000) (h256 : ∀ x ∈ l, x < 256) :
    Spec Try.prog 22 [.v v] m fun r m' => r = [.a [.ints .u8 32 (nc (Sha.sum l))]] ∧ Sub m m' := by
  refine en22 rfl (goY ?_)
  conv => whnf
  intro bo hbo
  conv => whnf
  first | refine xretk (first_spec) ?_ | refine xret (first_spec) ?_
  conv => whnf
  intro b3 hb3
  conv => whnf
  refine ⟨_, _, _, Mem.set_same .., ⟨by decide, fun j _ => by simp⟩, ?_⟩
  have hs := (((Split.one m).new hbo (dg32 (List.replicate 32 0))).new hb3 (st8 (List.replicate 8 0))).setAt (i := 0) rfl (blk1_same ..) (st8 Sha.H0)
  rw [blk1_set] at hs
  change Split _ [blk1 b3 (st8 Sha.H0), blk1 bo (dg32 (List.replicate 32 0)), m] at hs
  conv => whnf
  obtain ⟨M1, hM⟩ : ∃ M1, M1 = ((m.set bo (dg32 (List.replicate 32 0))).set b3 (st8 (List.replicate 8 0))).set b3 (st8 Sha.H0) := ⟨_, rfl⟩
  rw [← hM] at hs
  change XCall _ _ _ (((m.set bo (dg32 (List.replicate 32 0))).set b3 (st8 (List.replicate 8 0))).set b3 (st8 Sha.H0)) _
  rw [← hM]
  clear hM
  have hs0 : Sub m M1 := hs.sub (by simp)
  refine xcall (padded_spec ⟨h.lies.sub hs0, fun p hp => (h.la p hp).sub hs0⟩ hcat hb hn) ?_
  rintro _ m1 ⟨v', p, rfl, hs1, hv1⟩
  conv => whnf
  have hs1 := hs1.under (a := [p]) hs
  refine xcall (chunk_spec hv1.lb.one) ?_
  rintro _ m2 ⟨c1, c2, hc1, hc2, rfl, rfl⟩
  conv => whnf
  have hs2 := (hs1.new hc1 _).new hc2 (.cells #[.int .i64 64] 3)
  have hpl := pad_len l
  have hpe := pad_le l
  have hne : nc (Sha.pad l) ≠ [] := by simp [nc, Sha.pad]
  obtain ⟨b, o, c, rfl⟩ := hv1.lb.real hne
  have hcap := Lb.cap hv1.lb
  have hl1 : (nc (Sha.pad l)).length = (Sha.pad l).length := by simp
  obtain ⟨n, hn2⟩ : ∃ n, n = (Sha.pad l).length / 64 := ⟨_, rfl⟩
  rw [← hn2] at hpl
  rw [hl1] at hcap
  have hlb := hv1.lb
  rw [hl1, hpl] at hlb hs2 ⊢
  refine .mk 31 #[.pointer (some ⟨c1, 0, none⟩), .pointer (some ⟨c2, 0, none⟩)] rfl rfl rfl (ι := Nat)
    (fun k mm => k ≤ n ∧ Split mm [blk1 c2 (.cells #[.int .i64 64] 3), blk1 c1 (.cells #[.slice (some ⟨b, o, none⟩) (64 * n) c] 33), p, blk1 b3 (st8 (Sha.blocks Sha.H0 k (Sha.pad l))), blk1 bo (dg32 (List.replicate 32 0)), m]) 0 ⟨by omega, hs2⟩
    (fun k x j => x = [piece b o k] ∧ j = k + 1 ∧ k < n) (fun k x j ⟨h1, _⟩ => by subst h1; rfl) ?_
    (fun mm => Split mm [blk1 c2 (.cells #[.int .i64 64] 3), blk1 c1 (.cells #[.slice (some ⟨b, o, none⟩) (64 * n) c] 33), p, blk1 b3 (st8 (Sha.blocks Sha.H0 n (Sha.pad l))), blk1 bo (dg32 (List.replicate 32 0)), m]) ?_ ?_
  · rintro k _ _ mm ⟨hk, hs⟩ ⟨rfl, rfl, hlt⟩
    conv => whnf
    have hw := blocks_w8 H0_w8 (Sha.pad l) k
    refine ⟨[.ints .u32 8 (nc (Sha.blocks Sha.H0 k (Sha.pad l)))], ⟨show (nc _).length = 8 by simp [hw.len], trivial⟩, rfl, MRange.mid [] [] (hs.get (a := blk1 b3 (st8 (Sha.blocks Sha.H0 k (Sha.pad l)))) (by simp) (blk1_same ..)) rfl, ?_⟩
    conv => whnf
    have hpc := Lb.piece (hlb.sub (hs.sub (a := p) (by simp))) (64 * k) 64 (by rw [hl1]; omega)
    have e1 : ((nc (Sha.pad l)).drop (64 * k)).take 64 = nc (((Sha.pad l).drop (64 * k)).take 64) := by simp only [nc, List.map_drop, List.map_take]
    rw [e1] at hpc
    first | refine xretk (block_spec (by simp; omega) (fun x hx => pad_byte h256 x (List.mem_of_mem_drop (List.mem_of_mem_take hx))) hpc (Nat.le_refl _) hw) ?_ | refine xret (block_spec (by simp; omega) (fun x hx => pad_byte h256 x (List.mem_of_mem_drop (List.mem_of_mem_take hx))) hpc (Nat.le_refl _) hw) ?_
    conv => whnf
    have hg := hs.get (a := blk1 b3 (st8 (Sha.blocks Sha.H0 k (Sha.pad l)))) (by simp) (blk1_same ..)
    have hsz : (LB.cells [.ints .u32 8 (nc (Sha.blocks Sha.H0 k (Sha.pad l)))]).length = 8 := by simp [LB.cells, Seg.cells, hw.len]
    refine ⟨_, _, _, hg, ⟨by show 0 + 8 ≤ (LB.cells _).toArray.size; simp only [List.size_toArray]; omega, fun j _ => by simp⟩, ?_⟩
    rw [over_obj (by show _ ≤ 8; omega)]
    conv => whnf
    refine ⟨hlt, ?_⟩
    have hs' := hs.setAt (i := 3) rfl (blk1_same ..) (st8 (Sha.blocks Sha.H0 (k + 1) (Sha.pad l)))
    rw [blk1_set] at hs'
    rw [← blocks_succ]
    exact hs'
  · intro lb ob _ hround
    refine (chunkIter_spec (I := fun k mm => ∃ m1, (k ≤ n ∧ Split m1 [blk1 c2 (.cells #[.int .i64 64] 3), blk1 c1 (.cells #[.slice (some ⟨b, o, none⟩) (64 * n) c] 33), p, blk1 b3 (st8 (Sha.blocks Sha.H0 k (Sha.pad l))), blk1 bo (dg32 (List.replicate 32 0)), m]) ∧ m1 lb = none ∧ mm = m1.set lb ob) (l := lb) (b1 := c1) (b2 := c2) (b := b) (o := o) (n := n) (c := c) (by omega) (by omega) ?_ ?_ ⟨_, ⟨Nat.zero_le _, hs2⟩, by assumption, rfl⟩).mono ?_
    · rintro k mm ⟨m1, ⟨_, hs⟩, hl, rfl⟩
      have g1 := hs.get (a := blk1 c1 (.cells #[.slice (some ⟨b, o, none⟩) (64 * n) c] 33)) (by simp) (blk1_same ..)
      have g2 := hs.get (a := blk1 c2 (.cells #[.int .i64 64] 3)) (by simp) (blk1_same ..)
      exact ⟨by rw [Mem.set_ne _ _ (by rintro rfl; rw [hl] at g1; cases g1)]; exact g1, by rw [Mem.set_ne _ _ (by rintro rfl; rw [hl] at g2; cases g2)]; exact g2⟩
    · rintro k mm hk ⟨m1, hi, hl, rfl⟩
      exact hround k _ _ m1 hi ⟨rfl, rfl, hk⟩ hl
    · rintro r m' ⟨rfl, m1, ⟨_, hs⟩, hl, rfl⟩
      exact ⟨m1, hs, hl, rfl⟩
  · intro mm hs
    conv => whnf
    have hw := blocks_w8 H0_w8 (Sha.pad l) n
    refine ⟨[.ints .u32 8 (nc (Sha.blocks Sha.H0 n (Sha.pad l)))], ⟨show (nc _).length = 8 by simp [hw.len], trivial⟩, rfl, MRange.mid [] [] (hs.get (a := blk1 b3 (st8 (Sha.blocks Sha.H0 n (Sha.pad l)))) (by simp) (blk1_same ..)) rfl, ?_⟩
    conv => whnf
    first | refine xretk (digest_spec) ?_ | refine xret (digest_spec) ?_
    conv => whnf
    have hg := hs.get (a := blk1 bo (dg32 (List.replicate 32 0))) (by simp) (blk1_same ..)
    refine ⟨_, _, _, hg, ⟨Nat.le_refl 32, fun j _ => by simp⟩, ?_⟩
    rw [over_obj (show (LB.cells [.ints .u8 32 (List.replicate 32 0)]).length ≤ LB.size [.ints .u8 32 (nc (Sha.digest (Sha.blocks Sha.H0 n (Sha.pad l))))] from Nat.le_refl 32)]
    have hs' := hs.setAt (i := 4) rfl (blk1_same ..) (dg32 (nc (Sha.digest (Sha.blocks Sha.H0 n (Sha.pad l)))))
    rw [blk1_set] at hs'
    change Split _ [_, _, _, _, _, _] at hs'
    conv => whnf
    refine ⟨[.ints .u8 32 (nc (Sha.digest (Sha.blocks Sha.H0 n (Sha.pad l))))], ⟨show (nc _).length = 32 by simp [Sha.digest], trivial⟩, rfl, MRange.mid [] [] (Mem.set_same ..) rfl, ?_⟩
    exact ⟨by rw [Sha.sum, ← hn2], hs'.sub (by simp)⟩
end Go.E.Ytmfjdgdiccfecaa
