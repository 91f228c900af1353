/-
  Contracts of sha: the point, the number of blocks.
-/
import Derived.Test.YtmfjdgdiccfecaaSha6
namespace Go.E.Ytmfjdgdiccfecaa
open Go.Proofs
set_option maxRecDepth 100000
theorem hLs : tt.get 51 = some ⟨.slice 33, 1, 24, [.one (.slice none 0 0)], false⟩ := by rfl
theorem buildL1 {m : Mem} {x : Value} : PrimSpec Try.prog (.buildSlice 51 1 [0]) [.v x] m fun r m' => ∃ b, m b = none ∧ r = [.v (.slice (some ⟨b, 0, none⟩) 1 1)] ∧ m' = m.set b (.cells #[x] 33) :=
  buildSlice_spec (n := 1) tt_ok hLs rfl hBs rfl rfl (by simp [CV.cs]) (by simp) (by simp)
theorem buildL2 {m : Mem} {x y : Value} : PrimSpec Try.prog (.buildSlice 51 2 [0, 1]) [.v x, .v y] m fun r m' => ∃ b, m b = none ∧ r = [.v (.slice (some ⟨b, 0, none⟩) 2 2)] ∧ m' = m.set b (.cells #[x, y] 33) :=
  buildSlice_spec (n := 2) tt_ok hLs rfl hBs rfl rfl (by simp [CV.cs]) (by simp) (by simp)
theorem Lists.blk {m : Mem} {b n : Nat} {ps : List (Value × List Int)} {t : TypeId} {fr : Nat × Nat} (h : m b = some (.cells (ps.map (·.1)).toArray t fr)) (hn : ps.length = n) (hl : ∀ p ∈ ps, La m p.1 p.2) : Lists m (.slice (some ⟨b, 0, none⟩) n n) ps := by
  refine ⟨.inr ⟨b, 0, n, n, _, _, _, rfl, h, by simp [hn], Nat.le_refl _, fun j u hu => by simpa using hu, fun u hu => ?_⟩, fun p hp => hl p hp⟩
  obtain ⟨p, hp, rfl⟩ := List.mem_map.1 hu
  exact (hl p hp).one
theorem catB1 {v : Value} {l : List Nat} : catB [(v, nc l)] = nc l := by simp [catB]
theorem catB2 {v w : Value} {l k : List Nat} : catB [(v, nc l), (w, nc k)] = nc (l ++ k) := by simp [catB, nc]
/-- the point, step by step -/
def pt (l : List Nat) (i : Nat) : Nat := (List.range i).foldl (fun n i => n * 256 + (Sha.sum l).getD i 0) 0
theorem pt_succ (l : List Nat) (i : Nat) : pt l (i + 1) = pt l i * 256 + (Sha.sum l).getD i 0 := by simp [pt, List.range_succ]
theorem sum_lt (l : List Nat) (i : Nat) : (Sha.sum l).getD i 0 < 256 := by
  refine getD_lt (by decide) (fun x hx => ?_) i
  simp only [Sha.sum, Sha.digest, List.mem_map] at hx
  obtain ⟨i, _, rfl⟩ := hx
  exact Nat.mod_lt _ (by decide)
theorem pt_lt (l : List Nat) : ∀ i, pt l i < 256 ^ i
  | 0 => by simp [pt]
  | i + 1 => by
    have := pt_lt l i; have := sum_lt l i
    rw [pt_succ, Nat.pow_succ]; omega
theorem shl8 {x : Nat} (hx : x < 72057594037927936) : shlOf .u64 (x : Int) 8 = ((x * 256 : Nat) : Int) := by
  show IntKind.u64.wrap ((x : Int) * 2 ^ (min ((8 : Int).toNat) 64)) = _
  have : (min ((8 : Int).toNat) 64) = 8 := by decide
  rw [this, show ((2 : Int) ^ 8) = 256 from rfl, wu (by omega) (by omega)]; omega
theorem pt_or {l : List Nat} {i : Nat} (hi : i < 8) : bitsOf .or .u64 (shlOf .u64 ((pt l i : Nat) : Int) 8) (IntKind.u64.wrap (((Sha.sum l).getD i 0 : Nat) : Int)) = ((pt l (i + 1) : Nat) : Int) := by
  have h1 := pt_lt l i
  have h2 : (256 : Nat) ^ i ≤ 256 ^ 7 := Nat.pow_le_pow_right (by decide) (by omega)
  rw [show (256 : Nat) ^ 7 = 72057594037927936 from rfl] at h2
  have h3 := sum_lt l i
  rw [pt_succ]
  generalize pt l i = x at h1 ⊢
  generalize (Sha.sum l).getD i 0 = y at h3 ⊢
  have hx : x < 72057594037927936 := Nat.lt_of_lt_of_le h1 h2
  clear h1 h2
  rw [shl8 hx, wu (n := (y : Int)) (by omega) (by omega), or_u64 (Nat.lt_of_lt_of_le (show x * 256 < 18446744073709551616 by omega) (by decide)) (Nat.lt_of_lt_of_le h3 (by decide))]
  have := @or_low x y 8 (by simpa using h3)
  rw [show (2 : Nat) ^ 8 = 256 from rfl] at this
  rw [this]
set_option maxHeartbeats 2000000 in
theorem point_spec {m : Mem} {v : Value} {l : List Nat} (hv : La m v (nc l)) (hb : l.length ≤ 1000000) (h256 : ∀ x ∈ l, x < 256) :
    Spec Try.prog 19 [.v v] m fun r m' => r = [.v (.int .u64 ((Sha.point l : Nat) : Int))] ∧ Sub m m' := by
  refine en19 rfl (goY ?_)
  conv => whnf
  refine .mk _ (buildL1) ?_
  rintro _ _ ⟨b1, hb1, rfl, rfl⟩
  conv => whnf
  refine xcall (sum_spec (l := l) (Lists.blk (ps := [(v, nc l)]) (Mem.set_same ..) rfl (by simpa using hv.sub (Mem.sub_set _ hb1))) catB1 hb (by simp) h256) ?_
  rintro _ m1 ⟨rfl, hs1⟩
  conv => whnf
  intro b2 hb2
  conv => whnf
  have hd : (nc (Sha.sum l)).length = 32 := by simp [Sha.sum, Sha.digest]
  refine ⟨_, _, _, Mem.set_same .., ⟨Nat.le_refl 32, fun j _ => by simp⟩, ?_⟩
  rw [over_obj (show (LB.cells [.ints .u8 32 (List.replicate 32 0)]).length ≤ LB.size [.ints .u8 32 (nc (Sha.sum l))] from Nat.le_refl 32), Mem.set_set]
  have hs2 : Sub m1 (m1.set b2 (dg32 (nc (Sha.sum l)))) := Mem.sub_set _ hb2
  have hs0 : Sub m (m1.set b2 (dg32 (nc (Sha.sum l)))) := ((Mem.sub_set _ hb1).trans hs1).trans hs2
  have hg : (m1.set b2 (dg32 (nc (Sha.sum l)))) b2 = some (dg32 (nc (Sha.sum l))) := Mem.set_same ..
  conv => whnf
  change (0 ≤ (8 : Int) ∧ (8 : Int) ≤ ((32 : Nat) : Int)) ∧ _
  refine ⟨by omega, ?_⟩
  conv => whnf
  intro o' ho _
  obtain rfl : o' = 0 := by have := ho (by decide); simpa using this
  obtain ⟨M, hM⟩ : ∃ M, M = m1.set b2 (dg32 (nc (Sha.sum l))) := ⟨_, rfl⟩
  conv => whnf
  rw [← hM] at hg hs0
  refine .mk (ι := Nat) (fun i => 8 - i) (fun i mm => i ≤ 8 ∧ mm = M) (fun i => [(3, .c (.v (.int .u64 ((pt l i : Nat) : Int)))), (10, .c (.v (.slice (some ⟨b2, 0, none⟩) 8 32))), (11, .c (i64 8)), (12, .c (i64 i))]) (fun _ => []) 0 ⟨by omega, hM.symm⟩ ?_ ?_
  · conv => whnf
    repeat (refine And.intro (by first | with_reducible rfl | exact congrArg (Value.int _) (wi (by omega) (by omega)) | exact wi (by omega) (by omega) | rfl) ?_; conv => whnf)
    first | exact trivial | exact fun _ _ h => h
  rintro i mm ⟨hi, he⟩
  subst mm
  conv => whnf
  refine ⟨fun h1 => ?_, fun h1 => ?_⟩
  · have h1' := of_decide_eq_true h1
    have hlt : i < 8 := by omega
    conv => whnf
    repeat (refine And.intro (by first | omega | (simp only [times]; omega)) ?_; conv => whnf)
    have hgi : mcell M b2 (0 + i) = some (.int .u8 (((Sha.sum l).getD i 0 : Nat) : Int)) := by
      refine mcell_of hg ?_
      simp [LB.cells, Seg.cells, List.getD_eq_getElem?_getD, List.getElem?_eq_getElem (show i < (Sha.sum l).length by simp at hd; omega)]
    refine ⟨_, hgi, rfl, ?_⟩
    conv => whnf
    refine ⟨i + 1, ⟨by omega, by trivial⟩, by omega, ?_⟩
    conv => whnf
    repeat (refine And.intro (by first | with_reducible rfl | (first | exact congrArg (Value.int _) (iadd (by omega)) | exact congrArg (Value.int _) (pt_or hlt)) | exact congrArg (Value.int _) (wi (by omega) (by omega)) | exact wi (by omega) (by omega) | rfl) ?_; conv => whnf)
    first | exact trivial | exact fun _ _ h => h
  · have h1' := of_decide_eq_false h1
    obtain rfl : i = 8 := by omega
    conv => whnf
    exact ⟨rfl, hs0⟩
end Go.E.Ytmfjdgdiccfecaa
