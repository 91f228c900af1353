/-
  Contracts of sha: bytes with what stands behind them.
-/
import Derived.Test.YtmfjdgdiccfecaaSha3
import Derived.Test.YtmfjdgdiccfecaaCat
namespace Go.E.Ytmfjdgdiccfecaa
open Go.Proofs
set_option maxRecDepth 100000
theorem nc_append (a b : List Nat) : nc (a ++ b) = nc a ++ nc b := by simp [nc]
theorem zeros_at {n k : Nat} (hk : k ≤ Sha.zeros n) : (n + 1 + k) % 64 = 56 ↔ k = Sha.zeros n := by
  unfold Sha.zeros at *
  omega
theorem be8_len (n : Nat) : (Sha.be8 n).length = 8 := by simp [Sha.be8]
theorem be8_byte {n j : Nat} (hj : j < 8) : IntKind.u8.wrap (shrOf .u64 (n : Int) ((8 * (7 - j) : Nat) : Int)) = ((n / 256 ^ (7 - j) % 256 : Nat) : Int) := by
  rw [shr_nat (by show 8 * (7 - j) ≤ 64; omega), IntKind.wrap_u8]
  have : 2 ^ (8 * (7 - j)) = 256 ^ (7 - j) := by rw [show (256 : Nat) = 2 ^ 8 from rfl, ← Nat.pow_mul]
  rw [this]; rfl
theorem be8_take {n j : Nat} (hj : j < 8) : (Sha.be8 n).take j ++ [n / 256 ^ (7 - j) % 256] = (Sha.be8 n).take (j + 1) := by
  rw [List.take_succ_eq_append_getElem (by rw [be8_len]; exact hj)]; simp [Sha.be8]
/-- one byte more -/
theorem Bs.one {m : Mem} {ls : List Mem} {p : Mem} {b' : Nat} {y : Int} (hs : Split m (p :: ls)) (hb : m b' = none) {x : Value} {l : List Int} (hx : Bs p x l) (hl : l.length ≤ 100000000) :
    PrimSpec Try.prog (.builtin .append [33, 33]) [.v x, .v (.slice (some ⟨b', 0, none⟩) 1 1)] (m.set b' (.cells (bc [y]).toArray 5)) fun r m' => ∃ v' p', r = [.v v'] ∧ Split m' (p' :: ls) ∧ Bs p' v' (l ++ [y]) := by
  have hs1 := hs.new hb (.cells (bc [y]).toArray 5)
  refine (appendBat (i := 1) hs1 rfl hx (Lb.blk (l := [y]) (Mem.set_same ..) rfl).la (by simp; omega)).mono fun r m' ⟨v', p', h1, h2, h3⟩ => ⟨v', p', h1, h2.erase 0, h3.own⟩
set_option maxHeartbeats 2000000 in
theorem padded_spec {m : Mem} {v : Value} {ps : List (Value × List Int)} {l : List Nat} (h : Lists m v ps) (hcat : catB ps = nc l) (hb : l.length ≤ 1000000) (hn : ps.length ≤ 10000000) :
    Spec Try.prog 28 [.v v] m fun r m' => ∃ v' p, r = [.v v'] ∧ Split m' [p, m] ∧ Bs p v' (nc (Sha.pad l)) := by
  have hlen : (catB ps).length = l.length := by rw [hcat]; simp
  refine en28 rfl (goY ?_)
  conv => whnf
  refine xcall (concat_spec h (by omega) hn) ?_
  rintro _ m1 ⟨v1, p1, rfl, hs1, hv1⟩
  conv => whnf
  rw [hcat] at hv1
  obtain ⟨a1, c1, rfl⟩ := hv1.lb.shape
  conv => whnf
  refine .mk _ (build1) ?_
  rintro _ _ ⟨b', hb', rfl, rfl⟩
  conv => whnf
  refine .mk _ (Bs.one hs1 hb' hv1 (by simp; omega)) ?_
  rintro _ m2 ⟨v2, p2, rfl, hs2, hv2⟩
  conv => whnf
  have hz : Sha.zeros l.length < 64 := Nat.mod_lt _ (by decide)
  have en : IntKind.u64.wrap (IntKind.u64.wrap ((l.length : Nat) : Int) * 8) = ((8 * l.length : Nat) : Int) := by rw [wu (n := ((l.length : Nat) : Int)) (by omega) (by omega), wu (by omega) (by omega)]; omega
  refine .mk (ι := Nat × Value) (fun i => Sha.zeros l.length - i.1) (fun ⟨k, x⟩ mm => k ≤ Sha.zeros l.length ∧ ∃ p, Split mm [p, m] ∧ Bs p x (nc (l ++ [128] ++ List.replicate k 0))) (fun ⟨k, x⟩ => [(3, .c (.v x)), (4, .c (u64 ((8 * l.length : Nat) : Int)))]) (fun _ => []) (0, v2) ⟨by omega, p2, hs2, by simpa using hv2⟩ ?_ ?_
  · conv => whnf
    repeat (refine And.intro (by first | with_reducible rfl | ((first | exact congrArg (Value.int _) en | (simp only [nc, List.length_map]; exact congrArg (Value.int _) en))) | exact congrArg (Value.int _) (wi (by omega) (by omega)) | exact wi (by omega) (by omega) | rfl) ?_; conv => whnf)
    first | exact trivial | exact fun _ _ h => h
  rintro ⟨k, x⟩ mm ⟨hk, p, hs, hx⟩
  obtain ⟨a, c, rfl⟩ := hx.lb.shape
  have hln : (nc (l ++ [128] ++ List.replicate k 0)).length = l.length + 1 + k := by simp; omega
  rw [hln] at hx ⊢
  conv => whnf
  have erem : Int.tmod ((l.length + 1 + k : Nat) : Int) 64 = (((l.length + 1 + k) % 64 : Nat) : Int) := by rw [Int.tmod_eq_emod_of_nonneg (by omega)]; omega
  refine ⟨fun h1 => ?_, fun h1 => ?_⟩
  · have hne : k ≠ Sha.zeros l.length := by
      intro e
      have := (zeros_at hk).2 e
      simp only [erem, this] at h1
      revert h1; decide
    conv => whnf
    refine .mk _ (build1) ?_
    rintro _ _ ⟨b', hb', rfl, rfl⟩
    conv => whnf
    refine .mk _ (Bs.one hs hb' hx (by simp; omega)) ?_
    rintro _ m3 ⟨v3, p3, rfl, hs3, hv3⟩
    conv => whnf
    refine ⟨(k + 1, v3), ⟨by omega, p3, hs3, ?_⟩, by simp only; omega, ?_⟩
    · have e : nc (l ++ [128] ++ List.replicate (k + 1) 0) = nc (l ++ [128] ++ List.replicate k 0) ++ [0] := by
        rw [List.replicate_succ', ← List.append_assoc, nc_append]; rfl
      rw [e]; exact hv3
    · conv => whnf
      repeat (refine And.intro (by first | with_reducible rfl | exact congrArg (Value.int _) (wi (by omega) (by omega)) | exact wi (by omega) (by omega) | rfl) ?_; conv => whnf)
      first | exact trivial | exact fun _ _ h => h
  · have hke : k = Sha.zeros l.length := by
      refine (zeros_at hk).1 ?_
      simp only [erem] at h1
      have := h1
      simp at this
      omega
    subst hke
    conv => whnf
    refine .mk (ι := Nat × Value) (fun i => 8 - i.1) (fun ⟨j, x⟩ mm => j ≤ 8 ∧ ∃ p, Split mm [p, m] ∧ Bs p x (nc (l ++ [128] ++ List.replicate (Sha.zeros l.length) 0 ++ (Sha.be8 (8 * l.length)).take j))) (fun ⟨j, x⟩ => [(3, .c (.v x)), (4, .c (u64 ((8 * l.length : Nat) : Int))), (5, .c (i64 (7 - (j : Int))))]) (fun _ => []) (0, _) ⟨by omega, p, hs, by simpa using hx⟩ ?_ ?_
    · conv => whnf
      repeat (refine And.intro (by first | with_reducible rfl | exact congrArg (Value.int _) (wi (by omega) (by omega)) | exact wi (by omega) (by omega) | rfl) ?_; conv => whnf)
      first | exact trivial | exact fun _ _ h => h
    rintro ⟨j, x⟩ mm ⟨hj, p, hs, hx⟩
    conv => whnf
    refine ⟨fun h2 => ?_, fun h2 => ?_⟩
    · have h2' := of_decide_eq_true h2
      have hjt : j < 8 := by omega
      have ej : IntKind.i64.wrap (8 * (7 - (j : Int))) = ((8 * (7 - j) : Nat) : Int) := by rw [wi (by omega) (by omega)]; omega
      conv => whnf
      rw [ej]
      repeat (refine And.intro (by first | omega | (simp only [times]; omega)) ?_; conv => whnf)
      rw [be8_byte hjt]
      refine .mk _ (build1) ?_
      rintro _ _ ⟨b', hb', rfl, rfl⟩
      conv => whnf
      refine .mk _ (Bs.one hs hb' hx (by simp [be8_len]; omega)) ?_
      rintro _ m3 ⟨v3, p3, rfl, hs3, hv3⟩
      conv => whnf
      refine ⟨(j + 1, v3), ⟨by omega, p3, hs3, ?_⟩, by simp only; omega, ?_⟩
      · have e : nc (l ++ [128] ++ List.replicate (Sha.zeros l.length) 0 ++ (Sha.be8 (8 * l.length)).take (j + 1)) = nc (l ++ [128] ++ List.replicate (Sha.zeros l.length) 0 ++ (Sha.be8 (8 * l.length)).take j) ++ [((8 * l.length / 256 ^ (7 - j) % 256 : Nat) : Int)] := by
          rw [← be8_take hjt, ← List.append_assoc, nc_append (l ++ [128] ++ List.replicate (Sha.zeros l.length) 0 ++ (Sha.be8 (8 * l.length)).take j)]; rfl
        rw [e]; exact hv3
      · conv => whnf
        repeat (refine And.intro (by first | with_reducible rfl | (exact congrArg (Value.int _) (by rw [wi (by omega) (by omega)]; omega)) | exact congrArg (Value.int _) (wi (by omega) (by omega)) | exact wi (by omega) (by omega) | rfl) ?_; conv => whnf)
        first | exact trivial | exact fun _ _ h => h
    · have h2' := of_decide_eq_false h2
      obtain rfl : j = 8 := by omega
      conv => whnf
      rw [List.take_of_length_le (by rw [be8_len]; omega)] at hx
      exact ⟨_, p, rfl, hs, hx⟩
end Go.E.Ytmfjdgdiccfecaa
