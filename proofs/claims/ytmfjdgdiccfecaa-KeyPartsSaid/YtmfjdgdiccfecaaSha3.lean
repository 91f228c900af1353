/-
  Contracts of sha: the digest.
-/
import Derived.Test.YtmfjdgdiccfecaaSha2
namespace Go.E.Ytmfjdgdiccfecaa
open Go.Proofs
set_option maxRecDepth 100000
/-- the first n bytes of 32 -/
def dgc (h : List Nat) (n : Nat) : List Int := (nc (Sha.digest h)).take n ++ List.replicate (32 - n) 0
theorem digest_len (h : List Nat) : (Sha.digest h).length = 32 := by simp [Sha.digest]
theorem dgc_set {h : List Nat} {i k : Nat} (hi : i < 8) (hk : k < 4) : (dgc h (4 * i + k)).set (4 * i + k) ((h.getD i 0 / 256 ^ (3 - k) % 256 : Nat) : Int) = dgc h (4 * i + (k + 1)) := by
  have hB : (nc (Sha.digest h)).length = 32 := by simp [digest_len]
  have hl : ((nc (Sha.digest h)).take (4 * i + k)).length = 4 * i + k := by rw [List.length_take]; omega
  have e : List.replicate (32 - (4 * i + k)) (0 : Int) = 0 :: List.replicate (32 - (4 * i + (k + 1))) 0 := by
    rw [← List.replicate_succ]; congr 1; omega
  have d1 : (4 * i + k) / 4 = i := by omega
  have d2 : (4 * i + k) % 4 = k := by omega
  rw [dgc, e, List.set_append_right _ _ (by omega), hl, Nat.sub_self, List.set_cons_zero, dgc, show 4 * i + (k + 1) = 4 * i + k + 1 by omega, List.take_succ_eq_append_getElem (by omega), List.append_assoc]
  simp [Sha.digest, d1, d2]
theorem byte_eq {x k : Nat} (hk : k < 4) : IntKind.u8.wrap (shrOf .u32 (x : Int) ((24 - 8 * k : Nat) : Int)) = ((x / 256 ^ (3 - k) % 256 : Nat) : Int) := by
  rw [shr_nat (by show 24 - 8 * k ≤ 32; omega), IntKind.wrap_u8]
  have : 2 ^ (24 - 8 * k) = 256 ^ (3 - k) := by
    rw [show (256 : Nat) = 2 ^ 8 from rfl, ← Nat.pow_mul]; congr 1; omega
  rw [this]; rfl
set_option maxHeartbeats 4000000 in
theorem digest_spec {m : Mem} {h : List Nat} : Ret Try.prog 30 [.a [.ints .u32 8 (nc h)]] m [.a [.ints .u8 32 (nc (Sha.digest h))]] := by
  refine en30 rfl (goY ?_)
  conv => whnf
  refine .mk (ι := Nat) (fun i => 8 - i) (fun i mm => i ≤ 8 ∧ mm = m) (fun i => [(2, .p 1 0), (3, .p 2 0), (7, .c (.a [.ints .u32 8 (nc h)])), (8, .c (i64 i))])
    (fun i => [(54, [.ints .u32 8 (nc h)]), (44, [.ints .u8 32 (List.replicate 32 0)]), (44, [.ints .u8 32 (dgc h (4 * i))])]) 0 ⟨by omega, rfl⟩ ?_ ?_
  · conv => whnf
    repeat (refine And.intro (by first | with_reducible rfl | exact congrArg (Value.int _) (wi (by omega) (by omega)) | exact wi (by omega) (by omega) | rfl) ?_; conv => whnf)
    first | exact trivial | exact fun _ _ h => h
  rintro i mm ⟨hi, he⟩
  subst mm
  conv => whnf
  refine ⟨fun h1 => ?_, fun h1 => ?_⟩
  · have h1' := of_decide_eq_true h1
    have hlt : i < 8 := by omega
    conv => whnf
    repeat (refine And.intro (by first | omega | (simp only [times]; omega)) ?_; conv => whnf)
    simp only [nc_get, times, Int.toNat_natCast, Nat.zero_add, Nat.zero_mul, Nat.mul_one, Nat.one_mul]
    refine .mk (ι := Nat) (fun k => 4 - k) (fun k mm => k ≤ 4 ∧ mm = m) (fun k => [(2, .p 1 0), (3, .p 2 0), (4, .c (i64 i)), (5, .c (u32 ((h.getD i 0 : Nat) : Int))), (7, .c (.a [.ints .u32 8 (nc h)])), (8, .c (i64 i)), (12, .c (i64 k))])
      (fun k => [(54, [.ints .u32 8 (nc h)]), (44, [.ints .u8 32 (List.replicate 32 0)]), (44, [.ints .u8 32 (dgc h (4 * i + k))])]) 0 ⟨by omega, rfl⟩ ?_ ?_
    · conv => whnf
      repeat (refine And.intro (by first | with_reducible rfl | exact congrArg (Value.int _) (wi (by omega) (by omega)) | exact wi (by omega) (by omega) | rfl) ?_; conv => whnf)
      first | exact trivial | exact fun _ _ h => h
    rintro k mm ⟨hk, he⟩
    subst mm
    conv => whnf
    refine ⟨fun h2 => ?_, fun h2 => ?_⟩
    · have h2' := of_decide_eq_true h2
      have hkt : k < 4 := by omega
      have e1 : IntKind.i64.wrap (IntKind.i64.wrap (4 * (i : Int)) + (k : Int)) = ((4 * i + k : Nat) : Int) := by rw [wi (n := 4 * (i : Int)) (by omega) (by omega), wi (by omega) (by omega)]; omega
      have e2 : IntKind.i64.wrap (24 - IntKind.i64.wrap (8 * (k : Int))) = ((24 - 8 * k : Nat) : Int) := by rw [wi (n := 8 * (k : Int)) (by omega) (by omega), wi (by omega) (by omega)]; omega
      conv => whnf
      rw [e1, e2]
      repeat (refine And.intro (by first | omega | (simp only [times]; omega)) ?_; conv => whnf)
      simp only [times, Int.toNat_natCast, Nat.zero_add, byte_eq hkt]
      refine ⟨k + 1, ⟨by omega, by trivial⟩, by omega, ?_⟩
      conv => whnf
      repeat (refine And.intro (by first | with_reducible rfl | (first | exact congrArg (Value.int _) (iadd (by omega)) | exact dgc_set hlt hkt) | exact congrArg (Value.int _) (wi (by omega) (by omega)) | exact wi (by omega) (by omega) | rfl) ?_; conv => whnf)
      first | exact trivial | exact fun _ _ h => h
    · have h2' := of_decide_eq_false h2
      obtain rfl : k = 4 := by omega
      conv => whnf
      refine ⟨i + 1, ⟨by omega, by trivial⟩, by omega, ?_⟩
      conv => whnf
      repeat (refine And.intro (by first | with_reducible rfl | (first | exact congrArg (Value.int _) (iadd (by omega)) | rfl) | exact congrArg (Value.int _) (wi (by omega) (by omega)) | exact wi (by omega) (by omega) | rfl) ?_; conv => whnf)
      first | exact trivial | exact fun _ _ h => h
  · have h1' := of_decide_eq_false h1
    obtain rfl : i = 8 := by omega
    conv => whnf
    refine ⟨?_, rfl⟩
    rw [dgc, List.take_of_length_le (by simp [digest_len])]; simp
end Go.E.Ytmfjdgdiccfecaa
