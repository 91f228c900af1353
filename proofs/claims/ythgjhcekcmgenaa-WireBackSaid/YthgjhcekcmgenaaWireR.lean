/-
  Contracts of the document's own bytes.
-/
import Derived.Test.YthgjhcekcmgenaaWire
namespace Go.E.Ythgjhcekcmgenaa
open Go.Proofs
set_option maxRecDepth 100000

theorem rem256 (n : Int) (h : 0 ≤ n) : IntKind.u8.wrap (Int.tmod n 256) = ((n.toNat % 256 : Nat) : Int) := by
  rw [IntKind.wrap_u8, Int.tmod_eq_emod_of_nonneg h]; omega
theorem quo256 (n : Nat) (h : n < 18446744073709551616) : IntKind.u64.wrap (Int.tdiv (n : Int) 256) = ((n / 256 : Nat) : Int) := by
  rw [wu] <;> rw [Int.tdiv_eq_ediv_of_nonneg (by omega)] <;> omega
theorem beB_drop {n : Int} (hn : U64 n) {i : Nat} (hi : i < (beB n).length) : ((n.toNat / 256 ^ i % 256 : Nat) : Int) :: (beB n).drop ((beB n).length - i) = (beB n).drop ((beB n).length - (i + 1)) := by
  have h1 : (beB n).length - (i + 1) < (beB n).length := by omega
  rw [List.drop_eq_getElem_cons h1]
  have h := beB_at h1
  rw [List.getElem?_eq_getElem h1, Option.some.injEq] at h
  rw [h, show (beB n).length - 1 - ((beB n).length - (i + 1)) = i by omega, show (beB n).length - (i + 1) + 1 = (beB n).length - i by omega]
set_option maxHeartbeats 1000000 in
theorem rnum_spec {n : Int} (hn : U64 n) : Spec Try.prog 22 [u64 n] emp fun r p => ∃ v, r = [.v v] ∧ Bs p v (numB n) := by
  have h8 := beB_len n
  have hn0 := hn.1
  have hn1 := hn.2
  refine en22 rfl (goY ?_)
  conv => whnf
  refine .mk (ι := Nat × Value) (fun i => (beB n).length - i.1) (fun ⟨i, v⟩ mm => i ≤ (beB n).length ∧ Bs mm v ((beB n).drop ((beB n).length - i)))
    (fun ⟨i, v⟩ => [(0, .c (u64 ((n.toNat / 256 ^ i : Nat) : Int))), (3, .c (.v v))]) (fun _ => []) (0, .slice none 0 0) ⟨by omega, by simpa using Bs.nil _⟩ ?_ ?_
  · conv => whnf
    repeat (refine And.intro (by first | with_reducible rfl | (exact congrArg (Value.int _) (by simp; omega)) | exact congrArg (Value.int _) (wi (by omega) (by omega)) | exact wi (by omega) (by omega) | rfl) ?_; conv => whnf)
    first | exact trivial | exact fun _ _ h => h
  rintro ⟨i, v⟩ mm ⟨hi, hv⟩
  conv => whnf
  refine ⟨fun h => ?_, fun h => ?_⟩
  · have h' := of_decide_eq_true h
    have hlt : i < (beB n).length := (beB_pos hn i).1 (by omega)
    conv => whnf
    refine .mk _ (build1) ?_
    rintro _ _ ⟨b', hb', rfl, rfl⟩
    conv => whnf
    refine .mk _ (appendB (Bs.blk (Mem.set_same ..) rfl) (hv.lb.sub (Mem.sub_set _ hb')).la (by simp; omega)) ?_
    rintro _ m2 ⟨v2, rfl, h2⟩
    conv => whnf
    have h3 := h2.own
    rw [rem256 _ (by omega), List.singleton_append, Int.toNat_natCast, beB_drop hn hlt] at h3
    refine ⟨(i + 1, v2), ⟨by omega, h3⟩, ?_, ?_⟩
    · show (beB n).length - (i + 1) < (beB n).length - i
      omega
    · conv => whnf
      repeat (refine And.intro (by first | with_reducible rfl | (exact congrArg (Value.int _) ((quo256 _ (Nat.lt_of_le_of_lt (Nat.div_le_self _ _) (by omega))).trans (by rw [Nat.pow_succ, Nat.div_div_eq_div_mul]))) | exact congrArg (Value.int _) (wi (by omega) (by omega)) | exact wi (by omega) (by omega) | rfl) ?_; conv => whnf)
      first | exact trivial | exact fun _ _ h => h
  · have h' := of_decide_eq_false h
    have hi' : i = (beB n).length := by
      have := (not_congr (beB_pos hn i)).1 (by omega)
      omega
    subst hi'
    rw [Nat.sub_self, List.drop_zero] at hv
    obtain ⟨a, c, rfl⟩ := hv.lb.shape
    conv => whnf
    refine .mk _ (build1) ?_
    rintro _ _ ⟨b', hb', rfl, rfl⟩
    conv => whnf
    refine .mk _ (appendB (Bs.blk (Mem.set_same ..) rfl) (hv.lb.sub (Mem.sub_set _ hb')).la (by simp; omega)) ?_
    rintro _ m2 ⟨v2, rfl, h2⟩
    conv => whnf
    have h3 := h2.own
    rw [wu8 (by omega) (by omega)] at h3
    exact ⟨v2, rfl, h3⟩
theorem rint_spec {n : Int} (hn : I64 n) : Spec Try.prog 23 [i64 n] emp fun r p => ∃ v, r = [.v v] ∧ Bs p v (numB (intU n)) := by
  have hn0 := hn.1
  have hn1 := hn.2
  refine en23 rfl (goY ?_)
  conv => whnf
  refine ⟨fun h => ?_, fun h => ?_⟩
  · have h' := of_decide_eq_true h
    conv => whnf
    have e : IntKind.u64.wrap (2 * IntKind.u64.wrap n) = intU n := by rw [wu h' (by omega), wu (by omega) (by omega), intU, if_pos h']
    rw [e]
    refine xcall (rnum_spec (intU_U hn)) ?_
    rintro _ m' ⟨v, rfl, h1⟩
    conv => whnf
    exact ⟨v, rfl, h1⟩
  · have h' := of_decide_eq_false h
    conv => whnf
    have e : IntKind.u64.wrap (IntKind.u64.wrap (2 * IntKind.u64.wrap (IntKind.i64.wrap (0 - IntKind.i64.wrap (n + 1)))) + 1) = intU n := by
      rw [wi (n := n + 1) (by omega) (by omega), wi (by omega) (by omega), wu (n := 0 - (n + 1)) (by omega) (by omega), wu (n := 2 * _) (by omega) (by omega), wu (by omega) (by omega), intU, if_neg h']
      omega
    rw [e]
    refine xcall (rnum_spec (intU_U hn)) ?_
    rintro _ m' ⟨v, rfl, h1⟩
    conv => whnf
    exact ⟨v, rfl, h1⟩
theorem rtext_spec {m : Mem} {v : Value} {b : List Int} (hv : La m v b) (hb : b.length ≤ 10000000) : Spec Try.prog 24 [.v v] m fun r m' => ∃ v' p, r = [.v v'] ∧ Split m' [p, m] ∧ Bs p v' (textB b) := by
  obtain ⟨a, c, rfl⟩ := hv.shape
  refine en24 rfl (goY ?_)
  conv => whnf
  rw [wu (by omega) (by omega)]
  refine xcall ((rnum_spec (numB_U (by omega))).new (Split.one m)) ?_
  rintro _ m1 ⟨p1, ⟨v1, rfl, hv1⟩, hs1⟩
  conv => whnf
  refine .mk _ (appendBat (i := 0) hs1 rfl hv1 (hv.sub (hs1.at (i := 1) rfl)) (by have := numB_len (b.length : Int); omega)) ?_
  rintro _ m2 ⟨v2, p2, rfl, hs2, h2⟩
  conv => whnf
  exact ⟨v2, p2, rfl, hs2, h2.own⟩
set_option maxHeartbeats 1000000 in
theorem rvec_spec {v : List Int} (hv : V8 v) : Spec Try.prog 25 [vecV v] emp fun r p => ∃ v', r = [.v v'] ∧ Bs p v' (vecB v) := by
  have hl := hv.1
  refine en25 rfl (goY ?_)
  conv => whnf
  refine .mk (ι := Nat × Value) (fun i => 8 - i.1) (fun ⟨i, x⟩ mm => i ≤ 8 ∧ Bs mm x (vecB (v.take i)))
    (fun ⟨i, x⟩ => [(1, .p 0 0), (3, .c (.v x)), (4, .c (i64 i))]) (fun _ => [(32, [.ints .u64 8 v])]) (0, .slice none 0 0) ⟨by omega, by simpa [vecB] using Bs.nil _⟩ ?_ ?_
  · conv => whnf
    repeat (refine And.intro (by first | with_reducible rfl | exact congrArg (Value.int _) (wi (by omega) (by omega)) | exact wi (by omega) (by omega) | rfl) ?_; conv => whnf)
    first | exact trivial | exact fun _ _ h => h
  rintro ⟨i, x⟩ mm ⟨hi, hx⟩
  conv => whnf
  refine ⟨fun h => ?_, fun h => ?_⟩
  · have h' := of_decide_eq_true h
    conv => whnf
    repeat (refine And.intro (by first | omega | (simp only [times]; omega)) ?_; conv => whnf)
    refine xcall ((rnum_spec (n := v.getD i 0) (hv.at i)).new (Split.one mm)) ?_
    rintro _ m1 ⟨p1, ⟨v1, rfl, hv1⟩, hs1⟩
    conv => whnf
    refine .mk _ (appendB (hx.sub (hs1.at (i := 1) rfl)) (hv1.lb.sub (hs1.at (i := 0) rfl)).la (by have := numB_len (v.getD i 0); have := vecB_len (v.take i); simp only [List.length_take] at *; omega)) ?_
    rintro _ m2 ⟨v2, rfl, h2⟩
    conv => whnf
    have h3 := h2.own
    rw [vecB_take (by omega)] at h3
    refine ⟨(i + 1, v2), ⟨by omega, h3⟩, ?_, ?_⟩
    · show 8 - (i + 1) < 8 - i
      omega
    · conv => whnf
      repeat (refine And.intro (by first | with_reducible rfl | (exact congrArg (Value.int _) (iadd (by omega))) | exact congrArg (Value.int _) (wi (by omega) (by omega)) | exact wi (by omega) (by omega) | rfl) ?_; conv => whnf)
      first | exact trivial | exact fun _ _ h => h
  · have h' := of_decide_eq_false h
    obtain rfl : i = 8 := by omega
    conv => whnf
    rw [List.take_of_length_le (by omega)] at hx
    exact ⟨x, rfl, hx⟩
end Go.E.Ythgjhcekcmgenaa
