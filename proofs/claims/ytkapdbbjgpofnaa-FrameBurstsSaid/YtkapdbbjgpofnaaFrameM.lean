/-
  Law FrameBursts.
-/
import Derived.Test.YtkapdbbjgpofnaaFrameL
import Derived.Test.YtkapdbbjgpofnaaByDat
namespace Go.E.Ytkapdbbjgpofnaa
open Go.Proofs
set_option maxRecDepth 100000
set_option maxHeartbeats 1000000 in
theorem frameBursts_spec {m : Mem} {v : Value} {l : List Int} {n : Int} {d : Nat} (hv : La m v l) (hb : Byt l) (hn : -9223372036854775808 ≤ n ∧ n ≤ 9223372036854775807) (hd : d < 2 ^ 32) : Spec Try.prog 4 [.v v, i64 n, u32' d] m fun r m' => r = [boolV true] ∧ Sub m m' := by
  obtain ⟨a, c, rfl⟩ := hv.shape
  have off : ∀ (K : Prop), K → K := fun _ h => h
  refine en4 rfl (goY ?_)
  conv => whnf
  refine ⟨fun h => ?_, fun h => ?_⟩
  · conv => whnf
    refine xcall (alive15_spec) ?_
    rintro _ m1 ⟨rfl, hs⟩
    conv => whnf
    exact ⟨rfl, hs⟩
  have h1 := of_decide_eq_false h
  have e8 : IntKind.i64.wrap (IntKind.i64.wrap (8 * (l.length : Int)) - 32) = 8 * (l.length : Int) - 32 := by rw [wi (n := 8 * (l.length : Int)) (by omega) (by omega), wi (by omega) (by omega)]
  clear h
  conv => whnf
  refine ⟨fun h => ?_, fun h => ?_⟩
  · conv => whnf
    refine xcall (alive15_spec) ?_
    rintro _ m1 ⟨rfl, hs⟩
    conv => whnf
    exact ⟨rfl, hs⟩
  have h2 : d ≠ 0 := by rintro rfl; simp at h
  clear h
  conv => whnf
  refine ⟨fun h => ?_, fun h => ?_⟩
  · conv => whnf
    refine xcall (alive15_spec) ?_
    rintro _ m1 ⟨rfl, hs⟩
    conv => whnf
    exact ⟨rfl, hs⟩
  have h3 := of_decide_eq_false h
  clear h
  conv => whnf
  rw [e8]
  refine ⟨fun h => ?_, fun h => ?_⟩
  · conv => whnf
    refine xcall (alive15_spec) ?_
    rintro _ m1 ⟨rfl, hs⟩
    conv => whnf
    exact ⟨rfl, hs⟩
  have h4 := of_decide_eq_false h
  clear h off
  obtain ⟨n, rfl⟩ : ∃ k : Nat, n = k := ⟨n.toNat, by omega⟩
  have hlen : n + 32 ≤ 8 * l.length := by omega
  conv => whnf
  refine .mk _ (buildB0) ?_
  rintro _ _ ⟨b0, hb0, rfl, rfl⟩
  conv => whnf
  have hs0 := (Split.one m).new hb0 (.cells #[] 5)
  refine .mk _ (appendBat (i := 0) hs0 rfl (Bs.none0 (blk1_same ..)) (hv.sub (hs0.sub (by simp))) (by simp; omega)) ?_
  rintro _ m1 ⟨v1, p1, rfl, hs1, hv1⟩
  conv => whnf
  have hv1 := hv1.own
  rw [List.nil_append] at hv1
  have hs1 : Split m1 [p1, m] := hs1
  have hne : l ≠ [] := by rintro rfl; simp at hlen
  obtain ⟨b1, o1, c1, rfl⟩ := hv1.lb.real hne
  refine .mk (ι := Nat) (fun i => 32 - i) (fun i mm => i ≤ 32 ∧ ∃ p k, Split mm [p, m] ∧ Bs p (.slice (some ⟨b1, o1, none⟩) l.length c1) k ∧ k.length = l.length ∧ Byt k ∧ Fr.big k = Fr.big l ^^^ (Fr.bits d i * 2 ^ n)) (fun i => [(0, .c (.v (.slice a l.length c))), (1, .c (i64 n)), (2, .c (u32' d)), (7, .c (.v (.slice (some ⟨b1, o1, none⟩) l.length c1))), (8, .c (i64 i))]) (fun _ => []) 0 ⟨by omega, p1, l, hs1, hv1, rfl, hb, by simp [Fr.bits]⟩ ?_ ?_
  · conv => whnf
    repeat (refine And.intro (by first | with_reducible rfl | exact congrArg (Value.int _) (wi (by omega) (by omega)) | exact wi (by omega) (by omega) | rfl) ?_; conv => whnf)
    first | exact trivial | exact fun _ _ h => h
  rintro i mm ⟨hi, p, k, hs, hk, hkl, hkb, hbig⟩
  conv => whnf
  refine ⟨fun h5 => ?_, fun h5 => ?_⟩
  · have h5' := of_decide_eq_true h5
    have hlt : i < 32 := by omega
    have es := shr_nat (k := .u32) (x := d) (n := i) (by show i ≤ 32; omega)
    have hd2 : d / 2 ^ i < 2 ^ 32 := Nat.lt_of_le_of_lt (Nat.div_le_self ..) hd
    have ea := and_u32 (a := d / 2 ^ i) (b := 1) hd2 (by decide)
    rw [Nat.and_one_is_mod] at ea
    conv => whnf
    repeat (refine And.intro (by first | omega | (simp only [times]; omega)) ?_; conv => whnf)
    rw [es, show (1 : Int) = ((1 : Nat) : Int) from rfl, ea]
    refine ⟨fun h6 => ?_, fun h6 => ?_⟩
    · have h6' : d / 2 ^ i % 2 = 1 := by have := eq_of_beq h6; omega
      have ew : IntKind.i64.wrap ((n : Int) + (i : Int)) = ((n + i : Nat) : Int) := by rw [wi (by omega) (by omega)]; omega
      have ed : IntKind.i64.wrap (Int.tdiv ((n + i : Nat) : Int) 8) = (((n + i) / 8 : Nat) : Int) := by rw [show (8 : Int) = ((8 : Nat) : Int) from rfl, tdiv_nat, wi (by omega) (by omega)]
      have em : Int.tmod ((n + i : Nat) : Int) 8 = (((n + i) % 8 : Nat) : Int) := tmod_nat _ 8
      have hq : (n + i) / 8 < l.length := by omega
      have hqk : (n + i) / 8 < k.length := by omega
      have hkx := hkb k[(n + i) / 8] (List.getElem_mem hqk)
      have hgd : k.getD ((n + i) / 8) 0 = k[(n + i) / 8] := by rw [List.getD_eq_getElem?_getD, List.getElem?_eq_getElem hqk]; rfl
      have hbs := Fr.big_set (x := 2 ^ ((n + i) % 8)) hqk
      have hpw : 2 ^ ((n + i) % 8) < 256 := Nat.lt_of_lt_of_le (Nat.pow_lt_pow_right (by decide) (Nat.mod_lt _ (by decide))) (by decide : 2 ^ 8 ≤ 256)
      have esh : shlOf .u8 ((1 : Nat) : Int) (((n + i) % 8 : Nat) : Int) = ((2 ^ ((n + i) % 8) : Nat) : Int) := by
        show IntKind.u8.wrap ((1 : Int) * 2 ^ (min (((n + i) % 8 : Nat) : Int).toNat 8)) = _
        rw [Int.toNat_natCast, Nat.min_eq_left (by omega), Int.one_mul]
        have : ((2 : Int) ^ ((n + i) % 8)) = ((2 ^ ((n + i) % 8) : Nat) : Int) := by simp
        rw [this]
        generalize 2 ^ ((n + i) % 8) = y at hpw ⊢
        rw [wu8 (by omega) (by omega)]
      have hlb : Lb mm (.slice (some ⟨b1, o1, none⟩) l.length c1) k := hk.lb.sub (hs.sub (by simp))
      conv => whnf
      rw [ew, ed]
      repeat (refine And.intro (by first | omega | (simp only [times]; omega)) ?_; conv => whnf)
      refine ⟨_, by have := Lb.at' hlb (List.getElem?_eq_getElem hqk); simp only [times, Int.toNat_natCast, Nat.mul_one]; exact this, rfl, ?_⟩
      rw [hgd] at hbs
      generalize k[(n + i) / 8] = x at hkx hbs ⊢
      conv => whnf
      rw [ew, em]
      repeat (refine And.intro (by first | omega | (simp only [times]; omega)) ?_; conv => whnf)
      simp only [times, Int.toNat_natCast, Nat.mul_one]
      rw [esh]
      have exx : bitsOf .xor .u8 x ((2 ^ ((n + i) % 8) : Nat) : Int) = ((x.toNat ^^^ 2 ^ ((n + i) % 8) : Nat) : Int) := by
        obtain ⟨z, rfl⟩ : ∃ z : Nat, x = z := ⟨x.toNat, by omega⟩
        exact xor_u8 (by omega) hpw
      rw [exx]
      obtain ⟨arr, ha1, ha2, hk'⟩ := Bs.store (k := (n + i) / 8) (x := ((x.toNat ^^^ 2 ^ ((n + i) % 8) : Nat) : Int)) hk hqk
      refine ⟨_, _, _, hs.sub (a := p) (by simp) _ _ ha1, ⟨ha2, by simp⟩, ?_⟩
      have hs' := hs.setAt (i := 0) rfl ha1 (.cells (arr.setIfInBounds (o1 + (n + i) / 8) (.int .u8 ((x.toNat ^^^ 2 ^ ((n + i) % 8) : Nat) : Int))) 5 (0, 0))
      have hxl : x.toNat ^^^ 2 ^ ((n + i) % 8) < 256 := Nat.xor_lt_two_pow (n := 8) (by omega) hpw
      conv => whnf
      refine ⟨i + 1, ⟨by omega, _, _, hs', hk', by simpa using hkl, ?_, ?_⟩, by omega, ?_⟩
      · intro y hy
        rcases List.mem_or_eq_of_mem_set hy with hy | rfl
        · exact hkb y hy
        · omega
      · rw [hbs, hbig, Fr.bits_xor h6', Nat.xor_assoc]
      · conv => whnf
        repeat (refine And.intro (by first | with_reducible rfl | (first | exact congrArg (Value.int _) (iadd (by omega))) | exact congrArg (Value.int _) (wi (by omega) (by omega)) | exact wi (by omega) (by omega) | rfl) ?_; conv => whnf)
        first | exact trivial | exact fun _ _ h => h
    · have h6' : ¬ d / 2 ^ i % 2 = 1 := fun e => by rw [e] at h6; simp at h6
      conv => whnf
      refine ⟨i + 1, ⟨by omega, p, k, hs, hk, hkl, hkb, by rw [Fr.bits_same h6']; exact hbig⟩, by omega, ?_⟩
      conv => whnf
      repeat (refine And.intro (by first | with_reducible rfl | (first | exact congrArg (Value.int _) (iadd (by omega))) | exact congrArg (Value.int _) (wi (by omega) (by omega)) | exact wi (by omega) (by omega) | rfl) ?_; conv => whnf)
      first | exact trivial | exact fun _ _ h => h
  · have h5' := of_decide_eq_false h5
    obtain rfl : i = 32 := by omega
    rw [Fr.bits_all hd] at hbig
    conv => whnf
    refine xcall (alive15_spec) ?_
    rintro _ m2 ⟨rfl, hs2⟩
    conv => whnf
    refine ⟨fun _ => ?_, fun h => absurd h (by decide)⟩
    conv => whnf
    have hsub : Sub m m2 := (hs.sub (by simp)).trans hs2
    first | refine xretk (fsum_spec (hv.sub hsub) hb (by omega)) ?_ | refine xret (fsum_spec (hv.sub hsub) hb (by omega)) ?_
    conv => whnf
    rw [← hkl] at hk ⊢
    first | refine xretk (fsum_spec (hk.lb.la.sub ((hs.sub (a := p) (by simp)).trans hs2)) hkb (by omega)) ?_ | refine xret (fsum_spec (hk.lb.la.sub ((hs.sub (a := p) (by simp)).trans hs2)) hkb (by omega)) ?_
    conv => whnf
    refine ⟨?_, hsub⟩
    have := Fr.burst (b := l) (c := k) (d := d) (n := n) hkl.symm hbig hd h2 (by omega)
    simp; omega
end Go.E.Ytkapdbbjgpofnaa
