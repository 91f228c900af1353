/-
  Contracts of sha: the digest of lists of bytes.
-/
import Derived.Test.YtmfjdgdiccfecaaSha4
namespace Go.E.Ytmfjdgdiccfecaa
open Go.Proofs
set_option maxRecDepth 100000
abbrev ptrV (b : Nat) : CV := .v (.pointer (some ⟨b, 0, none⟩))
theorem chunk_spec {m : Mem} {v : Value} (hv : v.oneCell' = true) : Spec Try.prog 27 [.v v, .v (.int .i64 64)] m fun r m' => ∃ b1 b2, m b1 = none ∧ (m.set b1 (.cells #[v] 33)) b2 = none ∧
    r = [.v (.func (.func 31) #[] #[.pointer (some ⟨b1, 0, none⟩), .pointer (some ⟨b2, 0, none⟩)])] ∧ m' = (m.set b1 (.cells #[v] 33)).set b2 (.cells #[.int .i64 64] 3) := by
  refine en27 rfl (goY ?_)
  conv => whnf
  intro b1 hb1
  conv => whnf
  intro b2 hb2
  conv => whnf
  refine ⟨_, mcell_of (Mem.set_same ..) rfl, rfl, ?_⟩
  conv => whnf
  refine ⟨fun h => absurd h (by decide), fun _ => ?_⟩
  conv => whnf
  refine .mk _ (makeFunc_spec (cs := [.pointer (some ⟨b1, 0, none⟩), .pointer (some ⟨b2, 0, none⟩)]) (by simp [Value.oneCell'])) ?_
  rintro _ _ ⟨rfl, rfl⟩
  conv => whnf
  exact ⟨b1, b2, hb1, hb2, rfl, rfl⟩
/-- the k-th piece -/
abbrev piece (b o k : Nat) : CV := .v (.slice (some ⟨b, o + 64 * k, none⟩) 64 64)
set_option maxHeartbeats 2000000 in
theorem chunkIter_spec {I : Nat → Mem → Prop} {l b1 b2 b o n c : Nat} (hn : n ≤ 1000000000) (hc : 64 * n ≤ c)
    (hI : ∀ k m, I k m → m b1 = some (.cells #[.slice (some ⟨b, o, none⟩) (64 * n) c] 33) ∧ m b2 = some (.cells #[.int .i64 64] 3))
    (hy : ∀ k m, k < n → I k m → YSpec Try.prog l [piece b o k] m fun r m' => r = [.v (.bool true)] ∧ I (k + 1) m') {m : Mem} (h0 : I 0 m) :
    Spec Try.prog 31 [.v (.func (.yield l) #[] #[]), ptrV b1, ptrV b2] m fun r m' => r = [] ∧ I n m' := by
  refine en31 rfl (goY ?_)
  conv => whnf
  refine .mk (ι := Nat) (fun k => n - k) (fun k mm => k ≤ n ∧ I k mm) (fun k => [(0, .c (.v (.func (.yield l) #[] #[]))), (1, .c (ptrV b1)), (2, .c (ptrV b2)), (4, .c (i64 ((64 * k : Nat) : Int)))]) (fun _ => []) 0 ⟨by omega, h0⟩ ?_ ?_
  · conv => whnf
    repeat (refine And.intro (by first | with_reducible rfl | exact congrArg (Value.int _) (wi (by omega) (by omega)) | exact wi (by omega) (by omega) | rfl) ?_; conv => whnf)
    first | exact trivial | exact fun _ _ h => h
  rintro k mm ⟨hk, hi⟩
  obtain ⟨g1, g2⟩ := hI k mm hi
  conv => whnf
  refine ⟨.slice (some ⟨b, o, none⟩) (64 * n) c, mcell_of g1 rfl, rfl, ?_⟩
  conv => whnf
  refine ⟨fun h1 => ?_, fun h1 => ?_⟩
  · have h1' := of_decide_eq_true h1
    have hlt : k < n := by omega
    conv => whnf
    refine ⟨.int .i64 64, mcell_of g2 rfl, rfl, ?_⟩
    conv => whnf
    refine ⟨.slice (some ⟨b, o, none⟩) (64 * n) c, mcell_of g1 rfl, rfl, ?_⟩
    have e : min (64:Int) (((64 * n - (((64 * k : Nat) : Int)).toNat : Nat) : Int)) = 64 := by omega
    conv => whnf
    repeat (refine And.intro (by first | omega | (simp only [times]; omega)) ?_; conv => whnf)
    intro o1 ho1 ho2
    have ho1 : o1 = o + 64 * k := by
      by_cases hck : c = 64 * k
      · omega
      · have := ho1 hck
        have h2 : (({ k := TK.int Go.IntKind.u8, size := 1, bytes := 1, zero := [Seg.one (Value.int Go.IntKind.u8 0)], eq := false } : TI)).size = 1 := rfl
        rw [this, h2]
        omega
    subst o1
    conv => whnf
    refine ⟨.slice (some ⟨b, o, none⟩) (64 * n) c, mcell_of g1 rfl, rfl, ?_⟩
    conv => whnf
    rw [e]
    have w1 : Go.IntKind.wrap .i64 (((64 * k : Nat) : Int) + 64) = ((64 * k + 64 : Nat) : Int) := wi (by omega) (by omega)
    rw [w1]
    conv => whnf
    repeat (refine And.intro (by first | omega | (simp only [times]; omega)) ?_; conv => whnf)
    intro o2 ho3 _
    have h2 : (({ k := TK.int Go.IntKind.u8, size := 1, bytes := 1, zero := [Seg.one (Value.int Go.IntKind.u8 0)], eq := false } : TI)).size = 1 := rfl
    obtain rfl : o2 = o + 64 * k := by
      rw [ho3 (by omega), h2]
      omega
    have w2 : (((64 * k + 64 : Nat) : Int)).toNat - (((64 * k : Nat) : Int)).toNat = 64 := by omega
    conv => whnf
    rw [w2]
    refine .mk _ (hy k mm hlt hi) ?_
    rintro _ m' ⟨rfl, hi'⟩
    conv => whnf
    refine ⟨fun h => absurd h (by decide), fun _ => ?_⟩
    conv => whnf
    refine ⟨.int .i64 64, mcell_of (hI _ _ hi').2 rfl, rfl, ?_⟩
    conv => whnf
    refine ⟨k + 1, ?_⟩
    refine ⟨⟨by omega, hi'⟩, by omega, ?_⟩
    rw [w1]
    repeat (refine And.intro (by first | with_reducible rfl | exact congrArg (Value.int _) (wi (by omega) (by omega)) | exact wi (by omega) (by omega) | rfl) ?_; conv => whnf)
    first | exact trivial | exact fun _ _ h => h
    all_goals exact congrArg (Value.int _) (by omega)
  · have h1' := of_decide_eq_false h1
    obtain rfl : k = n := by omega
    conv => whnf
    exact ⟨rfl, hi⟩
end Go.E.Ytmfjdgdiccfecaa
