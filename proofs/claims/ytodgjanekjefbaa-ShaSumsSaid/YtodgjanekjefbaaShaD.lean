/-
  Law ShaSums.
-/
import Derived.Test.YtodgjanekjefbaaShaC
import Derived.Test.YtodgjanekjefbaaSha11
namespace Go.E.Ytodgjanekjefbaa
open Go.Proofs
set_option maxRecDepth 100000
theorem bs_nc {l : List Nat} (p : Mem) (v : Value) (h : Bs p v (nc l)) : La p v (nc l) := h.lb.la
set_option maxHeartbeats 4000000 in
theorem shaSums_spec {m : Mem} {v w : Value} {l k : List Nat} (hv : La m v (nc l)) (hw : La m w (nc k)) (hl : ∀ x ∈ l, x < 256) (hk : ∀ x ∈ k, x < 256) : Spec Try.prog 3 [.v v, .v w] m fun r m' => r = [boolV true] ∧ Sub m m' := by
  obtain ⟨a, c, rfl⟩ := hv.shape
  obtain ⟨aw, cw, rfl⟩ := hw.shape
  have e1 : (nc l).length = l.length := by simp
  have e2 : (nc k).length = k.length := by simp
  rw [e1] at hv ⊢
  rw [e2] at hw ⊢
  refine en3 rfl (goY ?_)
  conv => whnf
  refine ⟨fun h => ?_, fun h => ?_⟩
  · conv => whnf
    refine xcall (alive_in) ?_
    rintro _ m1 ⟨rfl, hs⟩
    conv => whnf
    exact ⟨rfl, hs⟩
  have h' := of_decide_eq_false h
  conv => whnf
  refine ⟨fun h2 => ?_, fun h2 => ?_⟩
  · conv => whnf
    refine xcall (alive_in) ?_
    rintro _ m1 ⟨rfl, hs⟩
    conv => whnf
    exact ⟨rfl, hs⟩
  have h2' := of_decide_eq_false h2
  conv => whnf
  refine .mk _ (buildB0) ?_
  rintro _ _ ⟨b0, hb0, rfl, rfl⟩
  conv => whnf
  have hs0 := (Split.one m).new hb0 (.cells #[] 5)
  refine .mk _ (appendBat (i := 0) hs0 rfl (Bs.none0 (blk1_same ..)) (hv.sub (Mem.sub_set _ hb0)) (by simp; omega)) ?_
  rintro _ m1 ⟨v1, p1, rfl, hs1, hv1⟩
  conv => whnf
  refine .mk _ (appendBat (i := 0) hs1 rfl hv1.own (hw.sub (hs1.sub (by simp))) (by simp; omega)) ?_
  rintro _ m2 ⟨v2, p2, rfl, hs2, hv2⟩
  conv => whnf
  have hm2 : Sub m m2 := hs2.sub (by simp)
  have hp2 : Sub p2 m2 := hs2.sub (by simp)
  have hv2 := hv2.own
  rw [List.nil_append, ← nc_append] at hv2
  have hlk : ∀ x ∈ l ++ k, x < 256 := fun x hx => (List.mem_append.1 hx).elim (hl x) (hk x)
  refine xcall (alive_in) ?_
  rintro _ m3 ⟨rfl, hs3⟩
  conv => whnf
  refine ⟨fun _ => ?_, fun h => absurd h (by decide)⟩
  conv => whnf
  have hm3 := hm2.trans hs3
  refine .mk _ (buildL1) ?_
  rintro _ _ ⟨b1, hb1, rfl, rfl⟩
  conv => whnf
  have hm4 := hm3.trans (Mem.sub_set (.cells #[.slice a l.length c] 22) hb1)
  refine xcall (sum_spec (l := l) (Lists.one (Mem.set_same ..) (hv.sub hm4)) catB1 (by omega) (by simp) hl) ?_
  rintro _ m5 ⟨rfl, hs5⟩
  conv => whnf
  have hm5 := hm4.trans hs5
  refine xcall (rsum_spec (hv.sub hm5) (by omega) hl) ?_
  rintro _ m6 ⟨rfl, hs6⟩
  conv => whnf
  have hm6 := hm5.trans hs6
  refine ⟨fun _ => ?_, fun h => absurd h (by simp [eqLB_dg])⟩
  conv => whnf
  refine .mk _ (buildL2) ?_
  rintro _ _ ⟨b7, hb7, rfl, rfl⟩
  conv => whnf
  have hm7 := hm6.trans (Mem.sub_set (.cells #[.slice a l.length c, .slice aw k.length cw] 22) hb7)
  refine xcall (sum_spec (l := l ++ k) (Lists.two (Mem.set_same ..) (hv.sub hm7) (hw.sub hm7)) catB2 (by simp; omega) (by simp) hlk) ?_
  rintro _ m8 ⟨rfl, hs8⟩
  conv => whnf
  have hm8 := hm7.trans hs8
  have hv8 : Bs m8 v2 (nc (l ++ k)) := hv2.sub (hp2.trans (hs3.trans ((Mem.sub_set (.cells #[.slice a l.length c] 22) hb1).trans (hs5.trans (hs6.trans ((Mem.sub_set (.cells #[.slice a l.length c, .slice aw k.length cw] 22) hb7).trans hs8))))))
  refine xcall (rsum_spec hv8.lb.la (by simp; omega) hlk) ?_
  rintro _ m9 ⟨rfl, hs9⟩
  conv => whnf
  have hm9 := hm8.trans hs9
  refine ⟨fun _ => ?_, fun h => absurd h (by simp [eqLB_dg])⟩
  conv => whnf
  refine xcall (point_spec (hv.sub hm9) (by omega) hl) ?_
  rintro _ m10 ⟨rfl, hs10⟩
  conv => whnf
  have hm10 := hm9.trans hs10
  refine xcall (rpoint_spec (hv.sub hm10) (by omega) hl) ?_
  rintro _ m11 ⟨rfl, hs11⟩
  conv => whnf
  exact ⟨by simp, hm10.trans hs11⟩
end Go.E.Ytodgjanekjefbaa
