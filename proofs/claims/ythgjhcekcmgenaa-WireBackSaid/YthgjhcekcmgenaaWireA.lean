/-
  What must come of fixed calls (chapter 02).
-/
import Derived.Test.YthgjhcekcmgenaaWireS
import Derived.Test.YthgjhcekcmgenaaWireD
namespace Go.E.Ythgjhcekcmgenaa
open Go.Proofs
set_option maxRecDepth 100000

theorem Wr.mono {m m' : Mem} {bp : Nat} {l : List Int} (h : Wr m bp l) (hs : Sub m m') : Wr m' bp l := by
  obtain ⟨v, h1, h2, h3⟩ := h
  exact ⟨v, hs _ _ h1, h2.sub hs, h3⟩
theorem Wr.new {b : Nat} : Wr (emp.set b (.cells #[.slice none 0 0] 26)) b [] := ⟨_, Mem.set_same .., Bs.nil _, by simp [blkV]⟩
theorem build3 {m : Mem} {x y z : Int} : PrimSpec Try.prog (.buildSlice 24 3 [0, 1, 2]) [.v (.int .u8 x), .v (.int .u8 y), .v (.int .u8 z)] m fun r m' => ∃ b, m b = none ∧ r = [.v (.slice (some ⟨b, 0, none⟩) 3 3)] ∧ m' = m.set b (.cells (bc [x, y, z]).toArray 5) :=
  buildSlice_spec (n := 3) tt_ok hBs rfl hU8 rfl rfl (by simp [CV.cs]) (by simp) (by simp)
set_option maxHeartbeats 4000000 in
theorem alive_spec : Spec Try.prog 6 [] emp fun r _ => r = [boolV true] := by
  refine en6 rfl (goY ?_)
  conv => whnf
  intro b hb
  conv => whnf
  refine xcall (wnum_spec (n := 300) Wr.new (by exact ⟨by decide, by decide⟩) (by simp)) ?_
  rintro _ m1 ⟨rfl, hw1⟩
  conv => whnf
  refine xcall (wint_spec (n := -1) hw1 (by exact ⟨by decide, by decide⟩) (by decide)) ?_
  rintro _ m2 ⟨rfl, hw2⟩
  conv => whnf
  refine .mk _ (build1) ?_
  rintro _ _ ⟨b3, hb3, rfl, rfl⟩
  conv => whnf
  have hs3 := (Split.one m2).new hb3 (.cells (bc [97]).toArray 5)
  refine .mk _ (convConst_spec tt_ok hBs rfl hU8 rfl (Mem.set_same ..)) ?_
  rintro _ _ ⟨rfl, rfl⟩
  conv => whnf
  have hs4 := hs3.setAt (i := 0) rfl (blk1_same ..) (.cells (bc [97]).toArray 5 (1, 2))
  refine xcall (wtext_spec (i := 1) (j := 0) (b := [97]) hs4 rfl rfl (by decide) hw2 (Lb.blkf (Mem.set_same ..) rfl).la (by decide) (by decide)) ?_
  rintro _ m5 ⟨rfl, p5, hs5, hw5⟩
  conv => whnf
  have e5 : ([] ++ numB 300 ++ numB (intU (-1)) ++ textB [97]) = [2, 1, 44, 1, 1, 1, 1, 97] := by decide
  rw [e5] at hw5
  refine xcall (wbytes_spec (hw5.mono (hs5.at (i := 1) rfl)) (by decide)) ?_
  rintro _ m6 ⟨v6, p6, rfl, hs6, hv6⟩
  conv => whnf
  refine xcall (from_spec (hv6.lb.sub (hs6.at (i := 0) rfl)).la (by unfold Byt; decide) (by decide)) ?_
  rintro _ m7 ⟨bp7, p7, rfl, hs7, h7⟩
  conv => whnf
  have hs7 := hs7.under (a := [p7]) hs6
  refine xcall ((num_spec h7).at (i := 0) hs7 rfl) ?_
  rintro _ m8 ⟨p8, ⟨rfl, h8, o8⟩, hs8⟩
  have e8 : rNum ([2, 1, 44, 1, 1, 1, 1, 97], 0) = (300, [1, 1, 1, 1, 97], 0) := by decide
  rw [e8] at h8 ⊢
  conv => whnf
  refine xcall ((int_spec h8).at (i := 0) hs8 rfl) ?_
  rintro _ m9 ⟨p9, ⟨rfl, h9, o9⟩, hs9⟩
  have e9 : rInt ([1, 1, 1, 1, 97], 0) = (-1, [1, 1, 97].drop 0, 0) := by decide
  rw [e9] at h9 ⊢
  conv => whnf
  refine xcall ((text_spec (most := 5) h9 ⟨by decide, by decide⟩).at (i := 0) hs9 rfl) ?_
  rintro _ m10 ⟨p10, ⟨v10, q10, r10, rfl, hs10', hv10, h10⟩, hs10⟩
  have e10 : rText 5 ([1, 1, 97].drop 0, 0) = ([97], [], 0) := by decide
  rw [e10] at h10 hv10
  have hs10 := hs10.flat (i := 0) rfl hs10'
  obtain ⟨b10, o10, c10, rfl⟩ := hv10.lb.real (by simp)
  conv => whnf
  refine ⟨[97], rfl, (hv10.lb.sub (hs10.at (i := 0) rfl)).range, ?_⟩
  conv => whnf
  refine .mk _ (build3) ?_
  rintro _ _ ⟨b11, hb11, rfl, rfl⟩
  conv => whnf
  have hs11 := hs10.new hb11 (.cells (bc [2, 0, 5]).toArray 5)
  refine xcall (from_spec (l := [2, 0, 5]) (Lb.blkf (Mem.set_same ..) rfl).la (by unfold Byt; decide) (by decide)) ?_
  rintro _ m12 ⟨bp12, p12, rfl, hs12, h12⟩
  conv => whnf
  have hs12 := hs12.under (a := [p12]) hs11
  refine xcall ((num_spec h12).at (i := 0) hs12 rfl) ?_
  rintro _ m13 ⟨p13, ⟨rfl, h13, o13⟩, hs13⟩
  conv => whnf
  have e13 : (rNum ([2, 0, 5], 0)).2 = ([], 3) := by decide
  rw [e13] at h13
  obtain ⟨b6, o6, c6, rfl⟩ := hv6.lb.real (by simp)
  conv => whnf
  refine ⟨[2, 1, 44, 1, 1, 1, 1, 97], rfl, (hv6.lb.sub (hs13.at (i := 4) rfl)).range, ?_⟩
  conv => whnf
  refine ⟨fun _ => ?_, fun h => absurd h (by rw [strOf_list, ByteArray.toList_eq]; decide)⟩
  conv => whnf
  refine ⟨fun _ => ?_, fun h => absurd h (by decide)⟩
  conv => whnf
  refine ⟨fun _ => ?_, fun h => absurd h (by decide)⟩
  conv => whnf
  refine ⟨fun _ => ?_, fun h => absurd h (by rw [strOf_list, ByteArray.toList_eq]; decide)⟩
  conv => whnf
  first | refine xretk (end_spec (h10.mono (hs13.at (i := 3) rfl))) ?_ | refine xret (end_spec (h10.mono (hs13.at (i := 3) rfl))) ?_
  conv => whnf
  refine ⟨fun _ => ?_, fun h => absurd h (by decide)⟩
  conv => whnf
  first | refine xretk (end_spec (h13.mono (hs13.at (i := 0) rfl))) ?_ | refine xret (end_spec (h13.mono (hs13.at (i := 0) rfl))) ?_
  conv => whnf
  refine ⟨fun _ => ?_, fun h => absurd h (by decide)⟩
  conv => whnf
  refine .mk _ (build1) ?_
  rintro _ _ ⟨b14, hb14, rfl, rfl⟩
  conv => whnf
  have hs14 := hs13.new hb14 (.cells (bc [9]).toArray 5)
  refine xcall (from_spec (l := [9]) (Lb.blkf (Mem.set_same ..) rfl).la (by unfold Byt; decide) (by decide)) ?_
  rintro _ m15 ⟨bp15, p15, rfl, hs15, h15⟩
  conv => whnf
  first | refine xretk (end_spec (h15.mono (hs15.at (i := 0) rfl))) ?_ | refine xret (end_spec (h15.mono (hs15.at (i := 0) rfl))) ?_
  conv => whnf
  rfl
theorem alive_in {m : Mem} : Spec Try.prog 6 [] m fun r m' => r = [boolV true] ∧ ∃ p, Split m' [p, m] :=
  (alive_spec.new (Split.one m)).mono fun _ _ ⟨p, h1, h2⟩ => ⟨h1, p, h2⟩
end Go.E.Ythgjhcekcmgenaa
