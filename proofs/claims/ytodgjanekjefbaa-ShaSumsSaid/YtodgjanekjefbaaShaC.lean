/-
  Law ShaCuts.
-/
import Derived.Test.YtodgjanekjefbaaShaB
import Derived.Test.YtodgjanekjefbaaE24
namespace Go.E.Ytodgjanekjefbaa
open Go.Proofs
set_option maxRecDepth 100000
theorem eqLB_dg (l : List Int) : eqLB [.ints .u8 32 l] [.ints .u8 32 l] = true := by simp [eqLB]
theorem Lb.pre {m : Mem} {b o n c h c' : Nat} {l : List Int} (hl : Lb m (.slice (some ⟨b, o, none⟩) n c) l) (hh : h ≤ l.length) (hc : h ≤ c') : Lb m (.slice (some ⟨b, o, none⟩) h c') (l.take h) := by
  rcases hl.cases with ⟨c, h1, h2⟩ | ⟨b', o', c', arr, t, fr, h1, h2, h3, h4⟩
  · cases h1
  · cases h1
    refine Lb.mk h2 (by simp; omega) hc (fun j x hj => ?_)
    rw [List.getElem?_take] at hj
    split at hj
    · exact h4 _ _ hj
    · cases hj
theorem Lb.post {m : Mem} {b o o' n c h : Nat} {l : List Int} (hl : Lb m (.slice (some ⟨b, o, none⟩) n c) l) (hh : h ≤ l.length) (ho : c ≠ h → o' = o + h) : Lb m (.slice (some ⟨b, o', none⟩) (l.length - h) (c - h)) (l.drop h) := by
  rcases hl.cases with ⟨c, h1, h2⟩ | ⟨b', o'', c', arr, t, fr, h1, h2, h3, h4⟩
  · cases h1
  · cases h1
    refine Lb.mk h2 (by simp) (by omega) (fun j x hj => ?_)
    rw [List.getElem?_drop] at hj
    by_cases e : c = h
    · rw [List.getElem?_eq_none (by omega)] at hj; cases hj
    · rw [ho e, Nat.add_assoc]; exact h4 _ _ hj
/-- one piece more -/
theorem pushL {m : Mem} {ls : List Mem} {p : Mem} {b' : Nat} {x y : Value} {vs : List Value} (hs : Split m (p :: ls)) (hb : m b' = none) (hx : x.oneCell' = true) (hy : Own p 22 1 y vs) (hl : vs.length ≤ 1000) :
    PrimSpec Try.prog (.builtin .append [33, 33]) [.v y, .v (.slice (some ⟨b', 0, none⟩) 1 1)] (m.set b' (.cells #[x] 22)) fun r m' => ∃ y' p', r = [.v y'] ∧ Split m' (p' :: ls) ∧ Own p' 22 1 y' (vs ++ [x]) := by
  have hs1 := hs.new hb (.cells #[x] 22)
  have e1 := hy.lies.len
  have e2 : lenV (.slice (some ⟨b', 0, none⟩) 1 1) = 1 := rfl
  have g : Gives (m.set b' (.cells #[x] 22)) 1 (.slice 22) (.slice (some ⟨b', 0, none⟩) 1 1) [x] :=
    .inl ⟨_, rfl, .inl (.inr ⟨b', 0, 1, 1, _, _, _, rfl, Mem.set_same .., rfl, Nat.le_refl _, fun j u hu => by simpa using hu, by simpa using hx⟩)⟩
  refine (append_at tt_ok hLs rfl hBs hLs rfl hs1 (i := 1) rfl hy g (by rw [e2]; simp only; omega) (by rw [e2]; omega)).mono fun r m' ⟨v', p', h1, h2, h3⟩ => ⟨v', p', h1, h2.erase 0, h3.own⟩
theorem Lists.own {m p : Mem} {y : Value} {ps : List (Value × List Int)} (hy : Own p 22 1 y (ps.map (·.1))) (hs : Sub p m) (hl : ∀ q ∈ ps, La m q.1 q.2) : Lists m y ps :=
  ⟨hy.lies.sub hs, fun q hq => hl q hq⟩
set_option maxHeartbeats 4000000 in
theorem shaCuts_spec {m : Mem} {v w : Value} {l cuts : List Nat} (hv : La m v (nc l)) (hw : La m w (nc cuts)) (hl : ∀ x ∈ l, x < 256) (hc : ∀ x ∈ cuts, x < 256) : Spec Try.prog 5 [.v v, .v w] m fun r m' => r = [boolV true] ∧ Sub m m' := by
  obtain ⟨a, c, rfl⟩ := hv.shape
  obtain ⟨aw, cw, rfl⟩ := hw.shape
  have e1 : (nc l).length = l.length := by simp
  have e2 : (nc cuts).length = cuts.length := by simp
  rw [e1] at hv ⊢
  rw [e2] at hw ⊢
  refine en5 rfl (goY ?_)
  conv => whnf
  refine ⟨fun h => ?_, fun h => ?_⟩
  · conv => whnf
    refine xcall (alive_in) ?_
    rintro _ m1 ⟨rfl, hs⟩
    conv => whnf
    exact ⟨rfl, hs⟩
  have h' := of_decide_eq_false h
  have hle : l.length ≤ 600 := by omega
  clear h h'
  have tail : ∀ mm y x ps rest p, ps.length ≤ 40 → Split mm [p, m] → Own p 22 1 y (ps.map (·.1)) → (∀ q ∈ ps, La m q.1 q.2) → La m x rest → catB ps ++ rest = nc l →
      xwpY c5 (restAt 13 (bodyOf Try.f5)) (QRetY tt.get Try.f5.results.toList fun r m' => r = [boolV true] ∧ Sub m m')
        [(0, .c (.v (.slice a l.length c))), (5, .c (.v y)), (6, .c (.v x))] [] mm [] := by
    intro mm y x ps rest p hn hs hy hq hx hcat
    conv => whnf
    refine .at ?_
    conv => whnf
    refine .mk _ (buildL1) ?_
    rintro _ _ ⟨b1, hb1, rfl, rfl⟩
    conv => whnf
    refine .mk _ (pushL hs hb1 hx.one hy (by simp; omega)) ?_
    rintro _ m1 ⟨y', p', rfl, hs', hy'⟩
    conv => whnf
    refine xcall (alive_in) ?_
    rintro _ m2 ⟨rfl, hs2⟩
    conv => whnf
    refine ⟨fun _ => ?_, fun h => absurd h (by decide)⟩
    conv => whnf
    have hm2 : Sub m m2 := (hs'.sub (by simp)).trans hs2
    have hp2 : Sub p' m2 := (hs'.sub (by simp)).trans hs2
    refine xcall (sum_spec (l := l) (Lists.own (ps := ps ++ [(x, rest)]) (by simpa using hy') hp2 (by intro q hq'; rcases List.mem_append.1 hq' with h | h; exact (hq q h).sub hm2; obtain rfl := List.mem_singleton.1 h; exact hx.sub hm2)) (by rw [← hcat]; simp [catB]) (by omega) (by simp; omega) hl) ?_
    rintro _ m3 ⟨rfl, hs3⟩
    conv => whnf
    have hm3 : Sub m m3 := hm2.trans hs3
    refine .mk _ (buildL1) ?_
    rintro _ _ ⟨b2, hb2, rfl, rfl⟩
    conv => whnf
    refine xcall (sum_spec (l := l) (Lists.one (Mem.set_same ..) ((hv.sub hm3).sub (Mem.sub_set _ hb2))) catB1 (by omega) (by simp) hl) ?_
    rintro _ m4 ⟨rfl, hs4⟩
    conv => whnf
    exact ⟨by simp [eqLB_dg], (hm3.trans (Mem.sub_set _ hb2)).trans hs4⟩
  conv => whnf
  refine .mk (ι := Nat × Value × Value) (fun i => 41 - i.1) (fun ⟨i, y, x⟩ mm => i ≤ 40 ∧ ∃ ps rest p, ps.length ≤ i ∧ Split mm [p, m] ∧ Own p 22 1 y (ps.map (·.1)) ∧ (∀ q ∈ ps, La m q.1 q.2) ∧ La m x rest ∧ catB ps ++ rest = nc l)
    (fun ⟨i, y, x⟩ => [(0, .c (.v (.slice a l.length c))), (1, .c (.v (.slice aw cuts.length cw))), (5, .c (.v y)), (6, .c (.v x)), (7, .c (i64 i))]) (fun _ => []) (0, .slice none 0 0, .slice a l.length c)
    ⟨by omega, [], nc l, emp, by simp, (Split.one m).addEmp, .inl ⟨rfl, rfl⟩, by simp, hv, by simp [catB]⟩ ?_ ?_
  · conv => whnf
    repeat (refine And.intro (by first | with_reducible rfl | exact congrArg (Value.int _) (wi (by omega) (by omega)) | exact wi (by omega) (by omega) | rfl) ?_; conv => whnf)
    first | exact trivial | exact fun _ _ h => h
  rintro ⟨i, y, x⟩ mm ⟨hi, ps, rest, p, hps, hs, hy, hq, hx, hcat⟩
  obtain ⟨ax, cx, rfl⟩ := hx.shape
  conv => whnf
  have e3 : rest.length ≤ 600 := by
    have := congrArg List.length hcat
    rw [List.length_append, e1] at this; omega
  have tl := tail mm y (.slice ax rest.length cx) ps rest p (by omega) hs hy hq hx hcat
  conv at tl => whnf
  refine ⟨fun h1 => ?_, fun h1 => ?_⟩
  rotate_left
  · conv => whnf
    refine .via _ _ ?_ tl
    conv => whnf
    repeat (refine And.intro (by first | with_reducible rfl | exact congrArg (Value.int _) (wi (by omega) (by omega)) | exact wi (by omega) (by omega) | rfl) ?_; conv => whnf)
    first | exact trivial | exact fun _ _ h => h
  have h1' := of_decide_eq_true h1
  have hwne : nc cuts ≠ [] := by intro e; rw [e] at e2; simp at e2; omega
  have hw := hw.lb hwne
  obtain ⟨bw, ow, cw', hh⟩ := Lb.real hw hwne
  injection hh with hh1 _ hh3
  subst hh1
  clear hh3 cw'
  conv => whnf
  refine ⟨fun h2 => ?_, fun h2 => ?_⟩
  rotate_left
  · conv => whnf
    refine .via _ _ ?_ tl
    conv => whnf
    repeat (refine And.intro (by first | with_reducible rfl | exact congrArg (Value.int _) (wi (by omega) (by omega)) | exact wi (by omega) (by omega) | rfl) ?_; conv => whnf)
    first | exact trivial | exact fun _ _ h => h
  have h2' := of_decide_eq_true h2
  conv => whnf
  refine ⟨fun h3 => ?_, fun h3 => ?_⟩
  rotate_left
  · conv => whnf
    refine .via _ _ ?_ tl
    conv => whnf
    repeat (refine And.intro (by first | with_reducible rfl | exact congrArg (Value.int _) (wi (by omega) (by omega)) | exact wi (by omega) (by omega) | rfl) ?_; conv => whnf)
    first | exact trivial | exact fun _ _ h => h
  have h3' := of_decide_eq_true h3
  have hxne : rest ≠ [] := by intro e; rw [e] at h3'; simp at h3'
  have hx := hx.lb hxne
  obtain ⟨bx, ox, cx', hh⟩ := Lb.real hx hxne
  injection hh with hh1 _ hh3
  subst hh1
  clear hh3 cx' tl
  conv => whnf
  repeat (refine And.intro (by first | omega | (simp only [times]; omega)) ?_; conv => whnf)
  have hgi : mcell mm bw (ow + i) = some (.int .u8 ((cuts.getD i 0 : Nat) : Int)) := Lb.at (hw.sub (hs.sub (by simp))) (by simp [List.getD_eq_getElem?_getD, List.getElem?_eq_getElem (show i < cuts.length by omega)])
  have hk : cuts.getD i 0 < 256 := getD_lt (by decide) hc i
  refine ⟨_, hgi, rfl, ?_⟩
  generalize cuts.getD i 0 = k at hk ⊢
  have wk : IntKind.i64.wrap (k : Int) = (k : Int) := wi (by omega) (by omega)
  conv => whnf
  rw [wk]
  have hcap := Lb.cap hx
  refine ⟨fun h4 => ?_, fun h4 => ?_⟩
  · have h4' := of_decide_eq_true h4
    conv => whnf
    refine ⟨by omega, ?_⟩
    conv => whnf
    intro o1 ho1 ho2
    obtain rfl : o1 = ox := by
      by_cases e : cx = 0
      · exact ho2 e
      · have := ho1 e; simpa using this
    conv => whnf
    refine .mk _ (buildL1) ?_
    rintro _ _ ⟨b1, hb1, rfl, rfl⟩
    conv => whnf
    have hp1 := Lb.pre hx (h := rest.length) (c' := cx) (by omega) (by omega)
    refine .mk _ (pushL hs hb1 (by rfl) hy (by simp; omega)) ?_
    rintro _ m1 ⟨y', p', rfl, hs', hy'⟩
    conv => whnf
    refine ⟨by omega, ?_⟩
    conv => whnf
    intro o2 ho3 ho4
    have hp2 := Lb.post hx (h := rest.length) (o' := o2) (by omega) (fun e => by have := ho3 (by omega); simpa using this)
    conv => whnf
    refine ⟨(i + 1, y', .slice (some ⟨bx, o2, none⟩) (rest.length - rest.length) (cx - rest.length)), ⟨by omega, ps ++ [(.slice (some ⟨bx, o1, none⟩) rest.length cx, rest.take rest.length)], rest.drop rest.length, p', by simp; omega, hs', by simpa using hy', ?_, hp2.la, ?_⟩, by simp only; omega, ?_⟩
    · intro q hq'
      rcases List.mem_append.1 hq' with h | h
      · exact hq q h
      · obtain rfl := List.mem_singleton.1 h; exact hp1.la
    · rw [← hcat]; simp [catB]
    · conv => whnf
      repeat (refine And.intro (by first | with_reducible rfl | (first | exact congrArg (Value.int _) (iadd (by omega)) | (simp only [Int.toNat_natCast]; done) | (rw [Int.toNat_natCast])) | exact congrArg (Value.int _) (wi (by omega) (by omega)) | exact wi (by omega) (by omega) | rfl) ?_; conv => whnf)
      first | exact trivial | exact fun _ _ h => h
  · have h4' := of_decide_eq_false h4
    conv => whnf
    refine ⟨by omega, ?_⟩
    conv => whnf
    intro o1 ho1 ho2
    obtain rfl : o1 = ox := by
      by_cases e : cx = 0
      · exact ho2 e
      · have := ho1 e; simpa using this
    conv => whnf
    refine .mk _ (buildL1) ?_
    rintro _ _ ⟨b1, hb1, rfl, rfl⟩
    conv => whnf
    have hp1 := Lb.pre hx (h := k) (c' := cx) (by omega) (by omega)
    refine .mk _ (pushL hs hb1 (by rfl) hy (by simp; omega)) ?_
    rintro _ m1 ⟨y', p', rfl, hs', hy'⟩
    conv => whnf
    refine ⟨by omega, ?_⟩
    conv => whnf
    intro o2 ho3 ho4
    have hp2 := Lb.post hx (h := k) (o' := o2) (by omega) (fun e => by have := ho3 (by omega); simpa using this)
    conv => whnf
    refine ⟨(i + 1, y', .slice (some ⟨bx, o2, none⟩) (rest.length - k) (cx - k)), ⟨by omega, ps ++ [(.slice (some ⟨bx, o1, none⟩) k cx, rest.take k)], rest.drop k, p', by simp; omega, hs', by simpa using hy', ?_, hp2.la, ?_⟩, by simp only; omega, ?_⟩
    · intro q hq'
      rcases List.mem_append.1 hq' with h | h
      · exact hq q h
      · obtain rfl := List.mem_singleton.1 h; exact hp1.la
    · rw [← hcat]; simp [catB]
    · conv => whnf
      repeat (refine And.intro (by first | with_reducible rfl | (first | exact congrArg (Value.int _) (iadd (by omega)) | (simp only [Int.toNat_natCast]; done) | (rw [Int.toNat_natCast])) | exact congrArg (Value.int _) (wi (by omega) (by omega)) | exact wi (by omega) (by omega) | rfl) ?_; conv => whnf)
      first | exact trivial | exact fun _ _ h => h
/-! ### the arguments -/
theorem dat_nc {m : Mem} {cs : List Value} (h : Dat m (.slice (.int .u8)) cs) : ∃ v l, cs = [v] ∧ La m v (nc l) ∧ ∀ x ∈ l, x < 256 := by
  obtain ⟨v, l, rfl, h1, h2, h3, h4⟩ := dat_sints h
  have e : nc (l.map Int.toNat) = l := by
    simp only [nc, List.map_map]
    refine (List.map_congr_left fun x hx => ?_).trans (List.map_id l)
    have := wf_u8 (h3 x hx)
    show ((x.toNat : Nat) : Int) = x
    omega
  refine ⟨v, l.map Int.toNat, rfl, by rw [e]; exact h1, fun x hx => ?_⟩
  obtain ⟨y, hy, rfl⟩ := List.mem_map.1 hx
  have := wf_u8 (h3 y hy)
  omega
end Go.E.Ytodgjanekjefbaa
