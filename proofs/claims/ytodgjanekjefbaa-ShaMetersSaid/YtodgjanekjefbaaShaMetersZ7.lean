/-
  ShaC, Sha9, Sha10, Sha11, ShaD, E26, E27, WireP, WireQ, ByDat, ListsDat, ShaE, ShaF
-/
import Derived.Test.YtodgjanekjefbaaShaMetersZ6
import Derived.Lib.ConvBytes
import Derived.Laws.LoneSync
import Derived.ProofKit
/-
  Law ShaCuts.
-/
namespace Go.E.Ytodgjanekjefbaa
open Go.Proofs
set_option maxRecDepth 100000
theorem eqLB_dg (l : List Int) : eqLB [.ints .u8 32 l] [.ints .u8 32 l] = true := by simp [eqLB]
theorem Lb.pre {m : Mem} {b o n c h c' : Nat} {l : List Int} (hl : Lb m (.slice (some ⟨b, o, none⟩) n c) l) (hh : h ≤ l.length) (hc : h ≤ c') : Lb m (.slice (some ⟨b, o, none⟩) h c') (l.take h) := by
  rcases hl.cases with ⟨c, h1, h2⟩ | ⟨b', o', c', arr, t, fr, h1, h2, h3, h4⟩
  · cases h1
  · cases h1
    refine Lb.mk h2 (by simp; omega) hc (fun j x hj => ?_)
    rw [List.getElem?_take] at hj
    split at hj
    · exact h4 _ _ hj
    · cases hj
theorem Lb.post {m : Mem} {b o o' n c h : Nat} {l : List Int} (hl : Lb m (.slice (some ⟨b, o, none⟩) n c) l) (hh : h ≤ l.length) (ho : c ≠ h → o' = o + h) : Lb m (.slice (some ⟨b, o', none⟩) (l.length - h) (c - h)) (l.drop h) := by
  rcases hl.cases with ⟨c, h1, h2⟩ | ⟨b', o'', c', arr, t, fr, h1, h2, h3, h4⟩
  · cases h1
  · cases h1
    refine Lb.mk h2 (by simp) (by omega) (fun j x hj => ?_)
    rw [List.getElem?_drop] at hj
    by_cases e : c = h
    · rw [List.getElem?_eq_none (by omega)] at hj; cases hj
    · rw [ho e, Nat.add_assoc]; exact h4 _ _ hj
set_option maxHeartbeats 4000000 in
theorem shaCuts_spec {m : Mem} {v w : Value} {l cuts : List Nat} (hv : La m v (nc l)) (hw : La m w (nc cuts)) (hl : ∀ x ∈ l, x < 256) (hc : ∀ x ∈ cuts, x < 256) : Spec Try.prog 5 [.v v, .v w] m fun r m' => r = [boolV true] ∧ Sub m m' := by
  obtain ⟨a, c, rfl⟩ := hv.shape
  obtain ⟨aw, cw, rfl⟩ := hw.shape
  have e1 : (nc l).length = l.length := by simp
  have e2 : (nc cuts).length = cuts.length := by simp
  rw [e1] at hv ⊢
  rw [e2] at hw ⊢
  refine en5 rfl (goY ?_)
  conv => whnf
  refine ⟨fun h => ?_, fun h => ?_⟩
  · conv => whnf
    refine xcall (alive_in) ?_
    rintro _ m1 ⟨rfl, hs⟩
    conv => whnf
    exact ⟨rfl, hs⟩
  have h' := of_decide_eq_false h
  have hle : l.length ≤ 600 := by omega
  clear h h'
  have tail : ∀ mm y x ps rest p, ps.length ≤ 40 → Split mm [p, m] → Own p 22 1 y (ps.map (·.1)) → (∀ q ∈ ps, La m q.1 q.2) → La m x rest → catB ps ++ rest = nc l →
      xwpY c5 (restAt 13 (bodyOf Try.f5)) (QRetY tt.get Try.f5.results.toList fun r m' => r = [boolV true] ∧ Sub m m')
        [(0, .c (.v (.slice a l.length c))), (5, .c (.v y)), (6, .c (.v x))] [] mm [] := by
    intro mm y x ps rest p hn hs hy hq hx hcat
    conv => whnf
    refine .at ?_
    conv => whnf
    refine .mk _ (buildL1) ?_
    rintro _ _ ⟨b1, hb1, rfl, rfl⟩
    conv => whnf
    refine .mk _ (pushL hs hb1 hx.one hy (by simp; omega)) ?_
    rintro _ m1 ⟨y', p', rfl, hs', hy'⟩
    conv => whnf
    refine xcall (alive_in) ?_
    rintro _ m2 ⟨rfl, hs2⟩
    conv => whnf
    refine ⟨fun _ => ?_, fun h => absurd h (by decide)⟩
    conv => whnf
    have hm2 : Sub m m2 := (hs'.sub (by simp)).trans hs2
    have hp2 : Sub p' m2 := (hs'.sub (by simp)).trans hs2
    refine xcall (sum_spec (l := l) (Lists.own (ps := ps ++ [(x, rest)]) (by simpa using hy') hp2 (by intro q hq'; rcases List.mem_append.1 hq' with h | h; exact (hq q h).sub hm2; obtain rfl := List.mem_singleton.1 h; exact hx.sub hm2)) (by rw [← hcat]; simp [catB]) (by omega) (by simp; omega) hl) ?_
    rintro _ m3 ⟨rfl, hs3⟩
    conv => whnf
    have hm3 : Sub m m3 := hm2.trans hs3
    refine .mk _ (buildL1) ?_
    rintro _ _ ⟨b2, hb2, rfl, rfl⟩
    conv => whnf
    refine xcall (sum_spec (l := l) (Lists.one (Mem.set_same ..) ((hv.sub hm3).sub (Mem.sub_set _ hb2))) catB1 (by omega) (by simp) hl) ?_
    rintro _ m4 ⟨rfl, hs4⟩
    conv => whnf
    exact ⟨by simp [eqLB_dg], (hm3.trans (Mem.sub_set _ hb2)).trans hs4⟩
  conv => whnf
  refine .mk (ι := Nat × Value × Value) (fun i => 41 - i.1) (fun ⟨i, y, x⟩ mm => i ≤ 40 ∧ ∃ ps rest p, ps.length ≤ i ∧ Split mm [p, m] ∧ Own p 22 1 y (ps.map (·.1)) ∧ (∀ q ∈ ps, La m q.1 q.2) ∧ La m x rest ∧ catB ps ++ rest = nc l)
    (fun ⟨i, y, x⟩ => [(0, .c (.v (.slice a l.length c))), (1, .c (.v (.slice aw cuts.length cw))), (5, .c (.v y)), (6, .c (.v x)), (7, .c (i64 i))]) (fun _ => []) (0, .slice none 0 0, .slice a l.length c)
    ⟨by omega, [], nc l, emp, by simp, (Split.one m).addEmp, .inl ⟨rfl, rfl⟩, by simp, hv, by simp [catB]⟩ ?_ ?_
  · conv => whnf
    repeat (refine And.intro (by first | with_reducible rfl | exact congrArg (Value.int _) (wi (by omega) (by omega)) | exact wi (by omega) (by omega) | rfl) ?_; conv => whnf)
    first | exact trivial | exact fun _ _ h => h
  rintro ⟨i, y, x⟩ mm ⟨hi, ps, rest, p, hps, hs, hy, hq, hx, hcat⟩
  obtain ⟨ax, cx, rfl⟩ := hx.shape
  conv => whnf
  have e3 : rest.length ≤ 600 := by
    have := congrArg List.length hcat
    rw [List.length_append, e1] at this; omega
  have tl := tail mm y (.slice ax rest.length cx) ps rest p (by omega) hs hy hq hx hcat
  conv at tl => whnf
  refine ⟨fun h1 => ?_, fun h1 => ?_⟩
  rotate_left
  · conv => whnf
    refine .via _ _ ?_ tl
    conv => whnf
    repeat (refine And.intro (by first | with_reducible rfl | exact congrArg (Value.int _) (wi (by omega) (by omega)) | exact wi (by omega) (by omega) | rfl) ?_; conv => whnf)
    first | exact trivial | exact fun _ _ h => h
  have h1' := of_decide_eq_true h1
  have hwne : nc cuts ≠ [] := by intro e; rw [e] at e2; simp at e2; omega
  have hw := hw.lb hwne
  obtain ⟨bw, ow, cw', hh⟩ := Lb.real hw hwne
  injection hh with hh1 _ hh3
  subst hh1
  clear hh3 cw'
  conv => whnf
  refine ⟨fun h2 => ?_, fun h2 => ?_⟩
  rotate_left
  · conv => whnf
    refine .via _ _ ?_ tl
    conv => whnf
    repeat (refine And.intro (by first | with_reducible rfl | exact congrArg (Value.int _) (wi (by omega) (by omega)) | exact wi (by omega) (by omega) | rfl) ?_; conv => whnf)
    first | exact trivial | exact fun _ _ h => h
  have h2' := of_decide_eq_true h2
  conv => whnf
  refine ⟨fun h3 => ?_, fun h3 => ?_⟩
  rotate_left
  · conv => whnf
    refine .via _ _ ?_ tl
    conv => whnf
    repeat (refine And.intro (by first | with_reducible rfl | exact congrArg (Value.int _) (wi (by omega) (by omega)) | exact wi (by omega) (by omega) | rfl) ?_; conv => whnf)
    first | exact trivial | exact fun _ _ h => h
  have h3' := of_decide_eq_true h3
  have hxne : rest ≠ [] := by intro e; rw [e] at h3'; simp at h3'
  have hx := hx.lb hxne
  obtain ⟨bx, ox, cx', hh⟩ := Lb.real hx hxne
  injection hh with hh1 _ hh3
  subst hh1
  clear hh3 cx' tl
  conv => whnf
  repeat (refine And.intro (by first | omega | (simp only [times]; omega)) ?_; conv => whnf)
  have hgi : mcell mm bw (ow + i) = some (.int .u8 ((cuts.getD i 0 : Nat) : Int)) := Lb.at (hw.sub (hs.sub (by simp))) (by simp [List.getD_eq_getElem?_getD, List.getElem?_eq_getElem (show i < cuts.length by omega)])
  have hk : cuts.getD i 0 < 256 := getD_lt (by decide) hc i
  refine ⟨_, hgi, rfl, ?_⟩
  generalize cuts.getD i 0 = k at hk ⊢
  have wk : IntKind.i64.wrap (k : Int) = (k : Int) := wi (by omega) (by omega)
  conv => whnf
  rw [wk]
  have hcap := Lb.cap hx
  refine ⟨fun h4 => ?_, fun h4 => ?_⟩
  · have h4' := of_decide_eq_true h4
    conv => whnf
    refine ⟨by omega, ?_⟩
    conv => whnf
    intro o1 ho1 ho2
    obtain rfl : o1 = ox := by
      by_cases e : cx = 0
      · exact ho2 e
      · have := ho1 e; simpa using this
    conv => whnf
    refine .mk _ (buildL1) ?_
    rintro _ _ ⟨b1, hb1, rfl, rfl⟩
    conv => whnf
    have hp1 := Lb.pre hx (h := rest.length) (c' := cx) (by omega) (by omega)
    refine .mk _ (pushL hs hb1 (by rfl) hy (by simp; omega)) ?_
    rintro _ m1 ⟨y', p', rfl, hs', hy'⟩
    conv => whnf
    refine ⟨by omega, ?_⟩
    conv => whnf
    intro o2 ho3 ho4
    have hp2 := Lb.post hx (h := rest.length) (o' := o2) (by omega) (fun e => by have := ho3 (by omega); simpa using this)
    conv => whnf
    refine ⟨(i + 1, y', .slice (some ⟨bx, o2, none⟩) (rest.length - rest.length) (cx - rest.length)), ⟨by omega, ps ++ [(.slice (some ⟨bx, o1, none⟩) rest.length cx, rest.take rest.length)], rest.drop rest.length, p', by simp; omega, hs', by simpa using hy', ?_, hp2.la, ?_⟩, by simp only; omega, ?_⟩
    · intro q hq'
      rcases List.mem_append.1 hq' with h | h
      · exact hq q h
      · obtain rfl := List.mem_singleton.1 h; exact hp1.la
    · rw [← hcat]; simp [catB]
    · conv => whnf
      repeat (refine And.intro (by first | with_reducible rfl | (first | exact congrArg (Value.int _) (iadd (by omega)) | (simp only [Int.toNat_natCast]; done) | (rw [Int.toNat_natCast])) | exact congrArg (Value.int _) (wi (by omega) (by omega)) | exact wi (by omega) (by omega) | rfl) ?_; conv => whnf)
      first | exact trivial | exact fun _ _ h => h
  · have h4' := of_decide_eq_false h4
    conv => whnf
    refine ⟨by omega, ?_⟩
    conv => whnf
    intro o1 ho1 ho2
    obtain rfl : o1 = ox := by
      by_cases e : cx = 0
      · exact ho2 e
      · have := ho1 e; simpa using this
    conv => whnf
    refine .mk _ (buildL1) ?_
    rintro _ _ ⟨b1, hb1, rfl, rfl⟩
    conv => whnf
    have hp1 := Lb.pre hx (h := k) (c' := cx) (by omega) (by omega)
    refine .mk _ (pushL hs hb1 (by rfl) hy (by simp; omega)) ?_
    rintro _ m1 ⟨y', p', rfl, hs', hy'⟩
    conv => whnf
    refine ⟨by omega, ?_⟩
    conv => whnf
    intro o2 ho3 ho4
    have hp2 := Lb.post hx (h := k) (o' := o2) (by omega) (fun e => by have := ho3 (by omega); simpa using this)
    conv => whnf
    refine ⟨(i + 1, y', .slice (some ⟨bx, o2, none⟩) (rest.length - k) (cx - k)), ⟨by omega, ps ++ [(.slice (some ⟨bx, o1, none⟩) k cx, rest.take k)], rest.drop k, p', by simp; omega, hs', by simpa using hy', ?_, hp2.la, ?_⟩, by simp only; omega, ?_⟩
    · intro q hq'
      rcases List.mem_append.1 hq' with h | h
      · exact hq q h
      · obtain rfl := List.mem_singleton.1 h; exact hp1.la
    · rw [← hcat]; simp [catB]
    · conv => whnf
      repeat (refine And.intro (by first | with_reducible rfl | (first | exact congrArg (Value.int _) (iadd (by omega)) | (simp only [Int.toNat_natCast]; done) | (rw [Int.toNat_natCast])) | exact congrArg (Value.int _) (wi (by omega) (by omega)) | exact wi (by omega) (by omega) | rfl) ?_; conv => whnf)
      first | exact trivial | exact fun _ _ h => h
/-! ### the arguments -/
theorem dat_nc {m : Mem} {cs : List Value} (h : Dat m (.slice (.int .u8)) cs) : ∃ v l, cs = [v] ∧ La m v (nc l) ∧ ∀ x ∈ l, x < 256 := by
  obtain ⟨v, l, rfl, h1, h2, h3, h4⟩ := dat_sints h
  have e : nc (l.map Int.toNat) = l := by
    simp only [nc, List.map_map]
    refine (List.map_congr_left fun x hx => ?_).trans (List.map_id l)
    have := wf_u8 (h3 x hx)
    show ((x.toNat : Nat) : Int) = x
    omega
  refine ⟨v, l.map Int.toNat, rfl, by rw [e]; exact h1, fun x hx => ?_⟩
  obtain ⟨y, hy, rfl⟩ := List.mem_map.1 hx
  have := wf_u8 (h3 y hy)
  omega
end Go.E.Ytodgjanekjefbaa

/-
  Contracts of maundref01: words of a block.
-/
namespace Go.E.Ytodgjanekjefbaa
open Go.Proofs
set_option maxRecDepth 100000
theorem turn_spec {m : Mem} {x n : Nat} (h1 : 1 ≤ n) (h2 : n ≤ 31) (hx : x < 2 ^ 32) : Ret Try.prog 32 [u64 x, u64 n] m [u64 ((Sha.rotr x n : Nat) : Int)] := by
  have e1 : IntKind.u64.wrap (32 - (n : Int)) = ((32 - n : Nat) : Int) := by rw [wu (by omega) (by omega)]; omega
  have h3 : (2 : Nat) ^ (32 - n) ≤ 2 ^ 31 := Nat.pow_le_pow_right (by decide) (by omega)
  have h4 : x * 2 ^ (32 - n) < 18446744073709551616 := Nat.lt_of_le_of_lt (Nat.mul_le_mul (Nat.le_of_lt hx) h3) (by decide)
  have h5 : x * 2 ^ (32 - n) % Sha.M < 2 ^ 32 := Nat.mod_lt _ (by decide)
  have h6 : x / 2 ^ n < 2 ^ 32 := Nat.lt_of_le_of_lt (Nat.div_le_self ..) hx
  refine en32 rfl (goY ?_)
  conv => whnf
  repeat (refine And.intro (by first | omega | (simp only [times]; omega)) ?_; conv => whnf)
  rw [e1]
  repeat (refine And.intro (by first | omega | (simp only [times]; omega)) ?_; conv => whnf)
  rw [shl_u64 (by omega) h4, shr_nat (by show n ≤ 64; omega)]
  refine ⟨?_, rfl⟩
  rw [show (4294967296 : Int) = ((4294967296 : Nat) : Int) from rfl, tmod_nat, or_u64 (Nat.lt_of_lt_of_le h6 (by decide)) (Nat.lt_of_lt_of_le h5 (by decide)), Nat.or_comm]
  rfl
theorem rconsts_spec {m : Mem} : Ret Try.prog 30 [] m [.a [.ints .u64 64 (nc Sha.K)]] := by
  refine en30 rfl (goY ?_)
  conv => whnf
  exact ⟨rfl, rfl⟩
/-- the first i words lie -/
structure Wl (m : Mem) (b : Nat) (ws : List Nat) : Prop where
  at' : ∃ arr t fr, m b = some (.cells arr t fr) ∧ ∀ j : Nat, j < ws.length → arr[j]? = some (.int .u64 ((ws.getD j 0 : Nat) : Int))
theorem Wl.get {m : Mem} {b : Nat} {ws : List Nat} (h : Wl m b ws) {j : Nat} (hj : j < ws.length) : mcell m b (0 + j) = some (.int .u64 ((ws.getD j 0 : Nat) : Int)) := by
  obtain ⟨arr, t, fr, h1, h2⟩ := h.at'
  rw [Nat.zero_add]
  exact mcell_of h1 (h2 j hj)
theorem mulmod (a k : Nat) (h : k * a < 18446744073709551616) : IntKind.u64.wrap ((k : Int) * (a : Int)) = ((k * a : Nat) : Int) := by
  rw [← Int.natCast_mul, wu (by omega) (by omega)]
theorem div_lt32 {x n : Nat} (h : x < 2 ^ 32) : x / n < 2 ^ 32 := Nat.lt_of_le_of_lt (Nat.div_le_self ..) h
theorem s0_lt {x : Nat} (h : x < 2 ^ 32) : Sha.s0 x < 2 ^ 32 := Nat.xor_lt_two_pow (Nat.xor_lt_two_pow (rotr_lt h) (rotr_lt h)) (div_lt32 h)
theorem s1_lt {x : Nat} (h : x < 2 ^ 32) : Sha.s1 x < 2 ^ 32 := Nat.xor_lt_two_pow (Nat.xor_lt_two_pow (rotr_lt h) (rotr_lt h)) (div_lt32 h)
theorem lt64 {x : Nat} (h : x < 2 ^ 32) : x < 2 ^ 64 := Nat.lt_of_lt_of_le h (by decide)
theorem rs0_eq {x : Nat} (hx : x < 2 ^ 32) : bitsOf .xor .u64 (bitsOf .xor .u64 ((Sha.rotr x 7 : Nat) : Int) ((Sha.rotr x 18 : Nat) : Int)) (IntKind.u64.wrap ((x : Int).tdiv 8)) = ((Sha.s0 x : Nat) : Int) := by
  have h8 := div_lt32 (n := 8) hx
  rw [show (8 : Int) = ((8 : Nat) : Int) from rfl, tdiv_nat, wu (by omega) (by omega), xor_u64 (lt64 (rotr_lt hx)) (lt64 (rotr_lt hx)), xor_u64 (Nat.xor_lt_two_pow (lt64 (rotr_lt hx)) (lt64 (rotr_lt hx))) (lt64 h8)]
  rfl
theorem rs1_eq {x : Nat} (hx : x < 2 ^ 32) : bitsOf .xor .u64 (bitsOf .xor .u64 ((Sha.rotr x 17 : Nat) : Int) ((Sha.rotr x 19 : Nat) : Int)) (IntKind.u64.wrap ((x : Int).tdiv 1024)) = ((Sha.s1 x : Nat) : Int) := by
  have h8 := div_lt32 (n := 1024) hx
  rw [show (1024 : Int) = ((1024 : Nat) : Int) from rfl, tdiv_nat, wu (by omega) (by omega), xor_u64 (lt64 (rotr_lt hx)) (lt64 (rotr_lt hx)), xor_u64 (Nat.xor_lt_two_pow (lt64 (rotr_lt hx)) (lt64 (rotr_lt hx))) (lt64 h8)]
  rfl
set_option maxHeartbeats 4000000 in
theorem rword_spec {m : Mem} {b o c wb wc : Nat} {bs : List Nat} {t : Nat} (hl : bs.length = 64) (hb : ∀ x ∈ bs, x < 256) (hv : Lb m (.slice (some ⟨b, o, none⟩) 64 c) (nc bs)) (hw : Wl m wb (Sha.words bs t)) (ht : t < 64) :
    Ret Try.prog 31 [.v (.slice (some ⟨b, o, none⟩) 64 c), .v (.slice (some ⟨wb, 0, none⟩) 64 wc), i64 t] m [u64 ((Sha.word bs (Sha.words bs t) t : Nat) : Int)] := by
  have hwl := words_len bs t
  refine en31 rfl (goY ?_)
  conv => whnf
  refine ⟨fun h => ?_, fun h => ?_⟩
  · have h' := of_decide_eq_true h
    have hlt : t < 16 := by omega
    have e4 : IntKind.i64.wrap (4 * (t : Int)) = ((4 * t : Nat) : Int) := by rw [wi (by omega) (by omega)]; omega
    have ea : ∀ k : Nat, k < 4 → IntKind.i64.wrap (((4 * t : Nat) : Int) + (k : Int)) = ((4 * t + k : Nat) : Int) := fun k hk => by rw [wi (by omega) (by omega)]; omega
    have ld : ∀ k, k < 4 → mcell m b (o + (4 * t + k)) = some (.int .u8 ((bs.getD (4 * t + k) 0 : Nat) : Int)) := fun k hk => 
      Lb.at hv (j := 4 * t + k) (x := ((bs.getD (4 * t + k) 0 : Nat) : Int)) (by simp [List.getD_eq_getElem?_getD, List.getElem?_eq_getElem (show 4 * t + k < bs.length by omega)])
    conv => whnf
    rw [e4]
    repeat (refine And.intro (by first | omega | (simp only [times]; omega)) ?_; conv => whnf)
    refine ⟨_, by have := ld 0 (by decide); simp only [times]; exact this, rfl, ?_⟩
    conv => whnf
    rw [e4, show IntKind.i64.wrap (((4 * t : Nat) : Int) + 1) = _ from ea 1 (by decide)]
    repeat (refine And.intro (by first | omega | (simp only [times]; omega)) ?_; conv => whnf)
    refine ⟨_, by have := ld 1 (by decide); simp only [times]; exact this, rfl, ?_⟩
    conv => whnf
    rw [e4, show IntKind.i64.wrap (((4 * t : Nat) : Int) + 2) = _ from ea 2 (by decide)]
    repeat (refine And.intro (by first | omega | (simp only [times]; omega)) ?_; conv => whnf)
    refine ⟨_, by have := ld 2 (by decide); simp only [times]; exact this, rfl, ?_⟩
    conv => whnf
    rw [e4, show IntKind.i64.wrap (((4 * t : Nat) : Int) + 3) = _ from ea 3 (by decide)]
    repeat (refine And.intro (by first | omega | (simp only [times]; omega)) ?_; conv => whnf)
    refine ⟨_, by have := ld 3 (by decide); simp only [times]; exact this, rfl, ?_⟩
    conv => whnf
    have g := getD_lt (by decide) hb
    have f : ∀ k : Nat, IntKind.u64.wrap ((bs.getD k 0 : Nat) : Int) = ((bs.getD k 0 : Nat) : Int) := fun k => by have := g k; rw [wu (by omega) (by omega)]
    have g0 := g (4 * t + 0); have g1 := g (4 * t + 1); have g2 := g (4 * t + 2); have g3 := g (4 * t + 3)
    refine ⟨?_, rfl⟩
    rw [f, f, f, f, Sha.word, if_pos hlt]
    generalize bs.getD (4 * t + 1) 0 = a1 at *
    generalize bs.getD (4 * t + 2) 0 = a2 at *
    generalize bs.getD (4 * t + 3) 0 = a3 at *
    rw [Nat.add_zero] at *
    generalize bs.getD (4 * t) 0 = a0 at *
    simp only [List.cons.injEq, CV.v.injEq, Value.int.injEq, and_true, true_and]
    rw [wu (n := 16777216 * (a0 : Int)) (by omega) (by omega), wu (n := 65536 * (a1 : Int)) (by omega) (by omega), wu (n := 256 * (a2 : Int)) (by omega) (by omega)]
    rw [wu (n := 16777216 * (a0 : Int) + 65536 * (a1 : Int)) (by omega) (by omega), wu (n := 16777216 * (a0 : Int) + 65536 * (a1 : Int) + 256 * (a2 : Int)) (by omega) (by omega), wu (by omega) (by omega)]
    omega
  · have h' := of_decide_eq_false h
    have hge : 16 ≤ t := by omega
    have sb : ∀ k : Nat, 1 ≤ k → k ≤ 16 → IntKind.i64.wrap ((t : Int) - (k : Int)) = ((t - k : Nat) : Int) := fun k h1 h2 => by rw [wi (by omega) (by omega)]; omega
    have hlt := words_lt hb t
    have ld : ∀ k, 1 ≤ k → k ≤ 16 → mcell m wb (0 + (t - k)) = some (.int .u64 (((Sha.words bs t).getD (t - k) 0 : Nat) : Int)) := fun k h1 h2 => hw.get (by omega)
    conv => whnf
    rw [show IntKind.i64.wrap ((t : Int) - 15) = _ from sb 15 (by decide) (by decide)]
    repeat (refine And.intro (by first | omega | (simp only [times]; omega)) ?_; conv => whnf)
    refine ⟨_, by have := ld 15 (by decide) (by decide); simp only [times]; exact this, rfl, ?_⟩
    conv => whnf
    rw [show IntKind.i64.wrap ((t : Int) - 2) = _ from sb 2 (by decide) (by decide)]
    repeat (refine And.intro (by first | omega | (simp only [times]; omega)) ?_; conv => whnf)
    refine ⟨_, by have := ld 2 (by decide) (by decide); simp only [times]; exact this, rfl, ?_⟩
    conv => whnf
    first | refine xretk (turn_spec (n := 7) (by decide) (by decide) (hlt _)) ?_ | refine xret (turn_spec (n := 7) (by decide) (by decide) (hlt _)) ?_
    conv => whnf
    first | refine xretk (turn_spec (n := 18) (by decide) (by decide) (hlt _)) ?_ | refine xret (turn_spec (n := 18) (by decide) (by decide) (hlt _)) ?_
    conv => whnf
    repeat (refine And.intro (by first | omega | (simp only [times]; omega)) ?_; conv => whnf)
    first | refine xretk (turn_spec (n := 17) (by decide) (by decide) (hlt _)) ?_ | refine xret (turn_spec (n := 17) (by decide) (by decide) (hlt _)) ?_
    conv => whnf
    first | refine xretk (turn_spec (n := 19) (by decide) (by decide) (hlt _)) ?_ | refine xret (turn_spec (n := 19) (by decide) (by decide) (hlt _)) ?_
    conv => whnf
    repeat (refine And.intro (by first | omega | (simp only [times]; omega)) ?_; conv => whnf)
    rw [show IntKind.i64.wrap ((t : Int) - 16) = _ from sb 16 (by decide) (by decide)]
    repeat (refine And.intro (by first | omega | (simp only [times]; omega)) ?_; conv => whnf)
    refine ⟨_, by have := ld 16 (by decide) (by decide); simp only [times]; exact this, rfl, ?_⟩
    conv => whnf
    rw [show IntKind.i64.wrap ((t : Int) - 7) = _ from sb 7 (by decide) (by decide)]
    repeat (refine And.intro (by first | omega | (simp only [times]; omega)) ?_; conv => whnf)
    refine ⟨_, by have := ld 7 (by decide) (by decide); simp only [times]; exact this, rfl, ?_⟩
    conv => whnf
    refine ⟨?_, rfl⟩
    have h15 := hlt (t - 15); have h2 := hlt (t - 2); have h16 := hlt (t - 16); have h7 := hlt (t - 7)
    rw [Sha.word, if_neg (by omega)]
    generalize (Sha.words bs t).getD (t - 15) 0 = x15 at *
    generalize (Sha.words bs t).getD (t - 2) 0 = x2 at *
    generalize (Sha.words bs t).getD (t - 16) 0 = x16 at *
    generalize (Sha.words bs t).getD (t - 7) 0 = x7 at *
    simp only [List.cons.injEq, CV.v.injEq, Value.int.injEq, and_true, true_and]
    rw [rs0_eq h15, rs1_eq h2]
    have b0 := s0_lt h15
    have b1 := s1_lt h2
    rw [wu (n := (x16 : Int) + ((Sha.s0 x15 : Nat) : Int)) (by omega) (by omega), wu (n := (x16 : Int) + ((Sha.s0 x15 : Nat) : Int) + (x7 : Int)) (by omega) (by omega), wu (n := (x16 : Int) + ((Sha.s0 x15 : Nat) : Int) + (x7 : Int) + ((Sha.s1 x2 : Nat) : Int)) (by omega) (by omega)]
    rw [← Int.natCast_add, ← Int.natCast_add, ← Int.natCast_add, show (4294967296 : Int) = ((4294967296 : Nat) : Int) from rfl, tmod_nat]
end Go.E.Ytodgjanekjefbaa

/-
  Contracts of maundref01: the digest.
-/
namespace Go.E.Ytodgjanekjefbaa
open Go.Proofs
set_option maxRecDepth 100000
abbrev wob (bs : List Nat) (i : Nat) : Obj := .cells (LB.cells [.ints .u64 64 (wc bs i)]).toArray 65
theorem wl_wob {m : Mem} {b i : Nat} {bs : List Nat} (h : m b = some (wob bs i)) (hi : i ≤ 64) : Wl m b (Sha.words bs i) := by
  have hl := words_len bs i
  refine ⟨_, _, _, h, fun j hj => ?_⟩
  have := wc_get (b := bs) (i := i) (j := j) (by omega)
  have hlen : j < (wc bs i).length := by simp [wc, hl]; omega
  rw [List.getD_eq_getElem?_getD, List.getElem?_eq_getElem hlen] at this
  simp [LB.cells, Seg.cells, List.getElem?_eq_getElem hlen]
  simpa using this
theorem wc_len {bs : List Nat} {i : Nat} (h : i ≤ 64) : (wc bs i).length = 64 := by simp [wc, words_len]; omega
theorem wob_set {bs : List Nat} {i : Nat} (h : i < 64) {t : TypeId} : Obj.cells ((LB.cells [.ints .u64 64 (wc bs i)]).toArray.setIfInBounds i (.int .u64 ((Sha.word bs (Sha.words bs i) i : Nat) : Int))) t = .cells (LB.cells [.ints .u64 64 (wc bs (i + 1))]).toArray t := by
  rw [← wc_set h rfl]
  simp [LB.cells, Seg.cells, List.map_set]
theorem rmix_set {B h : List Nat} {i y : Nat} (hh : h.length = 8) (h1 : h.getD i 0 < 2 ^ 32) (h2 : y < 2 ^ 32) (hB : B.length = 8) (hi : i < 8) (hb : (((h.getD i 0 + y) % Sha.M : Nat) : Int) = ((B.getD i 0 : Nat) : Int)) :
    ((nc B).take i ++ (nc h).drop i).set i (Int.tmod (IntKind.u64.wrap (((h.getD i 0 : Nat) : Int) + (y : Int))) 4294967296) = (nc B).take (i + 1) ++ (nc h).drop (i + 1) := by
  have e0 : Int.tmod (IntKind.u64.wrap (((h.getD i 0 : Nat) : Int) + (y : Int))) 4294967296 = ((B.getD i 0 : Nat) : Int) := by
    rw [← hb, wu (by omega) (by omega), ← Int.natCast_add, show (4294967296 : Int) = ((4294967296 : Nat) : Int) from rfl, tmod_nat]
  rw [e0]
  have hl : ((nc B).take i).length = i := by simp; omega
  have e : (nc h).drop i = (((h.getD i 0 : Nat) : Int)) :: (nc h).drop (i + 1) := by
    rw [List.drop_eq_getElem_cons (by simp; omega)]; simp [List.getD_eq_getElem?_getD, List.getElem?_eq_getElem (show i < h.length by omega)]
  rw [e, List.set_append_right _ _ (by omega), hl, Nat.sub_self, List.set_cons_zero, List.take_succ_eq_append_getElem (by simp; omega), List.append_assoc]
  simp [List.getD_eq_getElem?_getD, List.getElem?_eq_getElem (show i < B.length by omega)]
theorem xor3l {a b c : Nat} (ha : a < 2 ^ 32) (hb : b < 2 ^ 32) (hc : c < 2 ^ 32) : bitsOf .xor .u64 (bitsOf .xor .u64 (a : Int) (b : Int)) (c : Int) = ((a ^^^ b ^^^ c : Nat) : Int) := by
  rw [xor_u64 (lt64 ha) (lt64 hb), xor_u64 (Nat.xor_lt_two_pow (lt64 ha) (lt64 hb)) (lt64 hc)]
theorem xor3_lt {a b c : Nat} (ha : a < 2 ^ 32) (hb : b < 2 ^ 32) (hc : c < 2 ^ 32) : a ^^^ b ^^^ c < 2 ^ 32 := Nat.xor_lt_two_pow (Nat.xor_lt_two_pow ha hb) hc
theorem rch_eq {e f g : Nat} (he : e < 2 ^ 32) (hf : f < 2 ^ 32) (hg : g < 2 ^ 32) :
    bitsOf .xor .u64 (bitsOf .and .u64 (e : Int) (f : Int)) (bitsOf .and .u64 (IntKind.u64.wrap (4294967295 - (e : Int))) (g : Int)) = ((Sha.ch e f g : Nat) : Int) := by
  have hn : 4294967295 - e < 2 ^ 32 := by omega
  have e1 : IntKind.u64.wrap (4294967295 - (e : Int)) = ((4294967295 - e : Nat) : Int) := by rw [wu (by omega) (by omega)]; omega
  rw [e1, and_u64 (lt64 he) (lt64 hf), and_u64 (lt64 hn) (lt64 hg), xor_u64 (lt64 (and_lt he)) (lt64 (and_lt hn))]; rfl
theorem rmaj_eq {a b c : Nat} (ha : a < 2 ^ 32) (hb : b < 2 ^ 32) (hc : c < 2 ^ 32) :
    bitsOf .xor .u64 (bitsOf .xor .u64 (bitsOf .and .u64 (a : Int) (b : Int)) (bitsOf .and .u64 (a : Int) (c : Int))) (bitsOf .and .u64 (b : Int) (c : Int)) = ((Sha.maj a b c : Nat) : Int) := by
  rw [and_u64 (lt64 ha) (lt64 hb), and_u64 (lt64 ha) (lt64 hc), and_u64 (lt64 hb) (lt64 hc), xor3l (and_lt ha) (and_lt ha) (and_lt hb)]; rfl
theorem rx_eq {v : List Nat} (h : W8 v) {k w : Nat} (hk : k < 2 ^ 32) (hw : w < 2 ^ 32) :
    Int.tmod (IntKind.u64.wrap (IntKind.u64.wrap (IntKind.u64.wrap (IntKind.u64.wrap (((v.getD 7 0 : Nat) : Int) + bitsOf .xor .u64 (bitsOf .xor .u64 ((Sha.rotr (v.getD 4 0) 6 : Nat) : Int) ((Sha.rotr (v.getD 4 0) 11 : Nat) : Int)) ((Sha.rotr (v.getD 4 0) 25 : Nat) : Int))
      + bitsOf .xor .u64 (bitsOf .and .u64 ((v.getD 4 0 : Nat) : Int) ((v.getD 5 0 : Nat) : Int)) (bitsOf .and .u64 (IntKind.u64.wrap (4294967295 - ((v.getD 4 0 : Nat) : Int))) ((v.getD 6 0 : Nat) : Int))) + (k : Int)) + (w : Int))) 4294967296
      = (((v.getD 7 0 + Sha.S1 (v.getD 4 0) + Sha.ch (v.getD 4 0) (v.getD 5 0) (v.getD 6 0) + k + w) % Sha.M : Nat) : Int) := by
  have h7 := h.lt 7
  have hs : Sha.S1 (v.getD 4 0) < 2 ^ 32 := xor3_lt (rotr_lt (h.lt 4)) (rotr_lt (h.lt 4)) (rotr_lt (h.lt 4))
  have hc : Sha.ch (v.getD 4 0) (v.getD 5 0) (v.getD 6 0) < 2 ^ 32 := Nat.xor_lt_two_pow (and_lt (h.lt 4)) (and_lt (by have := h.lt 4; omega))
  rw [xor3l (rotr_lt (h.lt 4)) (rotr_lt (h.lt 4)) (rotr_lt (h.lt 4)), rch_eq (h.lt 4) (h.lt 5) (h.lt 6)]
  have e : (((Sha.rotr (v.getD 4 0) 6 ^^^ Sha.rotr (v.getD 4 0) 11 ^^^ Sha.rotr (v.getD 4 0) 25 : Nat) : Int)) = ((Sha.S1 (v.getD 4 0) : Nat) : Int) := rfl
  rw [e]
  generalize Sha.S1 (v.getD 4 0) = a at *
  generalize Sha.ch (v.getD 4 0) (v.getD 5 0) (v.getD 6 0) = b at *
  generalize v.getD 7 0 = c at *
  rw [wu (n := (c : Int) + (a : Int)) (by omega) (by omega), wu (n := (c : Int) + (a : Int) + (b : Int)) (by omega) (by omega), wu (n := (c : Int) + (a : Int) + (b : Int) + (k : Int)) (by omega) (by omega), wu (by omega) (by omega)]
  rw [← Int.natCast_add, ← Int.natCast_add, ← Int.natCast_add, ← Int.natCast_add, show (4294967296 : Int) = ((4294967296 : Nat) : Int) from rfl, tmod_nat]
theorem rxy_eq {v : List Nat} (h : W8 v) {x : Nat} (hx : x < 2 ^ 32) : Int.tmod (IntKind.u64.wrap (IntKind.u64.wrap ((x : Int) + bitsOf .xor .u64 (bitsOf .xor .u64 ((Sha.rotr (v.getD 0 0) 2 : Nat) : Int) ((Sha.rotr (v.getD 0 0) 13 : Nat) : Int)) ((Sha.rotr (v.getD 0 0) 22 : Nat) : Int)) + bitsOf .xor .u64 (bitsOf .xor .u64 (bitsOf .and .u64 ((v.getD 0 0 : Nat) : Int) ((v.getD 1 0 : Nat) : Int)) (bitsOf .and .u64 ((v.getD 0 0 : Nat) : Int) ((v.getD 2 0 : Nat) : Int))) (bitsOf .and .u64 ((v.getD 1 0 : Nat) : Int) ((v.getD 2 0 : Nat) : Int)))) 4294967296 = (((x + (Sha.S0 (v.getD 0 0) + Sha.maj (v.getD 0 0) (v.getD 1 0) (v.getD 2 0)) % Sha.M) % Sha.M : Nat) : Int) := by
  have hs : Sha.S0 (v.getD 0 0) < 2 ^ 32 := xor3_lt (rotr_lt (h.lt 0)) (rotr_lt (h.lt 0)) (rotr_lt (h.lt 0))
  have hc : Sha.maj (v.getD 0 0) (v.getD 1 0) (v.getD 2 0) < 2 ^ 32 := xor3_lt (and_lt (h.lt 0)) (and_lt (h.lt 0)) (and_lt (h.lt 1))
  rw [xor3l (rotr_lt (h.lt 0)) (rotr_lt (h.lt 0)) (rotr_lt (h.lt 0)), rmaj_eq (h.lt 0) (h.lt 1) (h.lt 2)]
  have e : (((Sha.rotr (v.getD 0 0) 2 ^^^ Sha.rotr (v.getD 0 0) 13 ^^^ Sha.rotr (v.getD 0 0) 22 : Nat) : Int)) = ((Sha.S0 (v.getD 0 0) : Nat) : Int) := rfl
  rw [e]
  generalize Sha.S0 (v.getD 0 0) = a at *
  generalize Sha.maj (v.getD 0 0) (v.getD 1 0) (v.getD 2 0) = b at *
  rw [wu (n := (x : Int) + (a : Int)) (by omega) (by omega), wu (by omega) (by omega), ← Int.natCast_add, ← Int.natCast_add, show (4294967296 : Int) = ((4294967296 : Nat) : Int) from rfl, tmod_nat]
  congr 1
  show (x + a + b) % 4294967296 = (x + (a + b) % 4294967296) % 4294967296
  omega
theorem rd_eq {d x : Nat} (hd : d < 2 ^ 32) (hx : x < 2 ^ 32) : Int.tmod (IntKind.u64.wrap ((d : Int) + (x : Int))) 4294967296 = (((d + x) % Sha.M : Nat) : Int) := by
  rw [wu (by omega) (by omega), ← Int.natCast_add, show (4294967296 : Int) = ((4294967296 : Nat) : Int) from rfl, tmod_nat]
theorem rstep_eq {v : List Nat} (h : W8 v) {k w : Nat} (hk : k < 2 ^ 32) (hw : w < 2 ^ 32) : [Int.tmod (IntKind.u64.wrap (IntKind.u64.wrap (Int.tmod (IntKind.u64.wrap (IntKind.u64.wrap (IntKind.u64.wrap (IntKind.u64.wrap (((v.getD 7 0 : Nat) : Int) + bitsOf .xor .u64 (bitsOf .xor .u64 ((Sha.rotr (v.getD 4 0) 6 : Nat) : Int) ((Sha.rotr (v.getD 4 0) 11 : Nat) : Int)) ((Sha.rotr (v.getD 4 0) 25 : Nat) : Int))
      + bitsOf .xor .u64 (bitsOf .and .u64 ((v.getD 4 0 : Nat) : Int) ((v.getD 5 0 : Nat) : Int)) (bitsOf .and .u64 (IntKind.u64.wrap (4294967295 - ((v.getD 4 0 : Nat) : Int))) ((v.getD 6 0 : Nat) : Int))) + (k : Int)) + (w : Int))) 4294967296 + bitsOf .xor .u64 (bitsOf .xor .u64 ((Sha.rotr (v.getD 0 0) 2 : Nat) : Int) ((Sha.rotr (v.getD 0 0) 13 : Nat) : Int)) ((Sha.rotr (v.getD 0 0) 22 : Nat) : Int)) + bitsOf .xor .u64 (bitsOf .xor .u64 (bitsOf .and .u64 ((v.getD 0 0 : Nat) : Int) ((v.getD 1 0 : Nat) : Int)) (bitsOf .and .u64 ((v.getD 0 0 : Nat) : Int) ((v.getD 2 0 : Nat) : Int))) (bitsOf .and .u64 ((v.getD 1 0 : Nat) : Int) ((v.getD 2 0 : Nat) : Int)))) 4294967296,
      ((v.getD 0 0 : Nat) : Int), ((v.getD 1 0 : Nat) : Int), ((v.getD 2 0 : Nat) : Int), Int.tmod (IntKind.u64.wrap (((v.getD 3 0 : Nat) : Int) + Int.tmod (IntKind.u64.wrap (IntKind.u64.wrap (IntKind.u64.wrap (IntKind.u64.wrap (((v.getD 7 0 : Nat) : Int) + bitsOf .xor .u64 (bitsOf .xor .u64 ((Sha.rotr (v.getD 4 0) 6 : Nat) : Int) ((Sha.rotr (v.getD 4 0) 11 : Nat) : Int)) ((Sha.rotr (v.getD 4 0) 25 : Nat) : Int))
      + bitsOf .xor .u64 (bitsOf .and .u64 ((v.getD 4 0 : Nat) : Int) ((v.getD 5 0 : Nat) : Int)) (bitsOf .and .u64 (IntKind.u64.wrap (4294967295 - ((v.getD 4 0 : Nat) : Int))) ((v.getD 6 0 : Nat) : Int))) + (k : Int)) + (w : Int))) 4294967296)) 4294967296,
      ((v.getD 4 0 : Nat) : Int), ((v.getD 5 0 : Nat) : Int), ((v.getD 6 0 : Nat) : Int)] = nc (Sha.step k w v) := by
  rw [rx_eq h hk hw, rxy_eq h (Nat.mod_lt _ (by decide)), rd_eq (h.lt 3) (Nat.mod_lt _ (by decide))]; rfl
theorem words_getD {b : List Nat} {t j : Nat} (h : j < t) : ∀ {k : Nat}, (Sha.words b t).getD j 0 = (Sha.words b (t + k)).getD j 0
  | 0 => rfl
  | k + 1 => by
    rw [words_getD h (k := k), show t + (k + 1) = (t + k) + 1 by omega, Sha.words]
    have := words_len b (t + k)
    simp only [List.getD_eq_getElem?_getD]
    rw [List.getElem?_append_left (by omega)]
set_option maxHeartbeats 4000000 in
theorem rnext_spec {m : Mem} {b o c : Nat} {bs h : List Nat} (hl : bs.length = 64) (hb : ∀ x ∈ bs, x < 256) (hv : Lb m (.slice (some ⟨b, o, none⟩) 64 c) (nc bs)) (hh : W8 h) :
    Spec Try.prog 22 [.a [.ints .u64 8 (nc h)], .v (.slice (some ⟨b, o, none⟩) 64 c)] m fun r m' => r = [.a [.ints .u64 8 (nc (Sha.block h bs))]] ∧ Sub m m' := by
  refine en22 rfl (goY ?_)
  conv => whnf
  first | refine xretk (rconsts_spec) ?_ | refine xret (rconsts_spec) ?_
  conv => whnf
  intro w hw
  conv => whnf
  refine .mk (ι := Nat) (fun i => 64 - i) (fun i mm => i ≤ 64 ∧ mm = m.set w (wob bs i)) (fun i => [(1, .c (.v (.slice (some ⟨b, o, none⟩) 64 c))), (2, .p 0 0), (4, .p 1 0), (5, .p 2 0), (6, .c (ptrV w)), (7, .p 3 0), (8, .c (i64 i))])
    (fun i => [(54, [.ints .u64 8 (nc h)]), (54, [.ints .u64 8 (List.replicate 8 0)]), (65, [.ints .u64 64 (nc Sha.K)]), (54, [.ints .u64 8 (nc (Sha.rounds (Sha.words bs 64) h i))])]) 0 ⟨by omega, rfl⟩ ?_ ?_
  · conv => whnf
    repeat (refine And.intro (by first | with_reducible rfl | exact congrArg (Value.int _) (wi (by omega) (by omega)) | exact wi (by omega) (by omega) | rfl) ?_; conv => whnf)
    first | exact trivial | exact fun _ _ h => h
  rintro i mm ⟨hi, he⟩
  subst mm
  conv => whnf
  refine ⟨fun h1 => ?_, fun h1 => ?_⟩
  · have h1' := of_decide_eq_true h1
    have hlt : i < 64 := by omega
    have hw8 := rounds_w8 (w := Sha.words bs 64) hh i
    generalize hvv : Sha.rounds (Sha.words bs 64) h i = v at hw8 ⊢
    conv => whnf
    intro o' ho _
    obtain rfl : o' = 0 := by have := ho (by decide); simpa using this
    conv => whnf
    first | refine xretk (rword_spec hl hb (hv.sub (Mem.sub_set _ hw)) (wl_wob (Mem.set_same ..) (by omega)) hlt) ?_ | refine xret (rword_spec hl hb (hv.sub (Mem.sub_set _ hw)) (wl_wob (Mem.set_same ..) (by omega)) hlt) ?_
    conv => whnf
    repeat (refine And.intro (by first | omega | (simp only [times]; omega)) ?_; conv => whnf)
    refine ⟨_, _, _, Mem.set_same .., ⟨by simp [times, LB.cells, Seg.cells, wc_len (show i ≤ 64 by omega)]; omega, by simp⟩, ?_⟩
    simp only [times, Int.toNat_natCast, Nat.mul_one, Nat.zero_add, Mem.set_set, wob_set hlt]
    conv => whnf
    simp only [nc_get, times, Int.toNat_natCast, Nat.zero_add, Nat.zero_mul, Nat.mul_one, Nat.one_mul]
    first | refine xretk (turn_spec (n := 6) (by decide) (by decide) (hw8.lt 4)) ?_ | refine xret (turn_spec (n := 6) (by decide) (by decide) (hw8.lt 4)) ?_
    conv => whnf
    simp only [nc_get]
    first | refine xretk (turn_spec (n := 11) (by decide) (by decide) (hw8.lt 4)) ?_ | refine xret (turn_spec (n := 11) (by decide) (by decide) (hw8.lt 4)) ?_
    conv => whnf
    simp only [nc_get]
    first | refine xretk (turn_spec (n := 25) (by decide) (by decide) (hw8.lt 4)) ?_ | refine xret (turn_spec (n := 25) (by decide) (by decide) (hw8.lt 4)) ?_
    conv => whnf
    simp only [nc_get, times, Int.toNat_natCast, Nat.zero_add, Nat.zero_mul, Nat.mul_one, Nat.one_mul]
    repeat (refine And.intro (by first | omega | (simp only [times]; omega)) ?_; conv => whnf)
    refine ⟨_, by have := (wl_wob (b := w) (bs := bs) (i := i + 1) (m := m.set w (wob bs (i + 1))) (Mem.set_same ..) (by omega)).get (j := i) (by rw [words_len]; omega); simp only [times, Int.toNat_natCast, Nat.mul_one]; exact this, rfl, ?_⟩
    conv => whnf
    simp only [nc_get, times, Int.toNat_natCast, Nat.zero_add, Nat.zero_mul, Nat.mul_one, Nat.one_mul]
    first | refine xretk (turn_spec (n := 2) (by decide) (by decide) (hw8.lt 0)) ?_ | refine xret (turn_spec (n := 2) (by decide) (by decide) (hw8.lt 0)) ?_
    conv => whnf
    simp only [nc_get]
    first | refine xretk (turn_spec (n := 13) (by decide) (by decide) (hw8.lt 0)) ?_ | refine xret (turn_spec (n := 13) (by decide) (by decide) (hw8.lt 0)) ?_
    conv => whnf
    simp only [nc_get]
    first | refine xretk (turn_spec (n := 22) (by decide) (by decide) (hw8.lt 0)) ?_ | refine xret (turn_spec (n := 22) (by decide) (by decide) (hw8.lt 0)) ?_
    conv => whnf
    simp only [nc_get, times, Int.toNat_natCast, Nat.zero_add, Nat.zero_mul, Nat.mul_one, Nat.one_mul]
    repeat (refine And.intro (by first | omega | (simp only [times]; omega)) ?_; conv => whnf)
    refine ⟨i + 1, ⟨by omega, by trivial⟩, by omega, ?_⟩
    rw [show Sha.rounds (Sha.words bs 64) h (i + 1) = Sha.step (Sha.K.getD i 0) ((Sha.words bs 64).getD i 0) v by rw [← hvv]; rfl]
    conv => whnf
    refine ⟨by rfl, ?_⟩
    conv => whnf
    repeat (refine And.intro (by first | with_reducible rfl | (first | exact congrArg (Value.int _) (iadd (by omega)) | exact (rstep_eq hw8 (getD_lt (by decide) (by decide) _) (words_lt hb _ _)).trans (by rw [words_getD (t := i + 1) (k := 63 - i) (by omega), show i + 1 + (63 - i) = 64 by omega])) | exact congrArg (Value.int _) (wi (by omega) (by omega)) | exact wi (by omega) (by omega) | rfl) ?_; conv => whnf)
    first | exact trivial | exact fun _ _ h => h
  · have h1' := of_decide_eq_false h1
    obtain rfl : i = 64 := by omega
    conv => whnf
    have hw8 := rounds_w8 (w := Sha.words bs 64) hh 64
    have hB : ∀ i : Nat, i < 8 → (((h.getD i 0 + (Sha.rounds (Sha.words bs 64) h 64).getD i 0) % Sha.M : Nat) : Int) = (((Sha.block h bs).getD i 0 : Nat) : Int) := fun i hi => by
      simp [Sha.block, Sha.add8, List.getD_eq_getElem?_getD, List.getElem?_range hi]
    refine .mk (ι := Nat) (fun i => 8 - i) (fun i mm => i ≤ 8 ∧ mm = m.set w (wob bs 64)) (fun i => [(2, .p 0 0), (4, .p 1 0), (7, .p 3 0), (14, .c (i64 i))])
      (fun i => [(54, [.ints .u64 8 ((nc (Sha.block h bs)).take i ++ (nc h).drop i)]), (54, [.ints .u64 8 (List.replicate 8 0)]), (65, [.ints .u64 64 (nc Sha.K)]), (54, [.ints .u64 8 (nc (Sha.rounds (Sha.words bs 64) h 64))])]) 0 ⟨by omega, rfl⟩ ?_ ?_
    · conv => whnf
      repeat (refine And.intro (by first | with_reducible rfl | exact congrArg (Value.int _) (wi (by omega) (by omega)) | exact wi (by omega) (by omega) | rfl) ?_; conv => whnf)
      first | exact trivial | exact fun _ _ h => h
    rintro i mm ⟨hi, he⟩
    subst mm
    generalize Sha.rounds (Sha.words bs 64) h 64 = v at hw8 hB ⊢
    conv => whnf
    refine ⟨fun h1 => ?_, fun h1 => ?_⟩
    · have h1' := of_decide_eq_true h1
      have hlt : i < 8 := by omega
      conv => whnf
      repeat (refine And.intro (by first | omega | (simp only [times]; omega)) ?_; conv => whnf)
      have hmg : ((nc (Sha.block h bs)).take i ++ (nc h).drop i).getD i 0 = ((h.getD i 0 : Nat) : Int) := mix_get8 (x := h) (v := Sha.rounds (Sha.words bs 64) h 64) hh.len hlt
      simp only [hmg, nc_get, times, Int.toNat_natCast, Nat.zero_add, Nat.zero_mul, Nat.mul_one, Nat.one_mul]
      refine ⟨i + 1, ⟨by omega, by trivial⟩, by omega, ?_⟩
      conv => whnf
      repeat (refine And.intro (by first | with_reducible rfl | (first | exact congrArg (Value.int _) (iadd (by omega)) | exact rmix_set hh.len (hh.lt _) (hw8.lt _) (by simp [Sha.block, add8_len]) hlt (hB i hlt)) | exact congrArg (Value.int _) (wi (by omega) (by omega)) | exact wi (by omega) (by omega) | rfl) ?_; conv => whnf)
      first | exact trivial | exact fun _ _ h => h
    · have h1' := of_decide_eq_false h1
      obtain rfl : i = 8 := by omega
      conv => whnf
      refine ⟨?_, Mem.sub_set _ hw⟩
      rw [List.take_of_length_le (by simp [Sha.block, Sha.add8]), List.drop_of_length_le (by simp [hh.len]), List.append_nil]
end Go.E.Ytodgjanekjefbaa

/-
  Contracts of maundref01: padding, the digest, the point.
-/
namespace Go.E.Ytodgjanekjefbaa
open Go.Proofs
set_option maxRecDepth 100000
/-- n in its first step, turned left by bytes -/
def lft (n j : Nat) : Nat := n * 256 ^ j % 18446744073709551616
theorem lft_byte {n j : Nat} (hj : j < 8) : IntKind.u8.wrap (IntKind.u64.wrap (Int.tdiv ((lft n j : Nat) : Int) 72057594037927936)) = ((n / 256 ^ (7 - j) % 256 : Nat) : Int) := by
  have h1 : lft n j < 18446744073709551616 := Nat.mod_lt _ (by decide)
  rw [show (72057594037927936 : Int) = ((72057594037927936 : Nat) : Int) from rfl, tdiv_nat, wu (by omega) (by omega), IntKind.wrap_u8]
  have e : lft n j / 72057594037927936 = n / 256 ^ (7 - j) % 256 := by
    unfold lft
    have h8 : (18446744073709551616 : Nat) = 256 ^ (7 - j) * 256 ^ j * 256 := by rw [← Nat.pow_add, ← Nat.pow_succ, show (7 - j + j).succ = 8 by omega]
    have h7 : (72057594037927936 : Nat) = 256 ^ (7 - j) * 256 ^ j := by rw [← Nat.pow_add, show 7 - j + j = 7 by omega]
    rw [h8, h7, Nat.mul_comm (256 ^ (7 - j)) (256 ^ j), Nat.mul_comm n, Nat.mul_assoc, Nat.mul_mod_mul_left, Nat.mul_div_mul_left _ _ (Nat.pow_pos (by decide)), Nat.mod_mul_right_div_self]
  rw [e]; omega
theorem lft_succ (n j : Nat) : IntKind.u64.wrap (((lft n j : Nat) : Int) * 256) = ((lft n (j + 1) : Nat) : Int) := by
  rw [IntKind.wrap_u64]
  unfold lft
  rw [Nat.pow_succ, ← Nat.mul_assoc]
  generalize n * 256 ^ j = x
  omega
set_option maxHeartbeats 2000000 in
theorem rpad_spec {m : Mem} {v : Value} {l : List Nat} (h : La m v (nc l)) (hb : l.length ≤ 1000000) :
    Spec Try.prog 21 [.v v] m fun r m' => ∃ v' p, r = [.v v'] ∧ Split m' [p, m] ∧ Bs p v' (nc (Sha.pad l)) := by
  obtain ⟨a0, c0, rfl⟩ := h.shape
  have e0 : (nc l).length = l.length := by simp
  rw [e0] at h ⊢
  refine en21 rfl (goY ?_)
  conv => whnf
  refine .mk _ (buildB0) ?_
  rintro _ _ ⟨b0, hb0, rfl, rfl⟩
  conv => whnf
  have hs0 := (Split.one m).new hb0 (.cells #[] 5)
  refine .mk _ (appendBat (i := 0) hs0 rfl (Bs.none0 (blk1_same ..)) (h.sub (Mem.sub_set _ hb0)) (by simp; omega)) ?_
  rintro _ m1 ⟨v1, p1, rfl, hs1, hv1⟩
  conv => whnf
  refine .mk _ (build1) ?_
  rintro _ _ ⟨b', hb', rfl, rfl⟩
  conv => whnf
  refine .mk _ (Bs.one hs1 hb' hv1.own (by simp; omega)) ?_
  rintro _ m2 ⟨v2, p2, rfl, hs2, hv2⟩
  conv => whnf
  have hz : Sha.zeros l.length < 64 := Nat.mod_lt _ (by decide)
  refine .mk (ι := Nat × Value) (fun i => Sha.zeros l.length - i.1) (fun ⟨k, x⟩ mm => k ≤ Sha.zeros l.length ∧ ∃ p, Split mm [p, m] ∧ Bs p x (nc (l ++ [128] ++ List.replicate k 0))) (fun ⟨k, x⟩ => [(0, .c (.v (.slice a0 l.length c0))), (3, .c (.v x))]) (fun _ => []) (0, v2) ⟨by omega, p2, hs2, by simpa using hv2⟩ ?_ ?_
  · conv => whnf
    repeat (refine And.intro (by first | with_reducible rfl | exact congrArg (Value.int _) (wi (by omega) (by omega)) | exact wi (by omega) (by omega) | rfl) ?_; conv => whnf)
    first | exact trivial | exact fun _ _ h => h
  rintro ⟨k, x⟩ mm ⟨hk, p, hs, hx⟩
  obtain ⟨a, c, rfl⟩ := hx.lb.shape
  have hln : (nc (l ++ [128] ++ List.replicate k 0)).length = l.length + 1 + k := by simp; omega
  rw [hln] at hx ⊢
  conv => whnf
  have erem : Int.tmod ((l.length + 1 + k : Nat) : Int) 64 = (((l.length + 1 + k) % 64 : Nat) : Int) := by rw [Int.tmod_eq_emod_of_nonneg (by omega)]; omega
  refine ⟨fun h1 => ?_, fun h1 => ?_⟩
  · have hne : k ≠ Sha.zeros l.length := by
      intro e
      have := (zeros_at hk).2 e
      simp only [erem, this] at h1
      revert h1; decide
    conv => whnf
    refine .mk _ (build1) ?_
    rintro _ _ ⟨b', hb', rfl, rfl⟩
    conv => whnf
    refine .mk _ (Bs.one hs hb' hx (by simp; omega)) ?_
    rintro _ m3 ⟨v3, p3, rfl, hs3, hv3⟩
    conv => whnf
    refine ⟨(k + 1, v3), ⟨by omega, p3, hs3, ?_⟩, by simp only; omega, ?_⟩
    · have e : nc (l ++ [128] ++ List.replicate (k + 1) 0) = nc (l ++ [128] ++ List.replicate k 0) ++ [0] := by
        rw [List.replicate_succ', ← List.append_assoc, nc_append]; rfl
      rw [e]; exact hv3
    · conv => whnf
      repeat (refine And.intro (by first | with_reducible rfl | exact congrArg (Value.int _) (wi (by omega) (by omega)) | exact wi (by omega) (by omega) | rfl) ?_; conv => whnf)
      first | exact trivial | exact fun _ _ h => h
  · have hke : k = Sha.zeros l.length := by
      refine (zeros_at hk).1 ?_
      simp only [erem] at h1
      have := h1
      simp at this
      omega
    subst hke
    conv => whnf
    have en : IntKind.u64.wrap (8 * IntKind.u64.wrap ((l.length : Nat) : Int)) = ((lft (8 * l.length) 0 : Nat) : Int) := by
      rw [wu (n := ((l.length : Nat) : Int)) (by omega) (by omega), wu (by omega) (by omega)]
      unfold lft; omega
    rw [en]
    refine .mk (ι := Nat × Value) (fun i => 8 - i.1) (fun ⟨j, x⟩ mm => j ≤ 8 ∧ ∃ p, Split mm [p, m] ∧ Bs p x (nc (l ++ [128] ++ List.replicate (Sha.zeros l.length) 0 ++ (Sha.be8 (8 * l.length)).take j))) (fun ⟨j, x⟩ => [(3, .c (.v x)), (4, .c (u64 ((lft (8 * l.length) j : Nat) : Int))), (5, .c (i64 j))]) (fun _ => []) (0, _) ⟨by omega, p, hs, by simpa using hx⟩ ?_ ?_
    · conv => whnf
      repeat (refine And.intro (by first | with_reducible rfl | exact congrArg (Value.int _) (wi (by omega) (by omega)) | exact wi (by omega) (by omega) | rfl) ?_; conv => whnf)
      first | exact trivial | exact fun _ _ h => h
    rintro ⟨j, x⟩ mm ⟨hj, p, hs, hx⟩
    conv => whnf
    refine ⟨fun h2 => ?_, fun h2 => ?_⟩
    · have h2' := of_decide_eq_true h2
      have hjt : j < 8 := by omega
      conv => whnf
      rw [lft_byte hjt]
      refine .mk _ (build1) ?_
      rintro _ _ ⟨b', hb', rfl, rfl⟩
      conv => whnf
      refine .mk _ (Bs.one hs hb' hx (by simp [be8_len]; omega)) ?_
      rintro _ m3 ⟨v3, p3, rfl, hs3, hv3⟩
      conv => whnf
      refine ⟨(j + 1, v3), ⟨by omega, p3, hs3, ?_⟩, by simp only; omega, ?_⟩
      · have e : nc (l ++ [128] ++ List.replicate (Sha.zeros l.length) 0 ++ (Sha.be8 (8 * l.length)).take (j + 1)) = nc (l ++ [128] ++ List.replicate (Sha.zeros l.length) 0 ++ (Sha.be8 (8 * l.length)).take j) ++ [((8 * l.length / 256 ^ (7 - j) % 256 : Nat) : Int)] := by
          rw [← be8_take hjt, ← List.append_assoc, nc_append (l ++ [128] ++ List.replicate (Sha.zeros l.length) 0 ++ (Sha.be8 (8 * l.length)).take j)]; rfl
        rw [e]; exact hv3
      · conv => whnf
        repeat (refine And.intro (by first | with_reducible rfl | (first | exact congrArg (Value.int _) (lft_succ ..) | exact congrArg (Value.int _) (iadd (by omega))) | exact congrArg (Value.int _) (wi (by omega) (by omega)) | exact wi (by omega) (by omega) | rfl) ?_; conv => whnf)
        first | exact trivial | exact fun _ _ h => h
    · have h2' := of_decide_eq_false h2
      obtain rfl : j = 8 := by omega
      conv => whnf
      rw [List.take_of_length_le (by rw [be8_len]; omega)] at hx
      exact ⟨_, p, rfl, hs, hx⟩
theorem Lb.cut {m : Mem} {b o n c c' : Nat} {l : List Int} (h : Lb m (.slice (some ⟨b, o, none⟩) n c) l) (i len : Nat) (hk : i + len ≤ l.length) (hc : len ≤ c') : Lb m (.slice (some ⟨b, o + i, none⟩) len c') ((l.drop i).take len) := by
  rcases h.cases with ⟨c, h1, h2⟩ | ⟨b', o', c', arr, t, fr, h1, h2, h3, h4⟩
  · cases h1
  · cases h1
    refine Lb.mk h2 (by simp; omega) hc (fun j x hj => ?_)
    rw [List.getElem?_take] at hj
    split at hj
    · rw [List.getElem?_drop] at hj
      rw [Nat.add_assoc]; exact h4 _ _ hj
    · cases hj
theorem dgc_set' {h : List Nat} {i : Nat} {x : Int} (hi : i < 32) (hx : x = ((h.getD (i / 4) 0 / 256 ^ (3 - i % 4) % 256 : Nat) : Int)) : (dgc h i).set i x = dgc h (i + 1) := by
  have := dgc_set (h := h) (i := i / 4) (k := i % 4) (by omega) (by omega)
  rw [show 4 * (i / 4) + i % 4 = i by omega, show 4 * (i / 4) + (i % 4 + 1) = i + 1 by omega] at this
  rw [hx]; exact this
theorem rbyte_eq {x i : Nat} (hk : i < 32) : IntKind.u8.wrap (shrOf .u64 (x : Int) (IntKind.i64.wrap (24 - IntKind.i64.wrap (8 * Int.tmod (i : Int) 4)))) = ((x / 256 ^ (3 - i % 4) % 256 : Nat) : Int) := by
  have e1 : IntKind.i64.wrap (24 - IntKind.i64.wrap (8 * Int.tmod (i : Int) 4)) = ((8 * (3 - i % 4) : Nat) : Int) := by
    rw [show (4 : Int) = ((4 : Nat) : Int) from rfl, tmod_nat, wi (n := 8 * ((i % 4 : Nat) : Int)) (by omega) (by omega), wi (by omega) (by omega)]; omega
  rw [e1, shr_nat (by show 8 * (3 - i % 4) ≤ 64; omega), IntKind.wrap_u8]
  have : 2 ^ (8 * (3 - i % 4)) = 256 ^ (3 - i % 4) := by rw [show (256 : Nat) = 2 ^ 8 from rfl, ← Nat.pow_mul]
  rw [this]; rfl
set_option maxHeartbeats 4000000 in
theorem rsum_spec {m : Mem} {v : Value} {l : List Nat} (hv : La m v (nc l)) (hb : l.length ≤ 1000000) (h256 : ∀ x ∈ l, x < 256) :
    Spec Try.prog 9 [.v v] m fun r m' => r = [.a [.ints .u8 32 (nc (Sha.sum l))]] ∧ Sub m m' := by
  refine en9 rfl (goY ?_)
  conv => whnf
  refine xcall (rpad_spec hv hb) ?_
  rintro _ m1 ⟨v', p, rfl, hs1, hv1⟩
  conv => whnf
  have hpl := pad_len l
  have hpe := pad_le l
  have hne : nc (Sha.pad l) ≠ [] := by simp [nc, Sha.pad]
  obtain ⟨b, o, c, rfl⟩ := hv1.lb.real hne
  have hcap := Lb.cap hv1.lb
  have hl1 : (nc (Sha.pad l)).length = (Sha.pad l).length := by simp
  obtain ⟨n, hn2⟩ : ∃ n, n = (Sha.pad l).length / 64 := ⟨_, rfl⟩
  rw [← hn2] at hpl
  rw [hl1] at hcap
  have hlb := hv1.lb.sub (hs1.sub (a := p) (by simp))
  have hsub : Sub m m1 := hs1.sub (by simp)
  rw [hl1, hpl] at hlb ⊢
  rw [hpl] at hcap
  refine .mk (ι := Nat) (fun k => n - k) (fun k mm => k ≤ n ∧ Sub m1 mm) (fun k => [(2, .p 0 0), (3, .p 1 0), (4, .c (.v (.slice (some ⟨b, o, none⟩) (64 * n) c))), (5, .c (i64 ((64 * k : Nat) : Int)))])
    (fun k => [(24, [.ints .u8 32 (List.replicate 32 0)]), (54, [.ints .u64 8 (nc (Sha.blocks Sha.H0 k (Sha.pad l)))])]) 0 ⟨by omega, Sub.refl _⟩ ?_ ?_
  · conv => whnf
    repeat (refine And.intro (by first | with_reducible rfl | exact congrArg (Value.int _) (wi (by omega) (by omega)) | exact wi (by omega) (by omega) | rfl) ?_; conv => whnf)
    first | exact trivial | exact fun _ _ h => h
  rintro k mm ⟨hk, hs⟩
  have hw := blocks_w8 H0_w8 (Sha.pad l) k
  conv => whnf
  refine ⟨fun h1 => ?_, fun h1 => ?_⟩
  · have h1' := of_decide_eq_true h1
    have hlt : k < n := by omega
    have e1 : IntKind.i64.wrap (((64 * k : Nat) : Int) + 64) = ((64 * k + 64 : Nat) : Int) := by rw [wi (by omega) (by omega)]; omega
    conv => whnf
    rw [e1]
    repeat (refine And.intro (by first | omega | (simp only [times]; omega)) ?_; conv => whnf)
    intro o1 ho1 _
    obtain rfl : o1 = o + 64 * k := by have := ho1 (by omega); rw [Int.toNat_natCast] at this; simpa using this
    simp only [Int.toNat_natCast]
    have hpc := Lb.cut (c' := c - 64 * k) (hlb.sub hs) (64 * k) 64 (by rw [hl1]; omega) (by omega)
    have e3 : ((nc (Sha.pad l)).drop (64 * k)).take 64 = nc (((Sha.pad l).drop (64 * k)).take 64) := by simp only [nc, List.map_drop, List.map_take]
    rw [e3] at hpc
    rw [show 64 * k + 64 - 64 * k = 64 by omega]
    refine xcall (rnext_spec (by simp; omega) (fun x hx => pad_byte h256 x (List.mem_of_mem_drop (List.mem_of_mem_take hx))) hpc hw) ?_
    rintro _ m2 ⟨rfl, hs2⟩
    conv => whnf
    rw [← blocks_succ]
    refine ⟨k + 1, ⟨by omega, hs.trans hs2⟩, by omega, ?_⟩
    conv => whnf
    repeat (refine And.intro (by first | with_reducible rfl | ((first | exact congrArg (Value.int _) (by omega))) | exact congrArg (Value.int _) (wi (by omega) (by omega)) | exact wi (by omega) (by omega) | rfl) ?_; conv => whnf)
    first | exact trivial | exact fun _ _ h => h
  · have h1' := of_decide_eq_false h1
    obtain rfl : k = n := by omega
    conv => whnf
    have hsm : Sha.sum l = Sha.digest (Sha.blocks Sha.H0 k (Sha.pad l)) := by rw [Sha.sum, ← hn2]
    rw [hsm]
    generalize Sha.blocks Sha.H0 k (Sha.pad l) = h at hw ⊢
    refine .mk (ι := Nat) (fun k => 32 - k) (fun k m' => k ≤ 32 ∧ m' = mm) (fun k => [(2, .p 0 0), (3, .p 1 0), (6, .p 2 0), (7, .c (i64 k))])
      (fun k => [(24, [.ints .u8 32 (List.replicate 32 0)]), (54, [.ints .u64 8 (nc h)]), (24, [.ints .u8 32 (dgc h k)])]) 0 ⟨by omega, rfl⟩ ?_ ?_
    · conv => whnf
      repeat (refine And.intro (by first | with_reducible rfl | exact congrArg (Value.int _) (wi (by omega) (by omega)) | exact wi (by omega) (by omega) | rfl) ?_; conv => whnf)
      first | exact trivial | exact fun _ _ h => h
    rintro i m' ⟨hi, he⟩
    subst m'
    conv => whnf
    refine ⟨fun h2 => ?_, fun h2 => ?_⟩
    · have h2' := of_decide_eq_true h2
      have hlt : i < 32 := by omega
      have e1 : Int.tdiv (i : Int) 4 = ((i / 4 : Nat) : Int) := tdiv_nat i 4
      have e2 : IntKind.i64.wrap ((i / 4 : Nat) : Int) = ((i / 4 : Nat) : Int) := wi (by omega) (by omega)
      conv => whnf
      rw [e1, e2]
      repeat (refine And.intro (by first | omega | (simp only [times]; omega)) ?_; conv => whnf)
      simp only [nc_get, times, Int.toNat_natCast, Nat.zero_add, Nat.zero_mul, Nat.mul_one, Nat.one_mul]
      refine ⟨by rw [show (4 : Int) = ((4 : Nat) : Int) from rfl, tmod_nat, wi (n := 8 * ((i % 4 : Nat) : Int)) (by omega) (by omega), wi (by omega) (by omega)]; omega, ?_⟩
      conv => whnf
      repeat (refine And.intro (by first | omega | (simp only [times]; omega)) ?_; conv => whnf)
      refine ⟨i + 1, ⟨by omega, by trivial⟩, by omega, ?_⟩
      conv => whnf
      repeat (refine And.intro (by first | with_reducible rfl | (first | exact congrArg (Value.int _) (iadd (by omega)) | exact dgc_set' hlt (rbyte_eq hlt)) | exact congrArg (Value.int _) (wi (by omega) (by omega)) | exact wi (by omega) (by omega) | rfl) ?_; conv => whnf)
      first | exact trivial | exact fun _ _ h => h
    · have h2' := of_decide_eq_false h2
      obtain rfl : i = 32 := by omega
      conv => whnf
      refine ⟨?_, hsub.trans hs⟩
      rw [dgc, List.take_of_length_le (by simp [digest_len])]; simp
theorem rpt_or {l : List Nat} {i : Nat} (hi : i < 8) : IntKind.u64.wrap (IntKind.u64.wrap (256 * ((pt l i : Nat) : Int)) + IntKind.u64.wrap (((Sha.sum l).getD i 0 : Nat) : Int)) = ((pt l (i + 1) : Nat) : Int) := by
  have h1 := pt_lt l i
  have h2 : (256 : Nat) ^ i ≤ 256 ^ 7 := Nat.pow_le_pow_right (by decide) (by omega)
  rw [show (256 : Nat) ^ 7 = 72057594037927936 from rfl] at h2
  have h3 := sum_lt l i
  rw [pt_succ]
  generalize pt l i = x at h1 ⊢
  generalize (Sha.sum l).getD i 0 = y at h3 ⊢
  rw [wu (n := (y : Int)) (by omega) (by omega), wu (n := 256 * (x : Int)) (by omega) (by omega), wu (by omega) (by omega)]; omega
set_option maxHeartbeats 4000000 in
theorem rpoint_spec {m : Mem} {v : Value} {l : List Nat} (hv : La m v (nc l)) (hb : l.length ≤ 1000000) (h256 : ∀ x ∈ l, x < 256) :
    Spec Try.prog 11 [.v v] m fun r m' => r = [.v (.int .u64 ((Sha.point l : Nat) : Int))] ∧ Sub m m' := by
  refine en11 rfl (goY ?_)
  conv => whnf
  refine xcall (rsum_spec hv hb h256) ?_
  rintro _ m1 ⟨rfl, hs1⟩
  conv => whnf
  refine .mk (ι := Nat) (fun i => 8 - i) (fun i mm => i ≤ 8 ∧ mm = m1) (fun i => [(3, .p 0 0), (4, .c (.v (.int .u64 ((pt l i : Nat) : Int)))), (5, .c (i64 i))]) (fun _ => [(24, [.ints .u8 32 (nc (Sha.sum l))])]) 0 ⟨by omega, rfl⟩ ?_ ?_
  · conv => whnf
    repeat (refine And.intro (by first | with_reducible rfl | exact congrArg (Value.int _) (wi (by omega) (by omega)) | exact wi (by omega) (by omega) | rfl) ?_; conv => whnf)
    first | exact trivial | exact fun _ _ h => h
  rintro i mm ⟨hi, he⟩
  subst mm
  conv => whnf
  refine ⟨fun h1 => ?_, fun h1 => ?_⟩
  · have h1' := of_decide_eq_true h1
    have hlt : i < 8 := by omega
    conv => whnf
    repeat (refine And.intro (by first | omega | (simp only [times]; omega)) ?_; conv => whnf)
    simp only [nc_get, times, Int.toNat_natCast, Nat.zero_add, Nat.zero_mul, Nat.mul_one, Nat.one_mul]
    refine ⟨i + 1, ⟨by omega, by trivial⟩, by omega, ?_⟩
    conv => whnf
    repeat (refine And.intro (by first | with_reducible rfl | (first | exact congrArg (Value.int _) (iadd (by omega)) | exact congrArg (Value.int _) (rpt_or hlt)) | exact congrArg (Value.int _) (wi (by omega) (by omega)) | exact wi (by omega) (by omega) | rfl) ?_; conv => whnf)
    first | exact trivial | exact fun _ _ h => h
  · have h1' := of_decide_eq_false h1
    obtain rfl : i = 8 := by omega
    conv => whnf
    exact ⟨rfl, hs1⟩
end Go.E.Ytodgjanekjefbaa

/-
  Law ShaSums.
-/
namespace Go.E.Ytodgjanekjefbaa
open Go.Proofs
set_option maxRecDepth 100000
theorem bs_nc {l : List Nat} (p : Mem) (v : Value) (h : Bs p v (nc l)) : La p v (nc l) := h.lb.la
set_option maxHeartbeats 4000000 in
theorem shaSums_spec {m : Mem} {v w : Value} {l k : List Nat} (hv : La m v (nc l)) (hw : La m w (nc k)) (hl : ∀ x ∈ l, x < 256) (hk : ∀ x ∈ k, x < 256) : Spec Try.prog 3 [.v v, .v w] m fun r m' => r = [boolV true] ∧ Sub m m' := by
  obtain ⟨a, c, rfl⟩ := hv.shape
  obtain ⟨aw, cw, rfl⟩ := hw.shape
  have e1 : (nc l).length = l.length := by simp
  have e2 : (nc k).length = k.length := by simp
  rw [e1] at hv ⊢
  rw [e2] at hw ⊢
  refine en3 rfl (goY ?_)
  conv => whnf
  refine ⟨fun h => ?_, fun h => ?_⟩
  · conv => whnf
    refine xcall (alive_in) ?_
    rintro _ m1 ⟨rfl, hs⟩
    conv => whnf
    exact ⟨rfl, hs⟩
  have h' := of_decide_eq_false h
  conv => whnf
  refine ⟨fun h2 => ?_, fun h2 => ?_⟩
  · conv => whnf
    refine xcall (alive_in) ?_
    rintro _ m1 ⟨rfl, hs⟩
    conv => whnf
    exact ⟨rfl, hs⟩
  have h2' := of_decide_eq_false h2
  conv => whnf
  refine .mk _ (buildB0) ?_
  rintro _ _ ⟨b0, hb0, rfl, rfl⟩
  conv => whnf
  have hs0 := (Split.one m).new hb0 (.cells #[] 5)
  refine .mk _ (appendBat (i := 0) hs0 rfl (Bs.none0 (blk1_same ..)) (hv.sub (Mem.sub_set _ hb0)) (by simp; omega)) ?_
  rintro _ m1 ⟨v1, p1, rfl, hs1, hv1⟩
  conv => whnf
  refine .mk _ (appendBat (i := 0) hs1 rfl hv1.own (hw.sub (hs1.sub (by simp))) (by simp; omega)) ?_
  rintro _ m2 ⟨v2, p2, rfl, hs2, hv2⟩
  conv => whnf
  have hm2 : Sub m m2 := hs2.sub (by simp)
  have hp2 : Sub p2 m2 := hs2.sub (by simp)
  have hv2 := hv2.own
  rw [List.nil_append, ← nc_append] at hv2
  have hlk : ∀ x ∈ l ++ k, x < 256 := fun x hx => (List.mem_append.1 hx).elim (hl x) (hk x)
  refine xcall (alive_in) ?_
  rintro _ m3 ⟨rfl, hs3⟩
  conv => whnf
  refine ⟨fun _ => ?_, fun h => absurd h (by decide)⟩
  conv => whnf
  have hm3 := hm2.trans hs3
  refine .mk _ (buildL1) ?_
  rintro _ _ ⟨b1, hb1, rfl, rfl⟩
  conv => whnf
  have hm4 := hm3.trans (Mem.sub_set (.cells #[.slice a l.length c] 22) hb1)
  refine xcall (sum_spec (l := l) (Lists.one (Mem.set_same ..) (hv.sub hm4)) catB1 (by omega) (by simp) hl) ?_
  rintro _ m5 ⟨rfl, hs5⟩
  conv => whnf
  have hm5 := hm4.trans hs5
  refine xcall (rsum_spec (hv.sub hm5) (by omega) hl) ?_
  rintro _ m6 ⟨rfl, hs6⟩
  conv => whnf
  have hm6 := hm5.trans hs6
  refine ⟨fun _ => ?_, fun h => absurd h (by simp [eqLB_dg])⟩
  conv => whnf
  refine .mk _ (buildL2) ?_
  rintro _ _ ⟨b7, hb7, rfl, rfl⟩
  conv => whnf
  have hm7 := hm6.trans (Mem.sub_set (.cells #[.slice a l.length c, .slice aw k.length cw] 22) hb7)
  refine xcall (sum_spec (l := l ++ k) (Lists.two (Mem.set_same ..) (hv.sub hm7) (hw.sub hm7)) catB2 (by simp; omega) (by simp) hlk) ?_
  rintro _ m8 ⟨rfl, hs8⟩
  conv => whnf
  have hm8 := hm7.trans hs8
  have hv8 : Bs m8 v2 (nc (l ++ k)) := hv2.sub (hp2.trans (hs3.trans ((Mem.sub_set (.cells #[.slice a l.length c] 22) hb1).trans (hs5.trans (hs6.trans ((Mem.sub_set (.cells #[.slice a l.length c, .slice aw k.length cw] 22) hb7).trans hs8))))))
  refine xcall (rsum_spec hv8.lb.la (by simp; omega) hlk) ?_
  rintro _ m9 ⟨rfl, hs9⟩
  conv => whnf
  have hm9 := hm8.trans hs9
  refine ⟨fun _ => ?_, fun h => absurd h (by simp [eqLB_dg])⟩
  conv => whnf
  refine xcall (point_spec (hv.sub hm9) (by omega) hl) ?_
  rintro _ m10 ⟨rfl, hs10⟩
  conv => whnf
  have hm10 := hm9.trans hs10
  refine xcall (rpoint_spec (hv.sub hm10) (by omega) hl) ?_
  rintro _ m11 ⟨rfl, hs11⟩
  conv => whnf
  exact ⟨by simp, hm10.trans hs11⟩
end Go.E.Ytodgjanekjefbaa

/-
  More operations: the bytes of a text that is no constant.
-/
namespace Go.E
/-- the bytes of a text, as numbers -/
def chs (s : ByteArray) : List Nat := s.data.toList.map UInt8.toNat
theorem chs_len (s : ByteArray) : (chs s).length = s.size := by simp [chs]
theorem chs_lt (s : ByteArray) : ∀ x ∈ chs s, x < 256 := by
  intro x hx
  simp only [chs, List.mem_map] at hx
  obtain ⟨a, _, rfl⟩ := hx
  exact a.toNat_lt
section
variable {P : Program} {T : Tab}
theorem convStr_spec (hT : TabOk P T) {t t' e : TypeId} {ti' ti ei : TI} (ht' : T t' = some ti') (ht : T t = some ti) (hk : ti.k = .slice e) (he : T e = some ei) (hek : ei.k = .int .u8) {m : Mem} {s : ByteArray} :
    PrimSpec P (.conv t' t) [.v (.string s)] m fun r m' => ∃ b c o, m b = none ∧ r = [.v (.slice (some ⟨b, 0, none⟩) s.size c)] ∧ m' = m.set b o ∧ Lb m' (.slice (some ⟨b, 0, none⟩) s.size c) ((chs s).map fun (n : Nat) => (n : Int)) := by
  intro hok ty W hW
  have hu := (hT t ti ht).slice hk
  have hue : P.underlying e = some (.int .u8) := by
    obtain ⟨d, h1, h2⟩ := (hT e ei he).desc
    rw [hek] at h2
    cases d <;> simp [TK.of] at h2
    rw [h1, h2]
  obtain ⟨d', hs, _⟩ := (hT t' ti' ht').desc
  have hr := Lib.run_convert_string_bytes (P := P) W t' t e s hs hu hue
  have hsz := Lib.bytesWorld_size W e s
  refine ⟨_, m.set W.heap.size (.cells (Lib.bytesCells W e s) e ((Lib.bytesCells W e s).size, (Lib.bytesCells W e s).size + 1)), Lib.bytesWorld W e s, ?_, ?_, ⟨W.heap.size, grownCap W s.size 0 e, _, hW.none (Nat.le_refl _), rfl, rfl, ?_⟩, ?_⟩
  · simpa [Prim.run, resVal, CV.val] using hr
  · intro x hx
    simp at hx; subst hx; rfl
  · have hcap := grownCap_ge W s.size 0 e
    refine Lb.mk (Mem.set_same ..) (by simp [chs]) hcap (fun j n hj => ?_)
    rw [List.getElem?_map] at hj
    obtain ⟨x, hx, rfl⟩ := Option.map_eq_some_iff.1 hj
    simp only [chs, List.getElem?_map] at hx
    obtain ⟨y, hy, rfl⟩ := Option.map_eq_some_iff.1 hx
    have hl := (List.getElem?_eq_some_iff.1 hy).1
    rw [Nat.zero_add, Lib.bytesCells, Array.getElem?_append_left (by simpa using hl), Array.getElem?_map]
    rw [← Array.getElem?_toList, hy]; rfl
  · refine ⟨?_, by rw [hsz]; omega, rfl, rfl, rfl, ?_⟩
    · intro x u hx
      by_cases ex : x = W.heap.size
      · subst ex; rw [Mem.set_same] at hx; cases hx; exact Lib.bytesWorld_at_new W e s
      · rw [Mem.set_ne _ _ ex] at hx
        rw [Lib.bytesWorld_at_old W e s x (hW.lt hx)]; exact hW _ _ hx
    · intro x hx hm
      exact ⟨by rw [Mem.set_ne _ _ (by omega)]; exact hm, Lib.bytesWorld_at_old W e s x hx⟩
end
end Go.E

/-
  Calls that the model answers itself: numbers that are loaded and added to, whole.
-/
namespace Go.E
section
variable {P : Program} {f : FuncId} {fn : Func}
theorem xext {args : List CV} {m : Mem} {R K : List CV → Mem → Prop} (h : ExtSpec P f args m R) (k : ∀ r m', R r m' → K r m') : XCall P f args m K := .ext R h k
theorem ext_load (hf : P.funcs[f]? = some fn) (hname : (fn.name == "runtime.NumGoroutine") = false) (hb : fn.body.isNone = true) (hn : Extern.findNext fn = none) (k : IntKind)
    (he : Extern.find fn = some (Extern.Atomic.loadT (.int k))) {m : Mem} {b off : Nat} {x : Int} (hc : mcell m b off = some (.int k x)) :
    ExtSpec P f [.v (.pointer (some ⟨b, off, none⟩))] m fun r m' => r = [.v (.int k x)] ∧ m' = m := by
  intro _ W hW
  have hcell : W.cell? ⟨b, off, none⟩ = some (.int k x) := by
    unfold mcell at hc
    cases hm : m b with
    | none => simp [hm] at hc
    | some o =>
      cases o with
      | cells arr t fr =>
        simp only [hm] at hc
        rw [cell_at (hW _ _ hm)]; exact hc
      | _ => simp [hm] at hc
  exact ⟨[.v (.int k x)], m, W, run_call_load hf hname hb hn k he hcell, (by intro y hy; simp at hy; subst hy; rfl), ⟨rfl, rfl⟩, After.refl hW⟩
theorem ext_add (hf : P.funcs[f]? = some fn) (hname : (fn.name == "runtime.NumGoroutine") = false) (hb : fn.body.isNone = true) (hn : Extern.findNext fn = none)
    (he : Extern.find fn = some (Extern.Atomic.update (Op.intArith .add) .u64 true)) {m : Mem} {b off : Nat} {x y : Int} {arr : Array Value} {t : TypeId} (hm : m b = some (.cells arr t (0, 0))) (hx : arr[off]? = some (.int .u64 x)) :
    ExtSpec P f [.v (.pointer (some ⟨b, off, none⟩)), .v (.int .u64 y)] m fun r m' => r = [.v (.int .u64 (IntKind.u64.wrap (x + y)))] ∧ m' = m.set b (.cells (arr.setIfInBounds off (.int .u64 (IntKind.u64.wrap (x + y)))) t (0, 0)) := by
  intro _ W hW
  have hg := hW _ _ hm
  have hcell : W.cell? ⟨b, off, none⟩ = some (.int .u64 x) := by rw [cell_at hg]; exact hx
  have hz : W.frozen? ⟨b, off, none⟩ = false := by simp [World.frozen?, hg]
  have hset : W.setCell ⟨b, off, none⟩ (.int .u64 (IntKind.u64.wrap (x + y))) = W.setRow b (arr.setIfInBounds off (.int .u64 (IntKind.u64.wrap (x + y)))) := setCell_eq_setRow W b off arr t (0, 0) _ hg
  have hs : (Op.intArith .add .u64 x y).run P W = .ok (.int .u64 (IntKind.u64.wrap (x + y))) W := by simp [Op.intArith]
  have hr := run_call_add hf hname hb hn .u64 he hcell hz hs
  rw [hset] at hr
  exact ⟨[.v (.int .u64 (IntKind.u64.wrap (x + y)))], _, _, hr, (by intro y hy; simp at hy; subst hy; rfl), ⟨rfl, rfl⟩, (After.refl hW).setRow hm _⟩
end
end Go.E

/-
  Numbers as bytes, plainly: no program in sight.
-/
namespace Go.E

def beF : Nat → Nat → List Nat
  | 0, _ => []
  | f + 1, n => if n = 0 then [] else beF f (n / 256) ++ [n % 256]
theorem div_pow_succ (n i : Nat) : n / 256 ^ (i + 1) = n / 256 / 256 ^ i := by
  rw [Nat.pow_succ, Nat.mul_comm, Nat.div_div_eq_div_mul]
theorem beF_pos : ∀ (f n i : Nat), n < 256 ^ f → (0 < n / 256 ^ i ↔ i < (beF f n).length)
  | 0, n, i, h => by
    have : n = 0 := by simpa using h
    subst this; simp [beF]
  | f + 1, n, i, h => by
    by_cases hn : n = 0
    · subst hn; simp [beF]
    · simp only [beF, hn, if_false, List.length_append, List.length_singleton]
      cases i with
      | zero => simp; omega
      | succ i =>
        rw [div_pow_succ, beF_pos f (n / 256) i (by rw [Nat.pow_succ] at h; exact Nat.div_lt_of_lt_mul (by rw [Nat.mul_comm]; exact h))]
        omega
theorem beF_at : ∀ (f n j : Nat), j < (beF f n).length → (beF f n)[j]? = some (n / 256 ^ ((beF f n).length - 1 - j) % 256)
  | 0, n, j, h => by simp [beF] at h
  | f + 1, n, j, h => by
    by_cases hn : n = 0
    · subst hn; simp [beF] at h
    · simp only [beF, hn, if_false, List.length_append, List.length_singleton] at h ⊢
      by_cases hj : j < (beF f (n / 256)).length
      · rw [List.getElem?_append_left hj, beF_at f (n / 256) j hj]
        rw [show (beF f (n / 256)).length + 1 - 1 - j = (beF f (n / 256)).length - 1 - j + 1 by omega, div_pow_succ]
      · have : j = (beF f (n / 256)).length := by omega
        subst this
        simp
theorem beF_len : ∀ (f n : Nat), (beF f n).length ≤ f
  | 0, _ => by simp [beF]
  | f + 1, n => by
    by_cases hn : n = 0
    · subst hn; simp [beF]
    · simp only [beF, hn, if_false, List.length_append, List.length_singleton]
      have := beF_len f (n / 256); omega
theorem beF_lt : ∀ (f n : Nat), ∀ x ∈ beF f n, x < 256
  | 0, _, x, h => by simp [beF] at h
  | f + 1, n, x, h => by
    by_cases hn : n = 0
    · subst hn; simp [beF] at h
    · simp only [beF, hn, if_false, List.mem_append, List.mem_singleton] at h
      rcases h with h | h
      · exact beF_lt f _ x h
      · omega
theorem beF_val : ∀ (f n : Nat), n < 256 ^ f → (beF f n).foldl (fun a c => 256 * a + c) 0 = n
  | 0, n, h => by simp at h; subst h; simp [beF]
  | f + 1, n, h => by
    by_cases hn : n = 0
    · subst hn; simp [beF]
    · simp only [beF, hn, if_false, List.foldl_append, List.foldl_cons, List.foldl_nil]
      rw [beF_val f (n / 256) (by rw [Nat.pow_succ] at h; exact Nat.div_lt_of_lt_mul (by rw [Nat.mul_comm]; exact h))]
      omega
theorem beF_head : ∀ (f n : Nat), n < 256 ^ f → ∀ x, (beF f n)[0]? = some x → 0 < x := by
  intro f n h x hx
  have hl : 0 < (beF f n).length := (List.getElem?_eq_some_iff.1 hx).1
  rw [beF_at f n 0 hl] at hx
  have hx' : n / 256 ^ ((beF f n).length - 1 - 0) % 256 = x := by simpa using hx
  have h1 := (beF_pos f n ((beF f n).length - 1) h).2 (by omega)
  have h2 : n / 256 ^ ((beF f n).length - 1) < 256 := by
    have h3 : ¬ (0 < n / 256 ^ (beF f n).length) := fun h' => by have := (beF_pos f n _ h).1 h'; omega
    have h4 : n < 256 ^ (beF f n).length := by
      rcases Nat.lt_or_ge n (256 ^ (beF f n).length) with h' | h'
      · exact h'
      · exact absurd (Nat.div_pos h' (Nat.pow_pos (by decide))) h3
    refine Nat.div_lt_of_lt_mul ?_
    rw [← Nat.pow_succ]
    rw [show ((beF f n).length - 1).succ = (beF f n).length by omega]
    exact h4
  simp only [Nat.sub_zero] at hx'
  rw [Nat.mod_eq_of_lt h2] at hx'
  omega
/-- the bytes of a number, without and with their count ahead -/
def beB (n : Int) : List Int := (beF 8 n.toNat).map (fun (x : Nat) => (x : Int))
def numB (n : Int) : List Int := ((beB n).length : Int) :: beB n
def U64 (n : Int) : Prop := 0 ≤ n ∧ n < 18446744073709551616
theorem U64.lt {n : Int} (h : U64 n) : n.toNat < 256 ^ 8 := by have := h.1; have := h.2; omega
theorem beB_len (n : Int) : (beB n).length ≤ 8 := by simp only [beB, List.length_map]; exact beF_len 8 _
theorem fdiv_pow {n : Int} (h : U64 n) (i : Nat) : Int.fdiv n (2 ^ (8 * i)) = ((n.toNat / 256 ^ i : Nat) : Int) := by
  have e : (2 : Int) ^ (8 * i) = ((256 ^ i : Nat) : Int) := by
    rw [Int.pow_mul]; simp
  rw [e, Int.fdiv_eq_ediv_of_nonneg _ (Int.natCast_nonneg _)]
  have : n = (n.toNat : Int) := (Int.toNat_of_nonneg h.1).symm
  rw [this]; simp
theorem beB_at {n : Int} {j : Nat} (hj : j < (beB n).length) : (beB n)[j]? = some ((n.toNat / 256 ^ ((beB n).length - 1 - j) % 256 : Nat) : Int) := by
  simp only [beB, List.length_map] at hj ⊢
  rw [List.getElem?_map, beF_at 8 _ j hj]; rfl
theorem beB_pos {n : Int} (h : U64 n) (i : Nat) : (0 < n.toNat / 256 ^ i ↔ i < (beB n).length) := by
  simp only [beB, List.length_map]; exact beF_pos 8 _ i h.lt
theorem beB_byte (n : Int) : ∀ x ∈ beB n, 0 ≤ x ∧ x < 256 := by
  intro x hx
  simp only [beB, List.mem_map] at hx
  obtain ⟨y, hy, rfl⟩ := hx
  have := beF_lt 8 _ y hy
  omega
theorem numB_byte (n : Int) : ∀ x ∈ numB n, 0 ≤ x ∧ x < 256 := by
  intro x hx
  rcases List.mem_cons.1 hx with rfl | hx
  · have := beB_len n; omega
  · exact beB_byte n x hx
theorem numB_len (n : Int) : (numB n).length ≤ 9 := by have := beB_len n; simp only [numB, List.length_cons]; omega
/-- a whole number as a number -/
def intU (n : Int) : Int := if 0 ≤ n then 2 * n else 2 * (-n - 1) + 1
def textB (b : List Int) : List Int := numB b.length ++ b
def vecB (v : List Int) : List Int := (v.map numB).flatten
end Go.E

/-
  A reader of bytes, plainly: no program in sight.
-/
namespace Go.E

abbrev RS := List Int × Int
def rTake (n : Nat) (s : RS) : List Int × RS :=
  if s.2 ≠ 0 then ([], s) else if s.1.length < n then ([], (s.1, 8)) else (s.1.take n, (s.1.drop n, 0))
def rMust (b : Bool) (s : RS) : RS := if s.2 = 0 ∧ b = false then (s.1, 3) else s
def beN (l : List Int) : Int := l.foldl (fun a c => 256 * a + c) 0
def hd0 (l : List Int) : Int := l.headD 0
def rNum (s : RS) : Int × RS :=
  let (h, s1) := rTake 1 s
  if h = [] then (0, s1) else
  let s2 := rMust (decide (hd0 h ≤ 8)) s1
  let (l, s3) := rTake (hd0 h).toNat s2
  let s4 := rMust (l.isEmpty || decide (0 < hd0 l)) s3
  (if s4.2 ≠ 0 then 0 else beN l, s4)
def rSmall (most : Int) (s : RS) : Int × RS :=
  let (n, s1) := rNum s
  let s2 := rMust (decide (0 ≤ most) && decide (n ≤ max most 0)) s1
  (if s2.2 ≠ 0 then 0 else n, s2)
def rInt (s : RS) : Int × RS :=
  let (n, s1) := rNum s
  let s2 := if n % 2 = 0 then rMust (decide (n / 2 ≤ 4611686018427387904)) s1 else rMust (decide (n / 2 < 4611686018427387904)) s1
  (if s2.2 ≠ 0 then 0 else if n % 2 = 1 then - (n / 2) - 1 else n / 2, s2)
def rText (most : Int) (s : RS) : List Int × RS :=
  let (k, s1) := rSmall most s
  rTake k.toNat s1
def rDigest (s : RS) : List Int × RS :=
  let (b, s1) := rTake 32 s
  (b ++ (List.replicate 32 0).drop b.length, s1)
def rNums : Nat → RS → List Int × RS
  | 0, s => ([], s)
  | k + 1, s => let (l, s1) := rNums k s; let (n, s2) := rNum s1; (l ++ [n], s2)
def rVec (s : RS) : List Int × RS :=
  let (l, s1) := rNums 8 s
  (if s1.2 ≠ 0 then List.replicate 8 0 else l, s1)

/-! ### what is known of it -/
def Byt (l : List Int) : Prop := ∀ x ∈ l, 0 ≤ x ∧ x < 256
theorem Byt.take {l : List Int} (h : Byt l) (n : Nat) : Byt (l.take n) := fun x hx => h x (List.mem_of_mem_take hx)
theorem Byt.drop {l : List Int} (h : Byt l) (n : Nat) : Byt (l.drop n) := fun x hx => h x (List.mem_of_mem_drop hx)
theorem Byt.nil : Byt [] := fun x hx => by cases hx
theorem Byt.append {a b : List Int} (ha : Byt a) (hb : Byt b) : Byt (a ++ b) := fun x hx => (List.mem_append.1 hx).elim (ha x) (hb x)
theorem rTake_byt {n : Nat} {s : RS} (h : Byt s.1) : Byt (rTake n s).1 ∧ Byt (rTake n s).2.1 := by
  unfold rTake; split
  · exact ⟨Byt.nil, h⟩
  · split
    · exact ⟨Byt.nil, h⟩
    · exact ⟨h.take n, h.drop n⟩
theorem rTake_len {n : Nat} {s : RS} : (rTake n s).1.length ≤ n := by
  unfold rTake; split
  · simp
  · split
    · simp
    · simp; omega
theorem rMust_fst {b : Bool} {s : RS} : (rMust b s).1 = s.1 := by unfold rMust; split <;> rfl
theorem rMust_byt {b : Bool} {s : RS} (h : Byt s.1) : Byt (rMust b s).1 := by rw [rMust_fst]; exact h
theorem beN_snoc (l : List Int) (c : Int) : beN (l ++ [c]) = 256 * beN l + c := by simp [beN]
theorem beN_acc : ∀ {l : List Int} {a : Int}, Byt l → 0 ≤ a → 0 ≤ l.foldl (fun a c => 256 * a + c) a ∧ l.foldl (fun a c => 256 * a + c) a < (a + 1) * 256 ^ l.length
  | [], a, _, h => by simp; omega
  | c :: l, a, hb, h => by
    have hc := hb c (by simp)
    have := beN_acc (l := l) (a := 256 * a + c) (fun x hx => hb x (by simp [hx])) (by omega)
    simp only [List.foldl_cons, List.length_cons]
    refine ⟨this.1, Int.lt_of_lt_of_le this.2 ?_⟩
    rw [Int.pow_succ, ← Int.mul_assoc, Int.mul_right_comm]
    exact Int.mul_le_mul_of_nonneg_right (by omega) (Int.le_of_lt (Int.pow_pos (by decide)))
theorem beN_bound {l : List Int} (h : Byt l) : 0 ≤ beN l ∧ beN l < 256 ^ l.length := by
  have := beN_acc (a := 0) h (by omega)
  simpa [beN] using this
theorem beN_U {l : List Int} (h : Byt l) (hl : l.length ≤ 8) : U64 (beN l) := by
  obtain ⟨h1, h2⟩ := beN_bound h
  refine ⟨h1, Int.lt_of_lt_of_le h2 ?_⟩
  have : (256 : Nat) ^ l.length ≤ 256 ^ 8 := Nat.pow_le_pow_right (by decide) hl
  have e : ((256 ^ l.length : Nat) : Int) = (256 : Int) ^ l.length := by simp
  omega
theorem beN_beB {n : Int} (h : U64 n) : beN (beB n) = n := by
  have h1 := beF_val 8 n.toNat h.lt
  have e : ∀ (l : List Nat) (a : Nat), (l.map (fun (x : Nat) => (x : Int))).foldl (fun a c => 256 * a + c) (a : Int) = ((l.foldl (fun a c => 256 * a + c) a : Nat) : Int) := by
    intro l
    induction l with
    | nil => intro a; rfl
    | cons x l ih => intro a; simp only [List.map_cons, List.foldl_cons]; rw [← ih]; simp
  have := e (beF 8 n.toNat) 0
  simp only [beN, beB]
  rw [show (0 : Int) = ((0 : Nat) : Int) from rfl, this, h1]
  have := h.1; omega
theorem rNum_err {s : RS} (h : s.2 ≠ 0) : rNum s = (0, s) := by simp [rNum, rTake, h]
theorem rMust_err {b : Bool} {s : RS} (h : s.2 ≠ 0) : rMust b s = s := by simp [rMust, h]
theorem rSmall_err {most : Int} {s : RS} (h : s.2 ≠ 0) : rSmall most s = (0, s) := by simp [rSmall, rNum_err h, rMust_err h, h]
theorem rInt_err {s : RS} (h : s.2 ≠ 0) : rInt s = (0, s) := by simp [rInt, rNum_err h, rMust_err h, h]
theorem rText_err {most : Int} {s : RS} (h : s.2 ≠ 0) : rText most s = ([], s) := by simp [rText, rSmall_err h, rTake, h]
theorem rNums_err {s : RS} (h : s.2 ≠ 0) : ∀ k, rNums k s = (List.replicate k 0, s)
  | 0 => rfl
  | k + 1 => by simp [rNums, rNums_err h k, rNum_err h, List.replicate_succ']
theorem rVec_err {s : RS} (h : s.2 ≠ 0) : rVec s = (List.replicate 8 0, s) := by simp [rVec, rNums_err h, h]
theorem rDigest_err {s : RS} (h : s.2 ≠ 0) : (rDigest s).2 = s := by simp [rDigest, rTake, h]
/-- a number, read back -/
theorem rNum_back {n : Int} (hn : U64 n) (t : List Int) : rNum (numB n ++ t, 0) = (n, (t, 0)) := by
  have h8 := beB_len n
  have e1 : rTake 1 (numB n ++ t, 0) = ([((beB n).length : Int)], (beB n ++ t, 0)) := by
    simp [rTake, numB]
  have e2 : rTake (beB n).length (beB n ++ t, 0) = (beB n, (t, 0)) := by simp [rTake]
  have e3 : ((beB n).isEmpty || decide (0 < hd0 (beB n))) = true := by
    cases hb : beB n with
    | nil => rfl
    | cons x r =>
      have hf := beF_head 8 n.toNat hn.lt
      have : 0 < x := by
        have hx : (beB n)[0]? = some x := by rw [hb]; rfl
        simp only [beB, List.getElem?_map, Option.map_eq_some_iff] at hx
        obtain ⟨y, h1, rfl⟩ := hx
        have := hf y h1; omega
      simp [hd0, this]
  have h8' : ((beB n).length : Int) ≤ 8 := by omega
  unfold rNum
  rw [e1]
  dsimp only
  rw [if_neg (by simp)]
  have hd : hd0 [((beB n).length : Int)] = (beB n).length := rfl
  have m1 : rMust (decide (((beB n).length : Int) ≤ 8)) (beB n ++ t, 0) = (beB n ++ t, 0) := by simp [rMust, h8']
  rw [hd, m1, Int.toNat_natCast, e2]
  dsimp only
  have m2 : rMust ((beB n).isEmpty || decide (0 < hd0 (beB n))) (t, 0) = (t, 0) := by rw [e3]; simp [rMust]
  rw [m2]
  simp [beN_beB hn]
/-- of less than a number there is none -/
theorem rNum_cut {n : Int} {t : List Int} (k : Nat) (hk : k < (numB n).length) (ht : t = (numB n).take k) : ∃ u, rNum (t, 0) = (0, (u, 8)) := by
  subst ht
  have h8 := beB_len n
  cases k with
  | zero => exact ⟨[], by simp [rNum, rTake]⟩
  | succ k =>
    have hk' : k < (beB n).length := by simpa [numB] using hk
    have e1 : rTake 1 ((numB n).take (k + 1), 0) = ([((beB n).length : Int)], ((beB n).take k, 0)) := by simp [rTake, numB]
    have h8' : ((beB n).length : Int) ≤ 8 := by omega
    have e2 : rTake (beB n).length ((beB n).take k, 0) = ([], ((beB n).take k, 8)) := by simp [rTake]; omega
    have hd : hd0 [((beB n).length : Int)] = (beB n).length := rfl
    have m1 : rMust (decide (((beB n).length : Int) ≤ 8)) ((beB n).take k, 0) = ((beB n).take k, 0) := by simp [rMust, h8']
    refine ⟨(beB n).take k, ?_⟩
    unfold rNum
    rw [e1]
    dsimp only
    rw [if_neg (by simp), hd, m1, Int.toNat_natCast, e2]
    dsimp only
    simp [rMust]
end Go.E

/-
  Bytes that are arguments.
-/
namespace Go.E
theorem dat_la {m : Mem} {cs : List Value} (h : Dat m (.slice (.int .u8)) cs) : ∃ v l, cs = [v] ∧ La m v l ∧ Byt l ∧ l.length ≤ maxLen := by
  obtain ⟨v, l, rfl, h1, h2, h3, h4⟩ := dat_sints h
  exact ⟨v, l, rfl, h1, fun x hx => wf_u8 (h3 x hx), h4⟩
end Go.E

/-
  Lists of bytes that are arguments.
-/
namespace Go.E.Ytodgjanekjefbaa
open Go.Proofs
set_option maxRecDepth 100000
/-- a list of bytes; or none, wherever -/
def LsA (m : Mem) (v : Value) (ps : List (Value × List Int)) : Prop := Lists m v ps ∨ (ps = [] ∧ ∃ a, v = .slice (some a) 0 0)
theorem LsA.shape {m : Mem} {v : Value} {ps : List (Value × List Int)} (h : LsA m v ps) : ∃ a c, v = .slice a ps.length c := by
  rcases h with h | ⟨rfl, a, rfl⟩
  · exact h.shape
  · exact ⟨_, _, rfl⟩
theorem LsA.lists {m : Mem} {v : Value} {ps : List (Value × List Int)} (h : LsA m v ps) (hl : 0 < ps.length) : Lists m v ps := by
  rcases h with h | ⟨rfl, _⟩
  · exact h
  · simp at hl
theorem LsA.real {m : Mem} {v : Value} {ps : List (Value × List Int)} (h : LsA m v ps) {i : Nat} (hi : i < ps.length) : ∃ b o c, v = .slice (some ⟨b, o, none⟩) ps.length c ∧ ∀ (i : Nat) (hi : i < ps.length), mcell m b (o + i) = some ps[i].1 := (h.lists (by omega)).real hi
theorem LsA.la {m : Mem} {v : Value} {ps : List (Value × List Int)} (h : LsA m v ps) : ∀ p ∈ ps, La m p.1 p.2 := by
  rcases h with h | ⟨rfl, _⟩
  · exact h.la
  · simp
theorem dat_rows {m : Mem} : ∀ {els : List (List Value)}, (∀ c ∈ els, Dat m (.slice (.int .u8)) c) → ∃ ps : List (Value × List Int), els = ps.map (fun p => [p.1]) ∧ (∀ p ∈ ps, La m p.1 p.2) ∧ ∀ p ∈ ps, Byt p.2
  | [], _ => ⟨[], rfl, by simp, by simp⟩
  | c :: els, h => by
    obtain ⟨v, l, rfl, h1, h2, _⟩ := dat_la (h c (by simp))
    obtain ⟨ps, rfl, h3, h4⟩ := dat_rows (els := els) fun c hc => h c (by simp [hc])
    exact ⟨(v, l) :: ps, rfl, fun p hp => (List.mem_cons.1 hp).elim (fun e => e ▸ h1) (h3 p), fun p hp => (List.mem_cons.1 hp).elim (fun e => e ▸ h2) (h4 p)⟩
theorem dat_lists {m : Mem} {cs : List Value} (h : Dat m (.slice (.slice (.int .u8))) cs) : ∃ v ps, cs = [v] ∧ LsA m v ps ∧ (∀ p ∈ ps, Byt p.2) ∧ ps.length ≤ maxLen := by
  obtain ⟨v, els, rfl, h1, h2, h3, h4⟩ := h
  obtain ⟨ps, rfl, h5, h6⟩ := dat_rows h3
  refine ⟨v, ps, rfl, ?_, h6, by simpa using h4⟩
  rcases h1 with h1 | ⟨h1, a, rfl⟩
  · refine .inl ⟨?_, h5⟩
    have e : (ps.map fun p => [p.1]).flatten = ps.map (·.1) := by
      clear h1 h2 h3 h4 h5 h6
      induction ps with
      | nil => rfl
      | cons p ps ih => simp [ih]
    rw [e] at h1
    exact h1
  · exact .inr ⟨by simpa using h1, a, rfl⟩
end Go.E.Ytodgjanekjefbaa

/-
  Contracts of sha.Meter.
-/
namespace Go.E.Ytodgjanekjefbaa
open Go.Proofs
set_option maxRecDepth 100000
abbrev meterO (n : Nat) : Obj := .cells #[.int .u64 (n : Int)] 41
theorem aadd_spec {m : Mem} {b : Nat} {x y : Nat} (hb : m b = some (meterO x)) (hxy : x + y < 18446744073709551616) : Spec Try.prog 23 [ptrV b, u64 y] m fun r m' => r = [u64 ((x + y : Nat) : Int)] ∧ m' = m.set b (meterO (x + y)) := by
  have ew : IntKind.u64.wrap ((x : Int) + (y : Int)) = ((x + y : Nat) : Int) := by rw [wu (by omega) (by omega)]; omega
  refine en23 rfl (goY ?_)
  conv => whnf
  refine xext (ext_add (P := Try.prog) Try.func33 (by rfl) (by rfl) (by kernel_rfl) (by kernel_rfl) (x := (x : Int)) hb (by rfl)) ?_
  rintro _ _ ⟨rfl, rfl⟩
  rw [ew]
  conv => whnf
  exact ⟨rfl, rfl⟩
theorem aload_spec {m : Mem} {b : Nat} {x : Nat} (hb : m b = some (meterO x)) : Ret Try.prog 24 [ptrV b] m [u64 x] := by
  refine en24 rfl (goY ?_)
  conv => whnf
  refine xext (ext_load (P := Try.prog) Try.func34 (by rfl) (by rfl) (by kernel_rfl) .u64 (by kernel_rfl) (x := (x : Int)) (mcell_of hb rfl)) ?_
  rintro _ _ ⟨rfl, rfl⟩
  conv => whnf
  exact ⟨rfl, rfl⟩
theorem mcount_nil {m : Mem} : Ret Try.prog 15 [.v (.pointer none)] m [u64 0] := by
  refine en15 rfl (goY ?_)
  conv => whnf
  refine ⟨fun _ => ?_, fun h => absurd h (by decide)⟩
  conv => whnf
  exact ⟨rfl, rfl⟩
theorem mcount_spec {m : Mem} {b : Nat} {x : Nat} (hb : m b = some (meterO x)) : Ret Try.prog 15 [ptrV b] m [u64 x] := by
  refine en15 rfl (goY ?_)
  conv => whnf
  refine ⟨fun h => absurd h (by decide), fun _ => ?_⟩
  conv => whnf
  first | refine xretk (aload_spec hb) ?_ | refine xret (aload_spec hb) ?_
  conv => whnf
  exact ⟨rfl, rfl⟩
theorem msum_nil {m : Mem} {v : Value} {ps : List (Value × List Int)} {l : List Nat} (h : Lists m v ps) (hcat : catB ps = nc l) (hb : l.length ≤ 1000000) (hn : ps.length ≤ 10000000) (h256 : ∀ x ∈ l, x < 256) :
    Spec Try.prog 14 [.v (.pointer none), .v v] m fun r m' => r = [.a [.ints .u8 32 (nc (Sha.sum l))]] ∧ Sub m m' := by
  refine en14 rfl (goY ?_)
  conv => whnf
  refine ⟨fun h => absurd h (by decide), fun _ => ?_⟩
  conv => whnf
  refine xcall (sum_spec h hcat hb hn h256) ?_
  rintro _ m1 ⟨rfl, hs⟩
  conv => whnf
  exact ⟨rfl, hs⟩
theorem Split.mono' {m m' : Mem} {l : List Mem} (h : Split m l) (hs : Sub m m') : Split m' l := ⟨h.1.trans hs, h.2⟩
/-- how many blocks n bytes make -/
def blks (n : Nat) : Nat := n / 64 + 1 + n % 64 / 56
set_option maxHeartbeats 1000000 in
theorem msum_spec {m q : Mem} {b x : Nat} {v : Value} {ps : List (Value × List Int)} {l : List Nat} (hs : Split m [blk1 b (meterO x), q]) (h : Lists q v ps) (hcat : catB ps = nc l) (hb : l.length ≤ 1000000) (hn : ps.length ≤ 10000000) (h256 : ∀ x ∈ l, x < 256) (hx : x ≤ 1000000000000) :
    Spec Try.prog 14 [ptrV b, .v v] m fun r m' => r = [.a [.ints .u8 32 (nc (Sha.sum l))]] ∧ Split m' [blk1 b (meterO (x + blks l.length)), q] := by
  obtain ⟨a, c, rfl⟩ := h.shape
  have hq : Sub q m := hs.sub (by simp)
  have hlen : (catB ps).length = l.length := by rw [hcat]; simp
  refine en14 rfl (goY ?_)
  conv => whnf
  refine ⟨fun _ => ?_, fun h => absurd h (by decide)⟩
  conv => whnf
  refine .mk (ι := Nat) (fun i => ps.length - i) (fun i mm => i ≤ ps.length ∧ mm = m) (fun i => [(0, .c (ptrV b)), (1, .c (.v (.slice a ps.length c))), (4, .p 0 0), (5, .c (i64 (catB (ps.take i)).length)), (10, .c (.v (.slice a ps.length c))), (11, .c (i64 ps.length)), (12, .c (i64 i))]) (fun _ => [(25, [.ints .u8 32 (List.replicate 32 0)])]) 0 ⟨by omega, rfl⟩ ?_ ?_
  · conv => whnf
    repeat (refine And.intro (by first | with_reducible rfl | exact congrArg (Value.int _) (wi (by omega) (by omega)) | exact wi (by omega) (by omega) | rfl) ?_; conv => whnf)
    first | exact trivial | exact fun _ _ h => h
  rintro i mm ⟨hi, he⟩
  subst mm
  conv => whnf
  refine ⟨fun h1 => ?_, fun h1 => ?_⟩
  · have h1' := of_decide_eq_true h1
    have hlt : i < ps.length := by omega
    obtain ⟨bl, ol, c', hh, hg⟩ := h.real hlt
    injection hh with hh1 _ hh3
    subst hh1
    clear hh3 c'
    have hg := mcell_sub (hg i hlt) hq
    have hla := h.la _ (List.getElem_mem hlt)
    have hst := congrArg List.length (catB_take hlt)
    rw [List.length_append] at hst
    have hle := catB_le (ps := ps) (i + 1)
    generalize ps[i] = p at *
    obtain ⟨pv, pl⟩ := p
    simp only at hg hla hst
    obtain ⟨pa, pc, rfl⟩ := hla.shape
    have ea : IntKind.i64.wrap (((catB (ps.take i)).length : Int) + (pl.length : Int)) = (((catB (ps.take (i + 1))).length : Nat) : Int) := by rw [wi (by omega) (by omega)]; omega
    conv => whnf
    repeat (refine And.intro (by first | omega | (simp only [times]; omega)) ?_; conv => whnf)
    refine ⟨_, by simp only [times, Int.toNat_natCast, Nat.mul_one]; exact hg, rfl, ?_⟩
    conv => whnf
    rw [ea]
    refine ⟨i + 1, ⟨by omega, rfl⟩, by omega, ?_⟩
    conv => whnf
    repeat (refine And.intro (by first | with_reducible rfl | (first | exact congrArg (Value.int _) (iadd (by omega))) | exact congrArg (Value.int _) (wi (by omega) (by omega)) | exact wi (by omega) (by omega) | rfl) ?_; conv => whnf)
    first | exact trivial | exact fun _ _ h => h
  · have h1' := of_decide_eq_false h1
    obtain rfl : i = ps.length := by omega
    have hbk : (if (((catB (ps.take ps.length)).length : Nat) : Int) < 0 then 0 else (((catB (ps.take ps.length)).length : Nat) : Int) / 64 + 1 + (((catB (ps.take ps.length)).length : Nat) : Int) % 64 / 56) = ((blks l.length : Nat) : Int) := by
      rw [List.take_length, hlen, if_neg (by omega)]; unfold blks; omega
    have hbl : blks l.length ≤ 1000000 := by unfold blks; omega
    conv => whnf
    first | refine xretk (shab_spec (n := (((catB (ps.take ps.length)).length : Nat) : Int)) (by rw [List.take_length, hlen]; omega)) ?_ | refine xret (shab_spec (n := (((catB (ps.take ps.length)).length : Nat) : Int)) (by rw [List.take_length, hlen]; omega)) ?_
    conv => whnf
    rw [hbk]
    have hgb : m b = some (meterO x) := hs.sub (a := blk1 b (meterO x)) (by simp) _ _ (blk1_same ..)
    refine xcall (aadd_spec hgb (by omega)) ?_
    rintro _ _ ⟨rfl, rfl⟩
    conv => whnf
    first | refine ⟨fun _ h => (by cases h), ?_⟩ | skip
    conv => whnf
    have hs2 := hs.setAt (i := 0) rfl (blk1_same ..) (meterO (x + blks l.length))
    rw [blk1_set] at hs2
    have hs2 : Split _ [blk1 b (meterO (x + blks l.length)), q] := hs2
    refine xcall (sum_spec (h.sub (hs2.sub (by simp))) hcat hb hn h256) ?_
    rintro _ m3 ⟨rfl, hs3⟩
    conv => whnf
    exact ⟨rfl, Split.mono' hs2 hs3⟩
end Go.E.Ytodgjanekjefbaa

/-
  Law ShaMeters.
-/
namespace Go.E.Ytodgjanekjefbaa
open Go.Proofs
set_option maxRecDepth 100000
theorem refbn_spec {m : Mem} {n : Nat} (hn : n ≤ 1000000) : Ret Try.prog 13 [i64 n] m [u64 ((blks n : Nat) : Int)] := by
  have h := refb_spec (m := m) (n := (n : Int)) (by omega)
  have e : (if (n : Int) < 0 then 0 else (n : Int) / 64 + 1 + ((n : Int) % 64) / 56) = ((blks n : Nat) : Int) := by rw [if_neg (by omega)]; unfold blks; omega
  rw [e] at h
  exact h
theorem keptOf {m mx my : Mem} {b : Nat} {ob : Obj} (h : m b = some ob) (hx : Sub m mx) (hy : Sub m my) : Kept [b] mx my := fun x hx' => by
  rw [List.mem_singleton.1 hx', hx _ _ h, hy _ _ h]
/-- what is known in a round: the meter, and what came in -/
structure Rnd (mm m : Mem) (bm w : Nat) : Prop where
  sp : ∃ q, Split mm [blk1 bm (meterO w), q] ∧ Sub m q
theorem Rnd.start {mm m : Mem} {bm w : Nat} (h : Split mm [blk1 bm (meterO w), m]) : Rnd mm m bm w := ⟨m, h, Sub.refl _⟩
theorem Rnd.sub {mm m : Mem} {bm w : Nat} (h : Rnd mm m bm w) : Sub m mm := by
  obtain ⟨q, h1, h2⟩ := h.sp
  exact h2.trans (h1.sub (by simp))
theorem Rnd.grow {mm m' m : Mem} {bm w : Nat} (h : Rnd mm m bm w) (hs : Sub mm m') : Rnd m' m bm w := by
  obtain ⟨q, h1, h2⟩ := h.sp
  exact ⟨q, Split.mono' h1 hs, h2⟩
theorem Rnd.new {mm m : Mem} {bm w b : Nat} (h : Rnd mm m bm w) (hb : mm b = none) (o : Obj) : Rnd (mm.set b o) m bm w := h.grow (Mem.sub_set _ hb)
/-- the meter's digest: of a list that was just laid -/
theorem Rnd.sum {mm m : Mem} {bm w b : Nat} {v : Value} {l : List Nat} (h : Rnd mm m bm w) (hb : mm b = some (.cells #[v] 22)) (hne : b ≠ bm) (hv : La m v (nc l)) (hl : l.length ≤ 1000) (h256 : ∀ x ∈ l, x < 256) (hw : w ≤ 1000000) :
    Spec Try.prog 14 [ptrV bm, .v (.slice (some ⟨b, 0, none⟩) 1 1)] mm fun r m' => r = [.a [.ints .u8 32 (nc (Sha.sum l))]] ∧ Rnd m' m bm (w + blks l.length) ∧ (∀ x, x ≠ bm → ∀ o, mm x = some o → m' x = some o) := by
  have hbm : mm bm = some (meterO w) := by
    obtain ⟨q, h1, _⟩ := h.sp
    exact h1.sub (a := blk1 bm (meterO w)) (by simp) _ _ (blk1_same ..)
  -- all but the meter
  let q : Mem := fun x => if x = bm then none else mm x
  have hq : Split mm [blk1 bm (meterO w), q] := by
    refine ⟨fun x o hx => ?_, ?_⟩
    · obtain ⟨a, ha, hx⟩ := allM_some hx
      simp only [List.mem_cons, List.not_mem_nil, or_false] at ha
      rcases ha with rfl | rfl
      · obtain ⟨rfl, rfl⟩ := blk1_some hx; exact hbm
      · by_cases e : x = bm
        · simp [q, e] at hx
        · simpa [q, e] using hx
    · simp only [List.pairwise_cons, List.mem_singleton, forall_eq, List.not_mem_nil, false_implies, implies_true, List.Pairwise.nil, and_true]
      intro x
      by_cases e : x = bm
      · exact .inr (by simp [q, e])
      · exact .inl (blk1_none.2 e)
  have hmq : Sub m q := fun x o hx => by
    obtain ⟨q', h1, h2⟩ := h.sp
    have hx' := h2 x o hx
    have : x ≠ bm := fun e => by
      rcases (List.pairwise_cons.1 h1.2).1 q' (by simp) x with h' | h'
      · rw [e, blk1_same] at h'; cases h'
      · rw [hx'] at h'; cases h'
    simp only [q, if_neg this]
    exact h.sub x o hx
  refine (msum_spec hq (Lists.one (by simp only [q, if_neg hne]; exact hb) (hv.sub hmq)) catB1 (by omega) (by simp) h256 (by omega)).mono fun r m' ⟨h1, h2⟩ => ⟨h1, ⟨q, h2, hmq⟩, fun x hx o ho => h2.sub (a := q) (by simp) x o (by simp only [q, if_neg hx]; exact ho)⟩
end Go.E.Ytodgjanekjefbaa
