/-
  Contracts of sha: a block.
-/
import Derived.Test.YtmfjdgdiccfecaaSha1
namespace Go.E.Ytmfjdgdiccfecaa
open Go.Proofs
set_option maxRecDepth 100000
abbrev nc (l : List Nat) : List Int := l.map fun (n : Nat) => (n : Int)
theorem nc_get (l : List Nat) (k : Nat) : (nc l).getD k 0 = ((l.getD k 0 : Nat) : Int) := by
  simp only [nc, List.getD_eq_getElem?_getD, List.getElem?_map]
  cases l[k]? <;> rfl
/-- eight words -/
structure W8 (v : List Nat) : Prop where
  len : v.length = 8
  lt : ∀ k, v.getD k 0 < 2 ^ 32
theorem step_w8 {k w : Nat} {v : List Nat} (h : W8 v) : W8 (Sha.step k w v) := by
  refine ⟨rfl, fun j => getD_lt (by decide) (fun x hx => ?_) j⟩
  simp only [Sha.step, List.mem_cons, List.not_mem_nil, or_false] at hx
  rcases hx with rfl | rfl | rfl | rfl | rfl | rfl | rfl | rfl
  · exact Nat.mod_lt _ (by decide)
  · exact h.lt 0
  · exact h.lt 1
  · exact h.lt 2
  · exact Nat.mod_lt _ (by decide)
  · exact h.lt 4
  · exact h.lt 5
  · exact h.lt 6
theorem rounds_w8 {w v : List Nat} (h : W8 v) : ∀ t, W8 (Sha.rounds w v t)
  | 0 => h
  | t + 1 => step_w8 (rounds_w8 h t)
theorem xor3 {a b c : Nat} (ha : a < 2 ^ 32) (hb : b < 2 ^ 32) (hc : c < 2 ^ 32) : bitsOf .xor .u32 (bitsOf .xor .u32 (a : Int) (b : Int)) (c : Int) = ((a ^^^ b ^^^ c : Nat) : Int) := by
  rw [xor_u32 ha hb, xor_u32 (Nat.xor_lt_two_pow ha hb) hc]
theorem and_lt {a b : Nat} (ha : a < 2 ^ 32) : a &&& b < 2 ^ 32 := Nat.lt_of_le_of_lt Nat.and_le_left ha
theorem ch_eq {e f g : Nat} (he : e < 2 ^ 32) (hf : f < 2 ^ 32) (hg : g < 2 ^ 32) :
    bitsOf .xor .u32 (bitsOf .and .u32 (e : Int) (f : Int)) (bitsOf .and .u32 (bitsOf .xor .u32 (if IntKind.u32.signed = true then -1 else IntKind.u32.max) (e : Int)) (g : Int)) = ((Sha.ch e f g : Nat) : Int) := by
  have hn : 4294967295 - e < 2 ^ 32 := by omega
  rw [not_u32 he, and_u32 he hf, and_u32 hn hg, xor_u32 (and_lt he) (and_lt hn)]; rfl
theorem maj_eq {a b c : Nat} (ha : a < 2 ^ 32) (hb : b < 2 ^ 32) (hc : c < 2 ^ 32) :
    bitsOf .xor .u32 (bitsOf .xor .u32 (bitsOf .and .u32 (a : Int) (b : Int)) (bitsOf .and .u32 (a : Int) (c : Int))) (bitsOf .and .u32 (b : Int) (c : Int)) = ((Sha.maj a b c : Nat) : Int) := by
  rw [and_u32 ha hb, and_u32 ha hc, and_u32 hb hc, xor3 (and_lt ha) (and_lt ha) (and_lt hb)]; rfl
theorem mod5 (a b c d e : Nat) : ((((a + b) % Sha.M + c) % Sha.M + d) % Sha.M + e) % Sha.M = (a + b + c + d + e) % Sha.M := by
  show ((((a + b) % 4294967296 + c) % 4294967296 + d) % 4294967296 + e) % 4294967296 = (a + b + c + d + e) % 4294967296; omega
theorem x_eq {v : List Nat} (h : W8 v) (k w : Nat) :
    IntKind.u32.wrap (IntKind.u32.wrap (IntKind.u32.wrap (IntKind.u32.wrap (((v.getD 7 0 : Nat) : Int) + bitsOf .xor .u32 (bitsOf .xor .u32 ((Sha.rotr (v.getD 4 0) 6 : Nat) : Int) ((Sha.rotr (v.getD 4 0) 11 : Nat) : Int)) ((Sha.rotr (v.getD 4 0) 25 : Nat) : Int))
      + bitsOf .xor .u32 (bitsOf .and .u32 ((v.getD 4 0 : Nat) : Int) ((v.getD 5 0 : Nat) : Int)) (bitsOf .and .u32 (bitsOf .xor .u32 (if IntKind.u32.signed = true then -1 else IntKind.u32.max) ((v.getD 4 0 : Nat) : Int)) ((v.getD 6 0 : Nat) : Int))) + (k : Int)) + (w : Int))
      = (((v.getD 7 0 + Sha.S1 (v.getD 4 0) + Sha.ch (v.getD 4 0) (v.getD 5 0) (v.getD 6 0) + k + w) % Sha.M : Nat) : Int) := by
  rw [xor3 (rotr_lt (h.lt 4)) (rotr_lt (h.lt 4)) (rotr_lt (h.lt 4)), ch_eq (h.lt 4) (h.lt 5) (h.lt 6), add_u32, add_u32, add_u32, add_u32, mod5]; rfl
theorem y_eq {v : List Nat} (h : W8 v) :
    IntKind.u32.wrap (bitsOf .xor .u32 (bitsOf .xor .u32 ((Sha.rotr (v.getD 0 0) 2 : Nat) : Int) ((Sha.rotr (v.getD 0 0) 13 : Nat) : Int)) ((Sha.rotr (v.getD 0 0) 22 : Nat) : Int)
      + bitsOf .xor .u32 (bitsOf .xor .u32 (bitsOf .and .u32 ((v.getD 0 0 : Nat) : Int) ((v.getD 1 0 : Nat) : Int)) (bitsOf .and .u32 ((v.getD 0 0 : Nat) : Int) ((v.getD 2 0 : Nat) : Int))) (bitsOf .and .u32 ((v.getD 1 0 : Nat) : Int) ((v.getD 2 0 : Nat) : Int)))
      = (((Sha.S0 (v.getD 0 0) + Sha.maj (v.getD 0 0) (v.getD 1 0) (v.getD 2 0)) % Sha.M : Nat) : Int) := by
  rw [xor3 (rotr_lt (h.lt 0)) (rotr_lt (h.lt 0)) (rotr_lt (h.lt 0)), maj_eq (h.lt 0) (h.lt 1) (h.lt 2), add_u32]; rfl
theorem step_eq {v : List Nat} (h : W8 v) {k w : Nat} : [IntKind.u32.wrap (IntKind.u32.wrap (IntKind.u32.wrap (IntKind.u32.wrap (IntKind.u32.wrap (((v.getD 7 0 : Nat) : Int) + bitsOf .xor .u32 (bitsOf .xor .u32 ((Sha.rotr (v.getD 4 0) 6 : Nat) : Int) ((Sha.rotr (v.getD 4 0) 11 : Nat) : Int)) ((Sha.rotr (v.getD 4 0) 25 : Nat) : Int))
      + bitsOf .xor .u32 (bitsOf .and .u32 ((v.getD 4 0 : Nat) : Int) ((v.getD 5 0 : Nat) : Int)) (bitsOf .and .u32 (bitsOf .xor .u32 (if IntKind.u32.signed = true then -1 else IntKind.u32.max) ((v.getD 4 0 : Nat) : Int)) ((v.getD 6 0 : Nat) : Int))) + (k : Int)) + (w : Int)) + IntKind.u32.wrap (bitsOf .xor .u32 (bitsOf .xor .u32 ((Sha.rotr (v.getD 0 0) 2 : Nat) : Int) ((Sha.rotr (v.getD 0 0) 13 : Nat) : Int)) ((Sha.rotr (v.getD 0 0) 22 : Nat) : Int)
      + bitsOf .xor .u32 (bitsOf .xor .u32 (bitsOf .and .u32 ((v.getD 0 0 : Nat) : Int) ((v.getD 1 0 : Nat) : Int)) (bitsOf .and .u32 ((v.getD 0 0 : Nat) : Int) ((v.getD 2 0 : Nat) : Int))) (bitsOf .and .u32 ((v.getD 1 0 : Nat) : Int) ((v.getD 2 0 : Nat) : Int)))),
      ((v.getD 0 0 : Nat) : Int), ((v.getD 1 0 : Nat) : Int), ((v.getD 2 0 : Nat) : Int),
      IntKind.u32.wrap (((v.getD 3 0 : Nat) : Int) + IntKind.u32.wrap (IntKind.u32.wrap (IntKind.u32.wrap (IntKind.u32.wrap (((v.getD 7 0 : Nat) : Int) + bitsOf .xor .u32 (bitsOf .xor .u32 ((Sha.rotr (v.getD 4 0) 6 : Nat) : Int) ((Sha.rotr (v.getD 4 0) 11 : Nat) : Int)) ((Sha.rotr (v.getD 4 0) 25 : Nat) : Int))
      + bitsOf .xor .u32 (bitsOf .and .u32 ((v.getD 4 0 : Nat) : Int) ((v.getD 5 0 : Nat) : Int)) (bitsOf .and .u32 (bitsOf .xor .u32 (if IntKind.u32.signed = true then -1 else IntKind.u32.max) ((v.getD 4 0 : Nat) : Int)) ((v.getD 6 0 : Nat) : Int))) + (k : Int)) + (w : Int))),
      ((v.getD 4 0 : Nat) : Int), ((v.getD 5 0 : Nat) : Int), ((v.getD 6 0 : Nat) : Int)] = nc (Sha.step k w v) := by
  rw [x_eq h, y_eq h, add_u32, add_u32]; rfl
theorem mix_get {B h : List Nat} (hh : h.length = 8) {i : Nat} (hi : i < 8) : ((nc B).take i ++ (nc h).drop i).getD i 0 = ((h.getD i 0 : Nat) : Int) ∨ B.length < i := by
  by_cases hb : B.length < i
  · exact .inr hb
  · left
    have hl : ((nc B).take i).length = i := by simp; omega
    simp only [List.getD_eq_getElem?_getD]
    rw [List.getElem?_append_right (by omega), hl, Nat.sub_self, List.getElem?_drop, Nat.add_zero, List.getElem?_map, List.getElem?_eq_getElem (by omega)]
    rfl
theorem add8_len (h v : List Nat) : (Sha.add8 h v).length = 8 := by simp [Sha.add8]
theorem mix_get8 {x v h : List Nat} (hh : h.length = 8) {i : Nat} (hi : i < 8) : ((nc (Sha.add8 x v)).take i ++ (nc h).drop i).getD i 0 = ((h.getD i 0 : Nat) : Int) :=
  (mix_get hh hi).resolve_right (by rw [add8_len]; omega)
theorem mix_set {v h : List Nat} (hh : h.length = 8) {i : Nat} (hi : i < 8) : ((nc (Sha.add8 h v)).take i ++ (nc h).drop i).set i (((h.getD i 0 + v.getD i 0) % Sha.M : Nat) : Int) = (nc (Sha.add8 h v)).take (i + 1) ++ (nc h).drop (i + 1) := by
  have hl : ((nc (Sha.add8 h v)).take i).length = i := by simp [add8_len]; omega
  have hB : (nc (Sha.add8 h v)).length = 8 := by simp [add8_len]
  have e : (nc h).drop i = (((h.getD i 0 : Nat) : Int)) :: (nc h).drop (i + 1) := by
    rw [List.drop_eq_getElem_cons (by simp; omega)]; simp [List.getD_eq_getElem?_getD, List.getElem?_eq_getElem (show i < h.length by omega)]
  rw [e, List.set_append_right _ _ (by omega), hl, Nat.sub_self, List.set_cons_zero, List.take_succ_eq_append_getElem (by omega), List.append_assoc]
  simp [Sha.add8]
set_option maxHeartbeats 4000000 in
theorem block_spec {m : Mem} {b o c : Nat} {bs h : List Nat} (hl : bs.length = 64) (hb : ∀ x ∈ bs, x < 256) (hv : Lb m (.slice (some ⟨b, o, none⟩) 64 c) (nc bs)) (hc : 64 ≤ c) (hh : W8 h) :
    Ret Try.prog 29 [.a [.ints .u32 8 (nc h)], .v (.slice (some ⟨b, o, none⟩) 64 c)] m [.a [.ints .u32 8 (nc (Sha.block h bs))]] := by
  refine en29 rfl (goY ?_)
  conv => whnf
  first | refine xretk (consts_spec) ?_ | refine xret (consts_spec) ?_
  conv => whnf
  first | refine xretk (spread_spec hl hb hv hc) ?_ | refine xret (spread_spec hl hb hv hc) ?_
  conv => whnf
  refine .mk (ι := Nat) (fun i => 64 - i) (fun i mm => i ≤ 64 ∧ mm = m) (fun i => [(2, .p 0 0), (4, .p 1 0), (5, .p 2 0), (6, .p 3 0), (7, .p 4 0), (19, .c (i64 i))])
    (fun i => [(54, [.ints .u32 8 (nc h)]), (54, [.ints .u32 8 (List.replicate 8 0)]), (64, [.ints .u32 64 (nc Sha.K)]), (64, [.ints .u32 64 (nc (Sha.words bs 64))]), (54, [.ints .u32 8 (nc (Sha.rounds (Sha.words bs 64) h i))])]) 0 ⟨by omega, rfl⟩ ?_ ?_
  · conv => whnf
    repeat (refine And.intro (by first | with_reducible rfl | exact congrArg (Value.int _) (wi (by omega) (by omega)) | exact wi (by omega) (by omega) | rfl) ?_; conv => whnf)
    first | exact trivial | exact fun _ _ h => h
  rintro i mm ⟨hi, he⟩
  subst mm
  conv => whnf
  refine ⟨fun h1 => ?_, fun h1 => ?_⟩
  · have h1' := of_decide_eq_true h1
    have hlt : i < 64 := by omega
    have hw := rounds_w8 (w := Sha.words bs 64) hh i
    generalize hvv : Sha.rounds (Sha.words bs 64) h i = v at hw ⊢
    conv => whnf
    repeat (refine And.intro (by first | omega | (simp only [times]; omega)) ?_; conv => whnf)
    simp only [nc_get, times, Int.toNat_natCast, Nat.zero_add, Nat.zero_mul, Nat.mul_one, Nat.one_mul]
    first | refine xretk (right_spec (n := 6) (by decide) (by decide) (hw.lt 4)) ?_ | refine xret (right_spec (n := 6) (by decide) (by decide) (hw.lt 4)) ?_
    conv => whnf
    first | refine xretk (right_spec (n := 11) (by decide) (by decide) (hw.lt 4)) ?_ | refine xret (right_spec (n := 11) (by decide) (by decide) (hw.lt 4)) ?_
    conv => whnf
    first | refine xretk (right_spec (n := 25) (by decide) (by decide) (hw.lt 4)) ?_ | refine xret (right_spec (n := 25) (by decide) (by decide) (hw.lt 4)) ?_
    conv => whnf
    simp only [nc_get]
    first | refine xretk (right_spec (n := 2) (by decide) (by decide) (hw.lt 0)) ?_ | refine xret (right_spec (n := 2) (by decide) (by decide) (hw.lt 0)) ?_
    conv => whnf
    first | refine xretk (right_spec (n := 13) (by decide) (by decide) (hw.lt 0)) ?_ | refine xret (right_spec (n := 13) (by decide) (by decide) (hw.lt 0)) ?_
    conv => whnf
    first | refine xretk (right_spec (n := 22) (by decide) (by decide) (hw.lt 0)) ?_ | refine xret (right_spec (n := 22) (by decide) (by decide) (hw.lt 0)) ?_
    conv => whnf
    refine ⟨i + 1, ⟨by omega, rfl⟩, by omega, ?_⟩
    rw [show Sha.rounds (Sha.words bs 64) h (i + 1) = Sha.step (Sha.K.getD i 0) ((Sha.words bs 64).getD i 0) v by rw [← hvv]; rfl]
    simp only [nc_get, Nat.zero_add, Nat.zero_mul, Nat.mul_one, Nat.one_mul]
    conv => whnf
    repeat (refine And.intro (by first | with_reducible rfl | (first | exact congrArg (Value.int _) (iadd (by omega)) | exact step_eq hw) | exact congrArg (Value.int _) (wi (by omega) (by omega)) | exact wi (by omega) (by omega) | rfl) ?_; conv => whnf)
    first | exact trivial | exact fun _ _ h => h
  · have h1' := of_decide_eq_false h1
    obtain rfl : i = 64 := by omega
    have hw := rounds_w8 (w := Sha.words bs 64) hh 64
    have hB : Sha.block h bs = Sha.add8 h (Sha.rounds (Sha.words bs 64) h 64) := rfl
    conv => whnf
    refine .mk (ι := Nat) (fun i => 8 - i) (fun i mm => i ≤ 8 ∧ mm = m) (fun i => [(2, .p 0 0), (4, .p 1 0), (99, .c (.a [.ints .u32 8 (nc (Sha.rounds (Sha.words bs 64) h 64))])), (100, .c (i64 i))])
      (fun i => [(54, [.ints .u32 8 ((nc (Sha.block h bs)).take i ++ (nc h).drop i)]), (54, [.ints .u32 8 (List.replicate 8 0)])]) 0 ⟨by omega, rfl⟩ ?_ ?_
    · conv => whnf
      repeat (refine And.intro (by first | with_reducible rfl | exact congrArg (Value.int _) (wi (by omega) (by omega)) | exact wi (by omega) (by omega) | rfl) ?_; conv => whnf)
      first | exact trivial | exact fun _ _ h => h
    rintro i mm ⟨hi, he⟩
    subst mm
    generalize Sha.rounds (Sha.words bs 64) h 64 = v at hw hB ⊢
    conv => whnf
    refine ⟨fun h1 => ?_, fun h1 => ?_⟩
    · have h1' := of_decide_eq_true h1
      have hlt : i < 8 := by omega
      conv => whnf
      repeat (refine And.intro (by first | omega | (simp only [times]; omega)) ?_; conv => whnf)
      simp only [nc_get, times, Int.toNat_natCast, Nat.zero_add, Nat.zero_mul, Nat.mul_one, Nat.one_mul, hB, mix_get8 hh.len hlt]
      refine ⟨i + 1, ⟨by omega, by trivial⟩, by omega, ?_⟩
      conv => whnf
      repeat (refine And.intro (by first | with_reducible rfl | (first | exact congrArg (Value.int _) (iadd (by omega)) | (rw [add_u32]; exact mix_set hh.len hlt)) | exact congrArg (Value.int _) (wi (by omega) (by omega)) | exact wi (by omega) (by omega) | rfl) ?_; conv => whnf)
      first | exact trivial | exact fun _ _ h => h
    · have h1' := of_decide_eq_false h1
      obtain rfl : i = 8 := by omega
      conv => whnf
      refine ⟨?_, rfl⟩
      rw [List.take_of_length_le (by simp [Sha.block, Sha.add8]), List.drop_of_length_le (by simp [hh.len]), List.append_nil]
end Go.E.Ytmfjdgdiccfecaa
