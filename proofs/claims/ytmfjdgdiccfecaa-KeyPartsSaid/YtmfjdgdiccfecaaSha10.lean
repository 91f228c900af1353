/-
  Contracts of maundref01: the digest.
-/
import Derived.Test.YtmfjdgdiccfecaaSha9
namespace Go.E.Ytmfjdgdiccfecaa
open Go.Proofs
set_option maxRecDepth 100000
abbrev wob (bs : List Nat) (i : Nat) : Obj := .cells (LB.cells [.ints .u64 64 (wc bs i)]).toArray 46
theorem wl_wob {m : Mem} {b i : Nat} {bs : List Nat} (h : m b = some (wob bs i)) (hi : i ≤ 64) : Wl m b (Sha.words bs i) := by
  have hl := words_len bs i
  refine ⟨_, _, _, h, fun j hj => ?_⟩
  have := wc_get (b := bs) (i := i) (j := j) (by omega)
  have hlen : j < (wc bs i).length := by simp [wc, hl]; omega
  rw [List.getD_eq_getElem?_getD, List.getElem?_eq_getElem hlen] at this
  simp [LB.cells, Seg.cells, List.getElem?_eq_getElem hlen]
  simpa using this
theorem wc_len {bs : List Nat} {i : Nat} (h : i ≤ 64) : (wc bs i).length = 64 := by simp [wc, words_len]; omega
theorem wob_set {bs : List Nat} {i : Nat} (h : i < 64) {t : TypeId} : Obj.cells ((LB.cells [.ints .u64 64 (wc bs i)]).toArray.setIfInBounds i (.int .u64 ((Sha.word bs (Sha.words bs i) i : Nat) : Int))) t = .cells (LB.cells [.ints .u64 64 (wc bs (i + 1))]).toArray t := by
  rw [← wc_set h rfl]
  simp [LB.cells, Seg.cells, List.map_set]
theorem rmix_set {B h : List Nat} {i y : Nat} (hh : h.length = 8) (h1 : h.getD i 0 < 2 ^ 32) (h2 : y < 2 ^ 32) (hB : B.length = 8) (hi : i < 8) (hb : (((h.getD i 0 + y) % Sha.M : Nat) : Int) = ((B.getD i 0 : Nat) : Int)) :
    ((nc B).take i ++ (nc h).drop i).set i (Int.tmod (IntKind.u64.wrap (((h.getD i 0 : Nat) : Int) + (y : Int))) 4294967296) = (nc B).take (i + 1) ++ (nc h).drop (i + 1) := by
  have e0 : Int.tmod (IntKind.u64.wrap (((h.getD i 0 : Nat) : Int) + (y : Int))) 4294967296 = ((B.getD i 0 : Nat) : Int) := by
    rw [← hb, wu (by omega) (by omega), ← Int.natCast_add, show (4294967296 : Int) = ((4294967296 : Nat) : Int) from rfl, tmod_nat]
  rw [e0]
  have hl : ((nc B).take i).length = i := by simp; omega
  have e : (nc h).drop i = (((h.getD i 0 : Nat) : Int)) :: (nc h).drop (i + 1) := by
    rw [List.drop_eq_getElem_cons (by simp; omega)]; simp [List.getD_eq_getElem?_getD, List.getElem?_eq_getElem (show i < h.length by omega)]
  rw [e, List.set_append_right _ _ (by omega), hl, Nat.sub_self, List.set_cons_zero, List.take_succ_eq_append_getElem (by simp; omega), List.append_assoc]
  simp [List.getD_eq_getElem?_getD, List.getElem?_eq_getElem (show i < B.length by omega)]
theorem xor3l {a b c : Nat} (ha : a < 2 ^ 32) (hb : b < 2 ^ 32) (hc : c < 2 ^ 32) : bitsOf .xor .u64 (bitsOf .xor .u64 (a : Int) (b : Int)) (c : Int) = ((a ^^^ b ^^^ c : Nat) : Int) := by
  rw [xor_u64 (lt64 ha) (lt64 hb), xor_u64 (Nat.xor_lt_two_pow (lt64 ha) (lt64 hb)) (lt64 hc)]
theorem xor3_lt {a b c : Nat} (ha : a < 2 ^ 32) (hb : b < 2 ^ 32) (hc : c < 2 ^ 32) : a ^^^ b ^^^ c < 2 ^ 32 := Nat.xor_lt_two_pow (Nat.xor_lt_two_pow ha hb) hc
theorem rch_eq {e f g : Nat} (he : e < 2 ^ 32) (hf : f < 2 ^ 32) (hg : g < 2 ^ 32) :
    bitsOf .xor .u64 (bitsOf .and .u64 (e : Int) (f : Int)) (bitsOf .and .u64 (IntKind.u64.wrap (4294967295 - (e : Int))) (g : Int)) = ((Sha.ch e f g : Nat) : Int) := by
  have hn : 4294967295 - e < 2 ^ 32 := by omega
  have e1 : IntKind.u64.wrap (4294967295 - (e : Int)) = ((4294967295 - e : Nat) : Int) := by rw [wu (by omega) (by omega)]; omega
  rw [e1, and_u64 (lt64 he) (lt64 hf), and_u64 (lt64 hn) (lt64 hg), xor_u64 (lt64 (and_lt he)) (lt64 (and_lt hn))]; rfl
theorem rmaj_eq {a b c : Nat} (ha : a < 2 ^ 32) (hb : b < 2 ^ 32) (hc : c < 2 ^ 32) :
    bitsOf .xor .u64 (bitsOf .xor .u64 (bitsOf .and .u64 (a : Int) (b : Int)) (bitsOf .and .u64 (a : Int) (c : Int))) (bitsOf .and .u64 (b : Int) (c : Int)) = ((Sha.maj a b c : Nat) : Int) := by
  rw [and_u64 (lt64 ha) (lt64 hb), and_u64 (lt64 ha) (lt64 hc), and_u64 (lt64 hb) (lt64 hc), xor3l (and_lt ha) (and_lt ha) (and_lt hb)]; rfl
theorem rx_eq {v : List Nat} (h : W8 v) {k w : Nat} (hk : k < 2 ^ 32) (hw : w < 2 ^ 32) :
    Int.tmod (IntKind.u64.wrap (IntKind.u64.wrap (IntKind.u64.wrap (IntKind.u64.wrap (((v.getD 7 0 : Nat) : Int) + bitsOf .xor .u64 (bitsOf .xor .u64 ((Sha.rotr (v.getD 4 0) 6 : Nat) : Int) ((Sha.rotr (v.getD 4 0) 11 : Nat) : Int)) ((Sha.rotr (v.getD 4 0) 25 : Nat) : Int))
      + bitsOf .xor .u64 (bitsOf .and .u64 ((v.getD 4 0 : Nat) : Int) ((v.getD 5 0 : Nat) : Int)) (bitsOf .and .u64 (IntKind.u64.wrap (4294967295 - ((v.getD 4 0 : Nat) : Int))) ((v.getD 6 0 : Nat) : Int))) + (k : Int)) + (w : Int))) 4294967296
      = (((v.getD 7 0 + Sha.S1 (v.getD 4 0) + Sha.ch (v.getD 4 0) (v.getD 5 0) (v.getD 6 0) + k + w) % Sha.M : Nat) : Int) := by
  have h7 := h.lt 7
  have hs : Sha.S1 (v.getD 4 0) < 2 ^ 32 := xor3_lt (rotr_lt (h.lt 4)) (rotr_lt (h.lt 4)) (rotr_lt (h.lt 4))
  have hc : Sha.ch (v.getD 4 0) (v.getD 5 0) (v.getD 6 0) < 2 ^ 32 := Nat.xor_lt_two_pow (and_lt (h.lt 4)) (and_lt (by have := h.lt 4; omega))
  rw [xor3l (rotr_lt (h.lt 4)) (rotr_lt (h.lt 4)) (rotr_lt (h.lt 4)), rch_eq (h.lt 4) (h.lt 5) (h.lt 6)]
  have e : (((Sha.rotr (v.getD 4 0) 6 ^^^ Sha.rotr (v.getD 4 0) 11 ^^^ Sha.rotr (v.getD 4 0) 25 : Nat) : Int)) = ((Sha.S1 (v.getD 4 0) : Nat) : Int) := rfl
  rw [e]
  generalize Sha.S1 (v.getD 4 0) = a at *
  generalize Sha.ch (v.getD 4 0) (v.getD 5 0) (v.getD 6 0) = b at *
  generalize v.getD 7 0 = c at *
  rw [wu (n := (c : Int) + (a : Int)) (by omega) (by omega), wu (n := (c : Int) + (a : Int) + (b : Int)) (by omega) (by omega), wu (n := (c : Int) + (a : Int) + (b : Int) + (k : Int)) (by omega) (by omega), wu (by omega) (by omega)]
  rw [← Int.natCast_add, ← Int.natCast_add, ← Int.natCast_add, ← Int.natCast_add, show (4294967296 : Int) = ((4294967296 : Nat) : Int) from rfl, tmod_nat]
theorem rxy_eq {v : List Nat} (h : W8 v) {x : Nat} (hx : x < 2 ^ 32) : Int.tmod (IntKind.u64.wrap (IntKind.u64.wrap ((x : Int) + bitsOf .xor .u64 (bitsOf .xor .u64 ((Sha.rotr (v.getD 0 0) 2 : Nat) : Int) ((Sha.rotr (v.getD 0 0) 13 : Nat) : Int)) ((Sha.rotr (v.getD 0 0) 22 : Nat) : Int)) + bitsOf .xor .u64 (bitsOf .xor .u64 (bitsOf .and .u64 ((v.getD 0 0 : Nat) : Int) ((v.getD 1 0 : Nat) : Int)) (bitsOf .and .u64 ((v.getD 0 0 : Nat) : Int) ((v.getD 2 0 : Nat) : Int))) (bitsOf .and .u64 ((v.getD 1 0 : Nat) : Int) ((v.getD 2 0 : Nat) : Int)))) 4294967296 = (((x + (Sha.S0 (v.getD 0 0) + Sha.maj (v.getD 0 0) (v.getD 1 0) (v.getD 2 0)) % Sha.M) % Sha.M : Nat) : Int) := by
  have hs : Sha.S0 (v.getD 0 0) < 2 ^ 32 := xor3_lt (rotr_lt (h.lt 0)) (rotr_lt (h.lt 0)) (rotr_lt (h.lt 0))
  have hc : Sha.maj (v.getD 0 0) (v.getD 1 0) (v.getD 2 0) < 2 ^ 32 := xor3_lt (and_lt (h.lt 0)) (and_lt (h.lt 0)) (and_lt (h.lt 1))
  rw [xor3l (rotr_lt (h.lt 0)) (rotr_lt (h.lt 0)) (rotr_lt (h.lt 0)), rmaj_eq (h.lt 0) (h.lt 1) (h.lt 2)]
  have e : (((Sha.rotr (v.getD 0 0) 2 ^^^ Sha.rotr (v.getD 0 0) 13 ^^^ Sha.rotr (v.getD 0 0) 22 : Nat) : Int)) = ((Sha.S0 (v.getD 0 0) : Nat) : Int) := rfl
  rw [e]
  generalize Sha.S0 (v.getD 0 0) = a at *
  generalize Sha.maj (v.getD 0 0) (v.getD 1 0) (v.getD 2 0) = b at *
  rw [wu (n := (x : Int) + (a : Int)) (by omega) (by omega), wu (by omega) (by omega), ← Int.natCast_add, ← Int.natCast_add, show (4294967296 : Int) = ((4294967296 : Nat) : Int) from rfl, tmod_nat]
  congr 1
  show (x + a + b) % 4294967296 = (x + (a + b) % 4294967296) % 4294967296
  omega
theorem rd_eq {d x : Nat} (hd : d < 2 ^ 32) (hx : x < 2 ^ 32) : Int.tmod (IntKind.u64.wrap ((d : Int) + (x : Int))) 4294967296 = (((d + x) % Sha.M : Nat) : Int) := by
  rw [wu (by omega) (by omega), ← Int.natCast_add, show (4294967296 : Int) = ((4294967296 : Nat) : Int) from rfl, tmod_nat]
theorem rstep_eq {v : List Nat} (h : W8 v) {k w : Nat} (hk : k < 2 ^ 32) (hw : w < 2 ^ 32) : [Int.tmod (IntKind.u64.wrap (IntKind.u64.wrap (Int.tmod (IntKind.u64.wrap (IntKind.u64.wrap (IntKind.u64.wrap (IntKind.u64.wrap (((v.getD 7 0 : Nat) : Int) + bitsOf .xor .u64 (bitsOf .xor .u64 ((Sha.rotr (v.getD 4 0) 6 : Nat) : Int) ((Sha.rotr (v.getD 4 0) 11 : Nat) : Int)) ((Sha.rotr (v.getD 4 0) 25 : Nat) : Int))
      + bitsOf .xor .u64 (bitsOf .and .u64 ((v.getD 4 0 : Nat) : Int) ((v.getD 5 0 : Nat) : Int)) (bitsOf .and .u64 (IntKind.u64.wrap (4294967295 - ((v.getD 4 0 : Nat) : Int))) ((v.getD 6 0 : Nat) : Int))) + (k : Int)) + (w : Int))) 4294967296 + bitsOf .xor .u64 (bitsOf .xor .u64 ((Sha.rotr (v.getD 0 0) 2 : Nat) : Int) ((Sha.rotr (v.getD 0 0) 13 : Nat) : Int)) ((Sha.rotr (v.getD 0 0) 22 : Nat) : Int)) + bitsOf .xor .u64 (bitsOf .xor .u64 (bitsOf .and .u64 ((v.getD 0 0 : Nat) : Int) ((v.getD 1 0 : Nat) : Int)) (bitsOf .and .u64 ((v.getD 0 0 : Nat) : Int) ((v.getD 2 0 : Nat) : Int))) (bitsOf .and .u64 ((v.getD 1 0 : Nat) : Int) ((v.getD 2 0 : Nat) : Int)))) 4294967296,
      ((v.getD 0 0 : Nat) : Int), ((v.getD 1 0 : Nat) : Int), ((v.getD 2 0 : Nat) : Int), Int.tmod (IntKind.u64.wrap (((v.getD 3 0 : Nat) : Int) + Int.tmod (IntKind.u64.wrap (IntKind.u64.wrap (IntKind.u64.wrap (IntKind.u64.wrap (((v.getD 7 0 : Nat) : Int) + bitsOf .xor .u64 (bitsOf .xor .u64 ((Sha.rotr (v.getD 4 0) 6 : Nat) : Int) ((Sha.rotr (v.getD 4 0) 11 : Nat) : Int)) ((Sha.rotr (v.getD 4 0) 25 : Nat) : Int))
      + bitsOf .xor .u64 (bitsOf .and .u64 ((v.getD 4 0 : Nat) : Int) ((v.getD 5 0 : Nat) : Int)) (bitsOf .and .u64 (IntKind.u64.wrap (4294967295 - ((v.getD 4 0 : Nat) : Int))) ((v.getD 6 0 : Nat) : Int))) + (k : Int)) + (w : Int))) 4294967296)) 4294967296,
      ((v.getD 4 0 : Nat) : Int), ((v.getD 5 0 : Nat) : Int), ((v.getD 6 0 : Nat) : Int)] = nc (Sha.step k w v) := by
  rw [rx_eq h hk hw, rxy_eq h (Nat.mod_lt _ (by decide)), rd_eq (h.lt 3) (Nat.mod_lt _ (by decide))]; rfl
theorem words_getD {b : List Nat} {t j : Nat} (h : j < t) : ∀ {k : Nat}, (Sha.words b t).getD j 0 = (Sha.words b (t + k)).getD j 0
  | 0 => rfl
  | k + 1 => by
    rw [words_getD h (k := k), show t + (k + 1) = (t + k) + 1 by omega, Sha.words]
    have := words_len b (t + k)
    simp only [List.getD_eq_getElem?_getD]
    rw [List.getElem?_append_left (by omega)]
set_option maxHeartbeats 4000000 in
theorem rnext_spec {m : Mem} {b o c : Nat} {bs h : List Nat} (hl : bs.length = 64) (hb : ∀ x ∈ bs, x < 256) (hv : Lb m (.slice (some ⟨b, o, none⟩) 64 c) (nc bs)) (hh : W8 h) :
    Spec Try.prog 21 [.a [.ints .u64 8 (nc h)], .v (.slice (some ⟨b, o, none⟩) 64 c)] m fun r m' => r = [.a [.ints .u64 8 (nc (Sha.block h bs))]] ∧ Sub m m' := by
  refine en21 rfl (goY ?_)
  conv => whnf
  first | refine xretk (rconsts_spec) ?_ | refine xret (rconsts_spec) ?_
  conv => whnf
  intro w hw
  conv => whnf
  refine .mk (ι := Nat) (fun i => 64 - i) (fun i mm => i ≤ 64 ∧ mm = m.set w (wob bs i)) (fun i => [(1, .c (.v (.slice (some ⟨b, o, none⟩) 64 c))), (2, .p 0 0), (4, .p 1 0), (5, .p 2 0), (6, .c (ptrV w)), (7, .p 3 0), (8, .c (i64 i))])
    (fun i => [(41, [.ints .u64 8 (nc h)]), (41, [.ints .u64 8 (List.replicate 8 0)]), (46, [.ints .u64 64 (nc Sha.K)]), (41, [.ints .u64 8 (nc (Sha.rounds (Sha.words bs 64) h i))])]) 0 ⟨by omega, rfl⟩ ?_ ?_
  · conv => whnf
    repeat (refine And.intro (by first | with_reducible rfl | exact congrArg (Value.int _) (wi (by omega) (by omega)) | exact wi (by omega) (by omega) | rfl) ?_; conv => whnf)
    first | exact trivial | exact fun _ _ h => h
  rintro i mm ⟨hi, he⟩
  subst mm
  conv => whnf
  refine ⟨fun h1 => ?_, fun h1 => ?_⟩
  · have h1' := of_decide_eq_true h1
    have hlt : i < 64 := by omega
    have hw8 := rounds_w8 (w := Sha.words bs 64) hh i
    generalize hvv : Sha.rounds (Sha.words bs 64) h i = v at hw8 ⊢
    conv => whnf
    intro o' ho _
    obtain rfl : o' = 0 := by have := ho (by decide); simpa using this
    conv => whnf
    first | refine xretk (rword_spec hl hb (hv.sub (Mem.sub_set _ hw)) (wl_wob (Mem.set_same ..) (by omega)) hlt) ?_ | refine xret (rword_spec hl hb (hv.sub (Mem.sub_set _ hw)) (wl_wob (Mem.set_same ..) (by omega)) hlt) ?_
    conv => whnf
    repeat (refine And.intro (by first | omega | (simp only [times]; omega)) ?_; conv => whnf)
    refine ⟨_, _, _, Mem.set_same .., ⟨by simp [times, LB.cells, Seg.cells, wc_len (show i ≤ 64 by omega)]; omega, by simp⟩, ?_⟩
    simp only [times, Int.toNat_natCast, Nat.mul_one, Nat.zero_add, Mem.set_set, wob_set hlt]
    conv => whnf
    simp only [nc_get, times, Int.toNat_natCast, Nat.zero_add, Nat.zero_mul, Nat.mul_one, Nat.one_mul]
    first | refine xretk (turn_spec (n := 6) (by decide) (by decide) (hw8.lt 4)) ?_ | refine xret (turn_spec (n := 6) (by decide) (by decide) (hw8.lt 4)) ?_
    conv => whnf
    simp only [nc_get]
    first | refine xretk (turn_spec (n := 11) (by decide) (by decide) (hw8.lt 4)) ?_ | refine xret (turn_spec (n := 11) (by decide) (by decide) (hw8.lt 4)) ?_
    conv => whnf
    simp only [nc_get]
    first | refine xretk (turn_spec (n := 25) (by decide) (by decide) (hw8.lt 4)) ?_ | refine xret (turn_spec (n := 25) (by decide) (by decide) (hw8.lt 4)) ?_
    conv => whnf
    simp only [nc_get, times, Int.toNat_natCast, Nat.zero_add, Nat.zero_mul, Nat.mul_one, Nat.one_mul]
    repeat (refine And.intro (by first | omega | (simp only [times]; omega)) ?_; conv => whnf)
    refine ⟨_, by have := (wl_wob (b := w) (bs := bs) (i := i + 1) (m := m.set w (wob bs (i + 1))) (Mem.set_same ..) (by omega)).get (j := i) (by rw [words_len]; omega); simp only [times, Int.toNat_natCast, Nat.mul_one]; exact this, rfl, ?_⟩
    conv => whnf
    simp only [nc_get, times, Int.toNat_natCast, Nat.zero_add, Nat.zero_mul, Nat.mul_one, Nat.one_mul]
    first | refine xretk (turn_spec (n := 2) (by decide) (by decide) (hw8.lt 0)) ?_ | refine xret (turn_spec (n := 2) (by decide) (by decide) (hw8.lt 0)) ?_
    conv => whnf
    simp only [nc_get]
    first | refine xretk (turn_spec (n := 13) (by decide) (by decide) (hw8.lt 0)) ?_ | refine xret (turn_spec (n := 13) (by decide) (by decide) (hw8.lt 0)) ?_
    conv => whnf
    simp only [nc_get]
    first | refine xretk (turn_spec (n := 22) (by decide) (by decide) (hw8.lt 0)) ?_ | refine xret (turn_spec (n := 22) (by decide) (by decide) (hw8.lt 0)) ?_
    conv => whnf
    simp only [nc_get, times, Int.toNat_natCast, Nat.zero_add, Nat.zero_mul, Nat.mul_one, Nat.one_mul]
    repeat (refine And.intro (by first | omega | (simp only [times]; omega)) ?_; conv => whnf)
    refine ⟨i + 1, ⟨by omega, by trivial⟩, by omega, ?_⟩
    rw [show Sha.rounds (Sha.words bs 64) h (i + 1) = Sha.step (Sha.K.getD i 0) ((Sha.words bs 64).getD i 0) v by rw [← hvv]; rfl]
    conv => whnf
    refine ⟨by rfl, ?_⟩
    conv => whnf
    repeat (refine And.intro (by first | with_reducible rfl | (first | exact congrArg (Value.int _) (iadd (by omega)) | exact (rstep_eq hw8 (getD_lt (by decide) (by decide) _) (words_lt hb _ _)).trans (by rw [words_getD (t := i + 1) (k := 63 - i) (by omega), show i + 1 + (63 - i) = 64 by omega])) | exact congrArg (Value.int _) (wi (by omega) (by omega)) | exact wi (by omega) (by omega) | rfl) ?_; conv => whnf)
    first | exact trivial | exact fun _ _ h => h
  · have h1' := of_decide_eq_false h1
    obtain rfl : i = 64 := by omega
    conv => whnf
    have hw8 := rounds_w8 (w := Sha.words bs 64) hh 64
    have hB : ∀ i : Nat, i < 8 → (((h.getD i 0 + (Sha.rounds (Sha.words bs 64) h 64).getD i 0) % Sha.M : Nat) : Int) = (((Sha.block h bs).getD i 0 : Nat) : Int) := fun i hi => by
      simp [Sha.block, Sha.add8, List.getD_eq_getElem?_getD, List.getElem?_range hi]
    refine .mk (ι := Nat) (fun i => 8 - i) (fun i mm => i ≤ 8 ∧ mm = m.set w (wob bs 64)) (fun i => [(2, .p 0 0), (4, .p 1 0), (7, .p 3 0), (14, .c (i64 i))])
      (fun i => [(41, [.ints .u64 8 ((nc (Sha.block h bs)).take i ++ (nc h).drop i)]), (41, [.ints .u64 8 (List.replicate 8 0)]), (46, [.ints .u64 64 (nc Sha.K)]), (41, [.ints .u64 8 (nc (Sha.rounds (Sha.words bs 64) h 64))])]) 0 ⟨by omega, rfl⟩ ?_ ?_
    · conv => whnf
      repeat (refine And.intro (by first | with_reducible rfl | exact congrArg (Value.int _) (wi (by omega) (by omega)) | exact wi (by omega) (by omega) | rfl) ?_; conv => whnf)
      first | exact trivial | exact fun _ _ h => h
    rintro i mm ⟨hi, he⟩
    subst mm
    generalize Sha.rounds (Sha.words bs 64) h 64 = v at hw8 hB ⊢
    conv => whnf
    refine ⟨fun h1 => ?_, fun h1 => ?_⟩
    · have h1' := of_decide_eq_true h1
      have hlt : i < 8 := by omega
      conv => whnf
      repeat (refine And.intro (by first | omega | (simp only [times]; omega)) ?_; conv => whnf)
      have hmg : ((nc (Sha.block h bs)).take i ++ (nc h).drop i).getD i 0 = ((h.getD i 0 : Nat) : Int) := mix_get8 (x := h) (v := Sha.rounds (Sha.words bs 64) h 64) hh.len hlt
      simp only [hmg, nc_get, times, Int.toNat_natCast, Nat.zero_add, Nat.zero_mul, Nat.mul_one, Nat.one_mul]
      refine ⟨i + 1, ⟨by omega, by trivial⟩, by omega, ?_⟩
      conv => whnf
      repeat (refine And.intro (by first | with_reducible rfl | (first | exact congrArg (Value.int _) (iadd (by omega)) | exact rmix_set hh.len (hh.lt _) (hw8.lt _) (by simp [Sha.block, add8_len]) hlt (hB i hlt)) | exact congrArg (Value.int _) (wi (by omega) (by omega)) | exact wi (by omega) (by omega) | rfl) ?_; conv => whnf)
      first | exact trivial | exact fun _ _ h => h
    · have h1' := of_decide_eq_false h1
      obtain rfl : i = 8 := by omega
      conv => whnf
      refine ⟨?_, Mem.sub_set _ hw⟩
      rw [List.take_of_length_le (by simp [Sha.block, Sha.add8]), List.drop_of_length_le (by simp [hh.len]), List.append_nil]
end Go.E.Ytmfjdgdiccfecaa
