/-
  SiK, StB, SfN, StC, E32, StK, StQ, StR, StS, StW, VecL, StD, VecL2, VecL3, StE
-/
import Derived.Test.YtcionccfgcnhoaaGreatDoorStoreRefusesZ8
namespace Go.E.YtcionccfgcnhoaaGreatDoor
open Go.Proofs
set_option maxRecDepth 100000
theorem hInt : ∃ ti, tt.get 3 = some ti ∧ ti.k = .int .i64 := ⟨_, rfl, rfl⟩
def insAtK (E : List Rk) (k : Nat) (x : Rk) : List Rk := E.take k ++ (x :: E.drop k)
theorem insAtK_flat (E : List Rk) (k : Nat) (x : Rk) : (insAtK E k x).flatMap encK = (E.take k).flatMap encK ++ (encK x ++ (E.drop k).flatMap encK) := by rw [insAtK, List.flatMap_append, List.flatMap_cons]
abbrev copyK {m : Mem} {b o n c b' o' n' c' : Nat} {arr arr' : Array Value} {te t' : TypeId} {fr' : Nat × Nat} {news : List Value} (hb : m b = some (.cells arr te)) (hfit : o + min n' n * 10 ≤ arr.size) (hb' : m b' = some (.cells arr' t' fr')) (hlen : news.length = min n' n * 10) (h4 : RowHas arr' o' news) (h5 : ∀ u ∈ news, u.oneCell' = true) :
    PrimSpec Tryz.prog (.builtin .copy [67, 67]) [.v (.slice (some ⟨b, o, none⟩) n c), .v (.slice (some ⟨b', o', none⟩) n' c')] m fun r m' => r = [.v (.int .i64 ((min n' n : Nat) : Int))] ∧ m' = m.set b (.cells (arr.toList.take o ++ (news ++ arr.toList.drop (o + news.length))).toArray te) := by
  obtain ⟨ti, h1, h2⟩ := hKs
  obtain ⟨ei, g1, g2, g3, g4⟩ := hKn
  exact copyP_spec tt_ok h1 h2 g1 hb (by rw [g2]; exact hfit) hb' (by rw [g2]; exact hlen) h4 h5
theorem appendZK {m : Mem} {a : Option Addr} {n c k : Nat} {E : List Rk} (hl : Kl m (.slice a n c) E) (h0 : 0 < k) (hg : c < n + k) (hb : n + k ≤ 10000000) :
    PrimSpec Tryz.prog (.builtin .append [67, 3]) [.v (.slice a n c), .v (.int .i64 k)] m fun r m' => ∃ b C, m b = none ∧ n + k ≤ C ∧ r = [.v (.slice (some ⟨b, 0, none⟩) (n + k) C)] ∧ ∃ arr : Array Value, RowHas arr 0 (E.flatMap encK) ∧ arr.size = C * 10 ∧ m' = m.set b (.cells arr 82) := by
  obtain ⟨ti, h1, h2⟩ := hKs
  obtain ⟨ei, g1, g2, g3, g4⟩ := hKn
  obtain ⟨ni, n1, n2⟩ := hInt
  have hn : E.length = n := by obtain ⟨a', c', e⟩ := hl.shape; cases e; rfl
  have hl' : Lies m ei.size (.slice a n c) (E.flatMap encK) := by rw [g2]; exact hl
  refine (appendZeros_spec tt_ok h1 h2 g1 n1 n2 (by rw [g2]; decide) rfl hl' h0 hg (by rw [g3]; omega) (by omega)).mono fun r m' ⟨b, C, q1, q2, q3, q4⟩ => ⟨b, C, q1, q2, q3, _, ?_, ?_, q4⟩
  · intro j u hu
    have hjl := (List.getElem?_eq_some_iff.1 hu).1
    rw [Nat.zero_add, Array.append_assoc, Array.getElem?_append_left (by simpa using hjl), List.getElem?_toArray]
    exact hu
  · simp only [Array.size_append, zeroCells_size, List.size_toArray, encK_ok.flen, g4, hn]
    have : (encK (ByteArray.empty, [], (none, 0, 0))).length = 10 := rfl
    rw [this]; omega
set_option maxHeartbeats 4000000 in
theorem insertK_spec {mm m p : Mem} {v : Value} {E : List Rk} {x : Rk} {k b' : Nat} (hs : Split mm [p, blk1 b' (.cells (encK x).toArray 82), m]) (hv : Ko p v E) (hk : k ≤ E.length) (hl : E.length ≤ 1000000) :
    Spec Tryz.prog 67 [.v v, i64 k, .v (.slice (some ⟨b', 0, none⟩) 1 1)] mm fun r m' => ∃ v' p', r = [.v v'] ∧ Split m' [p', m] ∧ Ko p' v' (insAtK E k x) := by
  have hx := (Ko.blk1 (e := x) (m := blk1 b' (.cells (encK x).toArray 82)) (blk1_same ..)).el.ea
  have happ : E.length = k → insAtK E k x = E ++ [x] := fun e => by rw [insAtK, List.take_of_length_le (by omega), List.drop_of_length_le (by omega)]
  rcases hv with ⟨rfl, hE⟩ | ⟨b, o, c, n, arr, rfl, h1, h2, h3, h4, h5, h6⟩
  · have hE0 : E.length = 0 := encK_ok.count (n := 0) (by rw [hE]; rfl)
    obtain rfl : k = 0 := by omega
    have hE' : E = [] := List.eq_nil_of_length_eq_zero hE0
    subst hE'
    refine en67 rfl (goY ?_)
    conv => whnf
    repeat (refine And.intro (by first | omega | (simp only [times]; omega)) ?_; conv => whnf)
    refine ⟨fun h => absurd h (by first | decide | simp), fun _ => ?_⟩
    conv => whnf
    refine ⟨fun _ => ?_, fun h => absurd h (by first | decide | simp)⟩
    conv => whnf
    refine .mk _ (appendKat (i := 0) hs rfl (Ko.nil _) (hx.sub (hs.sub (by simp))) (by simp)) ?_
    rintro _ m' ⟨v', p', rfl, hs', hv'⟩
    conv => whnf
    exact ⟨v', p', rfl, hs'.erase 1, hv'⟩
  have hn : E.length = n := encK_ok.count h2
  subst hn
  have hv : Ko p (.slice (some ⟨b, o, none⟩) E.length c) E := .inr ⟨b, o, c, E.length, arr, rfl, h1, h2, h3, h4, h5, h6⟩
  refine en67 rfl (goY ?_)
  conv => whnf
  repeat (refine And.intro (by first | omega | (simp only [times]; omega)) ?_; conv => whnf)
  intro o1 _ _
  refine ⟨fun h => absurd h (by first | decide | simp), fun _ => ?_⟩
  conv => whnf
  refine ⟨fun h => ?_, fun h => ?_⟩
  · have h' : E.length = k := by simp at h; omega
    conv => whnf
    refine .mk _ (appendKat (i := 0) hs rfl hv (hx.sub (hs.sub (by simp))) (by first | (rw [encK_ok.len]; omega) | (simp; omega))) ?_
    rintro _ m' ⟨v', p', rfl, hs', hv'⟩
    conv => whnf
    exact ⟨v', p', rfl, hs'.erase 1, by rw [happ h']; exact hv'⟩
  have hlt : k < E.length := by simp at h; omega
  clear h
  have ew1 : IntKind.i64.wrap ((E.length : Int) + ((1 : Nat) : Int)) = ((E.length + 1 : Nat) : Int) := by rw [wi (by omega) (by omega)]; omega
  conv => whnf
  refine .mk _ (cap_spec tt_ok (by rfl) rfl) ?_
  rintro _ _ ⟨rfl, rfl⟩
  conv => whnf
  rw [ew1]
  have hx' : mm b' = some (.cells (encK x).toArray 82) := hs.sub (a := blk1 b' (.cells (encK x).toArray 82)) (by simp) _ _ (blk1_same ..)
  have h1' : mm b = some (.cells arr 82) := hs.sub (a := p) (by simp) _ _ h1
  have hrow : RowHas arr o (E.flatMap encK) := h5
  have hsplit : E.flatMap encK = (E.take k).flatMap encK ++ (E.drop k).flatMap encK := by rw [← List.flatMap_append, List.take_append_drop]
  have hA : ((E.take k).flatMap encK).length = k * 10 := by rw [encK_ok.flen, List.length_take]; omega
  have hB : ((E.drop k).flatMap encK).length = (E.length - k) * 10 := by rw [encK_ok.flen, List.length_drop]
  rw [hsplit] at hrow
  have hrA := hrow.left
  have hrB := hrow.right
  rw [hA] at hrB
  have ek : (k : Int).toNat = k := by omega
  have ew2 : IntKind.i64.wrap (((E.length + 1 : Nat) : Int) - (k : Int)) = ((E.length + 1 - k : Nat) : Int) := by rw [wi (by omega) (by omega)]; omega
  have ew3 : IntKind.i64.wrap ((k : Int) + ((1 : Nat) : Int)) = ((k + 1 : Nat) : Int) := by rw [wi (by omega) (by omega)]; omega
  refine ⟨fun h => ?_, fun h => ?_⟩
  · have hc : c = E.length := by have := of_decide_eq_true h; omega
    subst hc
    clear h
    conv => whnf
    repeat (refine And.intro (by first | omega | (simp only [times]; omega)) ?_; conv => whnf)
    intro o2 q1 q2
    obtain rfl : o2 = o := by have := q1 (by omega); simpa [times] using this
    clear q1 q2
    conv => whnf
    rw [ew1, ew2, ek]
    refine .mk _ (appendZK (E := E.take k) (encK_ok.pre (hv.el.sub (hs.sub (by simp))) (by omega) (by omega)) (by omega) (by omega) (by omega)) ?_
    rintro _ m' ⟨b2, C, hb2, hC, rfl, arr2, r0, hsz, rfl⟩
    conv => whnf
    rw [show k - 0 + (E.length + 1 - k) = E.length + 1 by omega] at hC ⊢
    have hne1 : b' ≠ b2 := fun e => by rw [e, hb2] at hx'; cases hx'
    have hne2 : b ≠ b2 := fun e => by rw [e, hb2] at h1'; cases h1'
    repeat (refine And.intro (by first | omega | (simp only [times]; omega)) ?_; conv => whnf)
    intro o3 q1 q2
    obtain rfl : o3 = k * 10 := by have := q1 (by omega); simpa using this
    clear q1 q2
    conv => whnf
    rw [ek]
    refine .mk _ (copyK (news := encK x) (Mem.set_same ..) (by omega) ((Mem.set_ne _ _ hne1).trans hx') (by first | (rw [encK_ok.len]; omega) | (simp; omega)) (fun j u hu => by rw [Nat.zero_add, List.getElem?_toArray]; exact hu) (encK_ok.one x)) ?_
    rintro _ _ ⟨rfl, rfl⟩
    conv => whnf
    rw [Mem.set_set]
    have hf1 : k * 10 + (encK x).length ≤ arr2.size := by first | (rw [encK_ok.len]; omega) | (simp; omega)
    have r1 : RowHas _ (k * 10) (encK x) := RowHas.putSame hf1
    have r2 := r0.putOther hf1 (.inl (by rw [hA]; omega))
    have hsz3 := put_size hf1
    rw [hsz] at hsz3
    clear r0
    generalize (arr2.toList.take (k * 10) ++ (encK x ++ arr2.toList.drop (k * 10 + (encK x).length))).toArray = arr3 at r1 r2 hsz3 ⊢
    rw [ew3]
    repeat (refine And.intro (by first | omega | (simp only [times]; omega)) ?_; conv => whnf)
    intro o4 q1 q2
    have ek1 : ((k + 1 : Nat) : Int).toNat = k + 1 := by omega
    rw [ek1] at q1
    obtain rfl : o4 = (k + 1) * 10 := by have := q1 (by omega); simpa using this
    clear q1 q2
    conv => whnf
    rw [ek1]
    repeat (refine And.intro (by first | omega | (simp only [times]; omega)) ?_; conv => whnf)
    intro o5 q1 q2
    rw [ek] at q1
    obtain rfl : o5 = o2 + k * 10 := by have := q1 (by omega); simpa using this
    clear q1 q2
    conv => whnf
    rw [ek]
    refine .mk _ (copyK (news := (E.drop k).flatMap encK) (Mem.set_same ..) (by omega) ((Mem.set_ne _ _ hne2).trans h1') (by rw [hB]; omega) hrB encK_ok.fone) ?_
    rintro _ m4 ⟨rfl, rfl⟩
    conv => whnf
    first | refine ⟨fun _ h => (by cases h), ?_⟩ | skip
    conv => whnf
    rw [Mem.set_set]
    have hf2 : (k + 1) * 10 + ((E.drop k).flatMap encK).length ≤ arr3.size := by rw [hB, hsz3]; omega
    have r3 := RowHas.putSame hf2
    have r4 := r1.putOther hf2 (.inl (by first | (rw [encK_ok.len]; omega) | (simp; omega)))
    have r5 := r2.putOther hf2 (.inl (by rw [hA]; omega))
    have hsz4 := put_size hf2
    generalize (arr3.toList.take ((k + 1) * 10) ++ ((E.drop k).flatMap encK ++ arr3.toList.drop ((k + 1) * 10 + ((E.drop k).flatMap encK).length))).toArray = arr4 at r3 r4 r5 hsz4 ⊢
    refine ⟨_, _, rfl, ((hs.new hb2 (.cells arr4 82)).erase 1).erase 1, ?_⟩
    refine encK_ok.mk' (blk1_same ..) (by simp [insAtK]; omega) hC (by rw [hsz4, hsz3]; omega) ?_
    rw [insAtK_flat]
    exact r5.append (by rw [hA, Nat.zero_add]; exact r4.append (by rw [show k * 10 + (encK x).length = (k + 1) * 10 by first | (rw [encK_ok.len]; omega) | (simp; omega)]; exact r3))
  · have hc : E.length + 1 ≤ c := by have := of_decide_eq_false h; omega
    clear h
    conv => whnf
    rw [ew1]
    repeat (refine And.intro (by first | omega | (simp only [times]; omega)) ?_; conv => whnf)
    intro o2 q1 q2
    obtain rfl : o2 = o := by have := q1 (by omega); simpa [times] using this
    clear q1 q2
    have en1 : ((E.length + 1 : Nat) : Int).toNat = E.length + 1 := by omega
    conv => whnf
    rw [ew3, en1]
    repeat (refine And.intro (by first | omega | (simp only [times]; omega)) ?_; conv => whnf)
    intro o3 _ _
    conv => whnf
    have hbne : b' ≠ b := fun e => by
      have hd := (List.pairwise_cons.1 hs.2).1 (blk1 b' (.cells (encK x).toArray 82)) (by simp) b
      rcases hd with hd | hd
      · rw [h1] at hd; cases hd
      · rw [e, blk1_same] at hd; cases hd
    obtain ⟨ti, t1, t2⟩ := hKs
    obtain ⟨ei, g1, g2, g3, g4⟩ := hKn
    refine xext (ext_apart (P := Tryz.prog) (t := 67) (tr := 4) tt_ok Tryz.func113 (by rfl) (by rfl) (by kernel_rfl) t1 t2 g1 (by kernel_rfl) hx' h1' hbne (by omega)) ?_
    rintro _ _ ⟨rfl, rfl⟩
    conv => whnf
    refine ⟨fun _ => ?_, fun h => absurd h (by first | decide | simp)⟩
    conv => whnf
    rw [ew3]
    repeat (refine And.intro (by first | omega | (simp only [times]; omega)) ?_; conv => whnf)
    intro o4 q1 q2
    rw [show ((k + 1 : Nat) : Int).toNat = k + 1 by omega] at q1
    obtain rfl : o4 = o2 + (k + 1) * 10 := by have := q1 (by omega); simpa using this
    clear q1 q2
    conv => whnf
    repeat (refine And.intro (by first | omega | (simp only [times]; omega)) ?_; conv => whnf)
    intro o5 q1 q2
    rw [ek] at q1
    obtain rfl : o5 = o2 + k * 10 := by have := q1 (by omega); simpa using this
    clear q1 q2
    conv => whnf
    rw [ek, show ((k + 1 : Nat) : Int).toNat = k + 1 by omega]
    rw [show E.length + 1 - 0 = E.length + 1 by omega, show c - 0 = c by omega]
    have emin : min (E.length + 1 - k) (E.length + 1 - (k + 1)) = E.length - k := by omega
    refine .mk _ (copyK (news := (E.drop k).flatMap encK) h1' (by rw [emin]; omega) h1' (by rw [hB, emin]) hrB encK_ok.fone) ?_
    rintro _ m4 ⟨rfl, rfl⟩
    conv => whnf
    first | refine ⟨fun _ h => (by cases h), ?_⟩ | skip
    conv => whnf
    have hf1 : o2 + (k + 1) * 10 + ((E.drop k).flatMap encK).length ≤ arr.size := by rw [hB]; omega
    have r1 := RowHas.putSame hf1
    have r2 := hrA.putOther hf1 (.inl (by rw [hA]; omega))
    have hsz1 := put_size hf1
    have hsp := fun o' => hs.set h1 (o' : Obj)
    generalize (arr.toList.take (o2 + (k + 1) * 10) ++ ((E.drop k).flatMap encK ++ arr.toList.drop (o2 + (k + 1) * 10 + ((E.drop k).flatMap encK).length))).toArray = arr1 at r1 r2 hsz1 ⊢
    repeat (refine And.intro (by first | omega | (simp only [times]; omega)) ?_; conv => whnf)
    intro o6 q1 q2
    rw [ek] at q1
    obtain rfl : o6 = o2 + k * 10 := by have := q1 (by omega); simpa using this
    clear q1 q2
    conv => whnf
    rw [ek]
    refine .mk _ (copyK (news := encK x) (Mem.set_same ..) (by omega) ((Mem.set_ne _ _ hbne).trans hx') (by first | (rw [encK_ok.len]; omega) | (simp; omega)) (fun j u hu => by rw [Nat.zero_add, List.getElem?_toArray]; exact hu) (encK_ok.one x)) ?_
    rintro _ _ ⟨rfl, rfl⟩
    conv => whnf
    rw [Mem.set_set]
    have hf2 : o2 + k * 10 + (encK x).length ≤ arr1.size := by first | (rw [encK_ok.len]; omega) | (simp; omega)
    have r3 := RowHas.putSame hf2
    have r4 := r1.putOther hf2 (.inr (by first | (rw [encK_ok.len]; omega) | (simp; omega)))
    have r5 := r2.putOther hf2 (.inl (by rw [hA]; omega))
    have hsz2 := put_size hf2
    generalize (arr1.toList.take (o2 + k * 10) ++ (encK x ++ arr1.toList.drop (o2 + k * 10 + (encK x).length))).toArray = arr2 at r3 r4 r5 hsz2 ⊢
    refine ⟨_, _, rfl, (hsp _).erase 1, ?_⟩
    refine encK_ok.mk' (Mem.set_same ..) (by simp [insAtK]; omega) hc (by rw [hsz2, hsz1]; exact h4) ?_
    rw [insAtK_flat]
    exact r5.append (by rw [hA]; exact r3.append (by rw [show o2 + k * 10 + (encK x).length = o2 + (k + 1) * 10 by first | (rw [encK_ok.len]; omega) | (simp; omega)]; exact r4))
theorem clash2_spec {m : Mem} {e f : En} {b : Nat} (hb : m b = some (.cells (encE e).toArray 57)) : Ret Tryz.prog 131 [Nv f, ptrV b] m [boolV (!decide (e = f) && decide (enDot e = enDot f))] := by
  have hr : MRange m b 0 (encE e) := ⟨_, _, _, hb, fun j u hu => by rw [Nat.zero_add, List.getElem?_toArray]; exact hu⟩
  refine en131 rfl (goY ?_)
  conv => whnf
  refine ⟨[.one (.int .i64 e.1), .one (.int .i64 e.2.1), .one (.int .u64 e.2.2.1), .one (.int .i64 e.2.2.2)], ⟨rfl, rfl, rfl, rfl, trivial⟩, rfl, hr, ?_⟩
  conv => whnf
  rw [eqPN']
  refine ⟨fun h => ?_, fun h => ?_⟩
  · have h' := of_decide_eq_true h
    conv => whnf
    refine ⟨[.one (.int .i64 e.1), .one (.int .i64 e.2.1), .one (.int .u64 e.2.2.1), .one (.int .i64 e.2.2.2)], ⟨rfl, rfl, rfl, rfl, trivial⟩, rfl, hr, ?_⟩
    conv => whnf
    first | refine xretk (cdot_spec (e := e)) ?_ | refine xret (cdot_spec (e := e)) ?_
    conv => whnf
    first | refine xretk (cdot_spec (e := f)) ?_ | refine xret (cdot_spec (e := f)) ?_
    conv => whnf
    refine ⟨?_, rfl⟩
    rw [eqPD, decide_eq_false h']
    rfl
  · have h' := of_decide_eq_false h
    conv => whnf
    refine ⟨?_, rfl⟩
    have : e = f := by simpa using h'
    rw [decide_eq_true this]
    rfl
theorem clash1_spec {m : Mem} {e : En} {b : Nat} {w : List Int} {a : Option Addr} {c : Nat} {K : List En} (hw : w.length = 8) (hb : m b = some (.cells (LB.cells [.ints .u64 8 w, .one (.slice a K.length c)]).toArray 40)) (hv : Na m (.slice a K.length c) K) (hl : K.length ≤ 100000000) :
    Ret Tryz.prog 130 [Nv e, ptrV b] m [boolV (clashP K e)] := by
  refine Spec.ret (R := fun r m' => r = [boolV (clashP K e)] ∧ Sub m m') ?_ fun _ _ h => h
  refine en130 rfl (goY ?_)
  conv => whnf
  intro b2 hb2
  conv => whnf
  have hs := Mem.sub_set (.cells (encE e).toArray 57) hb2
  have hcell : mcell (m.set b2 (.cells (encE e).toArray 57)) b 8 = some (.slice a K.length c) := mcell_of (hs _ _ hb) (by
    rw [List.getElem?_toArray]
    simp [LB.cells, Seg.cells, hw])
  refine ⟨_, hcell, rfl, ?_⟩
  conv => whnf
  refine .mk _ (makeFunc_spec (cs := [.pointer (some ⟨b2, 0, none⟩)]) (by simp [Value.oneCell'])) ?_
  rintro _ _ ⟨rfl, rfl⟩
  conv => whnf
  first | refine xretk (containsN1_spec (p := fun f => !decide (e = f) && decide (enDot e = enDot f)) (hv.sub hs) (fun f _ => clash2_spec (Mem.set_same ..)) hl) ?_ | refine xret (containsN1_spec (p := fun f => !decide (e = f) && decide (enDot e = enDot f)) (hv.sub hs) (fun f _ => clash2_spec (Mem.set_same ..)) hl) ?_
  conv => whnf
  exact ⟨rfl, hs⟩
theorem clash_spec {m : Mem} {u w : List Int} {a a' : Option Addr} {c c' : Nat} {E K : List En} (hw8 : w.length = 8) (hv : Na m (.slice a E.length c) E) (hw : Na m (.slice a' K.length c') K) (hl : E.length ≤ 100000000) (hl' : K.length ≤ 100000000) :
    Ret Tryz.prog 77 [cartV u a E.length c, cartV w a' K.length c'] m [boolV (clashF E K)] := by
  refine Spec.ret (R := fun r m' => r = [boolV (clashF E K)] ∧ Sub m m') ?_ fun _ _ h => h
  refine en77 rfl (goY ?_)
  conv => whnf
  intro b3 hb3
  conv => whnf
  have hs := Mem.sub_set (.cells (LB.cells [.ints .u64 8 w, .one (.slice a' K.length c')]).toArray 40) hb3
  refine .mk _ (makeFunc_spec (cs := [.pointer (some ⟨b3, 0, none⟩)]) (by simp [Value.oneCell'])) ?_
  rintro _ _ ⟨rfl, rfl⟩
  conv => whnf
  first | refine xretk (containsN1_spec (p := clashP K) (hv.sub hs) (fun f _ => clash1_spec hw8 (Mem.set_same ..) (hw.sub hs) hl') hl) ?_ | refine xret (containsN1_spec (p := clashP K) (hv.sub hs) (fun f _ => clash1_spec hw8 (Mem.set_same ..) (hw.sub hs) hl') hl) ?_
  conv => whnf
  exact ⟨rfl, hs⟩
set_option maxHeartbeats 1000000 in
theorem indexEqN_spec {m : Mem} {v : Value} {E : List En} {x : En} (hv : Na m v E) (hl : E.length ≤ 100000000) : Ret Tryz.prog 171 [.v v, Nv x] m [i64 (idxG (fun y => decide (x = y)) E)] := by
  obtain ⟨a, c, rfl⟩ := hv.shape
  refine en171 rfl (goY ?_)
  conv => whnf
  refine .mk (ι := Nat) (fun i => E.length - i) (fun i mm => i ≤ E.length ∧ (∀ y ∈ E.take i, decide (x = y) = false) ∧ mm = m) (fun i => [(0, .c (.v (.slice a E.length c))), (3, .p 0 0), (7, .c (i64 E.length)), (8, .c (i64 i))]) (fun _ => [(57, [.one (.int .i64 x.1), .one (.int .i64 x.2.1), .one (.int .u64 x.2.2.1), .one (.int .i64 x.2.2.2)])]) 0 ⟨by omega, by simp, rfl⟩ ?_ ?_
  · conv => whnf
    repeat (refine And.intro (by first | with_reducible rfl | exact congrArg (Value.int _) (wi (by omega) (by omega)) | exact wi (by omega) (by omega) | rfl) ?_; conv => whnf)
    first | exact trivial | exact fun _ _ h => h
  rintro i mm ⟨hi, hall, he⟩
  subst mm
  conv => whnf
  refine ⟨fun h => ?_, fun h => ?_⟩
  · have h' := of_decide_eq_true h
    have hlt : i < E.length := by omega
    obtain ⟨bl, ol, c', hh, hg⟩ := hv.real hlt
    injection hh with hh1 _ hh3
    subst hh1
    clear hh3 c'
    have hg := hg i hlt
    have hst : E.take (i + 1) = E.take i ++ [E[i]] := List.take_succ_eq_append_getElem hlt
    conv => whnf
    repeat (refine And.intro (by first | omega | (simp only [times]; omega)) ?_; conv => whnf)
    refine ⟨[.one (.int .i64 E[i].1), .one (.int .i64 E[i].2.1), .one (.int .u64 E[i].2.2.1), .one (.int .i64 E[i].2.2.2)], ⟨rfl, rfl, rfl, rfl, trivial⟩, rfl, by simp only [times, Int.toNat_natCast]; exact hg, ?_⟩
    conv => whnf
    rw [eqPN]
    refine ⟨fun h => ?_, fun h => ?_⟩
    · conv => whnf
      exact ⟨by rw [idxG_at hlt hall h], rfl⟩
    · conv => whnf
      refine ⟨i + 1, ⟨by omega, fun y hy => ?_, rfl⟩, by omega, ?_⟩
      · rw [hst] at hy
        rcases List.mem_append.1 hy with hy | hy
        · exact hall y hy
        · rw [List.mem_singleton.1 hy]; exact h
      · conv => whnf
        repeat (refine And.intro (by first | with_reducible rfl | (first | exact congrArg (Value.int _) (iadd (by omega))) | exact congrArg (Value.int _) (wi (by omega) (by omega)) | exact wi (by omega) (by omega) | rfl) ?_; conv => whnf)
        first | exact trivial | exact fun _ _ h => h
  · have h' := of_decide_eq_false h
    obtain rfl : i = E.length := by omega
    rw [List.take_length] at hall
    conv => whnf
    exact ⟨by rw [idxG_none hall], rfl⟩
theorem contains_anyN (x : En) (E : List En) : (E.any fun y => decide (x = y)) = E.contains x := by
  rw [Bool.eq_iff_iff, List.any_eq_true, List.contains_iff_mem]
  exact ⟨fun ⟨y, h1, h2⟩ => by rw [of_decide_eq_true h2]; exact h1, fun h => ⟨x, h, by simp⟩⟩
theorem containsEqN_spec {m : Mem} {v : Value} {E : List En} {x : En} (hv : Na m v E) (hl : E.length ≤ 100000000) : Ret Tryz.prog 133 [.v v, Nv x] m [boolV (E.contains x)] := by
  obtain ⟨a, c, rfl⟩ := hv.shape
  refine en133 rfl (goY ?_)
  conv => whnf
  first | refine xretk (indexEqN_spec hv hl) ?_ | refine xret (indexEqN_spec hv hl) ?_
  conv => whnf
  exact ⟨by rw [idxG_nonneg, contains_anyN], rfl⟩
abbrev fnP3V (F b b2 b3 : Nat) : CV := .v (.func (.func F) #[] #[.pointer (some ⟨b, 0, none⟩), .pointer (some ⟨b2, 0, none⟩), .pointer (some ⟨b3, 0, none⟩)])
abbrev cartO (u : List Int) (a : Option Addr) (n c : Nat) : Obj := .cells (LB.cells [.ints .u64 8 u, .one (.slice a n c)]).toArray 40
abbrev boolO (x : Bool) : Obj := .cells #[.bool x] 4
theorem filter_at {α : Type} {p : α → Bool} {E : List α} {i : Nat} (hi : i < E.length) (h : p E[i] = true) : ∃ hk : ((E.take i).filter p).length < (E.filter p).length, (E.filter p)[((E.take i).filter p).length] = E[i] := by
  have e : E.filter p = (E.take i).filter p ++ E[i] :: (E.drop (i + 1)).filter p := by
    conv => lhs; rw [← List.take_append_drop i E, List.filter_append, List.drop_eq_getElem_cons hi, List.filter_cons, if_pos h]
  refine ⟨by rw [e, List.length_append, List.length_cons]; omega, ?_⟩
  simp only [e]
  rw [List.getElem_append_right (Nat.le_refl _)]
  simp
theorem filter_next {α : Type} {p : α → Bool} {E : List α} {i : Nat} (hi : i < E.length) : ((E.take (i + 1)).filter p).length = ((E.take i).filter p).length + if p E[i] then 1 else 0 := by
  rw [List.take_succ_eq_append_getElem hi, List.filter_append, List.length_append]
  cases h : p E[i] <;> simp [h]
theorem stays_spec {m : Mem} {u w : List Int} {a a' : Option Addr} {n n' c c' : Nat} {both : Bool} : Spec Tryz.prog 80 [cartV u a n c, cartV w a' n' c', boolV both] m fun r m' => ∃ b3 b4 b5, r = [fnP3V 132 b3 b5 b4] ∧ Split m' [blk1 b5 (boolO both), blk1 b4 (cartO w a' n' c'), blk1 b3 (cartO u a n c), m] := by
  refine en80 rfl (goY ?_)
  conv => whnf
  intro b3 hb3
  conv => whnf
  intro b4 hb4
  conv => whnf
  intro b5 hb5
  conv => whnf
  refine .mk _ (makeFunc_spec (cs := [.pointer (some ⟨b3, 0, none⟩), .pointer (some ⟨b5, 0, none⟩), .pointer (some ⟨b4, 0, none⟩)]) (by simp [Value.oneCell'])) ?_
  rintro _ _ ⟨rfl, rfl⟩
  conv => whnf
  exact ⟨b3, b4, b5, rfl, (((Split.one m).new hb3 _).new hb4 _).new hb5 _⟩
set_option maxHeartbeats 4000000 in
theorem staysIter {I : Nat → Mem → Prop} {l b3 b4 b5 : Nat} {u w : List Int} {a a' : Option Addr} {c c' : Nat} {E K : List En} {both : Bool} (hw : w.length = 8) (hn : E.length ≤ 1000000) (hnk : K.length ≤ 1000000) (hIE : ∀ e ∈ E, okE e)
    (hI : ∀ k m, I k m → m b3 = some (cartO u a E.length c) ∧ m b4 = some (cartO w a' K.length c') ∧ m b5 = some (boolO both) ∧ Na m (.slice a E.length c) E ∧ Na m (.slice a' K.length c') K)
    (hu : u.length = 8)
    (hy : ∀ k m (hk : k < (staysF E w K both).length), I k m → YSpec Tryz.prog l [Nv (staysF E w K both)[k]] m fun r m' => r = [.v (.bool true)] ∧ I (k + 1) m') {m : Mem} (h0 : I 0 m) :
    Spec Tryz.prog 132 [.v (.func (.yield l) #[] #[]), ptrV b3, ptrV b5, ptrV b4] m fun r m' => r = [] ∧ I (staysF E w K both).length m' := by
  obtain ⟨g3, _, _, _, _⟩ := hI 0 m h0
  have hc8 : ∀ (u : List Int) (v : Value), u.length = 8 → (LB.cells [.ints .u64 8 u, .one v])[8]? = some v := fun u v hu => by simp [LB.cells, Seg.cells, hu]
  refine en132 rfl (goY ?_)
  conv => whnf
  refine ⟨_, mcell_of g3 (by rw [List.getElem?_toArray]; exact hc8 u _ hu), rfl, ?_⟩
  conv => whnf
  refine .mk (ι := Nat) (fun i => E.length - i) (fun i mm => i ≤ E.length ∧ I ((E.take i).filter (staysP w K both)).length mm) (fun i => [(0, .c (.v (.func (.yield l) #[] #[]))), (2, .c (ptrV b5)), (3, .c (ptrV b4)), (9, .c (.v (.slice a E.length c))), (10, .c (i64 E.length)), (11, .c (i64 i))]) (fun _ => []) 0 ⟨by omega, h0⟩ ?_ ?_
  · conv => whnf
    repeat (refine And.intro (by first | with_reducible rfl | exact congrArg (Value.int _) (wi (by omega) (by omega)) | exact wi (by omega) (by omega) | rfl) ?_; conv => whnf)
    first | exact trivial | exact fun _ _ h => h
  rintro i mm ⟨hi, hii⟩
  conv => whnf
  refine ⟨fun h1 => ?_, fun h1 => ?_⟩
  · have h1' := of_decide_eq_true h1
    have hlt : i < E.length := by omega
    clear h1
    obtain ⟨q3, q4, q5, qE, qK⟩ := hI _ mm hii
    obtain ⟨bl, ol, c2, hh, hg⟩ := qE.real hlt
    injection hh with hh1 _ hh3
    subst hh1
    clear hh3 c2
    have hg := hg i hlt
    have hnext := filter_next (p := staysP w K both) hlt
    have hyk : ∀ (hp : staysP w K both E[i] = true), YSpec Tryz.prog l [Nv E[i]] mm fun r m' => r = [.v (.bool true)] ∧ I (((E.take i).filter (staysP w K both)).length + 1) m' := fun hp => by
      obtain ⟨hk, e⟩ := filter_at hlt hp
      have := hy _ mm hk hii
      simp only [staysF] at this
      rw [e] at this
      exact this
    have hx := hIE _ (List.getElem_mem hlt)
    generalize E[i] = x at hg hnext hyk hx
    have hpx : staysP w K both x = ((both && K.contains x) || !hasV w (enDot x)) := rfl
    have hv5 : mcell mm b5 0 = some (.bool both) := mcell_of q5 rfl
    have fin : ∀ (p : Bool), staysP w K both x = p → True := fun _ _ => trivial
    have hw4 : MRange mm b4 0 [] := ⟨_, _, _, q4, by simp⟩
    have hwr : MRange mm b4 0 (LB.cells [.ints .u64 8 w]) := ⟨_, _, _, q4, fun j y hj => by
      rw [Nat.zero_add, List.getElem?_toArray]
      have e : LB.cells [.ints .u64 8 w, .one (.slice a' K.length c')] = LB.cells [.ints .u64 8 w] ++ [.slice a' K.length c'] := by simp [LB.cells, Seg.cells]
      rw [e, List.getElem?_append_left (List.getElem?_eq_some_iff.1 hj).1]
      exact hj⟩
    conv => whnf
    repeat (refine And.intro (by first | omega | (simp only [times]; omega)) ?_; conv => whnf)
    refine ⟨[.one (.int .i64 x.1), .one (.int .i64 x.2.1), .one (.int .u64 x.2.2.1), .one (.int .i64 x.2.2.2)], ⟨rfl, rfl, rfl, rfl, trivial⟩, rfl, by simp only [times, Int.toNat_natCast]; exact hg, ?_⟩
    conv => whnf
    refine ⟨_, hv5, rfl, ?_⟩
    cases both with
    | true =>
      refine ⟨fun _ => ?_, fun h => absurd h (by first | decide | simp)⟩
      conv => whnf
      refine ⟨_, mcell_of q4 (by rw [List.getElem?_toArray]; exact hc8 w _ hw), rfl, ?_⟩
      conv => whnf
      first | refine xretk (containsEqN_spec (x := x) qK (by omega)) ?_ | refine xret (containsEqN_spec (x := x) qK (by omega)) ?_
      conv => whnf
      by_cases hk : K.contains x = true
      · rw [hk] at hpx ⊢
        have hp : staysP w K true x = true := by rw [hpx]; rfl
        refine ⟨fun _ => ?_, fun h => absurd h (by first | decide | simp)⟩
        conv => whnf
        refine .mk _ (hyk hp) ?_
        rintro _ m' ⟨rfl, hi'⟩
        conv => whnf
        refine ⟨fun h => absurd h (by first | decide | simp), fun _ => ?_⟩
        conv => whnf
        refine ⟨i + 1, ⟨by omega, by rw [hnext, if_pos hp]; exact hi'⟩, by omega, ?_⟩
        conv => whnf
        repeat (refine And.intro (by first | with_reducible rfl | (first | exact congrArg (Value.int _) (iadd (by omega))) | exact congrArg (Value.int _) (wi (by omega) (by omega)) | exact wi (by omega) (by omega) | rfl) ?_; conv => whnf)
        first | exact trivial | exact fun _ _ h => h
      · have hk : K.contains x = false := by simpa using hk
        rw [hk] at hpx ⊢
        refine ⟨fun h => absurd h (by first | decide | simp), fun _ => ?_⟩
        conv => whnf
        refine ⟨[.ints .u64 8 w], ⟨hw, trivial⟩, rfl, hwr, ?_⟩
        conv => whnf
        first | refine xretk (cdot_spec (e := x)) ?_ | refine xret (cdot_spec (e := x)) ?_
        conv => whnf
        first | refine xretk (has_spec (v := w) (n := x.2.1) (k := x.2.2.1) hx.2.1) ?_ | refine xret (has_spec (v := w) (n := x.2.1) (k := x.2.2.1) hx.2.1) ?_
        conv => whnf
        have hhv : (rightN x.2.1 x.2.2.1 && decide (x.2.2.1 ≤ getN w x.2.1)) = hasV w (enDot x) := rfl
        rw [hhv]
        by_cases hh : hasV w (enDot x) = true
        · rw [hh] at hpx ⊢
          have hp : staysP w K true x = false := by rw [hpx]; simp
          refine ⟨fun h => absurd h (by first | decide | simp), fun _ => ?_⟩
          conv => whnf
          refine ⟨i + 1, ⟨by omega, by rw [hnext, if_neg (by rw [hp]; decide)]; exact hii⟩, by omega, ?_⟩
          conv => whnf
          repeat (refine And.intro (by first | with_reducible rfl | (first | exact congrArg (Value.int _) (iadd (by omega))) | exact congrArg (Value.int _) (wi (by omega) (by omega)) | exact wi (by omega) (by omega) | rfl) ?_; conv => whnf)
          first | exact trivial | exact fun _ _ h => h
        · have hh : hasV w (enDot x) = false := by simpa using hh
          rw [hh] at hpx ⊢
          have hp : staysP w K true x = true := by rw [hpx]; simp
          refine ⟨fun _ => ?_, fun h => absurd h (by first | decide | simp)⟩
          conv => whnf
          refine .mk _ (hyk hp) ?_
          rintro _ m' ⟨rfl, hi'⟩
          conv => whnf
          refine ⟨fun h => absurd h (by first | decide | simp), fun _ => ?_⟩
          conv => whnf
          refine ⟨i + 1, ⟨by omega, by rw [hnext, if_pos hp]; exact hi'⟩, by omega, ?_⟩
          conv => whnf
          repeat (refine And.intro (by first | with_reducible rfl | (first | exact congrArg (Value.int _) (iadd (by omega))) | exact congrArg (Value.int _) (wi (by omega) (by omega)) | exact wi (by omega) (by omega) | rfl) ?_; conv => whnf)
          first | exact trivial | exact fun _ _ h => h
    | false =>
      refine ⟨fun h => absurd h (by first | decide | simp), fun _ => ?_⟩
      conv => whnf
      refine ⟨[.ints .u64 8 w], ⟨hw, trivial⟩, rfl, hwr, ?_⟩
      conv => whnf
      first | refine xretk (cdot_spec (e := x)) ?_ | refine xret (cdot_spec (e := x)) ?_
      conv => whnf
      first | refine xretk (has_spec (v := w) (n := x.2.1) (k := x.2.2.1) hx.2.1) ?_ | refine xret (has_spec (v := w) (n := x.2.1) (k := x.2.2.1) hx.2.1) ?_
      conv => whnf
      have hhv : (rightN x.2.1 x.2.2.1 && decide (x.2.2.1 ≤ getN w x.2.1)) = hasV w (enDot x) := rfl
      rw [hhv]
      by_cases hh : hasV w (enDot x) = true
      · rw [hh] at hpx ⊢
        have hp : staysP w K false x = false := by rw [hpx]; simp
        refine ⟨fun h => absurd h (by first | decide | simp), fun _ => ?_⟩
        conv => whnf
        refine ⟨i + 1, ⟨by omega, by rw [hnext, if_neg (by rw [hp]; decide)]; exact hii⟩, by omega, ?_⟩
        conv => whnf
        repeat (refine And.intro (by first | with_reducible rfl | (first | exact congrArg (Value.int _) (iadd (by omega))) | exact congrArg (Value.int _) (wi (by omega) (by omega)) | exact wi (by omega) (by omega) | rfl) ?_; conv => whnf)
        first | exact trivial | exact fun _ _ h => h
      · have hh : hasV w (enDot x) = false := by simpa using hh
        rw [hh] at hpx ⊢
        have hp : staysP w K false x = true := by rw [hpx]; simp
        refine ⟨fun _ => ?_, fun h => absurd h (by first | decide | simp)⟩
        conv => whnf
        refine .mk _ (hyk hp) ?_
        rintro _ m' ⟨rfl, hi'⟩
        conv => whnf
        refine ⟨fun h => absurd h (by first | decide | simp), fun _ => ?_⟩
        conv => whnf
        refine ⟨i + 1, ⟨by omega, by rw [hnext, if_pos hp]; exact hi'⟩, by omega, ?_⟩
        conv => whnf
        repeat (refine And.intro (by first | with_reducible rfl | (first | exact congrArg (Value.int _) (iadd (by omega))) | exact congrArg (Value.int _) (wi (by omega) (by omega)) | exact wi (by omega) (by omega) | rfl) ?_; conv => whnf)
        first | exact trivial | exact fun _ _ h => h
  · have h1' := of_decide_eq_false h1
    obtain rfl : i = E.length := by omega
    rw [List.take_length] at hii
    conv => whnf
    exact ⟨rfl, hii⟩
end Go.E.YtcionccfgcnhoaaGreatDoor
namespace Go.E
section
variable {α : Type} {enc : α → List Value} {s : Nat}
theorem put_part {arr : Array Value} {a j : Nat} {old cs : List Value} (hfit : a + old.length ≤ arr.size) (hold : ∀ k u, old[k]? = some u → arr[a + k]? = some u) (hj : j + cs.length ≤ old.length) :
    arr.toList.take a ++ ((old.take j ++ cs ++ old.drop (j + cs.length)) ++ arr.toList.drop (a + old.length)) = arr.toList.take (a + j) ++ (cs ++ arr.toList.drop (a + j + cs.length)) := by
  have hlen : (old.take j ++ cs ++ old.drop (j + cs.length)).length = old.length := by
    simp only [List.length_append, List.length_take, List.length_drop]; omega
  have h1 := fun k u => put_cells (arr := arr) (cs := old.take j ++ cs ++ old.drop (j + cs.length)) (a := a) (j := k) (u := u) (by rw [hlen]; exact hfit)
  have h2 := fun k u => put_cells (arr := arr) (cs := cs) (a := a + j) (j := k) (u := u) (by omega)
  rw [hlen] at h1
  refine List.ext_getElem? fun k => Option.ext fun u => ?_
  have h1 := h1 k u
  have h2 := h2 k u
  rw [List.getElem?_toArray] at h1 h2
  rw [h1, h2]
  by_cases k1 : k < a
  · rw [if_pos k1, if_pos (by omega)]
  rw [if_neg k1]
  by_cases k2 : k < a + old.length
  · rw [if_pos k2]
    have hin : ∃ w, old[k - a]? = some w := ⟨_, List.getElem?_eq_getElem (by omega)⟩
    obtain ⟨w, hw⟩ := hin
    have hw' := hold _ _ hw
    rw [show a + (k - a) = k by omega] at hw'
    by_cases k3 : k < a + j
    · rw [if_pos k3, List.append_assoc, List.getElem?_append_left (by rw [List.length_take]; omega), List.getElem?_take, if_pos (by omega), hw, hw']
    · rw [if_neg k3]
      by_cases k4 : k < a + j + cs.length
      · rw [if_pos k4, List.append_assoc, List.getElem?_append_right (by rw [List.length_take]; omega), List.length_take, List.getElem?_append_left (by omega), show k - a - min j old.length = k - (a + j) by omega]
      · rw [if_neg k4, List.getElem?_append_right (by rw [List.length_append, List.length_take]; omega), List.length_append, List.length_take, List.getElem?_drop, show j + cs.length + (k - a - (min j old.length + cs.length)) = k - a by omega, hw, hw']
  · rw [if_neg k2, if_neg (by omega), if_neg (by omega)]
theorem EncOk.setPart (h : EncOk enc s) {p : Mem} {T : TypeId} {b o n c : Nat} {E : List α} (hl : Own p T s (.slice (some ⟨b, o, none⟩) n c) (E.flatMap enc)) {i j : Nat} (hi : i < E.length) {cs : List Value} {x : α} (hj : j + cs.length ≤ s) (hx : enc x = (enc E[i]).take j ++ cs ++ (enc E[i]).drop (j + cs.length)) :
    ∃ arr, p b = some (.cells arr T (0, 0)) ∧ o + i * s + j + cs.length ≤ arr.size ∧ Own (p.set b (.cells (arr.toList.take (o + i * s + j) ++ (cs ++ arr.toList.drop (o + i * s + j + cs.length))).toArray T (0, 0))) T s (.slice (some ⟨b, o, none⟩) n c) ((E.set i x).flatMap enc) := by
  obtain ⟨arr, h1, h2, h3⟩ := h.set hl hi x
  obtain ⟨arr', g1, _, _, _, g5⟩ := h.row hl
  rw [h1] at g1
  cases g1
  refine ⟨arr, h1, by omega, ?_⟩
  have hold : ∀ k u, (enc E[i])[k]? = some u → arr[o + i * s + k]? = some u := fun k u hu => by
    rw [Nat.add_assoc]
    exact g5 _ _ (h.at hi hu)
  rw [hx] at h3
  have := put_part (arr := arr) (a := o + i * s) (j := j) (old := enc E[i]) (cs := cs) (by rw [h.len]; exact h2) hold (by rw [h.len]; exact hj)
  rw [h.len] at this
  rw [this] at h3
  exact h3
theorem setIf_eq {arr : Array Value} {a : Nat} {u : Value} (h : a < arr.size) : (arr.toList.take a ++ ([u] ++ arr.toList.drop (a + 1))).toArray = arr.setIfInBounds a u := by
  apply Array.toList_inj.1
  rw [Array.toList_setIfInBounds, List.set_eq_take_append_cons_drop, if_pos (by rw [Array.length_toList]; exact h)]
  rfl
theorem EncOk.setCell (h : EncOk enc s) {p : Mem} {T : TypeId} {b o n c : Nat} {E : List α} (hl : Own p T s (.slice (some ⟨b, o, none⟩) n c) (E.flatMap enc)) {i j : Nat} (hi : i < E.length) {u : Value} {x : α} (hj : j < s) (hx : enc x = (enc E[i]).take j ++ [u] ++ (enc E[i]).drop (j + 1)) :
    ∃ arr, p b = some (.cells arr T (0, 0)) ∧ o + i * s + j < arr.size ∧ Own (p.set b (.cells (arr.setIfInBounds (o + i * s + j) u) T (0, 0))) T s (.slice (some ⟨b, o, none⟩) n c) ((E.set i x).flatMap enc) := by
  obtain ⟨arr, h1, h2, h3⟩ := h.setPart (cs := [u]) hl hi (by simp only [List.length_cons, List.length_nil]; omega) hx
  simp only [List.length_cons, List.length_nil] at h2 h3
  rw [setIf_eq (by omega)] at h3
  exact ⟨arr, h1, by omega, h3⟩
end
end Go.E
namespace Go.E.YtcionccfgcnhoaaGreatDoor
open Go.Proofs
set_option maxRecDepth 100000
theorem MRange.tail {m : Mem} {b o k : Nat} {l : List Value} (h : MRange m b o l) : MRange m b (o + k) (l.drop k) := by
  obtain ⟨arr, t, fr, h1, h2⟩ := h
  refine ⟨arr, t, fr, h1, fun j u hu => ?_⟩
  rw [List.getElem?_drop] at hu
  rw [Nat.add_assoc]
  exact h2 _ _ hu
theorem MRange.head0 {m : Mem} {b o : Nat} {l : List Value} {y : Value} (h : MRange m b o l) (hy : l[0]? = some y) : mcell m b o = some y := by
  obtain ⟨arr, t, fr, h1, h2⟩ := h
  exact mcell_of h1 (by have := h2 0 y hy; simpa using this)
abbrev strO (k : ByteArray) : Obj := .cells #[.string k] 9
def Kys (m : Mem) (v : Value) (L : List Kd) : Prop := ∃ R, Ka m v R ∧ KysIs m R L
theorem Kys.sub {m m' : Mem} {v : Value} {L : List Kd} (h : Kys m v L) (hs : Sub m m') : Kys m' v L := by
  obtain ⟨R, h1, h2⟩ := h
  exact ⟨R, h1.sub hs, h2.sub hs⟩
theorem Kys.nil (m : Mem) : Kys m (.slice none 0 0) [] := ⟨[], Ka.nil m, KysIs.nil m⟩
theorem Kys.shape {m : Mem} {v : Value} {L : List Kd} (h : Kys m v L) : ∃ a c, v = .slice a L.length c := by
  obtain ⟨R, h1, h2⟩ := h
  rw [← h2.len]
  exact h1.shape
theorem find1_spec {m : Mem} {r : Rk} {b : Nat} {k : ByteArray} (hb : m b = some (strO k)) : Ret Tryz.prog 83 [Kv r, ptrV b] m [boolV (decide (r.1 = k))] := by
  refine en83 rfl (goY ?_)
  conv => whnf
  refine ⟨_, mcell_of hb rfl, rfl, ?_⟩
  conv => whnf
  exact ⟨by rw [strEq], rfl⟩
theorem sGt (a b : ByteArray) : (!(Op.bytesLess a.toList b.toList || a.toList == b.toList)) = sLess b a := by
  rw [strEq]
  show (!(sLess a b || decide (a = b))) = sLess b a
  by_cases h : a = b
  · subst h; simp [sLess_irrefl]
  · rw [decide_eq_false h, Bool.or_false]
    cases h1 : sLess a b with
    | true => rw [sLess_asymm h1]; rfl
    | false =>
      cases h2 : sLess b a with
      | true => rfl
      | false => exact absurd (sLess_total h1 h2) h
theorem with1_spec {m : Mem} {r : Rk} {b : Nat} {k : ByteArray} (hb : m b = some (strO k)) : Ret Tryz.prog 66 [Kv r, ptrV b] m [boolV (sLess k r.1)] := by
  refine en66 rfl (goY ?_)
  conv => whnf
  refine ⟨_, mcell_of hb rfl, rfl, ?_⟩
  conv => whnf
  exact ⟨by rw [sGt], rfl⟩
theorem findK_at {L : List Kd} {k : ByteArray} {i : Nat} (hi : i < L.length) (h : L[i].1 = k) (hall : ∀ x ∈ L.take i, x.1 ≠ k) : findK L k = some L[i].2 := by
  have : L.find? (fun x => decide (x.1 = k)) = some L[i] := by
    rw [List.find?_eq_some_iff_getElem]
    refine ⟨by simp [h], i, hi, rfl, fun j hj => ?_⟩
    have := hall L[j] (List.mem_take_iff_getElem.2 ⟨j, by omega, rfl⟩)
    simp [this]
  unfold findK
  rw [this]; rfl
theorem findK_no {L : List Kd} {k : ByteArray} (hall : ∀ x ∈ L, x.1 ≠ k) : findK L k = none := by
  unfold findK
  rw [Option.map_eq_none_iff, List.find?_eq_none]
  intro x hx
  simp [hall x hx]
theorem KysIs.noKey {m : Mem} {R : List Rk} {L : List Kd} (h : KysIs m R L) {k : ByteArray} {i : Nat} (hall : ∀ r ∈ R.take i, decide (r.1 = k) = false) : ∀ x ∈ L.take i, x.1 ≠ k := by
  intro x hx e
  have h1 := (h.take i).any fun y => decide (y = k)
  have h2 : ((L.take i).any fun x => decide (x.1 = k)) = true := List.any_eq_true.2 ⟨x, hx, by simp [e]⟩
  rw [h2, List.any_eq_true] at h1
  obtain ⟨r, hr, e'⟩ := h1
  rw [hall r hr] at e'
  cases e'
set_option maxHeartbeats 2000000 in
theorem pfind_spec {m : Mem} {v : Value} {L : List Kd} {k : ByteArray} (hv : Kys m v L) (hl : L.length ≤ 1000000) :
    Spec Tryz.prog 40 [.v v, .v (.string k)] m fun r m' => ∃ a c, r = [cartV (getK L k).1 a (getK L k).2.length c, boolV (findK L k).isSome] ∧ Sub m m' ∧ Na m (.slice a (getK L k).2.length c) (getK L k).2 := by
  obtain ⟨R, hR, hK⟩ := hv
  obtain ⟨av, cv, rfl⟩ := hR.shape
  have hlen := hK.len
  refine en40 rfl (goY ?_)
  conv => whnf
  intro b hb
  conv => whnf
  have hs := Mem.sub_set (strO k) hb
  refine .mk _ (makeFunc_spec (cs := [.pointer (some ⟨b, 0, none⟩)]) (by simp [Value.oneCell'])) ?_
  rintro _ _ ⟨rfl, rfl⟩
  conv => whnf
  first | refine xretk (indexK1_spec (p := fun r => decide (r.1 = k)) (hR.sub hs) (fun r _ => find1_spec (Mem.set_same ..)) (by omega)) ?_ | refine xret (indexK1_spec (p := fun r => decide (r.1 = k)) (hR.sub hs) (fun r _ => find1_spec (Mem.set_same ..)) (by omega)) ?_
  conv => whnf
  rcases idxG_split (fun r : Rk => decide (r.1 = k)) R with ⟨e1, e2⟩ | ⟨i0, hi0, e1, e2, e3⟩
  · rw [e1]
    refine ⟨fun _ => ?_, fun h => absurd h (by first | decide | simp)⟩
    conv => whnf
    have hno : findK L k = none := findK_no fun x hx => by
      have := hK.noKey (k := k) (i := R.length) (by rw [List.take_length]; exact e2) x
      rw [hlen, List.take_length] at this
      exact this hx
    have hg : getK L k = (zeros, []) := by rw [getK, hno]; rfl
    rw [hg, hno]
    exact ⟨none, 0, rfl, hs, Na.nil _⟩
  · rw [e1]
    refine ⟨fun h => absurd h (by (simp <;> omega)), fun _ => ?_⟩
    conv => whnf
    obtain ⟨bl, ol, c', hh, hg⟩ := hR.real hi0
    injection hh with hh1 _ hh3
    subst hh1
    clear hh3 c'
    have hg := hg i0 hi0
    have hx := hK.at' i0 hi0 (by omega)
    have hf : findK L k = some L[i0].2 := findK_at (by omega) (by rw [← hx.k]; exact of_decide_eq_true e2) (hK.noKey e3)
    have hgk : getK L k = L[i0].2 := by rw [getK, hf]; rfl
    rw [hgk, hf]
    generalize L[i0] = x at hx ⊢
    generalize R[i0] = r at hg hx
    obtain ⟨xk, xu, xE⟩ := x
    obtain ⟨rk, ru, ra, rn, rc⟩ := r
    obtain ⟨h1, h2, h3, h4⟩ := hx
    have hxl := KyIs.len ⟨h1, h2, h3, h4⟩
    simp only at h1 h2 h3 h4 hxl
    subst h1 h2 hxl
    repeat (refine And.intro (by first | omega | (simp only [times]; omega)) ?_; conv => whnf)
    have hr : MRange (m.set b (strO k)) bl (ol + i0 * 10 + 1) (LB.cells [.ints .u64 8 ru, .one (.slice ra xE.length rc)]) := by
      have := MRange.tail (k := 1) (hg.sub hs)
      simp only [encK, n8_eq h3, List.append_assoc, List.singleton_append, List.drop_succ_cons, List.drop_zero] at this
      simpa [LB.cells, Seg.cells] using this
    refine ⟨[.ints .u64 8 ru, .one (.slice ra xE.length rc)], ⟨h3, rfl, trivial⟩, rfl, by simp only [times, Int.toNat_natCast]; exact hr, ?_⟩
    conv => whnf
    exact ⟨ra, rc, by simp [List.drop_of_length_le, h3], hs, h4⟩
theorem wv8_zeros : WV8 zeros := ⟨rfl, fun x hx => by have := List.eq_of_mem_replicate hx; subst this; exact ⟨by decide, by decide⟩⟩
theorem entsF_stop {n : Nat} {E : List En} {s : RS} (h : s.2 ≠ 0) : entsF n E s = (E, s) := by
  cases n with
  | zero => rfl
  | succ n => rw [entsF, if_pos h]
theorem entsF_more {n : Nat} {E : List En} {s : RS} (h : s.2 = 0) : entsF (n + 1) E s = entsF n (E ++ [(entF s).1]) (entF s).2 := by rw [entsF, if_neg (by rw [h]; decide)]
set_option maxHeartbeats 4000000 in
theorem ptake_spec {mm m q : Mem} (hS : Strong m) {bp : Nat} {s : RS} (hs : Split mm [q, m]) (hr : Rd q bp s) :
    Spec Tryz.prog 62 [ptrV bp] mm fun r m' => ∃ x a c q' p, x = (takeC s).1 ∧ r = [cartV x.1 a x.2.length c] ∧ Split m' [p, q', m] ∧ Rd q' bp (takeC s).2 ∧ Na p (.slice a x.2.length c) x.2 ∧ WV8 x.1 ∧ ∀ e ∈ x.2, okE e := by
  refine en62 rfl (goY ?_)
  conv => whnf
  have hu := rVecV hr.byt
  refine xcall (Spec.frame hs (vec_spec hr)) ?_
  rintro _ m1 ⟨q1, ⟨rfl, hr1, _⟩, hs1⟩
  conv => whnf
  have hn := rSmall_nat (most := 400) hr1.byt ⟨by decide, by decide⟩
  refine xcall (Spec.frame hs1 (small_spec (most := 400) hr1 ⟨by decide, by decide⟩)) ?_
  rintro _ m2 ⟨q2, ⟨rfl, hr2, _⟩, hs2⟩
  conv => whnf
  have hD : takeD s = entsF (rSmall 400 (rVec s).2).1.toNat [] (rSmall 400 (rVec s).2).2 := rfl
  have hx1 : takeS s = rMust (rightC (rVec s).1 (takeD s).1) (takeD s).2 := rfl
  have hx2 : takeC s = (if (takeS s).2 ≠ 0 then (zeros, []) else ((rVec s).1, (takeD s).1), takeS s) := rfl
  generalize rVec s = us at *
  generalize rSmall 400 us.2 = ns at *
  obtain ⟨u, us2⟩ := us
  obtain ⟨n, ns2⟩ := ns
  simp only at hu hr1 hr2 hn hD hx1 hx2 ⊢
  have hz : List.take 0 (List.replicate 8 (0 : Int)) ++ (u ++ List.drop (0 + 8) (List.replicate 8 0)) = u := by simp
  obtain ⟨k, rfl⟩ : ∃ k : Nat, n = (k : Int) := ⟨n.toNat, by omega⟩
  rw [Int.toNat_natCast] at hD
  have hk : k ≤ 400 := by omega
  generalize takeD s = dd at *
  generalize takeS s = ss at *
  generalize takeC s = cc at *
  refine .mk (ι := Nat × Value × Nat × Nat) (fun i => k - i.1) (fun ⟨i, a, nE, c⟩ mm => i ≤ k ∧ ∃ p q E si, nE = List.length E ∧ E.length ≤ i ∧ Split mm [p, q, m] ∧ No p a E ∧ (∃ aa, a = .slice aa nE c) ∧ Rd q bp si ∧ dd = entsF (k - i) E si ∧ ∀ e ∈ E, okE e) (fun ⟨i, a, nE, c⟩ => [(0, .c (ptrV bp)), (2, .p 0 0), (3, .p 1 0), (8, .c (i64 k)), (9, .c (i64 i))]) (fun ⟨i, a, nE, c⟩ => [(40, [.ints .u64 8 (List.replicate 8 0), .one (.slice none 0 0)]), (40, [.ints .u64 8 u, .one a])]) (0, .slice none 0 0, 0, 0) ⟨by omega, emp, q2, [], ns2, rfl, by simp, hs2.addEmp, No.nil _, ⟨none, rfl⟩, hr2, hD, by simp⟩ ?_ ?_
  · conv => whnf
    repeat (refine And.intro (by first | with_reducible rfl | (exact hz) | exact congrArg (Value.int _) (wi (by omega) (by omega)) | exact wi (by omega) (by omega) | rfl) ?_; conv => whnf)
    first | exact trivial | exact fun _ _ h => h
  rintro ⟨i, a, nE, c⟩ mm ⟨hi, p, q, E, si, hE, hEi, hs, hp, ⟨aa, ha⟩, hr, hdd, hok⟩
  subst hE ha
  conv => whnf
  refine ⟨fun h => ?_, fun h => ?_⟩
  · have h' := of_decide_eq_true h
    have hlt : i < k := by omega
    clear h
    conv => whnf
    first | refine xretk (err_spec (hr.mono (hs.sub (by simp)))) ?_ | refine xret (err_spec (hr.mono (hs.sub (by simp)))) ?_
    conv => whnf
    refine ⟨fun h => ?_, fun h => ?_⟩
    · have hne : si.2 ≠ 0 := by simpa using h
      have hdd' : dd = (E, si) := by rw [hdd, entsF_stop hne]
      conv => whnf
      have e1 : dd.1 = E := by rw [hdd']
      have e2 : dd.2 = si := by rw [hdd']
      rw [e1, e2] at hx1
      rw [e1] at hx2
      first | refine xretk (right6R (u := u) (hS.sub (hs.sub (by simp))) (hp.ea.sub (hs.sub (by simp))) hok (by omega)) ?_ | refine xret (right6R (u := u) (hS.sub (hs.sub (by simp))) (hp.ea.sub (hs.sub (by simp))) hok (by omega)) ?_
      conv => whnf
      refine xcall (Spec.at (i := 1) hs rfl (must_spec (is := rightC u E) hr)) ?_
      rintro _ m5 ⟨q5, ⟨rfl, hr5, _⟩, hs5⟩
      conv => whnf
      have hs5 : Split m5 [p, q5, m] := hs5
      rw [← hx1] at hr5
      first | refine xretk (err_spec (hr5.mono (hs5.sub (by simp)))) ?_ | refine xret (err_spec (hr5.mono (hs5.sub (by simp)))) ?_
      conv => whnf
      refine ⟨fun h => ?_, fun h => ?_⟩
      · have h' : ss.2 ≠ 0 := by simpa using h
        rw [if_pos h'] at hx2
        conv => whnf
        exact ⟨(zeros, []), none, 0, q5, emp, by rw [hx2], rfl, hs5.drop.addEmp, by rw [hx2]; exact hr5, Na.nil _, wv8_zeros, by simp⟩
      · have h' : ¬ ss.2 ≠ 0 := by simpa using h
        rw [if_neg h'] at hx2
        conv => whnf
        exact ⟨(u, E), aa, c, q5, p, by rw [hx2], by simp, hs5, by rw [hx2]; exact hr5, hp.ea, hu, hok⟩
    · have hne : si.2 = 0 := by simpa using h
      have hkk : k - i = (k - (i + 1)) + 1 := by omega
      rw [hkk, entsF_more hne] at hdd
      conv => whnf
      refine xcall (Spec.at (i := 1) hs rfl (entry_spec hr)) ?_
      rintro _ m3 ⟨q3, ⟨rfl, hr3, hoke⟩, hs3⟩
      conv => whnf
      first | refine ⟨fun _ h => (by cases h), ?_⟩ | skip
      conv => whnf
      have hs3 : Split m3 [p, q3, m] := hs3
      generalize entF si = ee at hdd hr3 hoke ⊢
      obtain ⟨x, si'⟩ := ee
      simp only at hdd hr3 hoke
      refine .mk _ (buildN1 (e := x)) ?_
      rintro _ _ ⟨b5, hb5, rfl, rfl⟩
      conv => whnf
      first | refine ⟨fun _ h => (by cases h), ?_⟩ | skip
      conv => whnf
      refine .mk _ (pushN (i := 0) hs3 rfl hb5 hp (by omega)) ?_
      rintro _ m6 ⟨v', p', rfl, hs6, hp'⟩
      conv => whnf
      first | refine ⟨fun _ h => (by cases h), ?_⟩ | skip
      conv => whnf
      have hs6 : Split m6 [p', q3, m] := hs6
      obtain ⟨a', c', rfl⟩ := hp'.el.shape
      refine ⟨(i + 1, .slice a' (E ++ [x]).length c', (E ++ [x]).length, c'), ⟨by omega, p', q3, E ++ [x], si', rfl, by rw [List.length_append]; simp; omega, hs6, hp', ⟨a', rfl⟩, hr3, hdd, fun e he => ?_⟩, by simp only; omega, ?_⟩
      · rcases List.mem_append.1 he with he | he
        · exact hok e he
        · rw [List.mem_singleton.1 he]; exact hoke
      · conv => whnf
        repeat (refine And.intro (by first | with_reducible rfl | (first | exact congrArg (Value.int _) (iadd (by omega))) | exact congrArg (Value.int _) (wi (by omega) (by omega)) | exact wi (by omega) (by omega) | rfl) ?_; conv => whnf)
        first | exact trivial | exact fun _ _ h => h
  · have h' := of_decide_eq_false h
    obtain rfl : i = k := by omega
    clear h
    rw [Nat.sub_self] at hdd
    have hdd' : dd = (E, si) := hdd
    conv => whnf
    have e1 : dd.1 = E := by rw [hdd']
    have e2 : dd.2 = si := by rw [hdd']
    rw [e1, e2] at hx1
    rw [e1] at hx2
    first | refine xretk (right6R (u := u) (hS.sub (hs.sub (by simp))) (hp.ea.sub (hs.sub (by simp))) hok (by omega)) ?_ | refine xret (right6R (u := u) (hS.sub (hs.sub (by simp))) (hp.ea.sub (hs.sub (by simp))) hok (by omega)) ?_
    conv => whnf
    refine xcall (Spec.at (i := 1) hs rfl (must_spec (is := rightC u E) hr)) ?_
    rintro _ m5 ⟨q5, ⟨rfl, hr5, _⟩, hs5⟩
    conv => whnf
    have hs5 : Split m5 [p, q5, m] := hs5
    rw [← hx1] at hr5
    first | refine xretk (err_spec (hr5.mono (hs5.sub (by simp)))) ?_ | refine xret (err_spec (hr5.mono (hs5.sub (by simp)))) ?_
    conv => whnf
    refine ⟨fun h => ?_, fun h => ?_⟩
    · have h' : ss.2 ≠ 0 := by simpa using h
      rw [if_pos h'] at hx2
      conv => whnf
      exact ⟨(zeros, []), none, 0, q5, emp, by rw [hx2], rfl, hs5.drop.addEmp, by rw [hx2]; exact hr5, Na.nil _, wv8_zeros, by simp⟩
    · have h' : ¬ ss.2 ≠ 0 := by simpa using h
      rw [if_neg h'] at hx2
      conv => whnf
      exact ⟨(u, E), aa, c, q5, p, by rw [hx2], by simp, hs5, by rw [hx2]; exact hr5, hp.ea, hu, hok⟩
def kAt (L : List Kd) (i : Nat) : Kd := L.getD i (ByteArray.empty, [], [])
theorem kAt_eq {L : List Kd} {i : Nat} (h : i < L.length) : L[i] = kAt L i := by rw [kAt, List.getD_eq_getElem?_getD, List.getElem?_eq_getElem h]; rfl
theorem kAt_mem {L : List Kd} {i : Nat} (h : i < L.length) : kAt L i ∈ L := by rw [← kAt_eq h]; exact List.getElem_mem h
def okK3 (L : List Kd) (i : Nat) : Bool := decide ((kAt L i).1.size ≤ 20) && (decide (i = 0) || sLess (kAt L (i - 1)).1 (kAt L i).1) && rightC (kAt L i).2.1 (kAt L i).2.2
def rightL (L : List Kd) : Bool := (List.range L.length).all (okK3 L) && decide (L.length ≤ 2000)
theorem rightL_of {L : List Kd} (hg : ∀ x ∈ L, GoodK x) (ha : AscK L) (hl : L.length ≤ 2000) : rightL L = true := by
  unfold rightL
  rw [decide_eq_true hl, Bool.and_true, List.all_eq_true]
  intro i hi
  have hi := List.mem_range.1 hi
  have h1 := hg _ (kAt_mem hi)
  unfold okK3
  rw [h1.r, decide_eq_true h1.key.2, Bool.and_true, Bool.true_and, Bool.or_eq_true]
  by_cases h0 : i = 0
  · exact .inl (by simp [h0])
  · refine .inr ?_
    have := List.pairwise_iff_getElem.1 ha (i - 1) i (by omega) hi (by omega)
    rw [kAt_eq hi, kAt_eq (by omega)] at this
    exact this
structure ArgK (x : Kd) : Prop where
  u : WV8 x.2.1
  e : ∀ e ∈ x.2.2, okE e
  n : x.2.2.length ≤ 1000
theorem GoodK.arg {x : Kd} (h : GoodK x) : ArgK x := ⟨h.u, fun e he => (rightC_good h.u h.r e he).ok, by have := rightC_len h.r; omega⟩
theorem el8 {r : Rk} {x : Kd} {m : Mem} (h : KyIs m r x) : LB.cells [.one (.string x.1), .ints .u64 8 x.2.1, .one (.slice r.2.2.1 x.2.2.length r.2.2.2.2)] = encK r := by
  rw [encK, h.u, n8_eq h.u8, h.k, ← h.len]
  simp [LB.cells, Seg.cells]
set_option maxHeartbeats 4000000 in
theorem pright_spec {m : Mem} (hS : Strong m) {v : Value} {L : List Kd} (hv : Kys m v L) (hA : ∀ x ∈ L, ArgK x) (hl : L.length ≤ 1000000) :
    Spec Tryz.prog 68 [.v v] m fun r m' => r = [boolV (rightL L)] ∧ Sub m m' := by
  obtain ⟨R, hR, hK⟩ := hv
  obtain ⟨av, cv, rfl⟩ := hR.shape
  have hlen := hK.len
  have hbad : ∀ i, i < L.length → okK3 L i = false → rightL L = false := fun i hi e => by
    have : (List.range L.length).all (okK3 L) = false := by
      rw [List.all_eq_false]; exact ⟨i, List.mem_range.2 hi, by rw [e]; decide⟩
    rw [rightL, this]; rfl
  refine en68 rfl (goY ?_)
  conv => whnf
  refine .mk (ι := Nat) (fun i => R.length - i) (fun i mm => i ≤ R.length ∧ (∀ j, j < i → okK3 L j = true) ∧ Sub m mm) (fun i => [(0, .c (.v (.slice av R.length cv))), (5, .c (.v (.slice av R.length cv))), (6, .c (i64 R.length)), (7, .c (i64 i))]) (fun _ => []) 0 ⟨by omega, by omega, Sub.refl _⟩ ?_ ?_
  · conv => whnf
    repeat (refine And.intro (by first | with_reducible rfl | exact congrArg (Value.int _) (wi (by omega) (by omega)) | exact wi (by omega) (by omega) | rfl) ?_; conv => whnf)
    first | exact trivial | exact fun _ _ h => h
  rintro i mm ⟨hi, hall, hs⟩
  conv => whnf
  refine ⟨fun h => ?_, fun h => ?_⟩
  · have h' := of_decide_eq_true h
    have hlt : i < R.length := by omega
    clear h
    obtain ⟨bl, ol, c', hh, hg⟩ := hR.real hlt
    injection hh with hh1 _ hh3
    subst hh1
    clear hh3 c'
    have hbi := hbad i (by omega)
    have hg' := hg i hlt
    have hg1 := hg (i - 1) (by omega)
    have hx := hK.at' i hlt (by omega)
    have hx1 := hK.at' (i - 1) (by omega) (by omega)
    have hAx := hA _ (List.getElem_mem (show i < L.length by omega))
    have hok : okK3 L i = (decide ((kAt L i).1.size ≤ 20) && (decide (i = 0) || sLess (kAt L (i - 1)).1 (kAt L i).1) && rightC (kAt L i).2.1 (kAt L i).2.2) := rfl
    rw [← kAt_eq (show i < L.length by omega), ← kAt_eq (show i - 1 < L.length by omega)] at hok
    rw [← el8 hx] at hg'
    have hk1 : (encK R[i - 1])[0]? = some (.string L[i - 1].1) := by rw [← hx1.k]; rfl
    have hcell := MRange.head0 hg1 hk1
    have hxl := hx.len
    have hxe := hx.e
    have hxu := hx.u8
    generalize L[i] = x at *
    generalize R[i] = r at *
    generalize L[i - 1] = y at *
    rw [hxl] at hxe
    obtain ⟨xk, xu, xE⟩ := x
    obtain ⟨rk, ru, ra, rn, rc⟩ := r
    simp only at hg' hok hAx hxe hxu
    conv => whnf
    repeat (refine And.intro (by first | omega | (simp only [times]; omega)) ?_; conv => whnf)
    refine ⟨[.one (.string xk), .ints .u64 8 xu, .one (.slice ra xE.length rc)], ⟨rfl, hxu, rfl, trivial⟩, rfl, by simp only [times, Int.toNat_natCast]; exact hg'.sub hs, ?_⟩
    conv => whnf
    refine ⟨fun h => ?_, fun h => ?_⟩
    · have h2 : 20 < xk.size := by have := of_decide_eq_true h; omega
      rw [decide_eq_false (by omega)] at hok
      conv => whnf
      exact ⟨by rw [hbi (by rw [hok]; rfl)], hs⟩
    have h2 : ¬ 20 < xk.size := by have := of_decide_eq_false h; omega
    rw [decide_eq_true (by omega), Bool.true_and] at hok
    clear h
    conv => whnf
    refine ⟨fun h => ?_, fun h => ?_⟩
    · have h3 : 0 < i := by have := of_decide_eq_true h; omega
      rw [decide_eq_false (show ¬ i = 0 by omega), Bool.false_or] at hok
      have ew : IntKind.i64.wrap ((i : Int) - 1) = ((i - 1 : Nat) : Int) := by rw [wi (by omega) (by omega)]; omega
      conv => whnf
      rw [ew]
      repeat (refine And.intro (by first | omega | (simp only [times]; omega)) ?_; conv => whnf)
      refine ⟨_, by simp only [times, Int.toNat_natCast]; exact mcell_sub hcell hs, rfl, ?_⟩
      conv => whnf
      have hge : (!Op.bytesLess y.1.toList xk.toList) = !sLess y.1 xk := rfl
      rw [hge]
      by_cases hls : sLess y.1 xk = true
      rotate_left
      · have hls : sLess y.1 xk = false := by simpa using hls
        rw [hls] at hok ⊢
        refine ⟨fun _ => ?_, fun h => absurd h (by first | decide | simp)⟩
        conv => whnf
        exact ⟨by rw [hbi (by rw [hok]; rfl)], hs⟩
      rw [hls] at hok ⊢
      refine ⟨fun h => absurd h (by first | decide | simp), fun _ => ?_⟩
      conv => whnf
      first | refine xretk (right6R (u := xu) (hS.sub hs) (hxe.sub hs) hAx.e (by have := hAx.n; simp only at this; omega)) ?_ | refine xret (right6R (u := xu) (hS.sub hs) (hxe.sub hs) hAx.e (by have := hAx.n; simp only at this; omega)) ?_
      conv => whnf
      by_cases hr : rightC xu xE = true
      rotate_left
      · have hr : rightC xu xE = false := by simpa using hr
        rw [hr] at hok ⊢
        refine ⟨fun _ => ?_, fun h => absurd h (by first | decide | simp)⟩
        conv => whnf
        exact ⟨by rw [hbi (by rw [hok]; simp)], hs⟩
      rw [hr] at hok ⊢
      refine ⟨fun h => absurd h (by first | decide | simp), fun _ => ?_⟩
      conv => whnf
      refine ⟨i + 1, ⟨by omega, fun j hj => ?_, hs⟩, by omega, ?_⟩
      · by_cases e : j = i
        · subst e; rw [hok]; rfl
        · exact hall j (by omega)
      · conv => whnf
        repeat (refine And.intro (by first | with_reducible rfl | (first | exact congrArg (Value.int _) (iadd (by omega))) | exact congrArg (Value.int _) (wi (by omega) (by omega)) | exact wi (by omega) (by omega) | rfl) ?_; conv => whnf)
        first | exact trivial | exact fun _ _ h => h
    · have h3 : i = 0 := by have := of_decide_eq_false h; omega
      rw [decide_eq_true h3, Bool.true_or] at hok
      conv => whnf
      first | refine xretk (right6R (u := xu) (hS.sub hs) (hxe.sub hs) hAx.e (by have := hAx.n; simp only at this; omega)) ?_ | refine xret (right6R (u := xu) (hS.sub hs) (hxe.sub hs) hAx.e (by have := hAx.n; simp only at this; omega)) ?_
      conv => whnf
      by_cases hr : rightC xu xE = true
      rotate_left
      · have hr : rightC xu xE = false := by simpa using hr
        rw [hr] at hok ⊢
        refine ⟨fun _ => ?_, fun h => absurd h (by first | decide | simp)⟩
        conv => whnf
        exact ⟨by rw [hbi (by rw [hok]; simp)], hs⟩
      rw [hr] at hok ⊢
      refine ⟨fun h => absurd h (by first | decide | simp), fun _ => ?_⟩
      conv => whnf
      refine ⟨i + 1, ⟨by omega, fun j hj => ?_, hs⟩, by omega, ?_⟩
      · by_cases e : j = i
        · subst e; rw [hok]; rfl
        · exact hall j (by omega)
      · conv => whnf
        repeat (refine And.intro (by first | with_reducible rfl | (first | exact congrArg (Value.int _) (iadd (by omega))) | exact congrArg (Value.int _) (wi (by omega) (by omega)) | exact wi (by omega) (by omega) | rfl) ?_; conv => whnf)
        first | exact trivial | exact fun _ _ h => h
  · have h' := of_decide_eq_false h
    obtain rfl : i = R.length := by omega
    conv => whnf
    refine ⟨?_, hs⟩
    have : (List.range L.length).all (okK3 L) = true := List.all_eq_true.2 fun j hj => hall j (by rw [hlen]; exact List.mem_range.1 hj)
    rw [rightL, this, Bool.true_and, hlen]
    simp
    omega
theorem strOf_I (l : List Int) : strOf l = strI l := by
  have h1 := strOf_data l
  have : (strOf l).data = (strI l).data := by
    apply Array.ext'
    rw [h1]
    simp [strI, by8]
  cases h : strOf l
  cases h2 : strI l
  rw [h, h2] at this
  exact congrArg _ this
theorem Lies.blk {m : Mem} {b : Nat} {o : Obj} {s n c off : Nat} {l : List Value} (h : Lies (m.set b o) s (.slice (some ⟨b, off, none⟩) n c) l) : Lies (blk1 b o) s (.slice (some ⟨b, off, none⟩) n c) l :=
  Lies.keep (m := m.set b o) h fun x hx => by
    injection hx with hx
    subst hx
    rw [blk1_same, Mem.set_same]
theorem convK {m : Mem} {s : ByteArray} : PrimSpec Tryz.prog (.conv 9 80) [.v (.string s)] m fun r m' => ∃ v p, r = [.v v] ∧ Split m' [p, m] ∧ La p v (chI s) :=
  (convStr_spec tt_ok (t' := 9) (t := 80) (e := 5) (by rfl) (by rfl) rfl (by rfl) rfl).mono fun r m' ⟨b, c, o, h1, h2, h3, h4⟩ => ⟨_, blk1 b o, h2, by rw [h3]; exact (Split.one m).new h1 o, by
    subst h3
    exact .inl (Lies.blk h4)⟩
theorem wr_new (b : Nat) : Wr (blk1 b (.cells (LB.cells [.one (.slice none 0 0)]).toArray 132)) b [] := ⟨_, blk1_same .., Bs.nil _, by simp [blkV]⟩
abbrev kyV (x : Kd) (a : Option Addr) (c : Nat) : CV := .a [.one (.string x.1), .ints .u64 8 x.2.1, .one (.slice a x.2.2.length c)]
set_option maxHeartbeats 2000000 in
theorem record_spec {m : Mem} (hS : Strong m) {x : Kd} {a : Option Addr} {c : Nat} (hv : Na m (.slice a x.2.2.length c) x.2.2) (hA : ArgK x) (hk : x.1.size ≤ 1000000) :
    Spec Tryz.prog 37 [kyV x a c] m fun r m' => ∃ v p, r = [.v v] ∧ Split m' [p, m] ∧ Bs p v (kdB x) := by
  obtain ⟨k, u, E⟩ := x
  have hn : E.length ≤ 1000 := hA.n
  simp only at hv hk
  have hlk := chI_len k
  have hnk := numB_len ((chI k).length : Int)
  refine en37 rfl (goY ?_)
  conv => whnf
  intro b hb
  conv => whnf
  have hs0 := (Split.one m).new hb (.cells (LB.cells [.one (.slice none 0 0)]).toArray 132)
  refine .mk _ (convK (s := k)) ?_
  rintro _ m1 ⟨vk, pk, rfl, hs1, hvk⟩
  conv => whnf
  have hs1 : Split m1 [pk, blk1 b (.cells (LB.cells [.one (.slice none 0 0)]).toArray 132), m] := Split.weld (a := [pk]) hs1 hs0
  refine xcall (wtext_spec (i := 1) (j := 0) hs1 rfl rfl (by decide) (wr_new b) hvk (by simp) (by omega)) ?_
  rintro _ m2 ⟨rfl, p1, hs2, hw1⟩
  conv => whnf
  have hs2 : Split m2 [p1, m] := hs2.drop
  rw [List.nil_append] at hw1
  refine xcall (pput_spec hS hs2 hw1 hv hA.u hA.e (by simp only [textB, List.length_append]; omega) (by show E.length ≤ _; omega)) ?_
  rintro _ m3 ⟨rfl, p2, hs3, hw2⟩
  conv => whnf
  have hpb : (putB (u, E)).length ≤ 10000 := by
    unfold putB
    split
    · rename_i hr
      have := cartB_len (c := (u, E)) hA.u hr
      omega
    · simp
  refine xcall ((wbytes_spec hw2 (by simp only [textB, List.length_append]; omega)).at hs3 (i := 0) rfl) ?_
  rintro _ m4 ⟨p3, ⟨v3, q, rfl, hs4, hv3⟩, hs5⟩
  conv => whnf
  have hs6 := (hs5.flat (i := 0) rfl hs4).erase 1
  exact ⟨v3, q, rfl, hs6, hv3⟩
set_option maxHeartbeats 2000000 in
theorem read_rec_spec {m : Mem} (hS : Strong m) {v : Value} {b : List Int} (hv : La m v b) (hb : Byt b) (hl : b.length ≤ 1000000) :
    Spec Tryz.prog 27 [.v v] m fun r m' => ∃ x a c p, x = (readR b).1 ∧ r = [kyV x a c, boolV (readR b).2] ∧ Split m' [p, m] ∧ Na p (.slice a x.2.2.length c) x.2.2 ∧ WV8 x.2.1 ∧ ∀ e ∈ x.2.2, okE e := by
  have hR : readR b = ((strI (rText 20 (b, 0)).1, (takeC (rText 20 (b, 0)).2).1), decide (endR (takeC (rText 20 (b, 0)).2).2 = 0) && keyOk (chs (strI (rText 20 (b, 0)).1))) := rfl
  rw [hR]
  clear hR
  refine en27 rfl (goY ?_)
  conv => whnf
  refine xcall (from_spec hv hb (by omega)) ?_
  rintro _ m1 ⟨bp, p, rfl, hs1, hr1⟩
  conv => whnf
  refine xcall ((text_spec (most := 20) hr1 ⟨by decide, by decide⟩).at hs1 (i := 0) rfl) ?_
  rintro _ m2 ⟨p2, ⟨vt, pt, q, rfl, hs2, hbt, hr2⟩, hs3⟩
  conv => whnf
  first | refine ⟨fun _ h => (by cases h), ?_⟩ | skip
  conv => whnf
  have hs3 : Split m2 [pt, q, m] := hs3.flat (i := 0) rfl hs2
  have htl : (rText 20 (b, 0)).1.length ≤ 20 := by
    have := rSmall_nat (most := 20) (s := (b, 0)) hb ⟨by decide, by decide⟩
    have e : rText 20 (b, 0) = rTake (rSmall 20 (b, 0)).1.toNat (rSmall 20 (b, 0)).2 := rfl
    rw [e]
    exact Nat.le_trans rTake_len (by omega)
  generalize rText 20 (b, 0) = t at *
  obtain ⟨tb, ts⟩ := t
  simp only at hbt hr2 htl ⊢
  rw [← strOf_I]
  have hsz : (strOf tb).size ≤ 1000000 := by
    have : (strOf tb).size = tb.length := by
      rw [← ByteArray.size_data, ← Array.length_toList, strOf_data, by8, List.length_map]
    omega
  rcases hbt with ⟨rfl, hnil⟩ | ⟨b', o', c', n', arr', rfl, g1, g2, g3, g4, g5, g6⟩
  · have hnil : tb = [] := List.map_eq_nil_iff.1 hnil
    subst hnil
    conv => whnf
    obtain ⟨rest, hrest, hs4, back⟩ := Split.part (hs3.perm (List.Perm.swap _ _ _))
    have hsmr : Sub m rest := hrest m (by simp)
    refine xcall (ptake_spec (hS.sub hsmr) hs4 hr2) ?_
    rintro _ m3 ⟨x, a, c, q3, p3, hx, rfl, hs5, hr3, hE, hu, hok⟩
    conv => whnf
    first | refine ⟨fun _ h => (by cases h), ?_⟩ | skip
    conv => whnf
    rw [← hx]
    generalize takeC ts = tc at *
    obtain ⟨tx, te⟩ := tc
    simp only at hx hr3 ⊢
    subst hx
    obtain ⟨xu, xE⟩ := x
    simp only at hE hu hok ⊢
    have hz : List.take 0 (List.replicate 8 (0 : Int)) ++ (xu ++ List.drop (0 + 8) (List.replicate 8 0)) = xu := by simp
    have hs6 : Split m3 [p3, m] := by
      have h1 : Split m3 [p3, rest] := hs5.erase 1
      exact (Split.fewer (h1.perm (List.Perm.swap _ _ _)) hsmr).perm (List.Perm.swap _ _ _)
    have hen : (if te.2 ≠ 0 then te.2 else if te.1 = [] then 0 else 2) = endR te := rfl
    first | (refine xretk (end_spec (hr3.mono (hs5.sub (by simp)))) ?_) | (refine xret (end_spec (hr3.mono (hs5.sub (by simp)))) ?_)
    conv => whnf
    rw [hen, beqG]
    refine ⟨fun h => ?_, fun h => ?_⟩
    · have h' := of_decide_eq_true h
      conv => whnf
      first | refine xretk (right_key_spec (s := ByteArray.empty) (by decide)) ?_ | refine xret (right_key_spec (s := ByteArray.empty) (by decide)) ?_
      conv => whnf
      exact ⟨_, a, c, p3, rfl, by simp [h', show strOf [] = ByteArray.empty from rfl], hs6, hE, hu, hok⟩
    · have h' := of_decide_eq_false h
      conv => whnf
      exact ⟨_, a, c, p3, rfl, by simp [h', show strOf [] = ByteArray.empty from rfl], hs6, hE, hu, hok⟩
  · have hn' : tb.length = n' := by
      have hbc : (bc tb).length = tb.length := List.length_map _
      omega
    subst hn'
    conv => whnf
    refine .inr ⟨tb, rfl, _, _, rfl, ⟨_, _, _, hs3.sub (a := pt) (by simp) _ _ g1, g5⟩, ?_⟩
    conv => whnf
    obtain ⟨rest, hrest, hs4, back⟩ := Split.part (hs3.perm (List.Perm.swap _ _ _))
    have hsmr : Sub m rest := hrest m (by simp)
    refine xcall (ptake_spec (hS.sub hsmr) hs4 hr2) ?_
    rintro _ m3 ⟨x, a, c, q3, p3, hx, rfl, hs5, hr3, hE, hu, hok⟩
    conv => whnf
    refine ⟨kept1 ((hs5.sub (a := rest) (by simp) _ _ (hrest pt (by simp) _ _ g1)).trans (hs3.sub (a := pt) (by simp) _ _ g1).symm), ?_⟩
    conv => whnf
    rw [← hx]
    generalize takeC ts = tc at *
    obtain ⟨tx, te⟩ := tc
    simp only at hx hr3 ⊢
    subst hx
    obtain ⟨xu, xE⟩ := x
    simp only at hE hu hok ⊢
    have hz : List.take 0 (List.replicate 8 (0 : Int)) ++ (xu ++ List.drop (0 + 8) (List.replicate 8 0)) = xu := by simp
    have hs6 : Split m3 [p3, m] := by
      have h1 : Split m3 [p3, rest] := hs5.erase 1
      exact (Split.fewer (h1.perm (List.Perm.swap _ _ _)) hsmr).perm (List.Perm.swap _ _ _)
    have hen : (if te.2 ≠ 0 then te.2 else if te.1 = [] then 0 else 2) = endR te := rfl
    first | (refine xretk (end_spec (hr3.mono (hs5.sub (by simp)))) ?_) | (refine xret (end_spec (hr3.mono (hs5.sub (by simp)))) ?_)
    conv => whnf
    rw [hen, beqG]
    refine ⟨fun h => ?_, fun h => ?_⟩
    · have h' := of_decide_eq_true h
      conv => whnf
      first | refine xretk (right_key_spec (s := strOf tb) hsz) ?_ | refine xret (right_key_spec (s := strOf tb) hsz) ?_
      conv => whnf
      exact ⟨_, a, c, p3, rfl, by simp [h'], hs6, hE, hu, hok⟩
    · have h' := of_decide_eq_false h
      conv => whnf
      exact ⟨_, a, c, p3, rfl, by simp [h'], hs6, hE, hu, hok⟩
theorem rightL_key {L : List Kd} (h : rightL L = true) : ∀ x ∈ L, x.1.size ≤ 20 := by
  intro x hx
  obtain ⟨i, hi, rfl⟩ := List.getElem_of_mem hx
  simp only [rightL, Bool.and_eq_true, List.all_eq_true, List.mem_range] at h
  have := h.1 i hi
  simp only [okK3, Bool.and_eq_true, decide_eq_true_eq] at this
  rw [kAt_eq hi]
  exact this.1.1
theorem kdB_len {x : Kd} (hu : WV8 x.2.1) (hk : x.1.size ≤ 20) : (kdB x).length ≤ 6600 := by
  have h1 := chI_len x.1
  have h2 := numB_len ((chI x.1).length : Int)
  have h3 : (putB x.2).length ≤ 6500 := by
    unfold putB
    split
    · rename_i hr; exact cartB_len hu hr
    · simp
  simp only [kdB, textB, List.length_append]
  omega
theorem kds_len : ∀ {L : List Kd}, (∀ x ∈ L, (kdB x).length ≤ 6600) → (L.map kdB).flatten.length ≤ 6600 * L.length
  | [], _ => by simp
  | x :: L, h => by
    have h1 := h x (by simp)
    have h2 := kds_len (L := L) fun y hy => h y (by simp [hy])
    rw [List.map_cons, List.flatten_cons, List.length_append, List.length_cons]; omega
set_option maxHeartbeats 4000000 in
theorem writeAll_spec {m : Mem} (hS : Strong m) {v : Value} {L : List Kd} (hv : Kys m v L) (hA : ∀ x ∈ L, ArgK x) (hr : rightL L = true) (hl : L.length ≤ 1000) :
    Spec Tryz.prog 29 [.v v] m fun r m' => ∃ v' p, r = [.v v', i64 0] ∧ Split m' [p, m] ∧ Bs p v' (kdsB L) := by
  have hrs := pright_spec hS hv hA (by omega)
  rw [hr] at hrs
  obtain ⟨R, hR, hK⟩ := hv
  obtain ⟨av, cv, rfl⟩ := hR.shape
  have hlen := hK.len
  refine en29 rfl (goY ?_)
  conv => whnf
  first | refine xretk (Spec.ret hrs fun _ _ h => h) ?_ | refine xret (Spec.ret hrs fun _ _ h => h) ?_
  conv => whnf
  refine ⟨fun h => absurd h (by first | decide | simp), fun _ => ?_⟩
  conv => whnf
  intro b hb
  conv => whnf
  have hs0 := (Split.one m).new hb (.cells (LB.cells [.one (.slice none 0 0)]).toArray 132)
  rw [wu (by omega) (by omega)]
  refine xcall ((wnum_spec (wr_new b) (n := (R.length : Int)) ⟨by omega, by omega⟩ (by simp)).at hs0 (i := 0) rfl) ?_
  rintro _ m1 ⟨p1, ⟨rfl, hw1⟩, hs1⟩
  conv => whnf
  have hs1 : Split m1 [p1, m] := hs1
  rw [List.nil_append] at hw1
  have hkl : ∀ x ∈ L, (kdB x).length ≤ 6600 := fun x hx => kdB_len (hA x hx).u (rightL_key hr x hx)
  have hnl := numB_len (R.length : Int)
  refine .mk (ι := Nat) (fun i => R.length - i) (fun i mm => i ≤ R.length ∧ ∃ p, Split mm [p, m] ∧ Wr p b (numB R.length ++ ((L.take i).map kdB).flatten)) (fun i => [(4, .c (ptrV b)), (17, .c (.v (.slice av R.length cv))), (18, .c (i64 R.length)), (19, .c (i64 i))]) (fun _ => []) 0 ⟨by omega, p1, hs1, by simpa using hw1⟩ ?_ ?_
  · conv => whnf
    repeat (refine And.intro (by first | with_reducible rfl | exact congrArg (Value.int _) (wi (by omega) (by omega)) | exact wi (by omega) (by omega) | rfl) ?_; conv => whnf)
    first | exact trivial | exact fun _ _ h => h
  rintro i mm ⟨hi, p, hs, hw⟩
  have htk := kds_len (L := L.take i) fun x hx => hkl x (List.mem_of_mem_take hx)
  rw [List.length_take] at htk
  conv => whnf
  refine ⟨fun h => ?_, fun h => ?_⟩
  · have h' := of_decide_eq_true h
    have hlt : i < R.length := by omega
    clear h
    have hsm : Sub m mm := hs.sub (by simp)
    obtain ⟨bl, ol, c', hh, hg⟩ := (hR.sub hsm).real hlt
    injection hh with hh1 _ hh3
    subst hh1
    clear hh3 c'
    have hg' := hg i hlt
    have hx := hK.at' i hlt (by omega)
    have hAx := hA _ (List.getElem_mem (show i < L.length by omega))
    have hks := rightL_key hr _ (List.getElem_mem (show i < L.length by omega))
    have hst : ((L.take (i + 1)).map kdB).flatten = ((L.take i).map kdB).flatten ++ kdB L[i] := by
      rw [List.take_succ_eq_append_getElem (by omega), List.map_append, List.flatten_append]
      simp
    rw [← el8 hx] at hg'
    have hxl := hx.len
    have hxe := hx.e
    have hxu := hx.u8
    generalize L[i] = x at *
    generalize R[i] = r at *
    rw [hxl] at hxe
    obtain ⟨xk, xu, xE⟩ := x
    obtain ⟨rk, ru, ra, rn, rc⟩ := r
    simp only at hg' hAx hks hxe hxu
    have hn1 : xE.length ≤ 1000 := hAx.n
    have hck := chI_len xk
    have hnk := numB_len ((chI xk).length : Int)
    conv => whnf
    repeat (refine And.intro (by first | omega | (simp only [times]; omega)) ?_; conv => whnf)
    refine ⟨[.one (.string xk), .ints .u64 8 xu, .one (.slice ra xE.length rc)], ⟨rfl, hxu, rfl, trivial⟩, rfl, by simp only [times, Int.toNat_natCast]; exact hg', ?_⟩
    conv => whnf
    refine .mk _ (convK (s := xk)) ?_
    rintro _ k1 ⟨vk, pk, rfl, ht1, hvk⟩
    conv => whnf
    have ht1 : Split k1 [pk, p, m] := Split.weld (a := [pk]) ht1 hs
    refine xcall (wtext_spec (i := 1) (j := 0) ht1 rfl rfl (by decide) hw hvk (by simp only [List.length_append]; omega) (by omega)) ?_
    rintro _ k2 ⟨rfl, p2, ht2, hw2⟩
    conv => whnf
    have ht2 : Split k2 [p2, m] := ht2.drop
    refine xcall (pput_spec hS ht2 hw2 hxe hAx.u hAx.e (by simp only [textB, List.length_append]; omega) (by show xE.length ≤ _; omega)) ?_
    rintro _ k3 ⟨rfl, p3, ht3, hw3⟩
    conv => whnf
    refine ⟨i + 1, ⟨by omega, p3, ht3, ?_⟩, by omega, ?_⟩
    · rw [hst, kdB]
      simpa only [List.append_assoc] using hw3
    · conv => whnf
      repeat (refine And.intro (by first | with_reducible rfl | (first | exact congrArg (Value.int _) (iadd (by omega))) | exact congrArg (Value.int _) (wi (by omega) (by omega)) | exact wi (by omega) (by omega) | rfl) ?_; conv => whnf)
      first | exact trivial | exact fun _ _ h => h
  · have h' := of_decide_eq_false h
    obtain rfl : i = R.length := by omega
    rw [hlen, List.take_length] at hw
    rw [hlen, List.take_length] at *
    conv => whnf
    refine xcall ((wbytes_spec hw (by simp only [List.length_append]; omega)).at hs (i := 0) rfl) ?_
    rintro _ k4 ⟨p4, ⟨v4, q, rfl, ht4, hv4⟩, ht5⟩
    conv => whnf
    exact ⟨v4, q, rfl, (ht5.flat (i := 0) rfl ht4).erase 1, hv4⟩
theorem insK_at {k : ByteArray} {c : Ct} : ∀ {L : List Kd} {j : Nat}, j ≤ L.length → (∀ x ∈ L.take j, sLess k x.1 = false) → (∀ (h : j < L.length), sLess k L[j].1 = true) → insK k c L = L.take j ++ ((k, c) :: L.drop j)
  | [], j, hj, _, _ => by
    have : j = 0 := by simpa using hj
    subst this; rfl
  | x :: L, 0, _, _, h => by
    have this : sLess k x.1 = true := h (by simp)
    unfold insK
    rw [if_pos this]; rfl
  | x :: L, j + 1, hj, h1, h2 => by
    have hx : sLess k x.1 = false := h1 x (by simp)
    unfold insK
    rw [if_neg (by rw [hx]; decide), insK_at (L := L) (j := j) (by simpa using hj) (fun y hy => h1 y (by simp [hy])) (fun h => h2 (by simpa using h))]
    rfl
def repR (k : ByteArray) (u : List Int) (s : Option Addr × Nat × Nat) (r : Rk) : Rk := if r.1 = k then (r.1, u, s) else r
def repK (k : ByteArray) (c : Ct) (x : Kd) : Kd := if x.1 = k then (k, c) else x
theorem withK_there {L : List Kd} {k : ByteArray} {c : Ct} (h : (L.any fun x => decide (x.1 = k)) = true) : withK L k c = L.map (repK k c) := by unfold withK; rw [if_pos h]; rfl
theorem withK_new {L : List Kd} {k : ByteArray} {c : Ct} (h : (L.any fun x => decide (x.1 = k)) = false) : withK L k c = insK k c L := by unfold withK; rw [if_neg (by rw [h]; decide)]
theorem KysIs.rep {m : Mem} {R : List Rk} {L : List Kd} (h : KysIs m R L) {k : ByteArray} {u : List Int} {s : Option Addr × Nat × Nat} {E : List En} (hu : u.length = 8) (hE : Na m (.slice s.1 s.2.1 s.2.2) E) : KysIs m (R.map (repR k u s)) (L.map (repK k (u, E))) := by
  refine ⟨by rw [List.length_map, List.length_map, h.len], fun i h1 h2 => ?_⟩
  rw [List.getElem_map, List.getElem_map]
  have hx := h.at' i (by simpa using h1) (by simpa using h2)
  unfold repR repK
  by_cases hk : (R[i]'(by simpa using h1)).1 = k
  · rw [if_pos hk, if_pos (by rw [← hx.k]; exact hk)]
    exact ⟨hk, rfl, hu, hE⟩
  · rw [if_neg hk, if_neg (by rw [← hx.k]; exact hk)]
    exact hx
def upTo {α : Type} (f : α → α) (R : List α) (i : Nat) : List α := (R.take i).map f ++ R.drop i
theorem upTo_len {α : Type} (f : α → α) (R : List α) (i : Nat) : (upTo f R i).length = R.length := by simp [upTo]; omega
theorem upTo_at {α : Type} (f : α → α) (R : List α) {i : Nat} (hi : i < R.length) : (upTo f R i)[i]'(by rw [upTo_len]; exact hi) = R[i] := by
  unfold upTo
  rw [List.getElem_append_right (by simp; omega)]
  simp [List.getElem_drop, Nat.min_eq_left (Nat.le_of_lt hi)]
theorem upTo_next {α : Type} (f : α → α) (R : List α) {i : Nat} (hi : i < R.length) : upTo f R (i + 1) = (upTo f R i).set i (f R[i]) := by
  unfold upTo
  rw [List.take_succ_eq_append_getElem hi, List.set_append, if_neg (by simp; omega), List.map_append]
  simp [Nat.min_eq_left (Nat.le_of_lt hi)]
  rw [List.drop_eq_getElem_cons hi]; rfl
theorem upTo_all {α : Type} (f : α → α) (R : List α) : upTo f R R.length = R.map f := by simp [upTo]
theorem upTo_zero {α : Type} (f : α → α) (R : List α) : upTo f R 0 = R := by simp [upTo]
theorem upTo_same {α : Type} (f : α → α) (R : List α) {i : Nat} (hi : i < R.length) (h : f R[i] = R[i]) : upTo f R (i + 1) = upTo f R i := by
  rw [upTo_next f R hi, h]
  have := upTo_at f R hi
  conv => lhs; rw [← this]
  exact List.set_getElem_self _
theorem buildKu {m : Mem} {k : ByteArray} {u : List Int} {s : Option Addr × Nat × Nat} (hu : u.length = 8) : PrimSpec Tryz.prog (.buildSlice 67 1 [0]) [.a [.one (.string k), .ints .u64 8 u, .one (.slice s.1 s.2.1 s.2.2)]] m fun r m' => ∃ b, m b = none ∧ r = [.v (.slice (some ⟨b, 0, none⟩) 1 1)] ∧ m' = m.set b (.cells (encK (k, u, s)).toArray 82) := by
  have := buildK1 (m := m) (e := (k, u, s))
  dsimp only [Kv] at this
  rw [n8_eq hu] at this
  exact this
set_option maxHeartbeats 4000000 in
theorem pwith_spec {mm g m : Mem} {v : Value} {L : List Kd} {k : ByteArray} {u : List Int} {a : Option Addr} {c : Nat} {E : List En} (hs : Split mm [g, m]) (hv : Kys g v L) (hc : Na mm (.slice a E.length c) E) (hu : u.length = 8) (hl : L.length ≤ 100000) (hlE : E.length ≤ 100000) :
    Spec Tryz.prog 28 [.v v, .v (.string k), cartV u a E.length c] mm fun r m' => ∃ v' p, r = [.v v'] ∧ Split m' [p, m] ∧ Kys p v' (withK L k (u, E)) := by
  obtain ⟨R, hR, hK⟩ := hv
  obtain ⟨av, cv, rfl⟩ := hR.shape
  have hlen := hK.len
  refine en28 rfl (goY ?_)
  conv => whnf
  intro b hb
  conv => whnf
  have hs0 := hs.new hb (strO k)
  refine xcall (cloneN_spec (hc.sub (Mem.sub_set _ hb)) (by omega)) ?_
  rintro _ m1 ⟨vc, pc, rfl, hs1, hpc⟩
  conv => whnf
  have hs1 : Split m1 [pc, blk1 b (strO k), g, m] := Split.weld (a := [pc]) hs1 hs0
  obtain ⟨ac, cc, rfl⟩ := hpc.el.shape
  conv => whnf
  refine xcall (cloneK_spec (hR.sub (hs1.sub (by simp))) (by omega)) ?_
  rintro _ m2 ⟨vk, pk, rfl, hs2, hpk⟩
  conv => whnf
  have hs2 : Split m2 [pk, pc, blk1 b (strO k), g, m] := Split.weld (a := [pk]) hs2 hs1
  obtain ⟨ak, ck, rfl⟩ := hpk.el.shape
  refine .mk (ι := Nat) (fun i => R.length - i) (fun i mm => i ≤ R.length ∧ ∃ p, Split mm [p, pc, blk1 b (strO k), g, m] ∧ Ko p (.slice ak R.length ck) (upTo (repR k u (ac, E.length, cc)) R i)) (fun i => [(4, .c (ptrV b)), (5, .p 0 0), (7, .c (.v (.slice ak R.length ck))), (8, .c (boolV ((R.take i).any fun r => decide (r.1 = k)))), (18, .c (i64 R.length)), (19, .c (i64 i))]) (fun _ => [(40, [.ints .u64 8 u, .one (.slice ac E.length cc)])]) 0 ⟨by omega, pk, hs2, by rw [upTo_zero]; exact hpk⟩ ?_ ?_
  · conv => whnf
    repeat (refine And.intro (by first | with_reducible rfl | exact congrArg (Value.int _) (wi (by omega) (by omega)) | exact wi (by omega) (by omega) | rfl) ?_; conv => whnf)
    first | exact trivial | exact fun _ _ h => h
  rintro i mm ⟨hi, p, hs3, hp⟩
  conv => whnf
  refine ⟨fun h => ?_, fun h => ?_⟩
  · have h' := of_decide_eq_true h
    have hlt : i < R.length := by omega
    clear h
    have hzl := upTo_len (repR k u (ac, E.length, cc)) R i
    have hza : (upTo (repR k u (ac, E.length, cc)) R i)[i]? = some R[i] := by rw [List.getElem?_eq_getElem (by omega), upTo_at _ _ hlt]
    have hzn := upTo_next (repR k u (ac, E.length, cc)) R hlt
    have hzs := upTo_same (repR k u (ac, E.length, cc)) R hlt
    have hst : R.take (i + 1) = R.take i ++ [R[i]] := List.take_succ_eq_append_getElem hlt
    generalize upTo (repR k u (ac, E.length, cc)) R i = Z at hp hzl hza hzn hzs
    have hiz : i < Z.length := by omega
    rw [List.getElem?_eq_getElem hiz, Option.some.injEq] at hza
    obtain ⟨bl, ol, c2, hh, hg⟩ := hp.el.ea.real hiz
    injection hh with hh1 _ hh3
    subst hh1
    clear hh3 c2
    have hg := hg i hiz
    have hpart := fun x hj hx => encK_ok.setPart (cs := LB.cells [.ints .u64 8 u, .one (.slice ac E.length cc)]) (x := x) hp hiz (j := 1) hj hx
    rw [hza] at hg hpart
    generalize R[i] = r at hg hst hzn hzs hpart
    have hb3 : mm b = some (strO k) := hs3.get (a := blk1 b (strO k)) (by simp) (blk1_same ..)
    conv => whnf
    repeat (refine And.intro (by first | omega | (simp only [times]; omega)) ?_; conv => whnf)
    refine ⟨_, by simp only [times, Int.toNat_natCast]; exact (MRange.head0 (hg.sub (hs3.sub (by simp))) rfl), rfl, ?_⟩
    conv => whnf
    refine ⟨_, mcell_of hb3 rfl, rfl, ?_⟩
    conv => whnf
    rw [strEq]
    refine ⟨fun h => ?_, fun h => ?_⟩
    · have hk := of_decide_eq_true h
      have hrep : repR k u (ac, E.length, cc) r = (r.1, u, (ac, E.length, cc)) := by unfold repR; rw [if_pos hk]
      rw [hrep] at hzn
      have hcl : ∀ y, (LB.cells [.ints .u64 8 u, .one y]).length = 9 := fun y => by simp [LB.cells, Seg.cells, hu]
      obtain ⟨arr, ha1, ha2, ha3⟩ := hpart (r.1, u, (ac, E.length, cc)) (by rw [hcl]; omega) (by
        rw [hcl]
        simp only [encK, n8_eq hu]
        simp [LB.cells, Seg.cells, List.drop_of_length_le, n8])
      rw [hcl] at ha2 ha3
      rw [← hzn] at ha3
      conv => whnf
      repeat (refine And.intro (by first | omega | (simp only [times]; omega)) ?_; conv => whnf)
      have hmb : mm bl = some (.cells arr 82) := hs3.sub (a := p) (by simp) _ _ ha1
      refine ⟨_, _, _, hmb, ⟨?_, noFr⟩, ?_⟩
      · simp only [times, Int.toNat_natCast]
        exact ha2
      simp only [times, Int.toNat_natCast]
      conv => whnf
      have hs4 := hs3.set ha1 (.cells (arr.toList.take (ol + i * 10 + 1) ++ (LB.cells [.ints .u64 8 u, .one (.slice ac E.length cc)] ++ arr.toList.drop (ol + i * 10 + 1 + 9))).toArray 82)
      refine ⟨i + 1, ⟨by omega, _, hs4, ha3⟩, by omega, ?_⟩
      conv => whnf
      repeat (refine And.intro (by first | with_reducible rfl | (first | exact congrArg (Value.int _) (iadd (by omega)) | (rw [hst, List.any_append]; simp [hk])) | exact congrArg (Value.int _) (wi (by omega) (by omega)) | exact wi (by omega) (by omega) | rfl) ?_; conv => whnf)
      first | exact trivial | exact fun _ _ h => h
    · have hk := of_decide_eq_false h
      have hrep : repR k u (ac, E.length, cc) r = r := by unfold repR; rw [if_neg hk]
      conv => whnf
      refine ⟨i + 1, ⟨by omega, p, hs3, by rw [hzs hrep]; exact hp⟩, by omega, ?_⟩
      conv => whnf
      repeat (refine And.intro (by first | with_reducible rfl | (first | exact congrArg (Value.int _) (iadd (by omega)) | (rw [hst, List.any_append]; simp [hk])) | exact congrArg (Value.int _) (wi (by omega) (by omega)) | exact wi (by omega) (by omega) | rfl) ?_; conv => whnf)
      first | exact trivial | exact fun _ _ h => h
  · have h' := of_decide_eq_false h
    obtain rfl : i = R.length := by omega
    clear h h'
    rw [upTo_all] at hp
    rw [List.take_length]
    have hany := hK.any fun y => decide (y = k)
    have hcE : ∀ {m'}, Sub pc m' → Na m' (.slice ac E.length cc) E := fun hx => hpc.ea.sub hx
    conv => whnf
    refine ⟨fun h => ?_, fun h => ?_⟩
    · have hth : (L.any fun x => decide (x.1 = k)) = true := by rw [← hany]; exact h
      conv => whnf
      rw [withK_there hth]
      have hs5 : Split mm ([p, pc, blk1 b (strO k), g] ++ [m]) := hs3
      obtain ⟨hs6, hs7⟩ := Split.group _ hs5
      refine ⟨_, _, rfl, hs6, _, hp.ea.sub (hs7.sub (by simp)), ?_⟩
      exact (hK.sub (hs7.sub (by simp))).rep hu (hpc.ea.sub (hs7.sub (by simp)))
    · have hth : (L.any fun x => decide (x.1 = k)) = false := by rw [← hany]; exact h
      rw [withK_new hth]
      have hmap : R.map (repR k u (ac, E.length, cc)) = R := by
        refine (List.map_congr_left fun r hr => ?_).trans (List.map_id R)
        have : (R.any fun r => decide (r.1 = k)) = false := h
        have := List.any_eq_false.1 this r hr
        unfold repR
        rw [if_neg (by simpa using this)]; rfl
      rw [hmap] at hp
      have hb5 : mm b = some (strO k) := hs3.get (a := blk1 b (strO k)) (by simp) (blk1_same ..)
      conv => whnf
      refine .mk _ (makeFunc_spec (cs := [.pointer (some ⟨b, 0, none⟩)]) (by simp [Value.oneCell'])) ?_
      rintro _ _ ⟨rfl, rfl⟩
      conv => whnf
      first | refine xretk (indexK1_spec (p := fun r => sLess k r.1) (hp.ea.sub (hs3.sub (by simp))) (fun r _ => with1_spec hb5) (by omega)) ?_ | refine xret (indexK1_spec (p := fun r => sLess k r.1) (hp.ea.sub (hs3.sub (by simp))) (fun r _ => with1_spec hb5) (by omega)) ?_
      conv => whnf
      have fin : ∀ j, j ≤ L.length → (∀ r ∈ R.take j, sLess k r.1 = false) → (∀ h : j < R.length, sLess k R[j].1 = true) → insK k (u, E) L = L.take j ++ ((k, (u, E)) :: L.drop j) := fun j hj h1 h2 => by
        refine insK_at hj (fun x hx => ?_) fun hlt => ?_
        · have e1 := (hK.take j).any fun y => sLess k y
          have e2 : ((R.take j).any fun r => sLess k r.1) = false := List.any_eq_false.2 fun r hr => by rw [h1 r hr]; decide
          rw [e2] at e1
          simpa using List.any_eq_false.1 e1.symm x hx
        · rw [← (hK.at' j (by omega) hlt).k]; exact h2 (by omega)
      have fin2 : ∀ (m2 p' : Mem) (v' : Value) (j : Nat), Split m2 [p', allM [pc, blk1 b (strO k), g, m]] → Ko p' v' (insAtK R j (k, u, (ac, E.length, cc))) → j ≤ L.length → (∀ r ∈ R.take j, sLess k r.1 = false) → (∀ h : j < R.length, sLess k R[j].1 = true) → ∃ v'' p, [CV.v v'] = [.v v''] ∧ Split m2 [p, m] ∧ Kys p v'' (insK k (u, E) L) := fun m2 p' v' j h1 h2 h3 h4 h5 => by
        have hs9 : Split m2 ([p', pc, blk1 b (strO k), g] ++ [m]) := Split.weld (a := [p']) h1 (hs3.drop.all)
        obtain ⟨hs10, hs11⟩ := Split.group _ hs9
        refine ⟨_, _, rfl, hs10, _, h2.ea.sub (hs11.sub (by simp)), ?_⟩
        rw [fin j h3 h4 h5]
        have hKx := hK.sub (hs11.sub (a := g) (by simp))
        have hone : KyIs _ (k, u, (ac, E.length, cc)) (k, (u, E)) := ⟨rfl, rfl, hu, hpc.ea.sub (hs11.sub (a := pc) (by simp))⟩
        exact (hKx.take j).append ((KysIs.one hone).append (hKx.drop j))
      rcases idxG_split (fun r : Rk => sLess k r.1) R with ⟨e1, e2⟩ | ⟨i0, hi0, e1, e2, e3⟩
      · rw [e1]
        refine ⟨fun _ => ?_, fun h => absurd h (by first | decide | simp)⟩
        conv => whnf
        refine ⟨_, mcell_of hb5 rfl, rfl, ?_⟩
        conv => whnf
        refine .mk _ (buildKu (k := k) (s := (ac, E.length, cc)) hu) ?_
        rintro _ _ ⟨b6, hb6, rfl, rfl⟩
        conv => whnf
        have hs5 := hs3.new hb6 (.cells (encK (k, u, (ac, E.length, cc))).toArray 82)
        have hs6 : Split _ ([pc, blk1 b (strO k), g, m] ++ [p, blk1 b6 (.cells (encK (k, u, (ac, E.length, cc))).toArray 82)]) := hs5.perm (by
          refine (List.Perm.swap _ _ _).trans ?_
          exact List.perm_append_comm (l₁ := [p, blk1 b6 _]) (l₂ := [pc, blk1 b (strO k), g, m]))
        have hs7 := (Split.group _ hs6).1
        have hs7 : Split _ [p, blk1 b6 (.cells (encK (k, u, (ac, E.length, cc))).toArray 82), allM [pc, blk1 b (strO k), g, m]] := hs7.perm (by
          refine (List.Perm.swap _ _ _).trans ?_
          exact List.Perm.cons _ (List.Perm.swap _ _ _))
        refine xcall (insertK_spec hs7 hp (k := R.length) (by omega) (by omega)) ?_
        rintro _ m8 ⟨v', p', rfl, hs8, hp'⟩
        conv => whnf
        exact fin2 _ _ _ _ hs8 hp' (by omega) (by rw [List.take_length]; exact e2) (fun h => absurd h (by omega))
      · rw [e1]
        refine ⟨fun h => absurd h (by (simp <;> omega)), fun _ => ?_⟩
        conv => whnf
        refine ⟨_, mcell_of hb5 rfl, rfl, ?_⟩
        conv => whnf
        refine .mk _ (buildKu (k := k) (s := (ac, E.length, cc)) hu) ?_
        rintro _ _ ⟨b6, hb6, rfl, rfl⟩
        conv => whnf
        have hs5 := hs3.new hb6 (.cells (encK (k, u, (ac, E.length, cc))).toArray 82)
        have hs6 : Split _ ([pc, blk1 b (strO k), g, m] ++ [p, blk1 b6 (.cells (encK (k, u, (ac, E.length, cc))).toArray 82)]) := hs5.perm (by
          refine (List.Perm.swap _ _ _).trans ?_
          exact List.perm_append_comm (l₁ := [p, blk1 b6 _]) (l₂ := [pc, blk1 b (strO k), g, m]))
        have hs7 := (Split.group _ hs6).1
        have hs7 : Split _ [p, blk1 b6 (.cells (encK (k, u, (ac, E.length, cc))).toArray 82), allM [pc, blk1 b (strO k), g, m]] := hs7.perm (by
          refine (List.Perm.swap _ _ _).trans ?_
          exact List.Perm.cons _ (List.Perm.swap _ _ _))
        refine xcall (insertK_spec hs7 hp (k := i0) (by omega) (by omega)) ?_
        rintro _ m8 ⟨v', p', rfl, hs8, hp'⟩
        conv => whnf
        exact fin2 _ _ _ _ hs8 hp' (by omega) e3 (fun _ => e2)
set_option maxHeartbeats 4000000 in
theorem appendSeqS_spec {mm m p0 : Mem} {b3 b4 b5 : Nat} {v0 : Value} {u w : List Int} {a a' : Option Addr} {c c' : Nat} {E0 E K : List En} {both : Bool} (hs0 : Split mm [p0, m]) (hp0 : No p0 v0 E0) (hu : u.length = 8) (hw : w.length = 8) (hl0 : E0.length ≤ 1000000) (hn : E.length ≤ 1000000) (hnk : K.length ≤ 1000000) (hIE : ∀ e ∈ E, okE e)
    (h3 : m b3 = some (cartO u a E.length c)) (h4 : m b4 = some (cartO w a' K.length c')) (h5 : m b5 = some (boolO both)) (hE : Na m (.slice a E.length c) E) (hK : Na m (.slice a' K.length c') K) :
    Spec Tryz.prog 78 [.v v0, fnP3V 132 b3 b5 b4] mm fun r m' => ∃ v' p, r = [.v v'] ∧ Split m' [p, m] ∧ No p v' (E0 ++ staysF E w K both) := by
  have hSl : (staysF E w K both).length ≤ 1000000 := Nat.le_trans (List.length_filter_le _ _) hn
  obtain ⟨av, cv, rfl⟩ := hp0.el.shape
  refine en78 rfl (goY ?_)
  conv => whnf
  intro bo hbo
  conv => whnf
  have hs1 := hs0.new hbo (.cells #[.slice av E0.length cv] 38)
  have hs1 : Split (mm.set bo (.cells #[.slice av E0.length cv] 38)) [p0, blk1 bo (.cells #[.slice av E0.length cv] 38), m] := hs1.perm (List.Perm.swap _ _ _)
  refine .mk 132 #[.pointer (some ⟨b3, 0, none⟩), .pointer (some ⟨b5, 0, none⟩), .pointer (some ⟨b4, 0, none⟩)] rfl rfl rfl (ι := Nat)
    (fun k mm => k ≤ (staysF E w K both).length ∧ ∃ vo p, Split mm [p, blk1 bo (.cells #[vo] 38), m] ∧ No p vo (E0 ++ (staysF E w K both).take k)) 0 ⟨by omega, _, p0, hs1, by simpa using hp0⟩
    (fun k x j => ∃ h : k < (staysF E w K both).length, x = [Nv (staysF E w K both)[k]] ∧ j = k + 1) (fun k x j ⟨_, h1, _⟩ => by subst h1; rfl) ?_
    (fun mm => ∃ vo p, Split mm [p, blk1 bo (.cells #[vo] 38), m] ∧ No p vo (E0 ++ staysF E w K both)) ?_ ?_
  · rintro k _ _ mm ⟨hk, vo, p, hs, hp⟩ ⟨hlt, rfl, rfl⟩
    have hst : (staysF E w K both).take (k + 1) = (staysF E w K both).take k ++ [(staysF E w K both)[k]] := List.take_succ_eq_append_getElem hlt
    generalize (staysF E w K both)[k] = x at hst
    conv => whnf
    intro b4 hb4
    conv => whnf
    refine ⟨_, _, _, Mem.set_same .., ⟨Nat.le_refl 4, noFr⟩, ?_⟩
    rw [storeAll (by rfl)]
    conv => whnf
    have hs4 := hs.new hb4 (.cells (encE x).toArray 57)
    change Split (mm.set b4 (.cells (LB.cells [.one (.int .i64 x.1), .one (.int .i64 x.2.1), .one (.int .u64 x.2.2.1), .one (.int .i64 x.2.2.2)]).toArray 57)) _ at hs4
    generalize mm.set b4 (.cells (LB.cells [.one (.int .i64 x.1), .one (.int .i64 x.2.1), .one (.int .u64 x.2.2.1), .one (.int .i64 x.2.2.2)]).toArray 57) = m2 at hs4 ⊢
    have hr4 : MRange m2 b4 0 (encE x) := ⟨_, _, _, hs4.get (a := blk1 b4 (.cells (encE x).toArray 57)) (by simp) (blk1_same ..), fun j u hu => by rw [Nat.zero_add, List.getElem?_toArray]; exact hu⟩
    refine ⟨_, mcell_of (hs4.get (a := blk1 bo (.cells #[vo] 38)) (by simp) (blk1_same ..)) rfl, hp.ea.one, ?_⟩
    conv => whnf
    refine ⟨[.one (.int .i64 x.1), .one (.int .i64 x.2.1), .one (.int .u64 x.2.2.1), .one (.int .i64 x.2.2.2)], ⟨rfl, rfl, rfl, rfl, trivial⟩, rfl, hr4, ?_⟩
    conv => whnf
    refine .mk _ (buildN1 (e := x)) ?_
    rintro _ _ ⟨b5, hb5, rfl, rfl⟩
    conv => whnf
    refine .mk _ (pushN (i := 1) hs4 rfl hb5 hp (by rw [List.length_append, List.length_take]; omega)) ?_
    rintro _ m6 ⟨vo', p', rfl, hs6, hp'⟩
    conv => whnf
    refine ⟨_, _, _, hs6.get (a := blk1 bo (.cells #[vo] 38)) (by simp) (blk1_same ..), ⟨by simp, by simp⟩, ?_⟩
    conv => whnf
    have hs7 := hs6.setAt (i := 2) rfl (blk1_same ..) (.cells #[vo'] 38)
    rw [blk1_set] at hs7
    refine ⟨by omega, vo', p', hs7.drop, ?_⟩
    rw [hst, ← List.append_assoc]
    exact hp'
  · intro lb ob _ hround
    refine (staysIter (I := fun k mm => ∃ m1, (k ≤ (staysF E w K both).length ∧ ∃ vo p, Split m1 [p, blk1 bo (.cells #[vo] 38), m] ∧ No p vo (E0 ++ (staysF E w K both).take k)) ∧ m1 lb = none ∧ mm = m1.set lb ob) (l := lb) (b3 := b3) (b4 := b4) (b5 := b5) (u := u) (w := w) (a := a) (a' := a') (c := c) (c' := c') (E := E) (K := K) (both := both) hw hn hnk hIE ?_ hu ?_ ⟨_, ⟨Nat.zero_le _, _, p0, hs1, by simpa using hp0⟩, by assumption, rfl⟩).mono ?_
    · rintro k mm ⟨m1, ⟨_, vo, p, hs, _⟩, hl, rfl⟩
      have hsub : Sub m (m1.set lb ob) := (hs.sub (by simp)).trans (Mem.sub_set _ hl)
      exact ⟨hsub _ _ h3, hsub _ _ h4, hsub _ _ h5, hE.sub hsub, hK.sub hsub⟩
    · rintro k mm hk ⟨m1, hi, hl, rfl⟩
      exact hround k _ _ m1 hi ⟨hk, rfl, rfl⟩ hl
    · rintro r m' ⟨rfl, m1, ⟨_, vo, p, hs, hp⟩, hl, rfl⟩
      rw [List.take_length] at hp
      exact ⟨m1, ⟨vo, p, hs, hp⟩, hl, rfl⟩
  · rintro mm ⟨vo, p, hs, hp⟩
    conv => whnf
    refine ⟨vo, mcell_of (hs.get (a := blk1 bo (.cells #[vo] 38)) (by simp) (blk1_same ..)) rfl, hp.ea.one, ?_⟩
    conv => whnf
    exact ⟨vo, p, rfl, hs.erase 1, hp⟩
theorem collectS_spec {m : Mem} {b3 b4 b5 : Nat} {u w : List Int} {a a' : Option Addr} {c c' : Nat} {E K : List En} {both : Bool} (hu : u.length = 8) (hw : w.length = 8) (hn : E.length ≤ 1000000) (hnk : K.length ≤ 1000000) (hIE : ∀ e ∈ E, okE e)
    (h3 : m b3 = some (cartO u a E.length c)) (h4 : m b4 = some (cartO w a' K.length c')) (h5 : m b5 = some (boolO both)) (hE : Na m (.slice a E.length c) E) (hK : Na m (.slice a' K.length c') K) :
    Spec Tryz.prog 79 [fnP3V 132 b3 b5 b4] m fun r m' => ∃ v' p, r = [.v v'] ∧ Split m' [p, m] ∧ No p v' (staysF E w K both) := by
  refine en79 rfl (goY ?_)
  conv => whnf
  refine xcall (appendSeqS_spec (E0 := []) (Split.one m).addEmp (No.nil _) hu hw (by simp) hn hnk hIE h3 h4 h5 hE hK) ?_
  rintro _ m1 ⟨v', p, rfl, hs, hp⟩
  conv => whnf
  exact ⟨v', p, rfl, hs, hp⟩
theorem flat_at {α : Type} {size : Nat} : ∀ (ls : List (List α)), (∀ a ∈ ls, a.length = size) → ∀ (i : Nat) (a : List α), ls[i]? = some a → ∀ (j : Nat) (u : α), a[j]? = some u → ls.flatten[i * size + j]? = some u
  | [], _, i, a, hi, _, _, _ => by simp at hi
  | b :: ls, h, 0, a, hi, j, u, hu => by
    simp at hi; subst hi
    simp only [List.flatten_cons, Nat.zero_mul, Nat.zero_add]
    rw [List.getElem?_append_left (List.getElem?_eq_some_iff.1 hu).1]; exact hu
  | b :: ls, h, i + 1, a, hi, j, u, hu => by
    have hb := h b (by simp)
    have ih := flat_at ls (fun a ha => h a (by simp [ha])) i a (by simpa using hi) j u hu
    simp only [List.flatten_cons]
    rw [List.getElem?_append_right (by rw [hb, Nat.add_mul]; omega), hb]
    rw [show (i + 1) * size + j - size = i * size + j by rw [Nat.add_mul]; omega]
    exact ih
abbrev vcells (a : List Int) : List Value := a.map (Value.int .u64)
def Vecs (m : Mem) (v : Value) (ls : List (List Int)) : Prop := Lies m 8 v (ls.map vcells).flatten ∧ lenV v = ls.length ∧ ∀ a ∈ ls, V8 a
def joinTo (i : Nat) (ls : List (List Int)) : List Int := (ls.take i).foldl (List.zipWith max) (List.replicate 8 0)
theorem v8_zero : V8 (List.replicate 8 0) := V8.of rfl rfl
theorem foldl_v8 : ∀ (ls : List (List Int)) (z : List Int), V8 z → (∀ a ∈ ls, V8 a) → V8 (ls.foldl (List.zipWith max) z)
  | [], z, hz, _ => hz
  | a :: ls, z, hz, h => foldl_v8 ls _ (hz.zip (h a (by simp))) (fun b hb => h b (by simp [hb]))
theorem joinTo_v8 {ls : List (List Int)} (h : ∀ a ∈ ls, V8 a) (i : Nat) : V8 (joinTo i ls) := foldl_v8 _ _ v8_zero (fun a ha => h a (List.mem_of_mem_take ha))
theorem joinTo_succ {ls : List (List Int)} {i : Nat} {a : List Int} (h : ls[i]? = some a) : joinTo (i + 1) ls = List.zipWith max (joinTo i ls) a := by
  unfold joinTo
  have hi := (List.getElem?_eq_some_iff.1 h).1
  have : ls[i] = a := (List.getElem?_eq_some_iff.1 h).2
  rw [List.take_succ_eq_append_getElem hi, List.foldl_append, this]; rfl
theorem joinTo_all {ls : List (List Int)} : joinTo ls.length ls = ls.foldl (List.zipWith max) (List.replicate 8 0) := by rw [joinTo, List.take_length]
theorem joins_spec {m : Mem} {v : Value} {ls : List (List Int)} (hv : Vecs m v ls) (hn : ls.length < 9223372036854775808) : Ret Tryz.prog 81 [.v v] m [vecV (ls.foldl (List.zipWith max) (List.replicate 8 0))] := by
  obtain ⟨hl, hlen, h8⟩ := hv
  have fin : ∀ i, i = ls.length → joinTo i ls = ls.foldl (List.zipWith max) (List.replicate 8 0) := by rintro i rfl; exact joinTo_all
  rcases hl with ⟨c, rfl, hnil⟩ | ⟨b, o, c, n, arr, t, fr, rfl, g1, g2, _, g3, g4⟩
  · have h0 : ls = [] := List.length_eq_zero_iff.1 hlen.symm
    subst h0
    refine en81 rfl ?_
    conv => whnf
    refine .mk (ι := Unit) (fun i => 0) (fun i => True) (fun i => [(2, .p 0 0), (3, .p 1 0), (8, .c (.v (.slice none 0 c))), (9, .c (i64 0)), (10, .c (i64 0))])
      (fun i => [(37, [.ints .u64 8 (List.replicate 8 0)]), (37, [.ints .u64 8 (List.replicate 8 0)])]) (fun _ => m) () trivial ?_ ?_
    · conv => whnf
      repeat (refine And.intro (by first | with_reducible rfl | exact congrArg (Value.int _) (wi (by omega) (by omega)) | exact wi (by omega) (by omega) | rfl) ?_; conv => whnf)
      first | exact trivial | exact fun _ _ h => h
    intro i hi
    conv => whnf
    refine ⟨fun h => absurd h (by first | decide | simp), fun _ => ?_⟩
    conv => whnf
    exact ⟨rfl, rfl⟩
  · have hn' : n = ls.length := hlen
    subst hn'
    refine en81 rfl ?_
    conv => whnf
    refine .mk (ι := Nat) (fun i => ls.length - i) (fun i => i ≤ ls.length) (fun i => [(2, .p 0 0), (3, .p 1 0), (8, .c (.v (.slice (some ⟨b, o, none⟩) ls.length c))), (9, .c (i64 ls.length)), (10, .c (i64 i))])
      (fun i => [(37, [.ints .u64 8 (List.replicate 8 0)]), (37, [.ints .u64 8 (joinTo i ls)])]) (fun _ => m) 0 (by omega) ?_ ?_
    · conv => whnf
      repeat (refine And.intro (by first | with_reducible rfl | exact congrArg (Value.int _) (wi (by omega) (by omega)) | exact wi (by omega) (by omega) | rfl) ?_; conv => whnf)
      first | exact trivial | exact fun _ _ h => h
    intro i hi
    conv => whnf
    refine ⟨fun h => ?_, fun h => ?_⟩
    · have h' := of_decide_eq_true h
      have hi' : i < ls.length := by omega
      have ha : ls[i]? = some ls[i] := by simp [hi']
      have h8a := h8 _ (List.getElem_mem hi')
      have h8j := joinTo_v8 h8 i
      have hs := joinTo_succ ha
      have hj1 := h8j.1
      have ha1 := h8a.1
      generalize ls[i] = a at ha h8a hs ha1
      conv => whnf
      repeat (refine And.intro (by first | omega | (simp only [times]; omega)) ?_; conv => whnf)
      refine ⟨[.ints .u64 8 a], ⟨ha1, trivial⟩, rfl, ?_, ?_⟩
      · refine ⟨arr, t, fr, g1, fun j u hu => ?_⟩
        have := flat_at (size := 8) (ls.map vcells) (by simpa using fun x hx => (h8 x hx).1) i (vcells a) (by simp [ha]) j u (by simpa [LB.cells, Seg.cells] using hu)
        have := g3 _ _ this
        simp only [times]
        rw [show o + (Int.toNat (i : Int)) * 8 + j = o + (i * 8 + j) by simp; omega]
        exact this
      conv => whnf
      refine .mk (ι := Nat) (fun k => 8 - k) (fun k => k ≤ 8) (fun k => [(2, .p 0 0), (3, .p 1 0), (8, .c (.v (.slice (some ⟨b, o, none⟩) ls.length c))), (9, .c (i64 ls.length)), (10, .c (i64 i)), (14, .c (vecV a)), (15, .c (i64 k))])
        (fun k => [(37, [.ints .u64 8 (List.replicate 8 0)]), (37, [.ints .u64 8 (zipTo max k (joinTo i ls) a)])]) (fun _ => m) 0 (by omega) ?_ ?_
      · conv => whnf
        repeat (refine And.intro (by first | with_reducible rfl | (exact (zipTo_zero _ _ _).symm) | exact congrArg (Value.int _) (wi (by omega) (by omega)) | exact wi (by omega) (by omega) | rfl) ?_; conv => whnf)
        first | exact trivial | exact fun _ _ h => h
      intro k hk
      conv => whnf
      refine ⟨fun h => ?_, fun h => ?_⟩
      · have h' := of_decide_eq_true h
        conv => whnf
        repeat (refine And.intro (by first | omega | (simp only [times]; omega)) ?_; conv => whnf)
        refine ⟨k + 1, by omega, by omega, ?_⟩
        conv => whnf
        repeat (refine And.intro (by first | with_reducible rfl | (exact zipTo_set _ _ _ _ (by omega) (by omega)) | exact congrArg (Value.int _) (wi (by omega) (by omega)) | exact wi (by omega) (by omega) | rfl) ?_; conv => whnf)
        first | exact trivial | exact fun _ _ h => h
      · have h' := of_decide_eq_false h
        have : k = 8 := by omega
        subst this
        have e8 := zipTo_all max 8 (joinTo i ls) a (by omega) (by omega)
        conv => whnf
        refine ⟨i + 1, by omega, by omega, ?_⟩
        conv => whnf
        repeat (refine And.intro (by first | with_reducible rfl | (exact e8.trans hs.symm) | exact congrArg (Value.int _) (wi (by omega) (by omega)) | exact wi (by omega) (by omega) | rfl) ?_; conv => whnf)
        first | exact trivial | exact fun _ _ h => h
    · have h' := of_decide_eq_false h
      have hi' : i = ls.length := by omega
      have e := fin i hi'
      conv => whnf
      refine ⟨?_, rfl⟩
      rw [e]
theorem vecs2 {m : Mem} {b : Nat} {u v : List Int} (hu : V8 u) (hv : V8 v) : Vecs (m.set b (.cells (fl [vecV u, vecV v]).toArray 37)) (.slice (some ⟨b, 0, none⟩) 2 2) [u, v] := by
  refine ⟨.inr ⟨b, 0, 2, 2, _, _, _, rfl, Mem.set_same .., ?_, Nat.le_refl _, ?_, ?_⟩, rfl, ?_⟩
  · simp [hu.1, hv.1]
  · intro j x hx
    simpa [fl, CV.cs, LB.cells, Seg.cells] using hx
  · intro x hx
    simp at hx
    rcases hx with ⟨a, _, rfl⟩ | ⟨a, _, rfl⟩ <;> rfl
  · intro a ha
    simp at ha
    rcases ha with rfl | rfl
    · exact hu
    · exact hv
theorem buildVecs_spec {m : Mem} {u v : List Int} (hu : V8 u) (hv : V8 v) : PrimSpec Tryz.prog (.buildSlice 197 2 [0, 1]) [vecV u, vecV v] m fun r m' => ∃ b, m b = none ∧ r = [.v (.slice (some ⟨b, 0, none⟩) 2 2)] ∧ m' = m.set b (.cells (fl [vecV u, vecV v]).toArray 37) :=
  buildSlice_spec tt_ok (t := 197) (e := 37) (by rfl) rfl (by rfl) rfl rfl (by simp [CV.cs, LB.cells, Seg.cells, hu.1, hv.1]) (by simp) (by simp)
theorem WV8.v8 {u : List Int} (h : WV8 u) : V8 u := ⟨h.1, fun i => by
  have := h.at i
  unfold U64 at this
  unfold U
  omega⟩
theorem twoF_bad {x y : Ct} (h : rightC x.1 x.2 = false ∨ rightC y.1 y.2 = false) : twoF x y = ((zeros, []), 3) := by unfold twoF; rw [if_pos h]
theorem twoF_clash {x y : Ct} (h1 : rightC x.1 x.2 = true) (h2 : rightC y.1 y.2 = true) (h : clashF x.2 y.2 = true) : twoF x y = ((zeros, []), 14) := by
  unfold twoF; rw [if_neg (by rw [h1, h2]; simp), if_pos h]
theorem twoF_full {x y : Ct} (h1 : rightC x.1 x.2 = true) (h2 : rightC y.1 y.2 = true) (h : clashF x.2 y.2 = false) (hf : 400 < (joinL x.1 y.1 x.2 y.2).length) : twoF x y = ((zeros, []), 5) := by
  unfold twoF; rw [if_neg (by rw [h1, h2]; simp), if_neg (by rw [h]; decide), if_pos hf]
theorem twoF_ok {x y : Ct} (h1 : rightC x.1 x.2 = true) (h2 : rightC y.1 y.2 = true) (h : clashF x.2 y.2 = false) (hf : ¬ 400 < (joinL x.1 y.1 x.2 y.2).length) : twoF x y = ((joinU x.1 y.1, sortE (joinL x.1 y.1 x.2 y.2)), 0) := by
  unfold twoF; rw [if_neg (by rw [h1, h2]; simp), if_neg (by rw [h]; decide), if_neg hf]
theorem sortE_len (l : List En) : (sortE l).length = l.length := List.length_mergeSort ..
set_option maxHeartbeats 4000000 in
theorem two_spec {m : Mem} (hS : Strong m) {u w : List Int} {a a' : Option Addr} {c c' : Nat} {E K : List En} (hu : WV8 u) (hw : WV8 w) (hv : Na m (.slice a E.length c) E) (hk : Na m (.slice a' K.length c') K) (hIE : ∀ e ∈ E, okE e) (hIK : ∀ e ∈ K, okE e) (hl : E.length ≤ 1000) (hlk : K.length ≤ 1000) :
    Spec Tryz.prog 39 [cartV u a E.length c, cartV w a' K.length c'] m fun r m' => ∃ x e a2 c2 p, x = (twoF (u, E) (w, K)).1 ∧ e = (twoF (u, E) (w, K)).2 ∧ r = [cartV x.1 a2 x.2.length c2, i64 e] ∧ Split m' [p, m] ∧ Na p (.slice a2 x.2.length c2) x.2 := by
  have zero : ∀ e, twoF (u, E) (w, K) = ((zeros, []), e) → ∃ (x : Ct) (e' : Int) (a2 : Option Addr) (c2 : Nat) (p : Mem), x = (twoF (u, E) (w, K)).1 ∧ e' = (twoF (u, E) (w, K)).2 ∧ [cartV zeros none 0 0, i64 e] = [cartV x.1 a2 x.2.length c2, i64 e'] ∧ Split m [p, m] ∧ Na p (.slice a2 x.2.length c2) x.2 := fun e h =>
    ⟨(zeros, []), e, none, 0, emp, by rw [h], by rw [h], rfl, (Split.one m).addEmp, Na.nil _⟩
  refine en39 rfl (goY ?_)
  conv => whnf
  first | refine xretk (right6R (u := u) hS hv hIE (by omega)) ?_ | refine xret (right6R (u := u) hS hv hIE (by omega)) ?_
  conv => whnf
  by_cases hr1 : rightC u E = true
  rotate_left
  · have hr1 : rightC u E = false := by simpa using hr1
    rw [hr1]
    refine ⟨fun _ => ?_, fun h => absurd h (by first | decide | simp)⟩
    conv => whnf
    exact zero 3 (twoF_bad (.inl hr1))
  rw [hr1]
  refine ⟨fun h => absurd h (by first | decide | simp), fun _ => ?_⟩
  conv => whnf
  first | refine xretk (right6R (u := w) hS hk hIK (by omega)) ?_ | refine xret (right6R (u := w) hS hk hIK (by omega)) ?_
  conv => whnf
  by_cases hr2 : rightC w K = true
  rotate_left
  · have hr2 : rightC w K = false := by simpa using hr2
    rw [hr2]
    refine ⟨fun _ => ?_, fun h => absurd h (by first | decide | simp)⟩
    conv => whnf
    exact zero 3 (twoF_bad (.inr hr2))
  rw [hr2]
  refine ⟨fun h => absurd h (by first | decide | simp), fun _ => ?_⟩
  conv => whnf
  first | refine xretk (clash_spec (u := u) hw.1 hv hk (by omega) (by omega)) ?_ | refine xret (clash_spec (u := u) hw.1 hv hk (by omega) (by omega)) ?_
  conv => whnf
  by_cases hc : clashF E K = true
  · rw [hc]
    refine ⟨fun _ => ?_, fun h => absurd h (by first | decide | simp)⟩
    conv => whnf
    exact zero 14 (twoF_clash hr1 hr2 hc)
  have hc : clashF E K = false := by simpa using hc
  rw [hc]
  refine ⟨fun h => absurd h (by first | decide | simp), fun _ => ?_⟩
  conv => whnf
  refine xcall (stays_spec (m := m) (u := u) (w := w) (a := a) (a' := a') (n := E.length) (n' := K.length) (c := c) (c' := c') (both := true)) ?_
  rintro _ m1 ⟨b3, b4, b5, rfl, hs1⟩
  conv => whnf
  first | refine ⟨fun _ h => (by cases h), ?_⟩ | skip
  conv => whnf
  have hsm1 : Sub m m1 := hs1.sub (by simp)
  have hb3 : m1 b3 = some (cartO u a E.length c) := hs1.get (a := blk1 b3 (cartO u a E.length c)) (by simp) (blk1_same ..)
  have hb4 : m1 b4 = some (cartO w a' K.length c') := hs1.get (a := blk1 b4 (cartO w a' K.length c')) (by simp) (blk1_same ..)
  have hb5 : m1 b5 = some (boolO true) := hs1.get (a := blk1 b5 (boolO true)) (by simp) (blk1_same ..)
  refine xcall (collectS_spec hu.1 hw.1 (by omega) (by omega) hIE hb3 hb4 hb5 (hv.sub hsm1) (hk.sub hsm1)) ?_
  rintro _ m2 ⟨v1, p1, rfl, hs2, hp1⟩
  conv => whnf
  first | refine ⟨fun _ h => (by cases h), ?_⟩ | skip
  conv => whnf
  have hsm2 : Sub m m2 := hsm1.trans (hs2.sub (by simp))
  refine xcall (stays_spec (m := m2) (u := w) (w := u) (a := a') (a' := a) (n := K.length) (n' := E.length) (c := c') (c' := c) (both := false)) ?_
  rintro _ m3 ⟨d3, d4, d5, rfl, hs3⟩
  conv => whnf
  first | refine ⟨fun _ h => (by cases h), ?_⟩ | skip
  conv => whnf
  have hs4 : Split m3 [blk1 d5 (boolO false), blk1 d4 (cartO u a E.length c), blk1 d3 (cartO w a' K.length c'), p1, m1] := Split.under (a := [blk1 d5 (boolO false), blk1 d4 (cartO u a E.length c), blk1 d3 (cartO w a' K.length c')]) hs3 hs2
  have hs5 : Split m3 [p1, blk1 d5 (boolO false), blk1 d4 (cartO u a E.length c), blk1 d3 (cartO w a' K.length c'), m1] := (hs4.pick (i := 3) rfl)
  obtain ⟨q, hq, hs6, back⟩ := Split.part hs5
  have hqm : Sub m q := hsm1.trans (hq m1 (by simp))
  have hd3 : q d3 = some (cartO w a' K.length c') := hq (blk1 d3 (cartO w a' K.length c')) (by simp) _ _ (blk1_same ..)
  have hd4 : q d4 = some (cartO u a E.length c) := hq (blk1 d4 (cartO u a E.length c)) (by simp) _ _ (blk1_same ..)
  have hd5 : q d5 = some (boolO false) := hq (blk1 d5 (boolO false)) (by simp) _ _ (blk1_same ..)
  have hl1 : (staysF E w K true).length ≤ 1000 := Nat.le_trans (List.length_filter_le _ _) hl
  have hl2 : (staysF K u E false).length ≤ 1000 := Nat.le_trans (List.length_filter_le _ _) hlk
  refine xcall (appendSeqS_spec hs6 hp1 hw.1 hu.1 (by omega) (by omega) (by omega) hIK hd3 hd4 hd5 (hk.sub hqm) (hv.sub hqm)) ?_
  rintro _ m4 ⟨v2, p2, rfl, hs7, hp2⟩
  conv => whnf
  first | refine ⟨fun _ h => (by cases h), ?_⟩ | skip
  conv => whnf
  have hs8 := back _ _ hs7
  have hsm4 : Sub m m4 := hsm1.trans (hs8.sub (by simp))
  have hpm : Split m4 [p2, m] := by
    have := hs8.pick (i := 4) rfl
    exact (Split.fewer (((this.erase 2).erase 2).erase 2) hsm1).perm (List.Perm.swap _ _ _)
  clear hs8 back hs7 hs6 hs5 hs4 hs3 hs2 hs1
  have hjl : (joinL u w E K).length ≤ 2000 := by simp only [joinL, List.length_append]; omega
  change No p2 v2 (joinL u w E K) at hp2
  obtain ⟨a2, c2, rfl⟩ := hp2.el.shape
  have hfl := twoF_full (x := (u, E)) (y := (w, K)) hr1 hr2 hc
  have hok := twoF_ok (x := (u, E)) (y := (w, K)) hr1 hr2 hc
  simp only at hfl hok
  generalize joinL u w E K = J at hp2 hjl hfl hok ⊢
  refine ⟨fun h => ?_, fun h => ?_⟩
  · have h' : 400 < J.length := by have := of_decide_eq_true h; omega
    conv => whnf
    have e := hfl h'
    exact ⟨(zeros, []), 5, none, 0, emp, by rw [e], by rw [e], rfl, hpm.drop.addEmp, Na.nil _⟩
  · have h' : ¬ 400 < J.length := by have := of_decide_eq_false h; omega
    have e := hok h'
    conv => whnf
    refine .mk _ (buildVecs_spec hu.v8 hw.v8) ?_
    rintro _ _ ⟨b6, hb6, rfl, rfl⟩
    conv => whnf
    first | refine xretk (joins_spec (vecs2 hu.v8 hw.v8) (by simp)) ?_ | refine xret (joins_spec (vecs2 hu.v8 hw.v8) (by simp)) ?_
    conv => whnf
    have hs9 := hpm.new hb6 (.cells (fl [vecV u, vecV w]).toArray 37)
    have hsub9 : Sub m _ := hs9.sub (a := m) (by simp)
    refine xcall (orderE_spec (hS.sub hsub9) (hp2.ea.sub (hs9.sub (a := p2) (by simp))) (by omega)) ?_
    rintro _ m5 ⟨v3, p3, rfl, hs10, hp3⟩
    conv => whnf
    obtain ⟨a3, c3, rfl⟩ := hp3.el.shape
    have hs11 : Split m5 [p3, m] := (((Split.weld (a := [p3]) hs10 hs9).erase 1).erase 1)
    conv => whnf
    refine ⟨(joinU u w, sortE J), 0, a3, c3, p3, by rw [e], by rw [e], by simp [joinU], hs11, hp3.ea⟩
end Go.E.YtcionccfgcnhoaaGreatDoor
