/-
  Fr8, Fr9, FrA, Sn4, Ix, Lg2, Sn5, Sn6, Sn7, Sn8, Sn9, TxtDat, FiB, FiC
-/
import Derived.Test.YtgjlajcebcmbaaaGreatDoorSnapLivesZ10
import Derived.Laws.MakeOwn
/-
  The document's files: Sync, Cut, Rename.
-/
namespace Go.E.YtgjlajcebcmbaaaGreatDoor
open Go.Proofs
set_option maxRecDepth 100000
/-- a file's place, what is there -/
theorem fileR_get {L : List Rf} {name : ByteArray} {i : Nat} (h : fileR L name = some i) : ∃ x, L[i]? = some x ∧ x.name = name := by
  obtain ⟨h1, h2, _⟩ := List.findIdx?_eq_some_iff_getElem.1 h
  exact ⟨_, List.getElem?_eq_getElem h1, of_decide_eq_true h2⟩
def SyncR (L : List Rf) (name : ByteArray) (ns : Nat) (e : Int) (L' : List Rf) (ns' : Nat) : Prop := match fileR L name with
  | none => e = 4 ∧ L' = L ∧ ns' = ns
  | some i => e = 0 ∧ ns' = ns + 1 ∧ ∃ x, L[i]? = some x ∧ L' = L.set i { x with safe := x.b.size }
set_option maxHeartbeats 4000000 in
theorem refSync_spec {p : Mem} {bx : Nat} {q : Int} {nb ns : Nat} {L : List Rf} {name : ByteArray} (h : FR p bx q nb ns L) (hl : L.length ≤ 100000) (hns : ns ≤ 1000000000) :
    Spec Tryz.prog 49 [ptrB bx, .v (.string name)] p fun r m' => ∃ e L' ns', r = [i64 e] ∧ FR m' bx q nb ns' L' ∧ SyncR L name ns e L' ns' := by
  obtain ⟨v0, hrm⟩ := h.rm
  have hat := refAt_spec (name := name) hrm (by omega)
  unfold SyncR
  refine en49 rfl (goY ?_)
  conv => whnf
  first | refine xretk (hat) ?_ | refine xret (hat) ?_
  conv => whnf
  cases hf : fileR L name with
  | none =>
    rw [atR_none hf]
    refine ⟨fun _ => ?_, fun h => absurd h (by first | decide | simp)⟩
    conv => whnf
    exact ⟨_, _, _, rfl, h, rfl, rfl, rfl⟩
  | some i =>
    obtain ⟨e1, hi⟩ := atR_some hf
    rw [e1]
    refine ⟨fun h => absurd (of_decide_eq_true h) (by omega), fun _ => ?_⟩
    obtain ⟨v, pl, hs1, hv⟩ := h
    obtain ⟨b, o, c, rfl, hg⟩ := rfOk.real hv.el hi
    have ho : p bx = some (refO q (.slice (some ⟨b, o, none⟩) L.length c) nb ns) := hs1.sub (a := blk1 bx (refO q (.slice (some ⟨b, o, none⟩) L.length c) nb ns)) (by simp) _ _ (blk1_same ..)
    have hgi := (hg i hi).sub (hs1.sub (a := pl) (by simp))
    conv => whnf
    refine ⟨_, mcell_of ho rfl, rfl, ?_⟩
    conv => whnf
    refine ⟨_, mcell_of ho rfl, rfl, ?_⟩
    conv => whnf
    repeat (refine And.intro (by first | omega | (simp only [times]; omega)) ?_; conv => whnf)
    refine ⟨_, by simp only [times, Int.toNat_natCast]; exact mcell_rng (j := 1) hgi rfl, rfl, ?_⟩
    conv => whnf
    repeat (refine And.intro (by first | omega | (simp only [times]; omega)) ?_; conv => whnf)
    obtain ⟨arr, g1, g2, pl', g3, g4⟩ := Ro.storeAt 2 (u := .int .i64 (L[i].b.size : Int)) (x := { L[i] with safe := L[i].b.size }) hs1 hv hi (by decide) rfl
    refine ⟨_, _, _, g1, ⟨by simp only [times, Int.toNat_natCast]; omega, by simp⟩, ?_⟩
    simp only [times, Int.toNat_natCast]
    have ho1 := g3.sub (a := blk1 bx (refO q (.slice (some ⟨b, o, none⟩) L.length c) nb ns)) (by simp) _ _ (blk1_same ..)
    conv => whnf
    refine ⟨_, mcell_of ho1 rfl, rfl, ?_⟩
    conv => whnf
    refine ⟨_, _, _, ho1, ⟨by simp, by simp⟩, ?_⟩
    have ew : IntKind.u64.wrap ((ns : Int) + 1) = ((ns + 1 : Nat) : Int) := by rw [wu (by omega) (by omega)]; omega
    have hs5 := g3.setAt (i := 0) rfl (blk1_same ..) (refO q (.slice (some ⟨b, o, none⟩) L.length c) nb (ns + 1))
    rw [blk1_set] at hs5
    conv => whnf
    rw [ew]
    exact ⟨_, _, _, rfl, ⟨_, pl', hs5, g4⟩, rfl, rfl, _, List.getElem?_eq_getElem hi, rfl⟩
def CutRR (L : List Rf) (name : ByteArray) (n : Int) (e : Int) (L' : List Rf) : Prop := match fileR L name with
  | none => e = 4 ∧ L' = L
  | some i => ∃ x, L[i]? = some x ∧ if 0 ≤ n ∧ n ≤ x.b.size then e = 0 ∧ L' = L.set i ⟨x.name, x.b.extract 0 n.toNat, min x.safe n.toNat⟩ else e = 1 ∧ L' = L
set_option maxHeartbeats 4000000 in
theorem refCutF_spec {p : Mem} {bx : Nat} {q n : Int} {nb ns : Nat} {L : List Rf} {name : ByteArray} (h : FR p bx q nb ns L) (hl : L.length ≤ 100000) (hn : ∀ r ∈ L, r.b.size ≤ 1000000000) :
    Spec Tryz.prog 57 [ptrB bx, .v (.string name), i64 n] p fun r m' => ∃ e L', r = [i64 e] ∧ FR m' bx q nb ns L' ∧ CutRR L name n e L' := by
  obtain ⟨v0, hrm⟩ := h.rm
  have hat := refAt_spec (name := name) hrm (by omega)
  unfold CutRR
  refine en57 rfl (goY ?_)
  conv => whnf
  first | refine xretk (hat) ?_ | refine xret (hat) ?_
  conv => whnf
  cases hf : fileR L name with
  | none =>
    rw [atR_none hf]
    refine ⟨fun _ => ?_, fun h => absurd h (by first | decide | simp)⟩
    conv => whnf
    exact ⟨_, _, rfl, h, rfl, rfl⟩
  | some i =>
    obtain ⟨e1, hi⟩ := atR_some hf
    rw [e1]
    refine ⟨fun h => absurd (of_decide_eq_true h) (by omega), fun _ => ?_⟩
    have hfr := h
    obtain ⟨v, pl, hs1, hv⟩ := h
    obtain ⟨b, o, c, rfl, hg⟩ := rfOk.real hv.el hi
    have ho : p bx = some (refO q (.slice (some ⟨b, o, none⟩) L.length c) nb ns) := hs1.sub (a := blk1 bx (refO q (.slice (some ⟨b, o, none⟩) L.length c) nb ns)) (by simp) _ _ (blk1_same ..)
    have hgi := (hg i hi).sub (hs1.sub (a := pl) (by simp))
    have hbs := hn _ (List.getElem_mem hi)
    conv => whnf
    refine ⟨fun h1 => ?_, fun h1 => ?_⟩
    · have h1 := of_decide_eq_true h1
      conv => whnf
      exact ⟨_, _, rfl, hfr, _, List.getElem?_eq_getElem hi, by rw [if_neg (by omega)]; exact ⟨rfl, rfl⟩⟩
    have h1 := of_decide_eq_false h1
    conv => whnf
    refine ⟨_, mcell_of ho rfl, rfl, ?_⟩
    conv => whnf
    repeat (refine And.intro (by first | omega | (simp only [times]; omega)) ?_; conv => whnf)
    refine ⟨_, by simp only [times, Int.toNat_natCast]; exact mcell_rng (j := 1) hgi rfl, rfl, ?_⟩
    conv => whnf
    refine ⟨fun h2 => ?_, fun h2 => ?_⟩
    · have h2 := of_decide_eq_true h2
      conv => whnf
      exact ⟨_, _, rfl, hfr, _, List.getElem?_eq_getElem hi, by rw [if_neg (by omega)]; exact ⟨rfl, rfl⟩⟩
    have h2 := of_decide_eq_false h2
    conv => whnf
    refine ⟨_, mcell_of ho rfl, rfl, ?_⟩
    conv => whnf
    refine ⟨_, mcell_of ho rfl, rfl, ?_⟩
    conv => whnf
    repeat (refine And.intro (by first | omega | (simp only [times]; omega)) ?_; conv => whnf)
    refine ⟨_, by simp only [times, Int.toNat_natCast]; exact mcell_rng (j := 1) hgi rfl, rfl, ?_⟩
    conv => whnf
    repeat (refine And.intro (by first | omega | (simp only [times]; omega)) ?_; conv => whnf)
    obtain ⟨arr, g1, g2, pl', g3, g4⟩ := Ro.storeAt 1 (u := .string (L[i].b.extract 0 n.toNat)) (x := { L[i] with b := L[i].b.extract 0 n.toNat }) hs1 hv hi (by decide) rfl
    refine ⟨_, _, _, g1, ⟨by simp only [times, Int.toNat_natCast]; omega, by simp⟩, ?_⟩
    simp only [times, Int.toNat_natCast]
    have ho1 := g3.sub (a := blk1 bx (refO q (.slice (some ⟨b, o, none⟩) L.length c) nb ns)) (by simp) _ _ (blk1_same ..)
    obtain ⟨b', o', c', e, hg'⟩ := rfOk.real (i := i) g4.el (by rw [List.length_set]; exact hi)
    have hgj := hg' i (by rw [List.length_set]; exact hi)
    injection e with e2
    injection e2 with e3
    injection e3 with e4 e5
    subst e4 e5
    rw [List.getElem_set_self] at hgj
    have hgj := hgj.sub (g3.sub (a := pl') (by simp))
    conv => whnf
    refine ⟨_, mcell_of ho1 rfl, rfl, ?_⟩
    conv => whnf
    repeat (refine And.intro (by first | omega | (simp only [times]; omega)) ?_; conv => whnf)
    refine ⟨_, by simp only [times, Int.toNat_natCast]; exact mcell_rng (j := 2) hgj rfl, rfl, ?_⟩
    conv => whnf
    refine ⟨fun h3 => ?_, fun h3 => ?_⟩
    · have h3 : n < (L[i].safe : Int) := of_decide_eq_true h3
      conv => whnf
      refine ⟨_, mcell_of ho1 rfl, rfl, ?_⟩
      conv => whnf
      repeat (refine And.intro (by first | omega | (simp only [times]; omega)) ?_; conv => whnf)
      obtain ⟨arr2, k1, k2, pl2, k3, k4⟩ := Ro.storeAt 2 (i := i) (u := .int .i64 n) (x := ⟨L[i].name, L[i].b.extract 0 n.toNat, min L[i].safe n.toNat⟩) g3 g4 (by rw [List.length_set]; exact hi) (by decide) (by rw [List.getElem_set_self]; simp only [rfC, List.take, List.drop, List.cons_append, List.nil_append]; rw [Nat.min_eq_right (by omega), Int.toNat_of_nonneg (by omega)])
      rw [List.set_set] at k4
      refine ⟨_, _, _, k1, ⟨by simp only [times, Int.toNat_natCast]; omega, by simp⟩, ?_⟩
      simp only [times, Int.toNat_natCast]
      conv => whnf
      refine ⟨_, _, rfl, ⟨_, pl2, k3, k4⟩, _, List.getElem?_eq_getElem hi, ?_⟩
      rw [if_pos (by omega)]
      exact ⟨rfl, rfl⟩
    · have h3 : ¬ n < (L[i].safe : Int) := of_decide_eq_false h3
      conv => whnf
      refine ⟨_, _, rfl, ⟨_, pl', g3, g4⟩, _, List.getElem?_eq_getElem hi, ?_⟩
      rw [if_pos (by omega), Nat.min_eq_left (by omega)]
      exact ⟨rfl, rfl⟩
def dropR (L : List Rf) (name : ByteArray) : List Rf := match fileR L name with
  | none => L
  | some k => L.eraseIdx k
theorem dropR_len (L : List Rf) (name : ByteArray) : (dropR L name).length ≤ L.length := by
  unfold dropR
  split
  · exact Nat.le_refl _
  · exact List.length_eraseIdx_le _ _
def RenR (L : List Rf) (a b : ByteArray) (e : Int) (L' : List Rf) : Prop := match fileR L a with
  | none => e = 4 ∧ L' = L
  | some i => if nameOk (chs b) = false then e = 1 ∧ L' = L else e = 0 ∧ ∃ x, L[i]? = some x ∧ L' = putR (dropR (L.eraseIdx i) b) { x with name := b }
set_option maxHeartbeats 4000000 in
theorem ren_tailR {p : Mem} {bx : Nat} {q : Int} {nb ns : Nat} {L : List Rf} {a b : ByteArray} {x : Rf} (h : FR p bx q nb ns L) (hl : L.length ≤ 1000000) (hn : ∀ r ∈ L, r.name.size ≤ 1000000) (hb : b.size ≤ 1000000) {R : List CV → Mem → Prop} (hR : ∀ m', FR m' bx q nb ns (putR L { x with name := b }) → R [i64 0] m') :
    xwpY c50 (restAt 11 (bodyOf Tryz.f50)) (QRetY tt.get Tryz.f50.results.toList R)
      [(0, .c (ptrB bx)), (2, .c (.v (.string b))), (6, .c (i64 0)), (8, .p 0 0)] [(112, [.one (.string x.name), .one (.string x.b), .one (.int .i64 (x.safe : Int))])] p [] := by
  conv => whnf
  refine .at ?_
  refine xcall (refPut_spec (x := { x with name := b }) h hl hn hb) ?_
  rintro _ m1 ⟨rfl, h2⟩
  conv => whnf
  exact hR _ h2
set_option maxHeartbeats 4000000 in
theorem refRename_spec {p : Mem} {bx : Nat} {q : Int} {nb ns : Nat} {L : List Rf} {a b : ByteArray} (h : FR p bx q nb ns L) (hl : L.length ≤ 100000) (hn : ∀ r ∈ L, r.name.size ≤ 1000000) (hb : b.size ≤ 1000000) :
    Spec Tryz.prog 50 [ptrB bx, .v (.string a), .v (.string b)] p fun r m' => ∃ e L', r = [i64 e] ∧ FR m' bx q nb ns L' ∧ RenR L a b e L' := by
  obtain ⟨v0, hrm⟩ := h.rm
  have hat := refAt_spec (name := a) hrm (by omega)
  have hnm := refIsName_spec (m := p) hb
  unfold RenR
  refine en50 rfl (goY ?_)
  conv => whnf
  first | refine xretk (hat) ?_ | refine xret (hat) ?_
  conv => whnf
  cases hf : fileR L a with
  | none =>
    rw [atR_none hf]
    refine ⟨fun _ => ?_, fun h => absurd h (by first | decide | simp)⟩
    conv => whnf
    exact ⟨_, _, rfl, h, rfl, rfl⟩
  | some i =>
    obtain ⟨e1, hi⟩ := atR_some hf
    rw [e1]
    refine ⟨fun h => absurd (of_decide_eq_true h) (by omega), fun _ => ?_⟩
    have hfr := h
    obtain ⟨v, pl, hs1, hv⟩ := h
    obtain ⟨b', o, c, rfl, hg⟩ := rfOk.real hv.el hi
    have ho : p bx = some (refO q (.slice (some ⟨b', o, none⟩) L.length c) nb ns) := hs1.sub (a := blk1 bx (refO q (.slice (some ⟨b', o, none⟩) L.length c) nb ns)) (by simp) _ _ (blk1_same ..)
    have hgi := (hg i hi).sub (hs1.sub (a := pl) (by simp))
    conv => whnf
    first | refine xretk (hnm) ?_ | refine xret (hnm) ?_
    conv => whnf
    refine ⟨fun h1 => ?_, fun h1 => ?_⟩
    · have h1 : nameOk (chs b) = false := by simpa using h1
      conv => whnf
      exact ⟨_, L, rfl, hfr, by dsimp only; rw [if_pos h1]; exact ⟨rfl, rfl⟩⟩
    have h1 : nameOk (chs b) = true := by simpa using h1
    conv => whnf
    refine ⟨_, mcell_of ho rfl, rfl, ?_⟩
    conv => whnf
    repeat (refine And.intro (by first | omega | (simp only [times]; omega)) ?_; conv => whnf)
    refine ⟨[.one (.string L[i].name), .one (.string L[i].b), .one (.int .i64 (L[i].safe : Int))], ⟨rfl, rfl, rfl, trivial⟩, rfl, by simp only [times, Int.toNat_natCast]; exact hgi, ?_⟩
    conv => whnf
    refine xcall (refCut_spec hfr hi (by omega)) ?_
    rintro _ m1 ⟨rfl, h2⟩
    conv => whnf
    obtain ⟨v1, hrm1⟩ := h2.rm
    have hel := List.length_eraseIdx_le L i
    have hat1 := refAt_spec (name := b) hrm1 (by omega)
    have hd := dropR_len (L.eraseIdx i) b
    have fin : ∀ {m1}, FR m1 bx q nb ns (dropR (L.eraseIdx i) b) → _ := fun {m1} h3 => ren_tailR (a := a) (x := L[i]) h3 (by omega) (fun r hr => hn r (by
      unfold dropR at hr
      split at hr
      · exact List.mem_of_mem_eraseIdx hr
      · exact List.mem_of_mem_eraseIdx (List.mem_of_mem_eraseIdx hr))) hb (R := fun r m' => ∃ e L', r = [i64 e] ∧ FR m' bx q nb ns L' ∧ (if nameOk (chs b) = false then e = 1 ∧ L' = L else e = 0 ∧ ∃ x, L[i]? = some x ∧ L' = putR (dropR (L.eraseIdx i) b) { x with name := b })) fun m' h4 => ⟨0, _, rfl, h4, by rw [if_neg (by simp [h1])]; exact ⟨rfl, _, List.getElem?_eq_getElem hi, rfl⟩⟩
    conv => whnf
    first | refine xretk (hat1) ?_ | refine xret (hat1) ?_
    conv => whnf
    cases hf1 : fileR (L.eraseIdx i) b with
    | none =>
      rw [atR_none hf1]
      have e2 : dropR (L.eraseIdx i) b = L.eraseIdx i := by rw [dropR, hf1]
      have tl := fin (m1 := m1) (by rw [e2]; exact h2)
      conv at tl => whnf
      refine ⟨fun h => absurd h (by first | decide | simp), fun _ => ?_⟩
      conv => whnf
      refine .via _ _ ?_ tl
      conv => whnf
      repeat (refine And.intro (by first | with_reducible rfl | exact congrArg (Value.int _) (wi (by omega) (by omega)) | exact wi (by omega) (by omega) | rfl) ?_; conv => whnf)
      first | exact trivial | exact fun _ _ h => h
    | some k =>
      obtain ⟨e3, hk⟩ := atR_some hf1
      rw [e3]
      have e2 : dropR (L.eraseIdx i) b = (L.eraseIdx i).eraseIdx k := by rw [dropR, hf1]
      refine ⟨fun _ => ?_, fun h => absurd (of_decide_eq_false h) (by omega)⟩
      conv => whnf
      refine xcall (refCut_spec h2 hk (by omega)) ?_
      rintro _ m2 ⟨rfl, h3⟩
      conv => whnf
      have tl := fin (m1 := m2) (by rw [e2]; exact h3)
      conv at tl => whnf
      refine .via _ _ ?_ tl
      conv => whnf
      repeat (refine And.intro (by first | with_reducible rfl | exact congrArg (Value.int _) (wi (by omega) (by omega)) | exact wi (by omega) (by omega) | rfl) ?_; conv => whnf)
      first | exact trivial | exact fun _ _ h => h
end Go.E.YtgjlajcebcmbaaaGreatDoor

/-
  The document's files: Crash (printed by genfr9.py).
-/
namespace Go.E.YtgjlajcebcmbaaaGreatDoor
open Go.Proofs
set_option maxRecDepth 100000
def lastR (r : Rf) (x : Int) : Nat := (min (max x 0) ((r.b.size : Int) - r.safe)).toNat
def crash1R (r : Rf) (x : Int) : Rf := ⟨r.name, r.b.extract 0 (r.safe + lastR r x), r.safe + lastR r x⟩
def crashToR (L : List Rf) (last : List Int) (i : Nat) : List Rf := L.mapIdx fun j r => if j < i then crash1R r (last.getD j 0) else r
theorem crashToR_len (L : List Rf) (last : List Int) (i : Nat) : (crashToR L last i).length = L.length := by simp [crashToR]
theorem crashToR_zero (L : List Rf) (last : List Int) : crashToR L last 0 = L := by
  refine List.ext_getElem (by simp [crashToR]) fun j h1 h2 => ?_
  simp [crashToR]
theorem crashToR_at {L : List Rf} {last : List Int} {i : Nat} (h : i < (crashToR L last i).length) : (crashToR L last i)[i] = L[i]'(by rw [crashToR_len] at h; exact h) := by simp [crashToR]
theorem crashToR_succ {L : List Rf} {last : List Int} {i : Nat} (h : i < L.length) : crashToR L last (i + 1) = (crashToR L last i).set i (crash1R L[i] (last.getD i 0)) := by
  refine List.ext_getElem (by simp [crashToR]) fun j h1 h2 => ?_
  simp only [crashToR, List.getElem_mapIdx, List.getElem_set]
  by_cases e : i = j
  · subst e; simp
  · rw [if_neg e]
    by_cases e2 : j < i
    · rw [if_pos (by omega), if_pos e2]
    · rw [if_neg (by omega), if_neg e2]
set_option maxHeartbeats 8000000 in
theorem refCrash_spec {p m mm : Mem} {bx : Nat} {q : Int} {nb ns : Nat} {L : List Rf} {vl : Value} {last : List Int} (h : FR p bx q nb ns L) (hs : Split mm [p, m]) (hl : L.length ≤ 100000) (hn : ∀ r ∈ L, r.b.size ≤ 1000000000 ∧ r.safe ≤ r.b.size) (hv : Ia m vl last) (hlast : last.length ≤ 9223372036854775807) (hI : ∀ x ∈ last, -9223372036854775808 ≤ x ∧ x ≤ 9223372036854775807) :
    Spec Tryz.prog 55 [ptrB bx, .v vl] mm fun r m' => ∃ p', r = [] ∧ Split m' [p', m] ∧ FR p' bx q nb ns (crashToR L last L.length) := by
  obtain ⟨a, c, rfl⟩ := hv.shape
  refine en55 rfl (goY ?_)
  conv => whnf
  refine .mk (ι := Nat) (fun i => L.length - i) (fun i mm => i ≤ L.length ∧ ∃ v pl, Split mm [blk1 bx (refO q v nb ns), pl, m] ∧ Ro pl v (crashToR L last i)) (fun i => [(0, .c (ptrB bx)), (1, .c (.v (.slice a last.length c))), (4, .c (i64 i))]) (fun _ => []) 0 ⟨by omega, ?_⟩ ?_ ?_
  · obtain ⟨v, pl, h1, h2⟩ := h
    exact ⟨v, pl, Split.flat (i := 0) hs rfl h1, by rw [crashToR_zero]; exact h2⟩
  · conv => whnf
    repeat (refine And.intro (by first | with_reducible rfl | exact congrArg (Value.int _) (wi (by omega) (by omega)) | exact wi (by omega) (by omega) | rfl) ?_; conv => whnf)
    first | exact trivial | exact fun _ _ h => h
  rintro i mm ⟨hi, v, pl, hs, hw⟩
  have hCl := crashToR_len L last i
  obtain ⟨ar, cr, rfl⟩ := rfOk.shape hw.el
  rw [hCl] at hw hs
  have ho : mm bx = some (refO q (.slice ar L.length cr) nb ns) := hs.sub (a := blk1 bx (refO q (.slice ar L.length cr) nb ns)) (by simp) _ _ (blk1_same ..)
  conv => whnf
  refine ⟨_, mcell_of ho rfl, rfl, ?_⟩
  conv => whnf
  refine ⟨fun h1 => ?_, fun h1 => ?_⟩
  rotate_left
  · have : i = L.length := by have := of_decide_eq_false h1; omega
    subst this
    conv => whnf
    exact ⟨joinM (blk1 bx (refO q (.slice ar L.length cr) nb ns)) pl, rfl, hs.pair, _, pl, ⟨by simp only [allM, joinM_emp]; exact Sub.refl _, hs.2.sublist (by simp)⟩, hw⟩
  have hi1 : i < L.length := by have := of_decide_eq_true h1; omega
  clear h1
  obtain ⟨b, o, c', e, hg⟩ := rfOk.real (i := i) hw.el (by rw [hCl]; exact hi1)
  injection e with e2 e3 e4
  subst e2 e4
  have hgi := hg i (by rw [hCl]; exact hi1)
  rw [crashToR_at] at hgi
  have hgi := hgi.sub (hs.sub (a := pl) (by simp))
  obtain ⟨hbs, hsf⟩ := hn _ (List.getElem_mem hi1)
  have hsucc := crashToR_succ (last := last) hi1
  have hx0 : -9223372036854775808 ≤ last.getD i 0 ∧ last.getD i 0 ≤ 9223372036854775807 := by
    rw [List.getD_eq_getElem?_getD]
    by_cases hil : i < last.length
    · rw [List.getElem?_eq_getElem hil]; exact hI _ (List.getElem_mem hil)
    · rw [List.getElem?_eq_none (by omega)]; decide
  have hlr : lastR L[i] (last.getD i 0) ≤ L[i].b.size - L[i].safe := by unfold lastR; omega
  have hwi : IntKind.i64.wrap ((L[i].b.size : Int) - (L[i].safe : Int)) = (L[i].b.size : Int) - (L[i].safe : Int) := wi (by omega) (by omega)
  have fin : ∀ (n : Nat), n = lastR L[i] (last.getD i 0) → ∃ arr, mm b = some (.cells arr 112 (0, 0)) ∧ o + i * 3 + 2 < arr.size ∧ ∃ pl', Split (mm.set b (.cells (arr.setIfInBounds (o + i * 3 + 2) (.int .i64 ((L[i].safe + n : Nat) : Int))) 112 (0, 0))) [blk1 bx (refO q (.slice (some ⟨b, o, none⟩) L.length cr) nb ns), pl', m] ∧ Ro pl' (.slice (some ⟨b, o, none⟩) L.length cr) ((crashToR L last i).set i { L[i] with safe := L[i].safe + n }) := fun n _ => by
    obtain ⟨arr, h1, h2, h3⟩ := rfOk.setCell (j := 2) (u := .int .i64 ((L[i].safe + n : Nat) : Int)) (x := { L[i] with safe := L[i].safe + n }) hw (by rw [hCl]; exact hi1) (by decide) (by rw [crashToR_at]; rfl)
    exact ⟨arr, hs.sub (a := pl) (by simp) _ _ h1, h2, _, hs.setAt (i := 1) rfl h1 _, h3⟩
  have fin2 : ∀ (n : Nat) (mx : Mem) (pl' : Mem), n = lastR L[i] (last.getD i 0) → Split mx [blk1 bx (refO q (.slice (some ⟨b, o, none⟩) L.length cr) nb ns), pl', m] → Ro pl' (.slice (some ⟨b, o, none⟩) L.length cr) ((crashToR L last i).set i { L[i] with safe := L[i].safe + n }) → MRange mx b (o + i * 3) (rfC { L[i] with safe := L[i].safe + n }) ∧ ∃ arr, mx b = some (.cells arr 112 (0, 0)) ∧ o + i * 3 + 1 < arr.size ∧ ∃ pl2, Split (mx.set b (.cells (arr.setIfInBounds (o + i * 3 + 1) (.string (L[i].b.extract 0 (L[i].safe + n)))) 112 (0, 0))) [blk1 bx (refO q (.slice (some ⟨b, o, none⟩) L.length cr) nb ns), pl2, m] ∧ Ro pl2 (.slice (some ⟨b, o, none⟩) L.length cr) (crashToR L last (i + 1)) := fun n mx pl' hn1 hs1 hw1 => by
    have hlen : i < ((crashToR L last i).set i { L[i] with safe := L[i].safe + n }).length := by rw [List.length_set, hCl]; exact hi1
    obtain ⟨b', o', c2, e, hg'⟩ := rfOk.real (i := i) hw1.el hlen
    injection e with e2
    injection e2 with e3
    injection e3 with e4 e5
    subst e4 e5
    have hgj := hg' i hlen
    rw [List.getElem_set_self] at hgj
    obtain ⟨arr, h1, h2, h3⟩ := rfOk.setCell (i := i) (j := 1) (u := .string (L[i].b.extract 0 (L[i].safe + n))) (x := ⟨L[i].name, L[i].b.extract 0 (L[i].safe + n), L[i].safe + n⟩) hw1 hlen (by decide) (by rw [List.getElem_set_self]; rfl)
    rw [List.set_set] at h3
    refine ⟨hgj.sub (hs1.sub (a := pl') (by simp)), arr, hs1.sub (a := pl') (by simp) _ _ h1, h2, _, hs1.setAt (i := 1) rfl h1 _, ?_⟩
    rw [hsucc, crash1R, ← hn1]; exact h3
  conv => whnf
  refine ⟨fun h2 => ?_, fun h2 => ?_⟩
  · have h2 := of_decide_eq_true h2
    have hil : i < last.length := by omega
    obtain ⟨bl, ol, cl, e, hgl⟩ := (hv.sub (hs.sub (a := m) (by simp))).real hil
    cases e
    have hgl := hgl i hil
    have hxd : last.getD i 0 = last[i] := by rw [List.getD_eq_getElem?_getD, List.getElem?_eq_getElem hil]; rfl
    rw [← hxd] at hgl
    conv => whnf
    repeat (refine And.intro (by first | omega | (simp only [times]; omega)) ?_; conv => whnf)
    refine ⟨_, by simp only [times, Int.toNat_natCast, Nat.mul_one]; exact hgl, rfl, ?_⟩
    conv => whnf
    refine ⟨fun h3 => ?_, fun h3 => ?_⟩
    · have h3 := of_decide_eq_true h3
      conv => whnf
      repeat (refine And.intro (by first | omega | (simp only [times]; omega)) ?_; conv => whnf)
      refine ⟨_, by simp only [times, Int.toNat_natCast, Nat.mul_one]; exact hgl, rfl, ?_⟩
      conv => whnf
      refine ⟨_, mcell_of ho rfl, rfl, ?_⟩
      conv => whnf
      repeat (refine And.intro (by first | omega | (simp only [times]; omega)) ?_; conv => whnf)
      refine ⟨_, by simp only [times, Int.toNat_natCast]; exact mcell_rng (j := 1) hgi rfl, rfl, ?_⟩
      conv => whnf
      refine ⟨_, mcell_of ho rfl, rfl, ?_⟩
      conv => whnf
      repeat (refine And.intro (by first | omega | (simp only [times]; omega)) ?_; conv => whnf)
      refine ⟨_, by simp only [times, Int.toNat_natCast]; exact mcell_rng (j := 2) hgi rfl, rfl, ?_⟩
      conv => whnf
      rw [hwi]
      refine ⟨fun h5 => ?_, fun h5 => ?_⟩
      · have h5 := of_decide_eq_true h5
        conv => whnf
        refine ⟨_, mcell_of ho rfl, rfl, ?_⟩
        conv => whnf
        repeat (refine And.intro (by first | omega | (simp only [times]; omega)) ?_; conv => whnf)
        refine ⟨_, by simp only [times, Int.toNat_natCast]; exact mcell_rng (j := 1) hgi rfl, rfl, ?_⟩
        conv => whnf
        refine ⟨_, mcell_of ho rfl, rfl, ?_⟩
        conv => whnf
        repeat (refine And.intro (by first | omega | (simp only [times]; omega)) ?_; conv => whnf)
        refine ⟨_, by simp only [times, Int.toNat_natCast]; exact mcell_rng (j := 2) hgi rfl, rfl, ?_⟩
        conv => whnf
        rw [hwi]
        conv => whnf
        have hnn : L[i].b.size - L[i].safe = lastR L[i] (last.getD i 0) := by unfold lastR; omega
        have ew : IntKind.i64.wrap ((L[i].safe : Int) + ((L[i].b.size : Int) - (L[i].safe : Int))) = ((L[i].safe + (L[i].b.size - L[i].safe) : Nat) : Int) := by rw [wi (by omega) (by omega)]; omega
        obtain ⟨arr, g1, g2, pl', g3, g4⟩ := fin _ hnn
        have ho1 := g3.sub (a := blk1 bx (refO q (.slice (some ⟨b, o, none⟩) L.length cr) nb ns)) (by simp) _ _ (blk1_same ..)
        obtain ⟨hgj, arr2, k1, k2, pl2, k3, k4⟩ := fin2 _ _ _ hnn g3 g4
        refine ⟨_, mcell_of ho rfl, rfl, ?_⟩
        conv => whnf
        refine ⟨_, mcell_of ho rfl, rfl, ?_⟩
        conv => whnf
        repeat (refine And.intro (by first | omega | (simp only [times]; omega)) ?_; conv => whnf)
        refine ⟨_, by simp only [times, Int.toNat_natCast]; exact mcell_rng (j := 2) hgi rfl, rfl, ?_⟩
        conv => whnf
        repeat (refine And.intro (by first | omega | (simp only [times]; omega)) ?_; conv => whnf)
        refine ⟨_, _, _, g1, ⟨by simp only [times, Int.toNat_natCast]; omega, by simp⟩, ?_⟩
        simp only [times, Int.toNat_natCast]
        rw [ew]
        conv => whnf
        refine ⟨_, mcell_of ho1 rfl, rfl, ?_⟩
        conv => whnf
        refine ⟨_, mcell_of ho1 rfl, rfl, ?_⟩
        conv => whnf
        repeat (refine And.intro (by first | omega | (simp only [times]; omega)) ?_; conv => whnf)
        refine ⟨_, by simp only [times, Int.toNat_natCast]; exact mcell_rng (j := 1) hgj rfl, rfl, ?_⟩
        conv => whnf
        refine ⟨_, mcell_of ho1 rfl, rfl, ?_⟩
        conv => whnf
        repeat (refine And.intro (by first | omega | (simp only [times]; omega)) ?_; conv => whnf)
        refine ⟨_, by simp only [times, Int.toNat_natCast]; exact mcell_rng (j := 2) hgj rfl, rfl, ?_⟩
        conv => whnf
        repeat (refine And.intro (by first | omega | (simp only [times]; omega)) ?_; conv => whnf)
        refine ⟨_, _, _, k1, ⟨by simp only [times, Int.toNat_natCast]; omega, by simp⟩, ?_⟩
        simp only [times, Int.toNat_natCast]
        conv => whnf
        refine ⟨i + 1, ⟨by omega, _, pl2, k3, k4⟩, by first | omega | (simp only; omega), ?_⟩
        conv => whnf
        repeat (refine And.intro (by first | with_reducible rfl | (first | exact congrArg (Value.int _) (iadd1 (by omega))) | exact congrArg (Value.int _) (wi (by omega) (by omega)) | exact wi (by omega) (by omega) | rfl) ?_; conv => whnf)
        first | exact trivial | exact fun _ _ h => h
      · have h5 := of_decide_eq_false h5
        conv => whnf
        have hnn : (last.getD i 0).toNat = lastR L[i] (last.getD i 0) := by unfold lastR; omega
        have ew : IntKind.i64.wrap ((L[i].safe : Int) + (last.getD i 0)) = ((L[i].safe + ((last.getD i 0).toNat) : Nat) : Int) := by rw [wi (by omega) (by omega)]; omega
        obtain ⟨arr, g1, g2, pl', g3, g4⟩ := fin _ hnn
        have ho1 := g3.sub (a := blk1 bx (refO q (.slice (some ⟨b, o, none⟩) L.length cr) nb ns)) (by simp) _ _ (blk1_same ..)
        obtain ⟨hgj, arr2, k1, k2, pl2, k3, k4⟩ := fin2 _ _ _ hnn g3 g4
        refine ⟨_, mcell_of ho rfl, rfl, ?_⟩
        conv => whnf
        refine ⟨_, mcell_of ho rfl, rfl, ?_⟩
        conv => whnf
        repeat (refine And.intro (by first | omega | (simp only [times]; omega)) ?_; conv => whnf)
        refine ⟨_, by simp only [times, Int.toNat_natCast]; exact mcell_rng (j := 2) hgi rfl, rfl, ?_⟩
        conv => whnf
        repeat (refine And.intro (by first | omega | (simp only [times]; omega)) ?_; conv => whnf)
        refine ⟨_, _, _, g1, ⟨by simp only [times, Int.toNat_natCast]; omega, by simp⟩, ?_⟩
        simp only [times, Int.toNat_natCast]
        rw [ew]
        conv => whnf
        refine ⟨_, mcell_of ho1 rfl, rfl, ?_⟩
        conv => whnf
        refine ⟨_, mcell_of ho1 rfl, rfl, ?_⟩
        conv => whnf
        repeat (refine And.intro (by first | omega | (simp only [times]; omega)) ?_; conv => whnf)
        refine ⟨_, by simp only [times, Int.toNat_natCast]; exact mcell_rng (j := 1) hgj rfl, rfl, ?_⟩
        conv => whnf
        refine ⟨_, mcell_of ho1 rfl, rfl, ?_⟩
        conv => whnf
        repeat (refine And.intro (by first | omega | (simp only [times]; omega)) ?_; conv => whnf)
        refine ⟨_, by simp only [times, Int.toNat_natCast]; exact mcell_rng (j := 2) hgj rfl, rfl, ?_⟩
        conv => whnf
        repeat (refine And.intro (by first | omega | (simp only [times]; omega)) ?_; conv => whnf)
        refine ⟨_, _, _, k1, ⟨by simp only [times, Int.toNat_natCast]; omega, by simp⟩, ?_⟩
        simp only [times, Int.toNat_natCast]
        conv => whnf
        refine ⟨i + 1, ⟨by omega, _, pl2, k3, k4⟩, by first | omega | (simp only; omega), ?_⟩
        conv => whnf
        repeat (refine And.intro (by first | with_reducible rfl | (first | exact congrArg (Value.int _) (iadd1 (by omega))) | exact congrArg (Value.int _) (wi (by omega) (by omega)) | exact wi (by omega) (by omega) | rfl) ?_; conv => whnf)
        first | exact trivial | exact fun _ _ h => h
    · have h3 := of_decide_eq_false h3
      conv => whnf
      refine ⟨_, mcell_of ho rfl, rfl, ?_⟩
      conv => whnf
      repeat (refine And.intro (by first | omega | (simp only [times]; omega)) ?_; conv => whnf)
      refine ⟨_, by simp only [times, Int.toNat_natCast]; exact mcell_rng (j := 1) hgi rfl, rfl, ?_⟩
      conv => whnf
      refine ⟨_, mcell_of ho rfl, rfl, ?_⟩
      conv => whnf
      repeat (refine And.intro (by first | omega | (simp only [times]; omega)) ?_; conv => whnf)
      refine ⟨_, by simp only [times, Int.toNat_natCast]; exact mcell_rng (j := 2) hgi rfl, rfl, ?_⟩
      conv => whnf
      rw [hwi]
      refine ⟨fun h5 => ?_, fun h5 => ?_⟩
      · have h5 := of_decide_eq_true h5
        conv => whnf
        refine ⟨_, mcell_of ho rfl, rfl, ?_⟩
        conv => whnf
        repeat (refine And.intro (by first | omega | (simp only [times]; omega)) ?_; conv => whnf)
        refine ⟨_, by simp only [times, Int.toNat_natCast]; exact mcell_rng (j := 1) hgi rfl, rfl, ?_⟩
        conv => whnf
        refine ⟨_, mcell_of ho rfl, rfl, ?_⟩
        conv => whnf
        repeat (refine And.intro (by first | omega | (simp only [times]; omega)) ?_; conv => whnf)
        refine ⟨_, by simp only [times, Int.toNat_natCast]; exact mcell_rng (j := 2) hgi rfl, rfl, ?_⟩
        conv => whnf
        rw [hwi]
        conv => whnf
        have hnn : L[i].b.size - L[i].safe = lastR L[i] (last.getD i 0) := by unfold lastR; omega
        have ew : IntKind.i64.wrap ((L[i].safe : Int) + ((L[i].b.size : Int) - (L[i].safe : Int))) = ((L[i].safe + (L[i].b.size - L[i].safe) : Nat) : Int) := by rw [wi (by omega) (by omega)]; omega
        obtain ⟨arr, g1, g2, pl', g3, g4⟩ := fin _ hnn
        have ho1 := g3.sub (a := blk1 bx (refO q (.slice (some ⟨b, o, none⟩) L.length cr) nb ns)) (by simp) _ _ (blk1_same ..)
        obtain ⟨hgj, arr2, k1, k2, pl2, k3, k4⟩ := fin2 _ _ _ hnn g3 g4
        refine ⟨_, mcell_of ho rfl, rfl, ?_⟩
        conv => whnf
        refine ⟨_, mcell_of ho rfl, rfl, ?_⟩
        conv => whnf
        repeat (refine And.intro (by first | omega | (simp only [times]; omega)) ?_; conv => whnf)
        refine ⟨_, by simp only [times, Int.toNat_natCast]; exact mcell_rng (j := 2) hgi rfl, rfl, ?_⟩
        conv => whnf
        repeat (refine And.intro (by first | omega | (simp only [times]; omega)) ?_; conv => whnf)
        refine ⟨_, _, _, g1, ⟨by simp only [times, Int.toNat_natCast]; omega, by simp⟩, ?_⟩
        simp only [times, Int.toNat_natCast]
        rw [ew]
        conv => whnf
        refine ⟨_, mcell_of ho1 rfl, rfl, ?_⟩
        conv => whnf
        refine ⟨_, mcell_of ho1 rfl, rfl, ?_⟩
        conv => whnf
        repeat (refine And.intro (by first | omega | (simp only [times]; omega)) ?_; conv => whnf)
        refine ⟨_, by simp only [times, Int.toNat_natCast]; exact mcell_rng (j := 1) hgj rfl, rfl, ?_⟩
        conv => whnf
        refine ⟨_, mcell_of ho1 rfl, rfl, ?_⟩
        conv => whnf
        repeat (refine And.intro (by first | omega | (simp only [times]; omega)) ?_; conv => whnf)
        refine ⟨_, by simp only [times, Int.toNat_natCast]; exact mcell_rng (j := 2) hgj rfl, rfl, ?_⟩
        conv => whnf
        repeat (refine And.intro (by first | omega | (simp only [times]; omega)) ?_; conv => whnf)
        refine ⟨_, _, _, k1, ⟨by simp only [times, Int.toNat_natCast]; omega, by simp⟩, ?_⟩
        simp only [times, Int.toNat_natCast]
        conv => whnf
        refine ⟨i + 1, ⟨by omega, _, pl2, k3, k4⟩, by first | omega | (simp only; omega), ?_⟩
        conv => whnf
        repeat (refine And.intro (by first | with_reducible rfl | (first | exact congrArg (Value.int _) (iadd1 (by omega))) | exact congrArg (Value.int _) (wi (by omega) (by omega)) | exact wi (by omega) (by omega) | rfl) ?_; conv => whnf)
        first | exact trivial | exact fun _ _ h => h
      · have h5 := of_decide_eq_false h5
        conv => whnf
        have hnn : 0 = lastR L[i] (last.getD i 0) := by unfold lastR; omega
        have ew : IntKind.i64.wrap ((L[i].safe : Int) + (0)) = ((L[i].safe + (0) : Nat) : Int) := by rw [wi (by omega) (by omega)]; omega
        obtain ⟨arr, g1, g2, pl', g3, g4⟩ := fin _ hnn
        have ho1 := g3.sub (a := blk1 bx (refO q (.slice (some ⟨b, o, none⟩) L.length cr) nb ns)) (by simp) _ _ (blk1_same ..)
        obtain ⟨hgj, arr2, k1, k2, pl2, k3, k4⟩ := fin2 _ _ _ hnn g3 g4
        refine ⟨_, mcell_of ho rfl, rfl, ?_⟩
        conv => whnf
        refine ⟨_, mcell_of ho rfl, rfl, ?_⟩
        conv => whnf
        repeat (refine And.intro (by first | omega | (simp only [times]; omega)) ?_; conv => whnf)
        refine ⟨_, by simp only [times, Int.toNat_natCast]; exact mcell_rng (j := 2) hgi rfl, rfl, ?_⟩
        conv => whnf
        repeat (refine And.intro (by first | omega | (simp only [times]; omega)) ?_; conv => whnf)
        refine ⟨_, _, _, g1, ⟨by simp only [times, Int.toNat_natCast]; omega, by simp⟩, ?_⟩
        simp only [times, Int.toNat_natCast]
        rw [ew]
        conv => whnf
        refine ⟨_, mcell_of ho1 rfl, rfl, ?_⟩
        conv => whnf
        refine ⟨_, mcell_of ho1 rfl, rfl, ?_⟩
        conv => whnf
        repeat (refine And.intro (by first | omega | (simp only [times]; omega)) ?_; conv => whnf)
        refine ⟨_, by simp only [times, Int.toNat_natCast]; exact mcell_rng (j := 1) hgj rfl, rfl, ?_⟩
        conv => whnf
        refine ⟨_, mcell_of ho1 rfl, rfl, ?_⟩
        conv => whnf
        repeat (refine And.intro (by first | omega | (simp only [times]; omega)) ?_; conv => whnf)
        refine ⟨_, by simp only [times, Int.toNat_natCast]; exact mcell_rng (j := 2) hgj rfl, rfl, ?_⟩
        conv => whnf
        repeat (refine And.intro (by first | omega | (simp only [times]; omega)) ?_; conv => whnf)
        refine ⟨_, _, _, k1, ⟨by simp only [times, Int.toNat_natCast]; omega, by simp⟩, ?_⟩
        simp only [times, Int.toNat_natCast]
        conv => whnf
        refine ⟨i + 1, ⟨by omega, _, pl2, k3, k4⟩, by first | omega | (simp only; omega), ?_⟩
        conv => whnf
        repeat (refine And.intro (by first | with_reducible rfl | (first | exact congrArg (Value.int _) (iadd1 (by omega))) | exact congrArg (Value.int _) (wi (by omega) (by omega)) | exact wi (by omega) (by omega) | rfl) ?_; conv => whnf)
        first | exact trivial | exact fun _ _ h => h
  · have h2 := of_decide_eq_false h2
    have hxd : last.getD i 0 = 0 := by rw [List.getD_eq_getElem?_getD, List.getElem?_eq_none (by omega)]; rfl
    have h3 : ¬ 0 < last.getD i 0 := by omega
    conv => whnf
    refine ⟨_, mcell_of ho rfl, rfl, ?_⟩
    conv => whnf
    repeat (refine And.intro (by first | omega | (simp only [times]; omega)) ?_; conv => whnf)
    refine ⟨_, by simp only [times, Int.toNat_natCast]; exact mcell_rng (j := 1) hgi rfl, rfl, ?_⟩
    conv => whnf
    refine ⟨_, mcell_of ho rfl, rfl, ?_⟩
    conv => whnf
    repeat (refine And.intro (by first | omega | (simp only [times]; omega)) ?_; conv => whnf)
    refine ⟨_, by simp only [times, Int.toNat_natCast]; exact mcell_rng (j := 2) hgi rfl, rfl, ?_⟩
    conv => whnf
    rw [hwi]
    refine ⟨fun h5 => ?_, fun h5 => ?_⟩
    · have h5 := of_decide_eq_true h5
      conv => whnf
      refine ⟨_, mcell_of ho rfl, rfl, ?_⟩
      conv => whnf
      repeat (refine And.intro (by first | omega | (simp only [times]; omega)) ?_; conv => whnf)
      refine ⟨_, by simp only [times, Int.toNat_natCast]; exact mcell_rng (j := 1) hgi rfl, rfl, ?_⟩
      conv => whnf
      refine ⟨_, mcell_of ho rfl, rfl, ?_⟩
      conv => whnf
      repeat (refine And.intro (by first | omega | (simp only [times]; omega)) ?_; conv => whnf)
      refine ⟨_, by simp only [times, Int.toNat_natCast]; exact mcell_rng (j := 2) hgi rfl, rfl, ?_⟩
      conv => whnf
      rw [hwi]
      conv => whnf
      have hnn : L[i].b.size - L[i].safe = lastR L[i] (last.getD i 0) := by unfold lastR; omega
      have ew : IntKind.i64.wrap ((L[i].safe : Int) + ((L[i].b.size : Int) - (L[i].safe : Int))) = ((L[i].safe + (L[i].b.size - L[i].safe) : Nat) : Int) := by rw [wi (by omega) (by omega)]; omega
      obtain ⟨arr, g1, g2, pl', g3, g4⟩ := fin _ hnn
      have ho1 := g3.sub (a := blk1 bx (refO q (.slice (some ⟨b, o, none⟩) L.length cr) nb ns)) (by simp) _ _ (blk1_same ..)
      obtain ⟨hgj, arr2, k1, k2, pl2, k3, k4⟩ := fin2 _ _ _ hnn g3 g4
      refine ⟨_, mcell_of ho rfl, rfl, ?_⟩
      conv => whnf
      refine ⟨_, mcell_of ho rfl, rfl, ?_⟩
      conv => whnf
      repeat (refine And.intro (by first | omega | (simp only [times]; omega)) ?_; conv => whnf)
      refine ⟨_, by simp only [times, Int.toNat_natCast]; exact mcell_rng (j := 2) hgi rfl, rfl, ?_⟩
      conv => whnf
      repeat (refine And.intro (by first | omega | (simp only [times]; omega)) ?_; conv => whnf)
      refine ⟨_, _, _, g1, ⟨by simp only [times, Int.toNat_natCast]; omega, by simp⟩, ?_⟩
      simp only [times, Int.toNat_natCast]
      rw [ew]
      conv => whnf
      refine ⟨_, mcell_of ho1 rfl, rfl, ?_⟩
      conv => whnf
      refine ⟨_, mcell_of ho1 rfl, rfl, ?_⟩
      conv => whnf
      repeat (refine And.intro (by first | omega | (simp only [times]; omega)) ?_; conv => whnf)
      refine ⟨_, by simp only [times, Int.toNat_natCast]; exact mcell_rng (j := 1) hgj rfl, rfl, ?_⟩
      conv => whnf
      refine ⟨_, mcell_of ho1 rfl, rfl, ?_⟩
      conv => whnf
      repeat (refine And.intro (by first | omega | (simp only [times]; omega)) ?_; conv => whnf)
      refine ⟨_, by simp only [times, Int.toNat_natCast]; exact mcell_rng (j := 2) hgj rfl, rfl, ?_⟩
      conv => whnf
      repeat (refine And.intro (by first | omega | (simp only [times]; omega)) ?_; conv => whnf)
      refine ⟨_, _, _, k1, ⟨by simp only [times, Int.toNat_natCast]; omega, by simp⟩, ?_⟩
      simp only [times, Int.toNat_natCast]
      conv => whnf
      refine ⟨i + 1, ⟨by omega, _, pl2, k3, k4⟩, by first | omega | (simp only; omega), ?_⟩
      conv => whnf
      repeat (refine And.intro (by first | with_reducible rfl | (first | exact congrArg (Value.int _) (iadd1 (by omega))) | exact congrArg (Value.int _) (wi (by omega) (by omega)) | exact wi (by omega) (by omega) | rfl) ?_; conv => whnf)
      first | exact trivial | exact fun _ _ h => h
    · have h5 := of_decide_eq_false h5
      conv => whnf
      have hnn : 0 = lastR L[i] (last.getD i 0) := by unfold lastR; omega
      have ew : IntKind.i64.wrap ((L[i].safe : Int) + (0)) = ((L[i].safe + (0) : Nat) : Int) := by rw [wi (by omega) (by omega)]; omega
      obtain ⟨arr, g1, g2, pl', g3, g4⟩ := fin _ hnn
      have ho1 := g3.sub (a := blk1 bx (refO q (.slice (some ⟨b, o, none⟩) L.length cr) nb ns)) (by simp) _ _ (blk1_same ..)
      obtain ⟨hgj, arr2, k1, k2, pl2, k3, k4⟩ := fin2 _ _ _ hnn g3 g4
      refine ⟨_, mcell_of ho rfl, rfl, ?_⟩
      conv => whnf
      refine ⟨_, mcell_of ho rfl, rfl, ?_⟩
      conv => whnf
      repeat (refine And.intro (by first | omega | (simp only [times]; omega)) ?_; conv => whnf)
      refine ⟨_, by simp only [times, Int.toNat_natCast]; exact mcell_rng (j := 2) hgi rfl, rfl, ?_⟩
      conv => whnf
      repeat (refine And.intro (by first | omega | (simp only [times]; omega)) ?_; conv => whnf)
      refine ⟨_, _, _, g1, ⟨by simp only [times, Int.toNat_natCast]; omega, by simp⟩, ?_⟩
      simp only [times, Int.toNat_natCast]
      rw [ew]
      conv => whnf
      refine ⟨_, mcell_of ho1 rfl, rfl, ?_⟩
      conv => whnf
      refine ⟨_, mcell_of ho1 rfl, rfl, ?_⟩
      conv => whnf
      repeat (refine And.intro (by first | omega | (simp only [times]; omega)) ?_; conv => whnf)
      refine ⟨_, by simp only [times, Int.toNat_natCast]; exact mcell_rng (j := 1) hgj rfl, rfl, ?_⟩
      conv => whnf
      refine ⟨_, mcell_of ho1 rfl, rfl, ?_⟩
      conv => whnf
      repeat (refine And.intro (by first | omega | (simp only [times]; omega)) ?_; conv => whnf)
      refine ⟨_, by simp only [times, Int.toNat_natCast]; exact mcell_rng (j := 2) hgj rfl, rfl, ?_⟩
      conv => whnf
      repeat (refine And.intro (by first | omega | (simp only [times]; omega)) ?_; conv => whnf)
      refine ⟨_, _, _, k1, ⟨by simp only [times, Int.toNat_natCast]; omega, by simp⟩, ?_⟩
      simp only [times, Int.toNat_natCast]
      conv => whnf
      refine ⟨i + 1, ⟨by omega, _, pl2, k3, k4⟩, by first | omega | (simp only; omega), ?_⟩
      conv => whnf
      repeat (refine And.intro (by first | with_reducible rfl | (first | exact congrArg (Value.int _) (iadd1 (by omega))) | exact congrArg (Value.int _) (wi (by omega) (by omega)) | exact wi (by omega) (by omega) | rfl) ?_; conv => whnf)
      first | exact trivial | exact fun _ _ h => h
end Go.E.YtgjlajcebcmbaaaGreatDoor

/-
  The document's files, and the given ones: what is the same of both.
-/
namespace Go.E.YtgjlajcebcmbaaaGreatDoor
open Go.Proofs
set_option maxRecDepth 100000
def afR (r : Rf) : Af := ⟨r.name, chs r.b, r.safe⟩
structure Lk (A : List Af) (L : List Rf) : Prop where
  p : A.Perm (L.map afR)
  s : L.Pairwise fun a b => encB a.name < encB b.name
  n : ∀ r ∈ L, r.name.size ≤ 1000000
theorem chs_len (s : ByteArray) : (chs s).length = s.size := by simp [chs]
theorem ltB_irr (a : List UInt8) : ¬ a < a := List.lt_irrefl a
theorem ltB_trans {a b c : List UInt8} (h : a < b) (k : b < c) : a < c := List.lt_trans h k
theorem ltB_tot {a b : List UInt8} (h : ¬ a < b) (hn : a ≠ b) : b < a := by
  rcases Decidable.em (b < a) with k | k
  · exact k
  · exact absurd (List.le_antisymm (List.not_lt.1 k) (List.not_lt.1 h)) hn
theorem Lk.nil : Lk [] [] := ⟨.refl _, by simp, by simp⟩
section
variable {A : List Af} {L : List Rf}
theorem Lk.nd (h : Lk A L) : L.Pairwise fun a b => a.name ≠ b.name := h.s.imp fun h e => by rw [e] at h; exact ltB_irr _ h
theorem Lk.ndA (h : Lk A L) : A.Pairwise fun a b => a.name ≠ b.name := by
  have h1 : (L.map afR).Pairwise fun a b => a.name ≠ b.name := by
    rw [List.pairwise_map]; exact h.nd
  exact h.p.symm.pairwise h1 fun h => Ne.symm h
theorem one_of {α : Type} {f : α → ByteArray} : ∀ {l : List α}, l.Pairwise (fun a b => f a ≠ f b) → ∀ {a b : α}, a ∈ l → b ∈ l → f a = f b → a = b
  | x :: l, h, a, b, ha, hb, e => by
    obtain ⟨h1, h2⟩ := List.pairwise_cons.1 h
    rcases List.mem_cons.1 ha with rfl | ha' <;> rcases List.mem_cons.1 hb with rfl | hb'
    · rfl
    · exact absurd e (h1 _ hb')
    · exact absurd e.symm (h1 _ ha')
    · exact one_of h2 ha' hb' e
theorem Lk.one (h : Lk A L) {a b : Rf} (ha : a ∈ L) (hb : b ∈ L) (e : a.name = b.name) : a = b := one_of h.nd ha hb e
theorem Lk.mem (h : Lk A L) {a : Af} : a ∈ A ↔ ∃ r ∈ L, afR r = a := by rw [h.p.mem_iff, List.mem_map]
theorem Lk.file (h : Lk A L) (name : ByteArray) : fileA A name = (fileR L name).bind fun i => L[i]?.map afR := by
  cases hf : fileR L name with
  | none =>
    have h1 := fileR_none.1 hf
    rw [fileA]
    simp only [Option.bind_none, List.find?_eq_none]
    intro a ha
    obtain ⟨r, hr, rfl⟩ := h.mem.1 ha
    have := h1 r hr
    exact fun e => this (of_decide_eq_true e).symm
  | some i =>
    obtain ⟨x, hx, hxn⟩ := fileR_get hf
    simp only [Option.bind_some, hx, Option.map_some]
    have hxL := List.mem_of_getElem? hx
    rw [fileA]
    cases e : A.find? fun a => decide (name = a.name) with
    | none =>
      have := List.find?_eq_none.1 e (afR x) (h.mem.2 ⟨x, hxL, rfl⟩)
      simp [afR, hxn] at this
    | some a =>
      have h1 := List.find?_some e
      have h2 := List.mem_of_find?_eq_some e
      obtain ⟨r, hr, rfl⟩ := h.mem.1 h2
      have h3 : name = r.name := of_decide_eq_true h1
      rw [h.one hr hxL (by rw [hxn, h3])]
theorem Lk.has (h : Lk A L) {name : ByteArray} {i : Nat} {x : Rf} (hf : fileR L name = some i) (hx : L[i]? = some x) : fileA A name = some (afR x) := by
  rw [h.file, hf]; simp [hx]
theorem Lk.hasNo (h : Lk A L) {name : ByteArray} (hf : fileR L name = none) : fileA A name = none := by
  rw [h.file, hf]; rfl
theorem Lk.err (h : Lk A L) (name : ByteArray) : errA A name = errR L name := by
  unfold errA errR
  cases hf : fileR L name with
  | none => rw [h.hasNo hf]; rfl
  | some i =>
    obtain ⟨x, hx, _⟩ := fileR_get hf
    rw [h.has hf hx]; rfl
theorem srtB_id {ss : List ByteArray} (h : ss.Pairwise fun a b => encB a < encB b) : srtB ss = ss := by
  have h1 : ((ss.map encB).mergeSort fun x y => decide (x ≤ y)) = ss.map encB := by
    refine List.mergeSort_of_pairwise ?_
    rw [List.pairwise_map]
    refine h.imp fun h => ?_
    simpa using List.le_of_lt h
  rw [srtB, h1, List.map_map]
  exact (List.map_congr_left fun s _ => rfl).trans (List.map_id ss)
theorem Lk.names (h : Lk A L) : srtB (A.map (·.name)) = L.map (·.name) := by
  have h1 : (A.map (·.name)).Perm (L.map (·.name)) := by
    have := h.p.map (·.name)
    rw [List.map_map] at this
    exact this
  rw [srtB_perm h1]
  exact srtB_id (by rw [List.pairwise_map]; exact h.s)
theorem Lk.len (h : Lk A L) : A.length = L.length := by rw [h.p.length_eq, List.length_map]
theorem Lk.tot (h : Lk A L) : totA A = usedR L := by
  have h1 : totA A = totA (L.map afR) := (h.p.map _).sum_nat
  rw [h1, totA, usedR, List.map_map]
  congr 1
  exact List.map_congr_left fun r _ => chs_len r.b
theorem set_map {name : ByteArray} {i : Nat} {y : Rf} (h : Lk A L) (hf : fileR L name = some i) : L.set i y = L.map fun r => if r.name = name then y else r := by
  obtain ⟨x, hx, hxn⟩ := fileR_get hf
  obtain ⟨hi, hx⟩ := List.getElem?_eq_some_iff.1 hx
  refine List.ext_getElem (by simp) fun j h1 h2 => ?_
  rw [List.getElem_set, List.getElem_map]
  by_cases e : i = j
  · subst e
    rw [if_pos rfl, if_pos (by rw [hx]; exact hxn)]
  · rw [if_neg e, if_neg]
    intro e2
    have hj : j < L.length := by simpa using h2
    have := List.pairwise_iff_getElem.1 h.nd
    rcases Nat.lt_or_gt_of_ne e with h3 | h3
    · exact this i j hi hj h3 (by rw [hx, hxn, e2])
    · exact this j i hj hi h3 (by rw [hx, hxn, e2])
/-- what is done to one file -/
theorem Lk.upd (h : Lk A L) {name : ByteArray} {i : Nat} {x y : Rf} (hf : fileR L name = some i) (hx : L[i]? = some x) (hn : y.name = x.name) {g : Af → Af} (hg : g (afR x) = afR y) (hg' : ∀ a : Af, a.name ≠ name → g a = a) : Lk (A.map g) (L.set i y) := by
  obtain ⟨x', hx', hxn⟩ := fileR_get hf
  rw [hx] at hx'
  cases hx'
  rw [set_map h hf]
  have hxL := List.mem_of_getElem? hx
  refine ⟨?_, ?_, fun r hr => ?_⟩
  · have := h.p.map g
    rw [List.map_map] at this ⊢
    refine this.trans (.of_eq (List.map_congr_left fun r hr => ?_))
    simp only [Function.comp]
    by_cases e : r.name = name
    · rw [if_pos e, h.one hr hxL (by rw [e, hxn]), hg]
    · rw [if_neg e, hg' _ (by exact e)]
  · rw [List.pairwise_map]
    have key : ∀ r : Rf, (if r.name = name then y else r).name = r.name := fun r => by
      by_cases e : r.name = name
      · rw [if_pos e, hn, hxn, e]
      · rw [if_neg e]
    exact h.s.imp fun hlt => by rw [key, key]; exact hlt
  · obtain ⟨r', hr', rfl⟩ := List.mem_map.1 hr
    split
    · rw [hn]; exact h.n _ hxL
    · exact h.n _ hr'
theorem Lk.sync (h : Lk A L) {name : ByteArray} {e : Int} {L' : List Rf} {ns ns' : Nat} (hr : SyncR L name ns e L' ns') : e = errA A name ∧ Lk (syncA A name) L' ∧ ns' = if (fileA A name).isSome then ns + 1 else ns := by
  unfold SyncR at hr
  cases hf : fileR L name with
  | none =>
    rw [hf] at hr
    obtain ⟨rfl, rfl, rfl⟩ := hr
    have hn := h.hasNo hf
    refine ⟨by rw [errA, hn]; rfl, ?_, by rw [hn]; rfl⟩
    have : syncA A name = A := by
      refine (List.map_congr_left fun a ha => ?_).trans (List.map_id A)
      have := List.find?_eq_none.1 hn a ha
      exact if_neg fun e => by simp [e] at this
    rw [this]; exact h
  | some i =>
    rw [hf] at hr
    obtain ⟨rfl, rfl, x, hx, rfl⟩ := hr
    have hs := h.has hf hx
    obtain ⟨x', hx', hxn⟩ := fileR_get hf
    rw [hx] at hx'
    cases hx'
    refine ⟨by rw [errA, hs]; rfl, ?_, by rw [hs]; rfl⟩
    refine h.upd (y := { x with safe := x.b.size }) hf hx rfl ?_ fun a ha => if_neg ha
    rw [if_pos (show (afR x).name = name from hxn)]
    simp only [afR, chs_len]
end
end Go.E.YtgjlajcebcmbaaaGreatDoor

/-
  The numbers of snapshots rise; those of some files.
-/
namespace Go.E.Sn
theorem dg_lt {a b : Nat} (ha : a < 10) (hb : b < 10) (h : a < b) : dg a < dg b := by
  have : (dg a).toNat < (dg b).toNat := by rw [dg_nat, dg_nat]; omega
  exact this
theorem dgs_mod : ∀ (k n : Nat), dgs k n = dgs k (n % 10 ^ k)
  | 0, n => rfl
  | k + 1, n => by
    rw [dgs, dgs, dgs_mod k (n / 10), dgs_mod k (n % 10 ^ (k + 1) / 10)]
    have h1 : n % 10 ^ (k + 1) / 10 = n / 10 % 10 ^ k := by
      rw [show 10 ^ (k + 1) = 10 * 10 ^ k by rw [Nat.pow_succ]; omega, Nat.mod_mul_right_div_self]
    have h2 : n % 10 ^ (k + 1) % 10 = n % 10 := Nat.mod_mod_of_dvd _ ⟨10 ^ k, by rw [Nat.pow_succ]; omega⟩
    rw [h1, Nat.mod_mod]
    congr 2
    simp only [dg, h2]
theorem dgs_lt : ∀ {k a b : Nat}, a < b → b < 10 ^ k → dgs k a < dgs k b
  | 0, a, b, h, hb => by simp at hb; omega
  | k + 1, a, b, h, hb => by
    have hp : 0 < 10 ^ k := Nat.pow_pos (by decide)
    rw [dgs_cons, dgs_cons]
    have h1 : b / 10 ^ k < 10 := Nat.div_lt_of_lt_mul (by rw [Nat.pow_succ] at hb; omega)
    have h2 : a / 10 ^ k ≤ b / 10 ^ k := Nat.div_le_div_right (Nat.le_of_lt h)
    rcases Nat.lt_or_ge (a / 10 ^ k) (b / 10 ^ k) with h3 | h3
    · exact List.Lex.rel (dg_lt (by omega) h1 h3)
    · have h4 : a / 10 ^ k = b / 10 ^ k := by omega
      rw [h4]
      refine List.Lex.cons ?_
      rw [dgs_mod k a, dgs_mod k b]
      refine dgs_lt ?_ (Nat.mod_lt _ hp)
      have e1 := Nat.div_add_mod a (10 ^ k)
      have e2 := Nat.div_add_mod b (10 ^ k)
      rw [h4] at e1
      omega
theorem pre_lt {x y : List UInt8} (h : x < y) : pre ++ x < pre ++ y := List.Lex.cons (List.Lex.cons (List.Lex.cons (List.Lex.cons (List.Lex.cons h))))
end Go.E.Sn
namespace Go.E.YtgjlajcebcmbaaaGreatDoor
open Go.Proofs
set_option maxRecDepth 100000
theorem nm_lt {a b : Nat} (h : a < b) (hb : b ≤ 999999) : encB (Sn.nm a) < encB (Sn.nm b) := by
  have e : ∀ n, encB (Sn.nm n) = Sn.pre ++ Sn.dgs 6 n := fun n => by simp [encB, Sn.nm]
  rw [e, e]
  exact Sn.pre_lt (Sn.dgs_lt h (by omega))
theorem srtB_sorted (ss : List ByteArray) : (srtB ss).Pairwise fun a b => encB a ≤ encB b := by
  have h := List.pairwise_mergeSort leU_trans leU_total (ss.map encB)
  unfold srtB
  rw [List.pairwise_map]
  refine h.imp fun {a b} h => ?_
  have e : ∀ l : List UInt8, encB ⟨l.toArray⟩ = l := fun l => by simp [encB]
  rw [e, e]
  exact of_decide_eq_true h
theorem numsA_sorted (A : List Af) : (numsA A).Pairwise (· ≤ ·) := by
  unfold numsA numsN
  rw [List.pairwise_filterMap]
  refine (srtB_sorted _).imp fun {s t} h x hx y hy => ?_
  obtain ⟨h1, h2, h3⟩ := numOf_some hx
  obtain ⟨k1, k2, k3⟩ := numOf_some hy
  subst h3 k3
  refine Nat.le_of_not_lt fun hlt => ?_
  have := nm_lt hlt h2
  exact h this
theorem numsA_perm (A : List Af) : (numsA A).Perm (numsN (A.map (·.name))) := (srtB_same _).filterMap _
theorem numsA_eq {A : List Af} {l : List Nat} (hs : l.Pairwise (· ≤ ·)) (hp : l.Perm (numsN (A.map (·.name)))) : numsA A = l :=
  List.Perm.eq_of_pairwise (le := (· ≤ ·)) (fun a b _ _ h1 h2 => by omega) (numsA_sorted A) hs ((numsA_perm A).trans hp.symm)
theorem mem_numsA {A : List Af} {n : Nat} : n ∈ numsA A ↔ 1 ≤ n ∧ n ≤ 999999 ∧ ∃ a ∈ A, a.name = Sn.nm n := by
  rw [(numsA_perm A).mem_iff, numsN, List.mem_filterMap]
  constructor
  · rintro ⟨s, hs, e⟩
    obtain ⟨a, ha, rfl⟩ := List.mem_map.1 hs
    obtain ⟨h1, h2, h3⟩ := numOf_some e
    exact ⟨h1, h2, a, ha, h3.symm⟩
  · rintro ⟨h1, h2, a, ha, e⟩
    exact ⟨Sn.nm n, by rw [← e]; exact List.mem_map.2 ⟨a, ha, rfl⟩, numOf_nm h1 h2⟩
theorem numOf_size {s : ByteArray} (h : s.size ≠ 11) : numOf s = none := numOf_none fun n _ _ e => h (by rw [← e, Sn.nm, mkB_size, List.length_append, Sn.dgs_len]; rfl)
end Go.E.YtgjlajcebcmbaaaGreatDoor

/-
  The place of the first number of which something is true; a function value with one captured place.
-/
namespace Go.E.YtgjlajcebcmbaaaGreatDoor
open Go.Proofs
set_option maxRecDepth 100000
abbrev fn1V (F b : Nat) : CV := .v (.func (.func F) #[] #[.pointer (some ⟨b, 0, none⟩)])
def idxI (p : Int → Bool) (l : List Int) : Int := if l.any p then (l.findIdx p : Nat) else -1
theorem idxI_at {p : Int → Bool} {l : List Int} {i : Nat} (hi : i < l.length) (hall : ∀ x ∈ l.take i, p x = false) (h : p l[i] = true) : idxI p l = i := by
  unfold idxI
  rw [if_pos (List.any_eq_true.2 ⟨_, List.getElem_mem hi, h⟩)]
  congr 1
  refine (List.findIdx_eq hi).2 ⟨h, fun j hj => hall _ ?_⟩
  exact List.mem_take_iff_getElem.2 ⟨j, by omega, rfl⟩
theorem idxI_none {p : Int → Bool} {l : List Int} (hall : ∀ x ∈ l, p x = false) : idxI p l = -1 := by
  unfold idxI
  rw [if_neg]
  intro h
  obtain ⟨x, hx, h⟩ := List.any_eq_true.1 h
  rw [hall x hx] at h; cases h
theorem idxI_nonneg (p : Int → Bool) (l : List Int) : decide (0 ≤ idxI p l) = l.any p := by
  unfold idxI
  split
  · rename_i h; rw [h]; exact decide_eq_true (by omega)
  · rename_i h
    have : l.any p = false := by simpa using h
    rw [this]; exact decide_eq_false (by omega)
theorem indexI_spec {m : Mem} {v : Value} {l : List Int} {F b : Nat} {p : Int → Bool} (hv : Ia m v l) (hF : ∀ x, Ret Tryz.prog F [i64 x, ptrV b] m [boolV (p x)]) (hl : l.length ≤ 100000000) : Ret Tryz.prog 75 [.v v, fn1V F b] m [i64 (idxI p l)] := by
  obtain ⟨a, c, rfl⟩ := hv.shape
  refine en75 rfl (goY ?_)
  conv => whnf
  refine .mk (ι := Nat) (fun i => l.length - i) (fun i mm => i ≤ l.length ∧ (∀ x ∈ l.take i, p x = false) ∧ mm = m) (fun i => [(0, .c (.v (.slice a l.length c))), (1, .c (fn1V F b)), (7, .c (i64 l.length)), (8, .c (i64 i))]) (fun _ => []) 0 ⟨by omega, by simp, rfl⟩ ?_ ?_
  · conv => whnf
    repeat (refine And.intro (by first | with_reducible rfl | exact congrArg (Value.int _) (wi (by omega) (by omega)) | exact wi (by omega) (by omega) | rfl) ?_; conv => whnf)
    first | exact trivial | exact fun _ _ h => h
  rintro i mm ⟨hi, hall, he⟩
  subst mm
  conv => whnf
  refine ⟨fun h => ?_, fun h => ?_⟩
  · have h' := of_decide_eq_true h
    have hlt : i < l.length := by omega
    obtain ⟨bl, ol, c', hh, hg⟩ := hv.real hlt
    injection hh with hh1 _ hh3
    subst hh1
    clear hh3 c'
    have hg := hg i hlt
    conv => whnf
    repeat (refine And.intro (by first | omega | (simp only [times]; omega)) ?_; conv => whnf)
    refine ⟨_, hg, rfl, ?_⟩
    conv => whnf
    first | refine xretk ((hF l[i])) ?_ | refine xret ((hF l[i])) ?_
    conv => whnf
    have hst : l.take (i + 1) = l.take i ++ [l[i]] := List.take_succ_eq_append_getElem hlt
    refine ⟨fun h => ?_, fun h => ?_⟩
    · conv => whnf
      exact ⟨by rw [idxI_at hlt hall h], rfl⟩
    · conv => whnf
      refine ⟨i + 1, ⟨by omega, fun x hx => ?_, rfl⟩, by omega, ?_⟩
      · rw [hst] at hx
        rcases List.mem_append.1 hx with hx | hx
        · exact hall x hx
        · rw [List.mem_singleton.1 hx]; exact h
      · conv => whnf
        repeat (refine And.intro (by first | with_reducible rfl | (first | exact congrArg (Value.int _) (iadd1 (by omega))) | exact congrArg (Value.int _) (wi (by omega) (by omega)) | exact wi (by omega) (by omega) | rfl) ?_; conv => whnf)
        first | exact trivial | exact fun _ _ h => h
  · have h' := of_decide_eq_false h
    obtain rfl : i = l.length := by omega
    rw [List.take_length] at hall
    conv => whnf
    exact ⟨by rw [idxI_none hall], rfl⟩
theorem containsI_spec {m : Mem} {v : Value} {l : List Int} {F b : Nat} {p : Int → Bool} (hv : Ia m v l) (hF : ∀ x, Ret Tryz.prog F [i64 x, ptrV b] m [boolV (p x)]) (hl : l.length ≤ 100000000) : Ret Tryz.prog 39 [.v v, fn1V F b] m [boolV (l.any p)] := by
  obtain ⟨a, c, rfl⟩ := hv.shape
  refine en39 rfl (goY ?_)
  conv => whnf
  first | refine xretk (indexI_spec hv hF hl) ?_ | refine xret (indexI_spec hv hF hl) ?_
  conv => whnf
  exact ⟨by rw [idxI_nonneg], rfl⟩
end Go.E.YtgjlajcebcmbaaaGreatDoor

/-
  A log: records put behind, synced; what it tells.
-/
namespace Go.E.YtgjlajcebcmbaaaGreatDoor
open Go.Proofs
set_option maxRecDepth 100000
section
variable {m mm p : Mem} {bl bf nb ns all sure : Nat} {name : ByteArray}
theorem wr_len {l : List Int} (h : l.length ≤ 1000000000) : (Fr.wr l).length ≤ l.length + 13 := by
  have h1 := numB_len (l.length : Int)
  simp only [Fr.wr, Fr.four, List.length_append, List.length_cons, List.length_nil]
  omega
end
end Go.E.YtgjlajcebcmbaaaGreatDoor

/-
  A save of a snapshot begins.
-/
namespace Go.E.YtgjlajcebcmbaaaGreatDoor
open Go.Proofs
set_option maxRecDepth 100000
abbrev saveO (bf : Nat) (n : Int) (v : Value) (st : Nat) : Obj := .cells #[.pointer (some ⟨bf, 0, none⟩), .int .i64 n, v, .int .i64 (st : Int)] 61
theorem later_spec {m : Mem} {b : Nat} {x n : Int} (h : mcell m b 0 = some (.int .i64 n)) : Ret Tryz.prog 38 [i64 x, ptrV b] m [boolV (decide (n ≤ x))] := by
  refine en38 rfl (goY ?_)
  conv => whnf
  refine ⟨_, h, rfl, ?_⟩
  conv => whnf
  exact ⟨rfl, rfl⟩
/-- may a save of a number begin? -/
noncomputable def mayN (A : List Af) (n : Int) : Bool := isNum n && !(numsA A).any fun k => decide (n ≤ (k : Int))
def allRec (ps : List (List Int)) : Bool := ps.all fun r => Fr.isRec r.length
theorem allRec_snoc (l : List (List Int)) (r : List Int) : allRec (l ++ [r]) = (allRec l && Fr.isRec r.length) := by simp [allRec]
theorem allRec_cat : ∀ {l : List (List Int)}, allRec l = true → (Fr.cat l).length ≤ 20013 * l.length
  | [], _ => by simp [Fr.cat]
  | r :: l, h => by
    have h1 : Fr.isRec r.length = true ∧ allRec l = true := by simpa [allRec] using h
    have h2 : 1 ≤ r.length ∧ r.length ≤ 20000 := by simpa [Fr.isRec] using h1.1
    have h3 := wr_len (l := r) (by omega)
    have h4 := allRec_cat h1.2
    have e : (Fr.cat (r :: l)).length = (Fr.wr r).length + (Fr.cat l).length := by simp [Fr.cat]
    rw [e, List.length_cons, Nat.mul_succ]
    omega
set_option maxHeartbeats 4000000 in
theorem begin_bad {m : Mem} {bf nb ns k : Nat} {q n : Int} {A : List Af} {v : Value} (hg : Glob m) (h : FA m bf q nb ns A) (hk : Sm k A nb ns) (hn : NmS A) (hm : mayN A n = false) : Spec Tryz.prog 16 [ptrB bf, i64 n, .v v] m fun r m' => r = [nilP, i64 1] ∧ Sub m m' := by
  refine en16 rfl (goY ?_)
  conv => whnf
  intro b hb
  conv => whnf
  have hs := Mem.sub_set (.cells #[.int .i64 n] 3) hb
  refine .mk _ (makeFunc_spec (cs := [.pointer (some ⟨b, 0, none⟩)]) (by simp [Value.oneCell'])) ?_
  rintro _ _ ⟨rfl, rfl⟩
  conv => whnf
  refine xcall (madeS_spec (h.grow hs) hk) ?_
  rintro _ m0 ⟨rfl, hs0⟩
  conv => whnf
  refine ⟨fun h => absurd h (by first | decide | simp), fun _ => ?_⟩
  conv => whnf
  have hb0 : mcell m0 b 0 = some (.int .i64 n) := mcell_sub (mcell_of (Mem.set_same ..) rfl) hs0
  refine ⟨_, hb0, rfl, ?_⟩
  conv => whnf
  first | refine xretk (isNumber_spec) ?_ | refine xret (isNumber_spec) ?_
  conv => whnf
  cases hi : isNum n with
  | false =>
    refine ⟨fun _ => ?_, fun h => absurd h (by first | decide | simp)⟩
    conv => whnf
    exact ⟨rfl, hs.trans hs0⟩
  | true =>
    refine ⟨fun h => absurd h (by first | decide | simp), fun _ => ?_⟩
    conv => whnf
    refine xcall (numbers_A (hg.sub (hs.trans hs0)) (h.grow (hs.trans hs0)) hk hn) ?_
    rintro _ m1 ⟨v1, p, rfl, hs1, hv1⟩
    conv => whnf
    have hl := numsA_len A
    have hkn := hk.n
    have hkk := hk.k
    have hb1 : mcell m1 b 0 = some (.int .i64 n) := mcell_sub hb0 (hs1.sub (a := m0) (by simp))
    have hany : (nc (numsA A)).any (fun x => decide (n ≤ x)) = true := by
      rw [mayN, hi, Bool.true_and] at hm
      rw [nc, List.any_map]
      simpa using hm
    first | refine xretk (containsI_spec (p := fun x => decide (n ≤ x)) (hv1.il.ia.sub (hs1.sub (a := p) (by simp))) (fun x => later_spec hb1) (by rw [nc_len]; omega)) ?_ | refine xret (containsI_spec (p := fun x => decide (n ≤ x)) (hv1.il.ia.sub (hs1.sub (a := p) (by simp))) (fun x => later_spec hb1) (by rw [nc_len]; omega)) ?_
    conv => whnf
    rw [hany]
    refine ⟨fun _ => ?_, fun h => absurd h (by first | decide | simp)⟩
    conv => whnf
    exact ⟨rfl, (hs.trans hs0).trans (hs1.sub (a := m0) (by simp))⟩
theorem begin_nil {m : Mem} {n : Int} {v : Value} : Spec Tryz.prog 16 [.v (.pointer none), i64 n, .v v] m fun r m' => r = [nilP, i64 6] ∧ Sub m m' := by
  refine en16 rfl (goY ?_)
  conv => whnf
  intro b hb
  conv => whnf
  refine .mk _ (makeFunc_spec (cs := [.pointer (some ⟨b, 0, none⟩)]) (by simp [Value.oneCell'])) ?_
  rintro _ _ ⟨rfl, rfl⟩
  conv => whnf
  first | refine xretk (madeS_nil) ?_ | refine xret (madeS_nil) ?_
  conv => whnf
  refine ⟨fun _ => ?_, fun h => absurd h (by first | decide | simp)⟩
  conv => whnf
  exact ⟨rfl, Mem.sub_set _ hb⟩
set_option maxHeartbeats 4000000 in
theorem begin_ok {m : Mem} {bf nb ns k : Nat} {q n : Int} {A : List Af} {v : Value} {ps : List (Value × List Int)} (hg : Glob m) (h : FA m bf q nb ns A) (hk : Sm k A nb ns) (hn : NmS A) (hm : mayN A n = true) (hv : LsA m v ps) (hbt : ∀ r ∈ ps, Byt r.2) (hlen : ps.length ≤ 50) (hsz : ∀ r ∈ ps, r.2.length ≤ 1000000) : Spec Tryz.prog 16 [ptrB bf, i64 n, .v v] m fun r m' =>
    if allRec (ps.map (·.2)) then ∃ bs v' pv, r = [ptrB bs, i64 0] ∧ Split m' [blk1 bs (saveO bf n v' 1), pv, m] ∧ Bs pv v' (Fr.cat (ps.map (·.2))) else r = [nilP, i64 3] ∧ Sub m m' := by
  obtain ⟨hi, hany⟩ : isNum n = true ∧ (nc (numsA A)).any (fun x => decide (n ≤ x)) = false := by
    rw [mayN, Bool.and_eq_true] at hm
    refine ⟨hm.1, ?_⟩
    have := hm.2
    rw [nc, List.any_map]
    simpa using this
  refine en16 rfl (goY ?_)
  conv => whnf
  intro b hb
  conv => whnf
  have hs := Mem.sub_set (.cells #[.int .i64 n] 3) hb
  refine .mk _ (makeFunc_spec (cs := [.pointer (some ⟨b, 0, none⟩)]) (by simp [Value.oneCell'])) ?_
  rintro _ _ ⟨rfl, rfl⟩
  conv => whnf
  refine xcall (madeS_spec (h.grow hs) hk) ?_
  rintro _ m0 ⟨rfl, hs0⟩
  conv => whnf
  refine ⟨fun h => absurd h (by first | decide | simp), fun _ => ?_⟩
  conv => whnf
  have hb0 : mcell m0 b 0 = some (.int .i64 n) := mcell_sub (mcell_of (Mem.set_same ..) rfl) hs0
  refine ⟨_, hb0, rfl, ?_⟩
  conv => whnf
  first | refine xretk (isNumber_spec) ?_ | refine xret (isNumber_spec) ?_
  conv => whnf
  rw [hi]
  refine ⟨fun h => absurd h (by first | decide | simp), fun _ => ?_⟩
  conv => whnf
  refine xcall (numbers_A (hg.sub (hs.trans hs0)) (h.grow (hs.trans hs0)) hk hn) ?_
  rintro _ m1 ⟨v1, p, rfl, hs1, hv1⟩
  conv => whnf
  have hl := numsA_len A
  have hkn := hk.n
  have hkk := hk.k
  have hb1 : mcell m1 b 0 = some (.int .i64 n) := mcell_sub hb0 (hs1.sub (a := m0) (by simp))
  first | refine xretk (containsI_spec (p := fun x => decide (n ≤ x)) (hv1.il.ia.sub (hs1.sub (a := p) (by simp))) (fun x => later_spec hb1) (by rw [nc_len]; omega)) ?_ | refine xret (containsI_spec (p := fun x => decide (n ≤ x)) (hv1.il.ia.sub (hs1.sub (a := p) (by simp))) (fun x => later_spec hb1) (by rw [nc_len]; omega)) ?_
  conv => whnf
  rw [hany]
  refine ⟨fun h => absurd h (by first | decide | simp), fun _ => ?_⟩
  conv => whnf
  refine ⟨_, hb1, rfl, ?_⟩
  conv => whnf
  intro bs hbs
  conv => whnf
  have hm1 : Sub m m1 := (hs.trans hs0).trans (hs1.sub (a := m0) (by simp))
  have hsb : Split (m1.set bs (saveO bf n (.slice none 0 0) 1)) [blk1 bs (saveO bf n (.slice none 0 0) 1), emp, m] := ((Split.one m).grow hm1 |>.addEmp).new hbs _
  obtain ⟨a, c, rfl⟩ := hv.shape
  conv => whnf
  refine .mk (ι := Nat × Value) (fun i => ps.length - i.1) (fun ⟨i, y⟩ mm => i ≤ ps.length ∧ allRec ((ps.take i).map (·.2)) = true ∧ ∃ p', Split mm [blk1 bs (saveO bf n y 1), p', m] ∧ Bs p' y (Fr.cat ((ps.take i).map (·.2)))) (fun ⟨i, y⟩ => [(9, .c (ptrB bs)), (33, .c (.v (.slice a ps.length c))), (34, .c (i64 ps.length)), (35, .c (i64 i))]) (fun _ => []) (0, .slice none 0 0) ⟨by simp, rfl, emp, hsb, Bs.nil _⟩ ?_ ?_
  · conv => whnf
    repeat (refine And.intro (by first | with_reducible rfl | exact congrArg (Value.int _) (wi (by omega) (by omega)) | exact wi (by omega) (by omega) | rfl) ?_; conv => whnf)
    first | exact trivial | exact fun _ _ h => h
  rintro ⟨i, y⟩ mm ⟨hi, hall, p', hs', hy⟩
  conv => whnf
  refine ⟨fun h => ?_, fun h => ?_⟩
  · have hlt : i < ps.length := by have := of_decide_eq_true h; omega
    clear h
    obtain ⟨bl, ol, cl, e1, hel⟩ := hv.real hlt
    injection e1 with e1 e2 e3
    subst e1
    have hel := hel i hlt
    have hla := hv.la _ (List.getElem_mem hlt)
    have hby := hbt _ (List.getElem_mem hlt)
    have hz := hsz _ (List.getElem_mem hlt)
    have htk : (ps.take (i + 1)).map (·.2) = (ps.take i).map (·.2) ++ [ps[i].2] := by rw [List.take_succ_eq_append_getElem hlt, List.map_append]; rfl
    have hmm : Sub m mm := hs'.sub (a := m) (by simp)
    have hbs1 : mm bs = some (saveO bf n y 1) := hs'.sub (a := blk1 bs (saveO bf n y 1)) (by simp) _ _ (blk1_same ..)
    have hcl := allRec_cat hall
    rw [List.length_map, List.length_take, Nat.min_eq_left hi] at hcl
    have hcl2 : 20013 * i ≤ 20013 * 50 := Nat.mul_le_mul_left _ (by omega)
    conv => whnf
    repeat (refine And.intro (by first | omega | (simp only [times]; omega)) ?_; conv => whnf)
    refine ⟨_, mcell_sub hel hmm, hla.one, ?_⟩
    conv => whnf
    cases hr : Fr.isRec ps[i].2.length with
    | false =>
      first | refine xretk (write_bad (hla.sub hmm) hr) ?_ | refine xret (write_bad (hla.sub hmm) hr) ?_
      conv => whnf
      refine ⟨fun _ => ?_, fun h => absurd h (by first | decide | simp)⟩
      conv => whnf
      have hno : allRec (ps.map (·.2)) = false := by
        cases e : allRec (ps.map (·.2)) with
        | false => rfl
        | true =>
          have := List.all_eq_true.1 e ps[i].2 (List.mem_map.2 ⟨_, List.getElem_mem hlt, rfl⟩)
          rw [hr] at this; cases this
      rw [hno]
      exact ⟨rfl, hmm⟩
    | true =>
      have hr' : 1 ≤ ps[i].2.length ∧ ps[i].2.length ≤ 20000 := by simpa [Fr.isRec] using hr
      have hw := wr_len (l := ps[i].2) (by omega)
      refine xcall (write_ok (hla.sub hmm) hby hr) ?_
      rintro _ m2 ⟨vw, pw, rfl, hsw, hvw⟩
      conv => whnf
      have hsw : Split m2 [pw, blk1 bs (saveO bf n y 1), p', m] := hsw.under (a := [pw]) hs'
      refine ⟨fun h => absurd h (by first | decide | simp), fun _ => ?_⟩
      conv => whnf
      refine ⟨y, mcell_of (hsw.sub (a := blk1 bs (saveO bf n y 1)) (by simp) _ _ (blk1_same ..)) rfl, hy.lb.one, ?_⟩
      conv => whnf
      refine .mk _ (appendBat (i := 2) hsw rfl hy ((hvw.lb.sub (hsw.sub (a := pw) (by simp))).la) (by omega)) ?_
      rintro _ m3 ⟨y2, p2, rfl, hs2, hy2⟩
      conv => whnf
      have hs2 : Split m3 [pw, blk1 bs (saveO bf n y 1), p2, m] := hs2
      refine ⟨_, _, _, hs2.sub (a := blk1 bs (saveO bf n y 1)) (by simp) _ _ (blk1_same ..), ⟨by simp, by simp⟩, ?_⟩
      have hs3 := hs2.setAt (i := 1) rfl (blk1_same ..) (saveO bf n y2 1)
      rw [blk1_set] at hs3
      have hs3 : Split _ [pw, blk1 bs (saveO bf n y2 1), p2, m] := hs3
      conv => whnf
      refine ⟨(i + 1, y2), ⟨by omega, by rw [htk, allRec_snoc, hall, hr]; rfl, p2, hs3.drop, ?_⟩, by simp; omega, ?_⟩
      · rw [htk, Fr.cat_append, show Fr.cat [ps[i].2] = Fr.wr ps[i].2 by simp [Fr.cat]]
        exact hy2.own
      conv => whnf
      repeat (refine And.intro (by first | with_reducible rfl | (first | exact congrArg (Value.int _) (iadd1 (by omega))) | exact congrArg (Value.int _) (wi (by omega) (by omega)) | exact wi (by omega) (by omega) | rfl) ?_; conv => whnf)
      first | exact trivial | exact fun _ _ h => h
  · have h' := of_decide_eq_false h
    obtain rfl : i = ps.length := by omega
    rw [List.take_length] at hall hy
    conv => whnf
    rw [hall]
    exact ⟨bs, y, p', rfl, hs', hy⟩
end Go.E.YtgjlajcebcmbaaaGreatDoor

/-
  The stages of a save.
-/
namespace Go.E.YtgjlajcebcmbaaaGreatDoor
open Go.Proofs
set_option maxRecDepth 100000
def tmpN : ByteArray := ⟨#[115, 110, 97, 112, 46, 116, 109, 112]⟩
theorem tmp_ok : nameOk (chs tmpN) = true := by decide
def fitsA (q : Int) (A : List Af) (l : List Nat) : Prop := ¬ (0 < q ∧ q < (totA (rmA A tmpN) + l.length : Nat))
instance (q : Int) (A : List Af) (l : List Nat) : Decidable (fitsA q A l) := by unfold fitsA; infer_instance
noncomputable def sweepL (n : Nat) (A : List Af) (L : List Nat) : List Af := L.foldl (fun A k => if k < n then rmA A (Sn.nm k) else A) A
noncomputable def sweepA (n : Nat) (A : List Af) : List Af := sweepL n A (numsA A)
theorem rm_rm (A : List Af) (name : ByteArray) : rmA (rmA A name) name = rmA A name := by
  unfold rmA
  rw [List.filter_filter]
  simp
theorem NmS.rm {A : List Af} (h : NmS A) (name : ByteArray) : NmS (rmA A name) := fun a ha => h a (List.mem_filter.1 ha).1
theorem Sm.rm {k : Nat} {A : List Af} {nb ns : Nat} (h : Sm k A nb ns) (name : ByteArray) : Sm k (rmA A name) nb ns :=
  ⟨fun a ha => h.l a (List.mem_filter.1 ha).1, Nat.le_trans (List.length_filter_le _ _) h.n, h.nb, h.ns, h.k⟩
section
variable {mm m p pv : Mem} {bs bf nb ns k n st : Nat} {q : Int} {A : List Af} {v : Value} {l : List Nat}
theorem stage_nil {m : Mem} : Ret Tryz.prog 23 [nilP] m [i64 0] := by
  refine en23 rfl (goY ?_)
  conv => whnf
  refine ⟨fun _ => ?_, fun h => absurd h (by first | decide | simp)⟩
  conv => whnf
  exact ⟨rfl, rfl⟩
theorem stage_spec (h : mm bs = some (saveO bf n v st)) : Ret Tryz.prog 23 [ptrB bs] mm [i64 st] := by
  refine en23 rfl (goY ?_)
  conv => whnf
  refine ⟨fun h => absurd h (by first | decide | simp), fun _ => ?_⟩
  conv => whnf
  refine ⟨_, mcell_of h rfl, rfl, ?_⟩
  conv => whnf
  exact ⟨rfl, rfl⟩
set_option maxHeartbeats 4000000 in
theorem saveWrite_spec (hs : Split mm [blk1 bs (saveO bf n v st), pv, p, m]) (hv : Bs pv v (nc l)) (h : FA p bf q nb ns A) (hk : Sm k A nb ns) (h256 : ∀ x ∈ l, x < 256) (hl : l.length ≤ 1000000) (hq : 0 ≤ q ∧ q ≤ 9223372036854775807) :
    Spec Tryz.prog 43 [ptrB bs] mm fun r m' => ∃ p', r = [i64 (if fitsA q A l then 0 else 5)] ∧ Split m' [blk1 bs (saveO bf n v st), pv, p', m] ∧ FA p' bf q (if fitsA q A l then nb + l.length else nb) ns (if fitsA q A l then appA (rmA A tmpN) tmpN l else rmA A tmpN) := by
  have hbs : mm bs = some (saveO bf n v st) := hs.sub (a := blk1 bs (saveO bf n v st)) (by simp) _ _ (blk1_same ..)
  refine en43 rfl (goY ?_)
  conv => whnf
  refine ⟨_, mcell_of hbs rfl, rfl, ?_⟩
  conv => whnf
  refine xcall (Spec.at (i := 2) hs rfl (remove_A (name := tmpN) h)) ?_
  rintro _ m1 ⟨p1, ⟨rfl, h1⟩, hs1⟩
  conv => whnf
  have hs1 : Split m1 [blk1 bs (saveO bf n v st), pv, p1, m] := hs1
  have hbs1 : m1 bs = some (saveO bf n v st) := hs1.sub (a := blk1 bs (saveO bf n v st)) (by simp) _ _ (blk1_same ..)
  have hk1 := hk.rm tmpN
  refine ⟨_, mcell_of hbs1 rfl, rfl, ?_⟩
  conv => whnf
  refine ⟨_, mcell_of hbs1 rfl, hv.lb.one, ?_⟩
  conv => whnf
  have hs2 : Split m1 [p1, blk1 bs (saveO bf n v st), pv, m] := hs1.pick (i := 2) rfl
  obtain ⟨q1, hq1, hs3, back⟩ := Split.pick1 hs2
  refine xcall (append_A (name := tmpN) (lb := l) h1 hs3 hk1 ((hv.lb.sub (hq1 pv (by simp))).la) h256 (by decide) hq hl) ?_
  rintro _ m2 ⟨e, p2, A', nb', rfl, hs4, h2, hr2⟩
  conv => whnf
  rw [AppR, if_neg (by rw [tmp_ok]; decide)] at hr2
  have hs4 : Split m2 [p2, blk1 bs (saveO bf n v st), pv, m] := back _ _ hs4
  have hs5 : Split m2 [blk1 bs (saveO bf n v st), pv, p2, m] := hs4.perm (by
    refine (List.Perm.swap _ _ _).trans (List.Perm.cons _ ?_)
    exact List.Perm.swap _ _ _)
  have hbs2 : m2 bs = some (saveO bf n v st) := hs5.sub (a := blk1 bs (saveO bf n v st)) (by simp) _ _ (blk1_same ..)
  by_cases hf : 0 < q ∧ q < (totA (rmA A tmpN) + l.length : Nat)
  · rw [if_pos hf] at hr2
    obtain ⟨rfl, rfl, rfl⟩ := hr2
    have hfit : ¬ fitsA q A l := fun h => h hf
    refine ⟨fun _ => ?_, fun h => absurd h (by first | decide | simp)⟩
    conv => whnf
    refine ⟨_, mcell_of hbs2 rfl, rfl, ?_⟩
    conv => whnf
    refine xcall (Spec.at (i := 2) hs5 rfl (remove_A (name := tmpN) h2)) ?_
    rintro _ m3 ⟨p3, ⟨rfl, h3⟩, hs6⟩
    conv => whnf
    rw [rm_rm] at h3
    exact ⟨p3, by rw [if_neg hfit], hs6, by rw [if_neg hfit, if_neg hfit]; exact h3⟩
  · rw [if_neg hf] at hr2
    obtain ⟨rfl, rfl, rfl⟩ := hr2
    have hfit : fitsA q A l := hf
    refine ⟨fun h => absurd h (by first | decide | simp), fun _ => ?_⟩
    conv => whnf
    exact ⟨p2, by rw [if_pos hfit], hs5, by rw [if_pos hfit, if_pos hfit]; exact h2⟩
theorem sweepL_take {L : List Nat} {i : Nat} (hi : i < L.length) : sweepL n A (L.take (i + 1)) = if L[i] < n then rmA (sweepL n A (L.take i)) (Sn.nm L[i]) else sweepL n A (L.take i) := by
  rw [List.take_succ_eq_append_getElem hi, sweepL, List.foldl_append]; rfl
theorem sweepL_p {P : List Af → Prop} (h0 : P A) (h1 : ∀ A k, P A → P (rmA A (Sn.nm k))) : ∀ L, P (sweepL n A L) := fun L => by
  unfold sweepL
  induction L generalizing A with
  | nil => exact h0
  | cons k L ih =>
    rw [List.foldl_cons]
    refine ih ?_
    split
    · exact h1 _ _ h0
    · exact h0
set_option maxHeartbeats 4000000 in
theorem sweep_spec (hg : Glob m) (hs : Split mm [blk1 bs (saveO bf n v st), p, m]) (h : FA p bf q nb ns A) (hk : Sm k A nb ns) (hn : NmS A) (hn1 : n ≤ 999999) :
    Spec Tryz.prog 46 [ptrB bs] mm fun r m' => ∃ p', r = [] ∧ Split m' [blk1 bs (saveO bf n v st), p', m] ∧ FA p' bf q nb ns (sweepA n A) := by
  have hbs : mm bs = some (saveO bf n v st) := hs.sub (a := blk1 bs (saveO bf n v st)) (by simp) _ _ (blk1_same ..)
  have hrng : ∀ x ∈ numsA A, 1 ≤ x ∧ x ≤ 999999 := numsN_rng
  have hl := numsA_len A
  have hkn := hk.n
  have hkk := hk.k
  unfold sweepA
  refine en46 rfl (goY ?_)
  conv => whnf
  refine ⟨_, mcell_of hbs rfl, rfl, ?_⟩
  conv => whnf
  refine xcall (numbers_A (hg.sub (hs.sub (a := m) (by simp))) (h.grow (hs.sub (a := p) (by simp))) hk hn) ?_
  rintro _ m1 ⟨v1, pn, rfl, hs1, hv1⟩
  conv => whnf
  have hs1 : Split m1 [pn, blk1 bs (saveO bf n v st), p, m] := hs1.under (a := [pn]) hs
  generalize numsA A = L at *
  have hncl : (nc L).length = L.length := nc_len _
  obtain ⟨a, c, rfl⟩ := hv1.il.shape
  rw [hncl]
  conv => whnf
  refine .mk (ι := Nat) (fun i => L.length - i) (fun i mm => i ≤ L.length ∧ ∃ p', Split mm [pn, blk1 bs (saveO bf n v st), p', m] ∧ FA p' bf q nb ns (sweepL n A (L.take i))) (fun i => [(0, .c (ptrB bs)), (10, .c (.v (.slice a L.length c))), (11, .c (i64 L.length)), (12, .c (i64 i))]) (fun _ => []) 0 ⟨by omega, p, hs1, h⟩ ?_ ?_
  · conv => whnf
    repeat (refine And.intro (by first | with_reducible rfl | exact congrArg (Value.int _) (wi (by omega) (by omega)) | exact wi (by omega) (by omega) | rfl) ?_; conv => whnf)
    first | exact trivial | exact fun _ _ h => h
  rintro i mi ⟨hi, p', hs', h'⟩
  conv => whnf
  refine ⟨fun hc => ?_, fun hc => ?_⟩
  · have hlt : i < L.length := by have := of_decide_eq_true hc; omega
    clear hc
    obtain ⟨bl, ol, cl, e1, hel⟩ := (hv1.il.sub (hs'.sub (a := pn) (by simp))).real (i := i) (by omega)
    injection e1 with e1 e2 e3
    subst e1
    have hel := hel i (by omega)
    have ee : (nc L)[i]'(by omega) = (L[i] : Int) := by simp [nc]
    rw [ee] at hel
    have hx := hrng _ (List.getElem_mem hlt)
    have hst := sweepL_take (n := n) (A := A) hlt
    have hbi : mi bs = some (saveO bf n v st) := hs'.sub (a := blk1 bs (saveO bf n v st)) (by simp) _ _ (blk1_same ..)
    have hgi : Glob mi := hg.sub (hs'.sub (a := m) (by simp))
    generalize L[i] = x at *
    conv => whnf
    repeat (refine And.intro (by first | omega | (simp only [times]; omega)) ?_; conv => whnf)
    refine ⟨_, hel, rfl, ?_⟩
    conv => whnf
    refine ⟨_, mcell_of hbi rfl, rfl, ?_⟩
    conv => whnf
    refine ⟨fun hc => ?_, fun hc => ?_⟩
    · have hc' : x < n := by have := of_decide_eq_true hc; omega
      rw [if_pos hc'] at hst
      conv => whnf
      first | refine xretk (name_ok hgi hx.1 hx.2) ?_ | refine xret (name_ok hgi hx.1 hx.2) ?_
      conv => whnf
      refine ⟨_, mcell_of hbi rfl, rfl, ?_⟩
      conv => whnf
      refine xcall (Spec.at (i := 2) hs' rfl (remove_A (name := Sn.nm x) h')) ?_
      rintro _ m2 ⟨p2, ⟨rfl, h2⟩, hs2⟩
      conv => whnf
      refine ⟨i + 1, ⟨by omega, p2, hs2, by rw [hst]; exact h2⟩, by first | omega | (simp only; omega), ?_⟩
      conv => whnf
      repeat (refine And.intro (by first | with_reducible rfl | (first | exact congrArg (Value.int _) (iadd1 (by omega))) | exact congrArg (Value.int _) (wi (by omega) (by omega)) | exact wi (by omega) (by omega) | rfl) ?_; conv => whnf)
      first | exact trivial | exact fun _ _ h => h
    · have hc' : ¬ x < n := by have := of_decide_eq_false hc; omega
      rw [if_neg hc'] at hst
      conv => whnf
      refine ⟨i + 1, ⟨by omega, p', hs', by rw [hst]; exact h'⟩, by first | omega | (simp only; omega), ?_⟩
      conv => whnf
      repeat (refine And.intro (by first | with_reducible rfl | (first | exact congrArg (Value.int _) (iadd1 (by omega))) | exact congrArg (Value.int _) (wi (by omega) (by omega)) | exact wi (by omega) (by omega) | rfl) ?_; conv => whnf)
      first | exact trivial | exact fun _ _ h => h
  · have hc' := of_decide_eq_false hc
    obtain rfl : i = L.length := by omega
    rw [List.take_length] at h'
    conv => whnf
    exact ⟨p', rfl, hs'.drop, h'⟩
end
end Go.E.YtgjlajcebcmbaaaGreatDoor

/-
  A step of a save.
-/
namespace Go.E.YtgjlajcebcmbaaaGreatDoor
open Go.Proofs
set_option maxRecDepth 100000
structure StepR where
  A : List Af
  st : Nat
  told : Nat
  e : Int
noncomputable def stepA (q : Int) (n : Nat) (l : List Nat) (st : Nat) (A : List Af) : StepR :=
  if st = 0 then ⟨A, 0, 0, 4⟩ else if st = 1 then if fitsA q A l then ⟨appA (rmA A tmpN) tmpN l, 2, 2, 0⟩ else ⟨rmA A tmpN, 1, 0, 5⟩
  else if st = 2 then ⟨syncA A tmpN, 3, 3, 0⟩ else if st = 3 then ⟨renA A tmpN (Sn.nm n), 4, 4, 0⟩ else ⟨sweepA n A, 0, 0, 0⟩
theorem Sn.nm_size (n : Nat) : (Sn.nm n).size = 11 := by rw [Sn.nm, mkB_size, List.length_append, Sn.dgs_len]; rfl
def stepNb (q : Int) (l : List Nat) (st : Nat) (A : List Af) (nb : Nat) : Nat := if st = 1 ∧ fitsA q A l then nb + l.length else nb
def stepNs (st : Nat) (A : List Af) (ns : Nat) : Nat := if st = 2 ∧ (fileA A tmpN).isSome then ns + 1 else ns
theorem stepNb_le (q : Int) (l : List Nat) (st : Nat) (A : List Af) (nb : Nat) : stepNb q l st A nb ≤ nb + l.length := by
  unfold stepNb; split <;> omega
theorem stepNs_le (st : Nat) (A : List Af) (ns : Nat) : stepNs st A ns ≤ ns + 1 := by
  unfold stepNs; split <;> omega
set_option maxHeartbeats 4000000 in
theorem saveStepX_spec {mm m p pv : Mem} {bs bf nb ns k n st : Nat} {q : Int} {A : List Af} {v : Value} {l : List Nat} (hg : Glob m) (hs : Split mm [blk1 bs (saveO bf n v st), pv, p, m]) (hv : Bs pv v (nc l)) (h : FA p bf q nb ns A) (hk : Sm k A nb ns) (h256 : ∀ x ∈ l, x < 256) (hl : l.length ≤ 1000000) (hq : 0 ≤ q ∧ q ≤ 9223372036854775807) (hn : NmS A) (hn1 : 1 ≤ n) (hn2 : n ≤ 999999) (hst : st ≤ 4) :
    Spec Tryz.prog 21 [ptrB bs] mm fun r m' => ∃ p', r = [i64 (stepA q n l st A).told, i64 (stepA q n l st A).e] ∧ Split m' [blk1 bs (saveO bf n v (stepA q n l st A).st), pv, p', m] ∧ FA p' bf q (stepNb q l st A nb) (stepNs st A ns) (stepA q n l st A).A := by
  have hbs : mm bs = some (saveO bf n v st) := hs.sub (a := blk1 bs (saveO bf n v st)) (by simp) _ _ (blk1_same ..)
  have hbp : Split mm [pv, m, blk1 bs (saveO bf n v st), p] := hs.perm (by
    refine (List.Perm.swap _ _ _).trans (List.Perm.cons _ ?_)
    refine (List.Perm.cons _ (List.Perm.swap _ _ _)).trans ?_
    exact List.Perm.swap _ _ _)
  have hdj := hbp.dj
  have hsj : Split mm [blk1 bs (saveO bf n v st), p, joinM pv m] := hbp.pair.perm (by
    refine (List.Perm.swap _ _ _).trans (List.Perm.cons _ ?_)
    exact List.Perm.swap _ _ _)
  have backj : ∀ m' p', Split m' [blk1 bs (saveO bf n v st), p', joinM pv m] → Split m' [blk1 bs (saveO bf n v st), pv, p', m] := fun m' p' h => by
    have h1 : Split m' [joinM pv m, blk1 bs (saveO bf n v st), p'] := h.perm (by
      refine (List.Perm.cons _ (List.Perm.swap _ _ _)).trans ?_
      exact List.Perm.swap _ _ _)
    refine (h1.unpair hdj).perm ?_
    refine (List.Perm.cons _ (List.Perm.swap _ _ _)).trans ?_
    refine (List.Perm.swap _ _ _).trans (List.Perm.cons _ (List.Perm.cons _ ?_))
    exact List.Perm.swap _ _ _
  have hgj : Glob (joinM pv m) := hg.sub fun x o ho => by
    have := hdj x
    simp only [joinM]
    rcases this with h | h
    · rw [h]; exact ho
    · rw [h] at ho; cases ho
  refine en21 rfl (goY ?_)
  conv => whnf
  refine ⟨fun h => absurd h (by first | decide | simp), fun _ => ?_⟩
  conv => whnf
  refine ⟨_, mcell_of hbs rfl, rfl, ?_⟩
  conv => whnf
  refine ⟨fun h => absurd h (by first | decide | simp), fun _ => ?_⟩
  conv => whnf
  refine ⟨_, mcell_of hbs rfl, rfl, ?_⟩
  conv => whnf
  have hc : st = 0 ∨ st = 1 ∨ st = 2 ∨ st = 3 ∨ st = 4 := by omega
  rcases hc with rfl | rfl | rfl | rfl | rfl
  · refine ⟨fun _ => ?_, fun h => absurd h (by first | decide | simp)⟩
    conv => whnf
    exact ⟨p, rfl, hs, by simp [stepNb, stepNs]; exact h⟩
  · refine ⟨fun h => absurd h (by first | decide | simp), fun _ => ?_⟩
    conv => whnf
    refine ⟨fun _ => ?_, fun h => absurd h (by first | decide | simp)⟩
    conv => whnf
    refine xcall (saveWrite_spec hs hv h hk h256 hl hq) ?_
    rintro _ m1 ⟨p1, rfl, hs1, h1⟩
    conv => whnf
    have hb1 : m1 bs = some (saveO bf n v 1) := hs1.sub (a := blk1 bs (saveO bf n v 1)) (by simp) _ _ (blk1_same ..)
    have enb : stepNb q l 1 A nb = if fitsA q A l then nb + l.length else nb := by simp [stepNb]
    have ens : stepNs 1 A ns = ns := by simp [stepNs]
    have est : stepA q n l 1 A = if fitsA q A l then ⟨appA (rmA A tmpN) tmpN l, 2, 2, 0⟩ else ⟨rmA A tmpN, 1, 0, 5⟩ := rfl
    by_cases hf : fitsA q A l
    · simp only [if_pos hf] at h1 est
      rw [if_pos hf]
      rw [est]
      refine ⟨fun h => absurd h (by first | decide | simp), fun _ => ?_⟩
      conv => whnf
      refine ⟨_, mcell_of hb1 rfl, rfl, ?_⟩
      conv => whnf
      refine ⟨_, _, _, hb1, ⟨by simp, by simp⟩, ?_⟩
      have ew : (IntKind.i64.wrap (((1 : Nat) : Int) + 1)).tmod 5 = ((2 : Nat) : Int) := by decide
      rw [ew]
      conv => whnf
      refine ⟨_, mcell_of (Mem.set_same ..) rfl, rfl, ?_⟩
      conv => whnf
      have hz := hs1.setAt (i := 0) rfl (blk1_same ..) (saveO bf n v 2)
      rw [blk1_set] at hz
      refine ⟨p1, ?_, hz, by rw [enb, ens, if_pos hf]; exact h1⟩
      rfl

    · simp only [if_neg hf] at h1 est
      rw [if_neg hf]
      rw [est]
      refine ⟨fun _ => ?_, fun h => absurd h (by first | decide | simp)⟩
      conv => whnf
      exact ⟨p1, rfl, hs1, by rw [enb, ens, if_neg hf]; exact h1⟩
  · refine ⟨fun h => absurd h (by first | decide | simp), fun _ => ?_⟩
    conv => whnf
    refine ⟨fun h => absurd h (by first | decide | simp), fun _ => ?_⟩
    conv => whnf
    refine ⟨fun _ => ?_, fun h => absurd h (by first | decide | simp)⟩
    conv => whnf
    refine ⟨_, mcell_of hbs rfl, rfl, ?_⟩
    conv => whnf
    refine xcall (Spec.at (i := 2) hs rfl (sync_A (name := tmpN) h hk)) ?_
    rintro _ m1 ⟨p1, ⟨rfl, h1⟩, hs1⟩
    conv => whnf
    have hs1 : Split m1 [blk1 bs (saveO bf n v 2), pv, p1, m] := hs1
    have hb1 : m1 bs = some (saveO bf n v 2) := hs1.sub (a := blk1 bs (saveO bf n v 2)) (by simp) _ _ (blk1_same ..)
    refine ⟨_, mcell_of hb1 rfl, rfl, ?_⟩
    conv => whnf
    refine ⟨_, _, _, hb1, ⟨by simp, by simp⟩, ?_⟩
    have ew : (IntKind.i64.wrap (((2 : Nat) : Int) + 1)).tmod 5 = ((3 : Nat) : Int) := by decide
    rw [ew]
    conv => whnf
    refine ⟨_, mcell_of (Mem.set_same ..) rfl, rfl, ?_⟩
    conv => whnf
    have hz := hs1.setAt (i := 0) rfl (blk1_same ..) (saveO bf n v 3)
    rw [blk1_set] at hz
    refine ⟨p1, ?_, hz, by simp [stepNb, stepNs]; exact h1⟩
    rfl
  · refine ⟨fun h => absurd h (by first | decide | simp), fun _ => ?_⟩
    conv => whnf
    refine ⟨fun h => absurd h (by first | decide | simp), fun _ => ?_⟩
    conv => whnf
    refine ⟨fun h => absurd h (by first | decide | simp), fun _ => ?_⟩
    conv => whnf
    refine ⟨fun _ => ?_, fun h => absurd h (by first | decide | simp)⟩
    conv => whnf
    refine ⟨_, mcell_of hbs rfl, rfl, ?_⟩
    conv => whnf
    first | refine xretk (name_ok (hg.sub (hs.sub (a := m) (by simp))) hn1 hn2) ?_ | refine xret (name_ok (hg.sub (hs.sub (a := m) (by simp))) hn1 hn2) ?_
    conv => whnf
    refine ⟨_, mcell_of hbs rfl, rfl, ?_⟩
    conv => whnf
    refine xcall (Spec.at (i := 2) hs rfl (rename_A (name := tmpN) h (by rw [Sn.nm_size]; decide))) ?_
    rintro _ m1 ⟨p1, ⟨rfl, h1⟩, hs1⟩
    conv => whnf
    have hs1 : Split m1 [blk1 bs (saveO bf n v 3), pv, p1, m] := hs1
    have hb1 : m1 bs = some (saveO bf n v 3) := hs1.sub (a := blk1 bs (saveO bf n v 3)) (by simp) _ _ (blk1_same ..)
    refine ⟨_, mcell_of hb1 rfl, rfl, ?_⟩
    conv => whnf
    refine ⟨_, _, _, hb1, ⟨by simp, by simp⟩, ?_⟩
    have ew : (IntKind.i64.wrap (((3 : Nat) : Int) + 1)).tmod 5 = ((4 : Nat) : Int) := by decide
    rw [ew]
    conv => whnf
    refine ⟨_, mcell_of (Mem.set_same ..) rfl, rfl, ?_⟩
    conv => whnf
    have hz := hs1.setAt (i := 0) rfl (blk1_same ..) (saveO bf n v 4)
    rw [blk1_set] at hz
    refine ⟨p1, ?_, hz, by simp [stepNb, stepNs]; exact h1⟩
    rfl
  · refine ⟨fun h => absurd h (by first | decide | simp), fun _ => ?_⟩
    conv => whnf
    refine ⟨fun h => absurd h (by first | decide | simp), fun _ => ?_⟩
    conv => whnf
    refine ⟨fun h => absurd h (by first | decide | simp), fun _ => ?_⟩
    conv => whnf
    refine ⟨fun h => absurd h (by first | decide | simp), fun _ => ?_⟩
    conv => whnf
    refine ⟨fun _ => ?_, fun h => absurd h (by first | decide | simp)⟩
    conv => whnf
    refine xcall (sweep_spec (m := joinM pv m) hgj hsj h hk hn hn2) ?_
    rintro _ m1 ⟨p1, rfl, hs1', h1⟩
    conv => whnf
    have hs1 : Split m1 [blk1 bs (saveO bf n v 4), pv, p1, m] := backj _ _ hs1'
    have hb1 : m1 bs = some (saveO bf n v 4) := hs1.sub (a := blk1 bs (saveO bf n v 4)) (by simp) _ _ (blk1_same ..)
    refine ⟨_, mcell_of hb1 rfl, rfl, ?_⟩
    conv => whnf
    refine ⟨_, _, _, hb1, ⟨by simp, by simp⟩, ?_⟩
    have ew : (IntKind.i64.wrap (((4 : Nat) : Int) + 1)).tmod 5 = ((0 : Nat) : Int) := by decide
    rw [ew]
    conv => whnf
    refine ⟨_, mcell_of (Mem.set_same ..) rfl, rfl, ?_⟩
    conv => whnf
    have hz := hs1.setAt (i := 0) rfl (blk1_same ..) (saveO bf n v 0)
    rw [blk1_set] at hz
    refine ⟨p1, ?_, hz, by simp [stepNb, stepNs]; exact h1⟩
    rfl
theorem saveStep_spec {mm m p pv : Mem} {bs bf nb ns k n st : Nat} {q : Int} {A : List Af} {v : Value} {l : List Nat} (hg : Glob m) (hs : Split mm [blk1 bs (saveO bf n v st), pv, p, m]) (hv : Bs pv v (nc l)) (h : FA p bf q nb ns A) (hk : Sm k A nb ns) (h256 : ∀ x ∈ l, x < 256) (hl : l.length ≤ 1000000) (hq : 0 ≤ q ∧ q ≤ 9223372036854775807) (hn : NmS A) (hn1 : 1 ≤ n) (hn2 : n ≤ 999999) (hst : st ≤ 4) :
    Spec Tryz.prog 21 [ptrB bs] mm fun r m' => ∃ p' nb' ns', r = [i64 (stepA q n l st A).told, i64 (stepA q n l st A).e] ∧ Split m' [blk1 bs (saveO bf n v (stepA q n l st A).st), pv, p', m] ∧ FA p' bf q nb' ns' (stepA q n l st A).A ∧ nb' ≤ nb + l.length ∧ ns' ≤ ns + 1 :=
  (saveStepX_spec hg hs hv h hk h256 hl hq hn hn1 hn2 hst).mono fun _ _ ⟨p', h1, h2, h3⟩ => ⟨p', _, _, h1, h2, h3, stepNb_le .., stepNs_le ..⟩
end Go.E.YtgjlajcebcmbaaaGreatDoor

/-
  The stages of a save, plainly, where all fits.
-/
namespace Go.E.YtgjlajcebcmbaaaGreatDoor
open Go.Proofs
set_option maxRecDepth 100000
/-- files of snapshots of lesser numbers -/
def Low (B : List Af) (n : Nat) : Prop := ∀ b ∈ B, ∃ k, 1 ≤ k ∧ k < n ∧ b.name = Sn.nm k
theorem nm_ne_tmp (k : Nat) : Sn.nm k ≠ tmpN := fun h => by
  have := congrArg ByteArray.size h
  rw [Sn.nm_size] at this
  exact absurd this (by decide)
theorem Low.tmp {B : List Af} {n : Nat} (h : Low B n) : ∀ b ∈ B, b.name ≠ tmpN := fun b hb e => by
  obtain ⟨k, _, _, h3⟩ := h b hb
  exact nm_ne_tmp k (by rw [← h3, e])
theorem Low.mono {B : List Af} {n m : Nat} (h : Low B n) (hm : n ≤ m) : Low B m := fun b hb => by
  obtain ⟨k, h1, h2, h3⟩ := h b hb
  exact ⟨k, h1, by omega, h3⟩
theorem Low.ne {B : List Af} {n : Nat} (h : Low B n) (hn : n ≤ 999999) : ∀ b ∈ B, b.name ≠ Sn.nm n := fun b hb e => by
  obtain ⟨k, h1, h2, h3⟩ := h b hb
  have := nm_inj (a := k) (b := n) (by omega) hn (by rw [← h3, e])
  omega
theorem rm_none {B : List Af} {name : ByteArray} (h : ∀ b ∈ B, b.name ≠ name) : rmA B name = B := List.filter_eq_self.2 fun b hb => by simp [h b hb]
theorem app_new {B : List Af} {name : ByteArray} {l : List Nat} (h : ∀ b ∈ B, b.name ≠ name) : appA B name l = B ++ [⟨name, l, 0⟩] := by
  induction B with
  | nil => rfl
  | cons b B ih =>
    rw [appA, if_neg (fun e => h b (by simp) e.symm), ih fun x hx => h x (by simp [hx])]
    rfl
theorem put_new {x : Af} {B : List Af} {name : ByteArray} (h : ∀ b ∈ B, b.name ≠ name) : putA x name B = B ++ [{ x with name := name }] := by
  induction B with
  | nil => rfl
  | cons b B ih =>
    rw [putA, if_neg (fun e => h b (by simp) e.symm), ih fun x hx => h x (by simp [hx])]
    rfl
theorem file_last {B : List Af} {x : Af} (h : ∀ b ∈ B, b.name ≠ x.name) : fileA (B ++ [x]) x.name = some x := by
  unfold fileA
  rw [List.find?_append, List.find?_eq_none.2 fun b hb => by simpa using fun e => h b hb e.symm]
  simp
theorem rm_last {B : List Af} {x : Af} (h : ∀ b ∈ B, b.name ≠ x.name) : rmA (B ++ [x]) x.name = B := by
  have h1 := rm_none h
  unfold rmA at h1 ⊢
  rw [List.filter_append, h1]
  simp
theorem fits0 (A : List Af) (l : List Nat) : fitsA 0 A l := by
  unfold fitsA; omega
theorem step1 {A B : List Af} {n : Nat} {l : List Nat} (hA : rmA A tmpN = B) (hB : Low B n) : stepA 0 n l 1 A = ⟨B ++ [⟨tmpN, l, 0⟩], 2, 2, 0⟩ := by
  unfold stepA
  rw [if_neg (by decide), if_pos rfl, if_pos (fits0 _ _), hA, app_new hB.tmp]
theorem step2 {B : List Af} {n : Nat} {l : List Nat} (hB : Low B n) : stepA 0 n l 2 (B ++ [⟨tmpN, l, 0⟩]) = ⟨B ++ [⟨tmpN, l, l.length⟩], 3, 3, 0⟩ := by
  unfold stepA
  rw [if_neg (by decide), if_neg (by decide), if_pos rfl]
  congr 1
  unfold syncA
  rw [List.map_append]
  congr 1
  · exact (List.map_congr_left fun b hb => by rw [if_neg (hB.tmp b hb)]; rfl).trans (List.map_id _)
theorem nm_ok {n : Nat} : nameOk (chs (Sn.nm n)) = true := by
  have hl : (chs (Sn.nm n)).length = 11 := by rw [chs_len, Sn.nm_size]
  unfold nameOk
  rw [hl]
  simp only [Bool.and_eq_true, decide_eq_true_eq]
  refine ⟨by decide, ?_⟩
  have e : chs (Sn.nm n) = (Sn.pre ++ Sn.dgs 6 n).map UInt8.toNat := by simp [chs, Sn.nm]
  rw [e, List.map_append, List.all_append, Bool.and_eq_true]
  refine ⟨by decide, ?_⟩
  rw [List.all_map, List.all_eq_true]
  intro x hx
  have key : ∀ (j n : Nat), ∀ x ∈ Sn.dgs j n, ∃ q, x = Sn.dg q := fun j => by
    induction j with
    | zero => intro n x hx; cases hx
    | succ j ih =>
      intro n x hx
      rcases List.mem_append.1 hx with hx | hx
      · exact ih _ _ hx
      · exact ⟨n, List.mem_singleton.1 hx⟩
  obtain ⟨q, rfl⟩ := key _ _ _ hx
  have h1 := Sn.dg_nat q
  simp only [Function.comp, isFB_iff]
  omega
theorem step3 {B : List Af} {n : Nat} {l : List Nat} (hB : Low B n) (hn : n ≤ 999999) : stepA 0 n l 3 (B ++ [⟨tmpN, l, l.length⟩]) = ⟨B ++ [⟨Sn.nm n, l, l.length⟩], 4, 4, 0⟩ := by
  unfold stepA
  rw [if_neg (by decide), if_neg (by decide), if_neg (by decide), if_pos rfl]
  congr 1
  unfold renA
  have hf := file_last (B := B) (x := ⟨tmpN, l, l.length⟩) hB.tmp
  have hr := rm_last (B := B) (x := ⟨tmpN, l, l.length⟩) hB.tmp
  simp only at hf hr
  rw [hf]
  simp only
  rw [nm_ok, if_pos rfl, hr, put_new (hB.ne hn)]
theorem nums_low {B : List Af} {n : Nat} {l : List Nat} {s : Nat} (hB : Low B n) (h1 : 1 ≤ n) (hn : n ≤ 999999) : (∀ k ∈ numsA (B ++ [⟨Sn.nm n, l, s⟩]), k ≤ n) ∧ n ∈ numsA (B ++ [⟨Sn.nm n, l, s⟩]) ∧ ∀ b ∈ B, ∃ k ∈ numsA (B ++ [⟨Sn.nm n, l, s⟩]), k < n ∧ b.name = Sn.nm k := by
  refine ⟨fun k hk => ?_, mem_numsA.2 ⟨h1, hn, _, List.mem_append_right _ (List.mem_singleton.2 rfl), rfl⟩, fun b hb => ?_⟩
  · obtain ⟨k1, k2, a, ha, e⟩ := mem_numsA.1 hk
    rcases List.mem_append.1 ha with ha | ha
    · obtain ⟨j, h3, h4, h5⟩ := hB a ha
      have := nm_inj (a := k) (b := j) k2 (by omega) (by rw [← e, h5])
      omega
    · rw [List.mem_singleton.1 ha] at e
      have := nm_inj (a := k) (b := n) k2 hn e.symm
      omega
  · obtain ⟨j, h3, h4, h5⟩ := hB b hb
    exact ⟨j, mem_numsA.2 ⟨h3, by omega, b, List.mem_append_left _ hb, h5⟩, h4, h5⟩
theorem sweepL_filter (n : Nat) : ∀ (L : List Nat) (A : List Af), sweepL n A L = A.filter fun a => !L.any fun k => decide (k < n) && decide (a.name = Sn.nm k)
  | [], A => (List.filter_eq_self.2 fun a _ => rfl).symm
  | k :: L, A => by
    have ih := sweepL_filter n L
    unfold sweepL at ih ⊢
    rw [List.foldl_cons, ih]
    split
    · rename_i h
      rw [rmA, List.filter_filter]
      refine List.filter_congr fun a _ => ?_
      simp [h, Bool.and_comm]
    · rename_i h
      refine List.filter_congr fun a _ => ?_
      simp [h]
theorem step4 {B : List Af} {n : Nat} {l : List Nat} (hB : Low B n) (h1 : 1 ≤ n) (hn : n ≤ 999999) : stepA 0 n l 4 (B ++ [⟨Sn.nm n, l, l.length⟩]) = ⟨[⟨Sn.nm n, l, l.length⟩], 0, 0, 0⟩ := by
  obtain ⟨c1, c2, c3⟩ := nums_low (l := l) (s := l.length) hB h1 hn
  unfold stepA
  rw [if_neg (by decide), if_neg (by decide), if_neg (by decide), if_neg (by decide)]
  congr 1
  rw [sweepA, sweepL_filter, List.filter_append]
  have e1 : B.filter (fun a => !(numsA (B ++ [⟨Sn.nm n, l, l.length⟩])).any fun k => decide (k < n) && decide (a.name = Sn.nm k)) = [] := by
    rw [List.filter_eq_nil_iff]
    intro b hb
    obtain ⟨k, hk, h2, h3⟩ := c3 b hb
    simp only [Bool.not_eq_true, Bool.not_eq_false']
    exact List.any_eq_true.2 ⟨k, hk, by simp [h2, h3]⟩
  rw [e1, List.nil_append]
  refine List.filter_eq_self.2 fun a ha => ?_
  rw [List.mem_singleton.1 ha]
  simp only [Bool.not_eq_true']
  rw [List.any_eq_false]
  intro k hk
  have := c1 k hk
  simp only [Bool.and_eq_true, decide_eq_true_eq, not_and]
  intro h2 h3
  obtain ⟨k1, k2, _⟩ := mem_numsA.1 hk
  have := nm_inj (a := n) (b := k) hn k2 h3
  omega
end Go.E.YtgjlajcebcmbaaaGreatDoor

/-
  A save of all stages, or of some; what is loaded behind it.
-/
namespace Go.E.YtgjlajcebcmbaaaGreatDoor
open Go.Proofs
set_option maxRecDepth 100000
theorem whole_all {R : List (List Int)} : Fr.whole R (Fr.cat R).length = (R.length, (Fr.cat R).length) := by
  have h1 := Fr.whole_ge (l := R) (k := (Fr.cat R).length) (s := R.length) (Nat.le_refl _) (by rw [List.take_length]; exact Nat.le_refl _)
  have h2 := Fr.whole_le (l := R) (k := (Fr.cat R).length)
  obtain ⟨h3, _, _⟩ := Fr.whole_end (l := R) (k := (Fr.cat R).length)
  have h4 : (Fr.whole R (Fr.cat R).length).1 = R.length := by omega
  rw [h4, List.take_length] at h3
  exact Prod.ext h4 h3
theorem readB_cat {R : List (List Int)} (hR : allRec R = true) : readB (Fr.cat R) = (R, (Fr.cat R).length, 0) := by
  have h := Fr.read_cut (l := R) (k := (Fr.cat R).length) (f := (Fr.cat R).length + 1) (fun r hr => List.all_eq_true.1 hR r hr) (by
    have := Fr.whole_few (l := R) (k := (Fr.cat R).length)
    omega)
  rw [List.take_length, whole_all, List.take_length] at h
  exact h
theorem last_of {l : List Nat} {n : Nat} (hs : l.Pairwise (· ≤ ·)) (h1 : n ∈ l) (h2 : ∀ k ∈ l, k ≤ n) : l.getLast? = some n := by
  rcases List.eq_nil_or_concat l with rfl | ⟨L, x, rfl⟩
  · cases h1
  · rw [List.concat_eq_append] at *
    rw [List.getLast?_append]
    have hx := h2 x (by simp)
    have : n ≤ x := by
      rcases List.mem_append.1 h1 with h | h
      · exact (List.pairwise_append.1 hs).2.2 n h x (by simp)
      · rw [List.mem_singleton.1 h]; exact Nat.le_refl _
    simp; omega
theorem load_of {A : List Af} {n : Nat} {R : List (List Int)} {s : Nat} (hl : (numsA A).getLast? = some n) (hf : fileA A (Sn.nm n) = some ⟨Sn.nm n, toN (Fr.cat R), s⟩) (hR : allRec R = true) (hb : ∀ r ∈ R, Byt r) : loadA A = (n, R, 0) := by
  rw [loadA_some hl]
  have e : bytesA A (Sn.nm n) = toN (Fr.cat R) := by rw [bytesA, hf]; rfl
  rw [e, nc_toN (Fr.cat_byt hb), readB_cat hR, toN_len, if_pos ⟨rfl, rfl⟩]
theorem may_low {A B : List Af} {n : Nat} (hA : rmA A tmpN = B) (hB : Low B n) (h1 : 1 ≤ n) (hn : n ≤ 999999) : mayN A n = true := by
  unfold mayN
  have e : isNum (n : Int) = true := by simp [isNum]; omega
  rw [e, Bool.true_and, Bool.not_eq_true']
  rw [List.any_eq_false]
  intro k hk
  obtain ⟨k1, k2, a, ha, e⟩ := mem_numsA.1 hk
  have hab : a ∈ B := by
    rw [← hA]
    refine List.mem_filter.2 ⟨ha, ?_⟩
    simp only [Bool.not_eq_true', decide_eq_false_iff_not]
    rw [e]; exact nm_ne_tmp k
  obtain ⟨j, h3, h4, h5⟩ := hB a hab
  have := nm_inj (a := k) (b := j) k2 (by omega) (by rw [← e, h5])
  simp only [decide_eq_true_eq]; omega
/-- the files behind some stages -/
def stA (B : List Af) (n : Nat) (l : List Nat) (A : List Af) : Nat → List Af
  | 0 => A
  | 1 => B ++ [⟨tmpN, l, 0⟩]
  | 2 => B ++ [⟨tmpN, l, l.length⟩]
  | 3 => B ++ [⟨Sn.nm n, l, l.length⟩]
  | _ => [⟨Sn.nm n, l, l.length⟩]
def stN (s : Nat) : Nat := if s = 4 then 0 else s + 1
theorem step_st {A B : List Af} {n i : Nat} {l : List Nat} (hA : rmA A tmpN = B) (hB : Low B n) (h1 : 1 ≤ n) (hn : n ≤ 999999) (hi : i < 4) : stepA 0 n l (stN i) (stA B n l A i) = ⟨stA B n l A (i + 1), stN (i + 1), stN (i + 1), 0⟩ := by
  match i, hi with
  | 0, _ => exact step1 hA hB
  | 1, _ => exact step2 hB
  | 2, _ => exact step3 hB hn
  | 3, _ => exact step4 hB h1 hn
theorem cat_small : ∀ {l : List (List Int)}, (∀ r ∈ l, r.length ≤ 500) → (Fr.cat l).length ≤ 513 * l.length
  | [], _ => by simp [Fr.cat]
  | r :: l, h => by
    have h1 := h r (by simp)
    have h3 := wr_len (l := r) (by omega)
    have h4 := cat_small (l := l) fun x hx => h x (by simp [hx])
    have e : (Fr.cat (r :: l)).length = (Fr.wr r).length + (Fr.cat l).length := by simp [Fr.cat]
    rw [e, List.length_cons, Nat.mul_succ]
    omega
/-- small files -/
structure Smx (A : List Af) (nb ns : Nat) : Prop where
  l : ∀ a ∈ A, a.l.length ≤ 3000
  s : ∀ a ∈ A, a.name.size ≤ 20
  n : A.length ≤ 10
  nb : nb ≤ 300000
  ns : ns ≤ 500
theorem Smx.sm {A : List Af} {nb ns : Nat} (h : Smx A nb ns) : Sm 1000 A nb ns := ⟨fun a ha => by have := h.l a ha; omega, by have := h.n; omega, by have := h.nb; omega, by have := h.ns; omega, by omega⟩
theorem Smx.nms {A : List Af} {nb ns : Nat} (h : Smx A nb ns) : NmS A := fun a ha => by have := h.s a ha; omega
theorem Smx.st {A B : List Af} {n nb ns : Nat} {l : List Nat} (h : Smx A nb ns) (hB : B.length ≤ 9) (hA : rmA A tmpN = B) (hl : l.length ≤ 3000) {nb' ns' : Nat} (h1 : nb' ≤ 300000) (h2 : ns' ≤ 500) : ∀ i, Smx (stA B n l A i) nb' ns' := by
  have hBA : ∀ b ∈ B, b ∈ A := fun b hb => by rw [← hA] at hb; exact (List.mem_filter.1 hb).1
  have ht : tmpN.size ≤ 20 := by decide
  have hn : (Sn.nm n).size ≤ 20 := by rw [Sn.nm_size]; decide
  have key : ∀ x : Af, x.l.length ≤ 3000 → x.name.size ≤ 20 → Smx (B ++ [x]) nb' ns' := fun x hx1 hx2 => by
    refine ⟨fun a ha => ?_, fun a ha => ?_, by simp; omega, h1, h2⟩
    · rcases List.mem_append.1 ha with ha | ha
      · exact h.l a (hBA a ha)
      · rw [List.mem_singleton.1 ha]; exact hx1
    · rcases List.mem_append.1 ha with ha | ha
      · exact h.s a (hBA a ha)
      · rw [List.mem_singleton.1 ha]; exact hx2
  intro i
  match i with
  | 0 => exact ⟨h.l, h.s, h.n, h1, h2⟩
  | 1 => exact key _ hl ht
  | 2 => exact key _ hl ht
  | 3 => exact key _ hl hn
  | i + 4 => exact ⟨fun a ha => by rw [show stA B n l A (i + 4) = [⟨Sn.nm n, l, l.length⟩] from rfl] at ha; rw [List.mem_singleton.1 ha]; exact hl, fun a ha => by rw [show stA B n l A (i + 4) = [⟨Sn.nm n, l, l.length⟩] from rfl] at ha; rw [List.mem_singleton.1 ha]; exact hn, by show 1 ≤ 10; decide, h1, h2⟩
set_option maxHeartbeats 4000000 in
theorem saveL_bad {mm : Mem} {bf nb ns k : Nat} {q n s : Int} {A : List Af} {v : Value} {ps : List (Value × List Int)} (hg : Glob mm) (h : FA mm bf q nb ns A) (hk : Sm k A nb ns) (hn : NmS A) (hm : mayN A n = false ∨ allRec (ps.map (·.2)) = false) (hv : LsA mm v ps) (hbt : ∀ r ∈ ps, Byt r.2) (hlen : ps.length ≤ 50) (hsz : ∀ r ∈ ps, r.2.length ≤ 1000000) :
    Spec Tryz.prog 14 [ptrB bf, i64 n, .v v, i64 s] mm fun r m' => r = [i64 (-1)] ∧ Sub mm m' := by
  refine en14 rfl (goY ?_)
  conv => whnf
  cases hmn : mayN A n with
  | false =>
    refine xcall (begin_bad hg h hk hn hmn) ?_
    rintro _ m1 ⟨rfl, hs⟩
    conv => whnf
    refine ⟨fun _ => ?_, fun h => absurd h (by first | decide | simp)⟩
    conv => whnf
    exact ⟨rfl, hs⟩
  | true =>
    have hr : allRec (ps.map (·.2)) = false := by
      rcases hm with h | h
      · rw [h] at hmn; cases hmn
      · exact h
    refine xcall (begin_ok hg h hk hn hmn hv hbt hlen hsz) ?_
    rintro r m1 hb
    rw [if_neg (by rw [hr]; decide)] at hb
    obtain ⟨rfl, hs⟩ := hb
    conv => whnf
    refine ⟨fun _ => ?_, fun h => absurd h (by first | decide | simp)⟩
    conv => whnf
    exact ⟨rfl, hs⟩
set_option maxHeartbeats 4000000 in
theorem saveL_ok {mm m p : Mem} {bf nb ns n s : Nat} {A B : List Af} {v : Value} {ps : List (Value × List Int)} (hg : Glob m) (hs : Split mm [p, m]) (h : FA p bf 0 nb ns A) (hk : Smx A nb ns) (hnb : nb ≤ 200000) (hns : ns ≤ 400) (hBl : B.length ≤ 9) (hA : rmA A tmpN = B) (hB : Low B n) (h1 : 1 ≤ n) (hn : n ≤ 999999) (hr : allRec (ps.map (·.2)) = true) (hv : LsA m v ps) (hbt : ∀ r ∈ ps, Byt r.2) (hlen : ps.length ≤ 5) (hsz : ∀ r ∈ ps, r.2.length ≤ 500) (hst : s ≤ 4) :
    Spec Tryz.prog 14 [ptrB bf, i64 n, .v v, i64 s] mm fun r m' => ∃ p' nb' ns', r = [i64 (stN s)] ∧ Split m' [p', m] ∧ FA p' bf 0 nb' ns' (stA B n (toN (Fr.cat (ps.map (·.2)))) A s) ∧ nb' ≤ nb + 12000 ∧ ns' ≤ ns + 4 := by
  have hpm : Sub p mm := hs.sub (by simp)
  have hmm : Sub m mm := hs.sub (by simp)
  have hR : ∀ r ∈ ps.map (·.2), Byt r := fun r hr => by obtain ⟨x, hx, rfl⟩ := List.mem_map.1 hr; exact hbt x hx
  have hcb := Fr.cat_byt hR
  have hcl : (Fr.cat (ps.map (·.2))).length ≤ 3000 := by
    have := cat_small (l := ps.map (·.2)) fun r hr => by obtain ⟨x, hx, rfl⟩ := List.mem_map.1 hr; exact hsz x hx
    rw [List.length_map] at this
    omega
  refine en14 rfl (goY ?_)
  conv => whnf
  refine xcall (begin_ok (hg.sub hmm) (h.grow hpm) hk.sm hk.nms (may_low hA hB h1 hn) (LsA.sub hv hmm) hbt (by omega) (fun r hr => by have := hsz r hr; omega)) ?_
  rintro r m1 hb
  rw [if_pos hr] at hb
  obtain ⟨bs, v', pv, rfl, hs1, hpv⟩ := hb
  have hs1 : Split m1 [blk1 bs (saveO bf n v' 1), pv, p, m] := hs1.under (a := [_, _]) hs
  have hnc := nc_toN hcb
  have h256 := toN_byt hcb
  have hlen' : (toN (Fr.cat (ps.map (·.2)))).length ≤ 3000 := by rw [toN_len]; exact hcl
  rw [← hnc] at hpv
  generalize toN (Fr.cat (ps.map (·.2))) = l at *
  conv => whnf
  refine ⟨fun h => absurd h (by first | decide | simp), fun _ => ?_⟩
  conv => whnf
  refine .mk (ι := Nat) (fun i => s - i) (fun i mi => i ≤ s ∧ ∃ p' nb' ns', Split mi [blk1 bs (saveO bf n v' (stN i)), pv, p', m] ∧ FA p' bf 0 nb' ns' (stA B n l A i) ∧ nb' ≤ nb + 3000 * i ∧ ns' ≤ ns + i) (fun i => [(3, .c (i64 s)), (9, .c (ptrB bs)), (11, .c (i64 (stN i))), (12, .c (i64 i))]) (fun _ => []) 0 ⟨by omega, p, nb, ns, hs1, h, by omega, by omega⟩ ?_ ?_
  · conv => whnf
    repeat (refine And.intro (by first | with_reducible rfl | exact congrArg (Value.int _) (wi (by omega) (by omega)) | exact wi (by omega) (by omega) | rfl) ?_; conv => whnf)
    first | exact trivial | exact fun _ _ h => h
  rintro i mi ⟨hi, p', nb', ns', hsi, hi', hnb', hns'⟩
  conv => whnf
  refine ⟨fun hc => ?_, fun hc => ?_⟩
  · have hlt : i < s := by have := of_decide_eq_true hc; omega
    clear hc
    have hx : Smx (stA B n l A i) nb' ns' := hk.st hBl hA hlen' (by omega) (by omega) i
    have hst4 : stN i ≤ 4 := by unfold stN; split <;> omega
    conv => whnf
    refine xcall (saveStep_spec hg hsi hpv hi' hx.sm h256 (by omega) (by decide) hx.nms h1 hn hst4) ?_
    rintro _ m2 ⟨p2, nb2, ns2, rfl, hs2, h2, hnb2, hns2⟩
    conv => whnf
    rw [step_st hA hB h1 hn (by omega)] at hs2 h2 ⊢
    refine ⟨fun h => absurd h (by simp), fun _ => ?_⟩
    conv => whnf
    refine ⟨i + 1, ⟨by omega, p2, nb2, ns2, hs2, h2, by omega, by omega⟩, by first | omega | (simp only; omega), ?_⟩
    conv => whnf
    repeat (refine And.intro (by first | with_reducible rfl | (first | exact congrArg (Value.int _) (iadd1 (by omega))) | exact congrArg (Value.int _) (wi (by omega) (by omega)) | exact wi (by omega) (by omega) | rfl) ?_; conv => whnf)
    first | exact trivial | exact fun _ _ h => h
  · have hc' := of_decide_eq_false hc
    obtain rfl : i = s := by omega
    conv => whnf
    exact ⟨p', nb', ns', rfl, hsi.drop.drop, hi', by omega, by omega⟩
end Go.E.YtgjlajcebcmbaaaGreatDoor

/-
  Texts that came in.
-/
namespace Go.E.YtgjlajcebcmbaaaGreatDoor
open Go.Proofs
set_option maxRecDepth 100000
theorem dat_text {m : Mem} {cs : List Value} (h : Dat m (.slice (.int .u8)) cs) : ∃ v l, cs = [v] ∧ La m v (nc l) ∧ ∀ x ∈ l, x < 256 := by
  obtain ⟨v, l, rfl, h1, h2, h3, h4⟩ := dat_sints h
  have hb : ∀ x ∈ l, 0 ≤ x ∧ x < 256 := fun x hx => wf_u8 (h3 x hx)
  have e : nc (l.map Int.toNat) = l := by
    simp only [nc, List.map_map]
    refine (List.map_congr_left fun x hx => ?_).trans (List.map_id _)
    have := hb x hx
    simp only [Function.comp, id]; omega
  refine ⟨v, l.map Int.toNat, rfl, ?_, fun x hx => ?_⟩
  · rw [e]
    rcases h1 with h1 | h1
    · exact .inl h1
    · exact .inr h1
  · obtain ⟨y, hy, rfl⟩ := List.mem_map.1 hx
    have := hb y hy; omega
theorem dat_texts {m : Mem} : ∀ {els : List (List Value)}, (∀ c ∈ els, Dat m (.slice (.int .u8)) c) → ∃ (vs : List Value) (ls : List (List Nat)), els.flatten = vs ∧ vs.length = els.length ∧ ls.length = els.length ∧ (∀ v ∈ vs, v.oneCell' = true) ∧ (∀ i (h1 : i < vs.length) (h2 : i < ls.length), La m vs[i] (nc ls[i])) ∧ ∀ l ∈ ls, ∀ x ∈ l, x < 256
  | [], _ => ⟨[], [], rfl, rfl, rfl, by simp, by intro i h; simp at h, by simp⟩
  | c :: els, h => by
    obtain ⟨v, l, rfl, h1, h2⟩ := dat_text (h c (by simp))
    obtain ⟨vs, ls, e1, e2, e3, e4, e5, e6⟩ := dat_texts (els := els) fun c hc => h c (by simp [hc])
    refine ⟨v :: vs, l :: ls, by simp [e1], by simp [e2], by simp [e3], ?_, ?_, ?_⟩
    · intro u hu
      rcases List.mem_cons.1 hu with rfl | hu
      · exact h1.one
      · exact e4 u hu
    · intro i hi1 hi2
      cases i with
      | zero => exact h1
      | succ i => exact e5 i (by simpa using hi1) (by simpa using hi2)
    · intro u hu
      rcases List.mem_cons.1 hu with rfl | hu
      · exact h2
      · exact e6 u hu
theorem val_agg {P : Program} {w : World} {r : Reach} {b0 k : Nat} {t e : TypeId} {v : Value} (hu : P.underlying t = some (.array k e)) (h : Value.okWide P w r b0 t v) : v = .agg (v.cells.toList ++ []).toArray := by
  unfold Value.okWide at h
  rw [hu] at h
  obtain ⟨cs, rfl, _⟩ := h
  simp [Value.cells]
end Go.E.YtgjlajcebcmbaaaGreatDoor

/-
  Files: new ones; an op.
-/
namespace Go.E.YtgjlajcebcmbaaaGreatDoor
open Go.Proofs
set_option maxRecDepth 100000
theorem new_neg {m : Mem} {q : Int} (h : q < 0) : Ret Tryz.prog 12 [i64 q] m [.v (.pointer none), i64 1] := by
  refine en12 rfl (goY ?_)
  conv => whnf
  refine ⟨fun _ => ?_, fun h => absurd h (by first | exact (by simpa using h) | (rw [decide_eq_true (by omega)] at h; cases h))⟩
  conv => whnf
  exact ⟨rfl, rfl⟩
theorem fs_new {m : Mem} {bf bm : Nat} {q : Int} (h : Split m [blk1 bf (filesO q bm 0 0), blk1 bm (mapF [] 0)]) : FA m bf q 0 0 [] := ⟨bm, 0, [], ⟨h, by simp, by simp, by simp⟩, rfl⟩
theorem new_spec {m : Mem} {q : Int} (h : 0 ≤ q) : Spec Tryz.prog 12 [i64 q] m fun r m' => ∃ bf p, r = [ptrB bf, i64 0] ∧ Split m' [p, m] ∧ FA p bf q 0 0 [] := by
  refine en12 rfl (goY ?_)
  conv => whnf
  refine ⟨fun h' => absurd (of_decide_eq_true h') (by omega), fun _ => ?_⟩
  conv => whnf
  refine .mk _ (makeMap_spec (enc := Value.string)) ?_
  rintro _ m1 ⟨bm, hbm, rfl, rfl⟩
  conv => whnf
  intro bf hbf
  conv => whnf
  have hs := ((Split.one m).new hbm (mapF [] 0)).new hbf (filesO q bm 0 0)
  have hs := hs.perm (l' := [m, blk1 bf (filesO q bm 0 0), blk1 bm (mapF [] 0)]) (by exact (List.Perm.cons _ (List.Perm.swap _ _ _)).trans (List.Perm.swap _ _ _))
  exact ⟨bf, _, rfl, (Split.rest hs).1, fs_new (Split.rest hs).2⟩
/-- an op -/
structure Opr where
  kind : Int
  n : Int
  name : ByteArray
  nto : ByteArray
  ab : Option Addr
  cb : Nat
  b : List Nat
  al : Option Addr
  cl : Nat
  last : List Int
abbrev Opr.vb (o : Opr) : Value := .slice o.ab o.b.length o.cb
abbrev Opr.vl (o : Opr) : Value := .slice o.al o.last.length o.cl
abbrev Opr.cells (o : Opr) : List Value := [.int .i64 o.kind, .int .i64 o.n, .string o.name, .string o.nto, .slice o.ab o.b.length o.cb, .slice o.al o.last.length o.cl]
abbrev Opr.cv (o : Opr) : CV := .a [.one (.int .i64 o.kind), .one (.int .i64 o.n), .one (.string o.name), .one (.string o.nto), .one (.slice o.ab o.b.length o.cb), .one (.slice o.al o.last.length o.cl)]
structure Opr.Ok (m : Mem) (o : Opr) : Prop where
  b : La m o.vb (nc o.b)
  byt : ∀ x ∈ o.b, x < 256
  l : Ia m o.vl o.last
  lI : ∀ x ∈ o.last, -9223372036854775808 ≤ x ∧ x ≤ 9223372036854775807
  nI : -9223372036854775808 ≤ o.n ∧ o.n ≤ 9223372036854775807
  ll : o.last.length ≤ 9223372036854775807
theorem oOk : EncOk Opr.cells 6 := ⟨fun _ => rfl, fun x u hu => by simp [Opr.cells] at hu; rcases hu with rfl | rfl | rfl | rfl | rfl | rfl <;> rfl, by decide⟩
/-- ops that lie somewhere, or none, wherever -/
def Oa (m : Mem) (v : Value) (O : List Opr) : Prop := Lies m 6 v (O.flatMap Opr.cells) ∨ (O = [] ∧ ∃ a, v = .slice (some a) 0 0)
theorem Oa.shape {m : Mem} {v : Value} {O : List Opr} (h : Oa m v O) : ∃ a c, v = .slice a O.length c := by
  rcases h with h | ⟨rfl, a, rfl⟩
  · exact oOk.shape h
  · exact ⟨_, _, rfl⟩
theorem Oa.sub {m m' : Mem} {v : Value} {O : List Opr} (h : Oa m v O) (hs : Sub m m') : Oa m' v O := h.imp (·.sub hs) id
theorem Oa.real {m : Mem} {v : Value} {O : List Opr} (h : Oa m v O) {i : Nat} (hi : i < O.length) : ∃ b o c, v = .slice (some ⟨b, o, none⟩) O.length c ∧ ∀ j (hj : j < O.length), MRange m b (o + j * 6) O[j].cells := by
  rcases h with h | ⟨rfl, _⟩
  · exact oOk.real h hi
  · simp at hi
abbrev shOp : Sh := .pair (.int .i64) (.pair (.int .i64) (.pair .str (.pair .str (.pair (.slice (.int .u8)) (.pair (.slice (.int .i64)) .unit)))))
theorem dat_last {m : Mem} {cs : List Value} (h : Dat m (.slice (.int .i64)) cs) : ∃ v l, cs = [v] ∧ Ia m v l ∧ (∀ x ∈ l, -9223372036854775808 ≤ x ∧ x ≤ 9223372036854775807) ∧ l.length ≤ 9223372036854775807 := by
  obtain ⟨v, l, rfl, h1, h2, h3, h4⟩ := dat_sints h
  exact ⟨v, l, rfl, h1, fun x hx => wf_i64 (h3 x hx), h4⟩
theorem dat_op {m : Mem} {cs : List Value} (h : Dat m shOp cs) : ∃ o : Opr, cs = o.cells ∧ o.Ok m := by
  obtain ⟨_, _, rfl, ⟨n1, rfl, _⟩, _, _, rfl, ⟨n2, rfl, h2⟩, _, _, rfl, ⟨s1, rfl, _⟩, _, _, rfl, ⟨s2, rfl, _⟩, _, _, rfl, h5, _, _, rfl, h6, h7⟩ := h
  simp only [Dat] at h7
  subst h7
  obtain ⟨v, l, rfl, e1, e2⟩ := dat_text h5
  obtain ⟨w, k, rfl, g1, g2, g3⟩ := dat_last h6
  obtain ⟨a, c, rfl⟩ := e1.shape
  obtain ⟨a', c', rfl⟩ := g1.shape
  rw [nc_len] at e1 ⊢
  exact ⟨⟨n1, n2, s1, s2, a, c, l, a', c', k⟩, rfl, e1, e2, g1, g2, wf_i64 h2, g3⟩
theorem dat_op_rows {m : Mem} : ∀ {els : List (List Value)}, (∀ c ∈ els, Dat m shOp c) → ∃ O : List Opr, els.flatten = O.flatMap Opr.cells ∧ O.length = els.length ∧ ∀ o ∈ O, o.Ok m
  | [], _ => ⟨[], rfl, rfl, by simp⟩
  | c :: els, h => by
    obtain ⟨e, rfl, he⟩ := dat_op (h c (by simp))
    obtain ⟨E, h1, h2, h3⟩ := dat_op_rows (els := els) fun c hc => h c (by simp [hc])
    refine ⟨e :: E, by rw [List.flatten_cons, List.flatMap_cons, h1], by simp [h2], fun o ho => ?_⟩
    rcases List.mem_cons.1 ho with rfl | ho
    · exact he
    · exact h3 o ho
theorem dat_ops {m : Mem} {cs : List Value} (h : Dat m (.slice shOp) cs) : ∃ v O, cs = [v] ∧ Oa m v O ∧ (∀ o ∈ O, o.Ok m) ∧ O.length ≤ 9223372036854775807 := by
  obtain ⟨v, els, rfl, h1, h2, h3, h4⟩ := h
  obtain ⟨E, e1, e2, e3⟩ := dat_op_rows h3
  refine ⟨v, E, rfl, ?_, e3, by rw [e2]; exact h4⟩
  rcases h1 with h1 | ⟨rfl, a, rfl⟩
  · rw [e1] at h1; exact .inl h1
  · exact .inr ⟨List.eq_nil_of_length_eq_zero (by simpa using e2), a, rfl⟩
/-- of what may be small enough -/
def Opr.Small (o : Opr) : Prop := o.b.length ≤ 500 ∧ o.name.size ≤ 100 ∧ o.nto.size ≤ 100
theorem great_spec {m : Mem} {o : Opr} (h : o.Ok m) : Spec Tryz.prog 34 [o.cv] m fun r m' => ∃ b, r = [boolV b] ∧ Sub m m' ∧ (b = false → o.Small) := by
  obtain ⟨kind, n, name, nto, ab, cb, b, al, cl, last⟩ := o
  unfold Opr.Small
  refine en34 rfl (goY ?_)
  conv => whnf
  refine ⟨fun h1 => ?_, fun h1 => ?_⟩
  · conv => whnf
    exact ⟨_, rfl, Sub.refl _, fun h => (by cases h)⟩
  · conv => whnf
    refine ⟨fun h2 => ?_, fun h2 => ?_⟩
    · conv => whnf
      exact ⟨_, rfl, Sub.refl _, fun h => (by cases h)⟩
    · conv => whnf
      refine ⟨_, rfl, Sub.refl _, fun h3 => ?_⟩
      have h1 := of_decide_eq_false h1
      have h2 := of_decide_eq_false h2
      have h3 := of_decide_eq_false h3
      simp only at h1 h2 h3 ⊢
      omega
/-- what an op comes to -/
structure Did (p : Mem) (bf : Nat) (q : Int) (k nb ns : Nat) (A A' : List Af) : Prop where
  fa : FA p bf q nb ns A'
  sm : Sm (k + 1) A' nb ns
  tot : 0 < q → (totA A : Int) ≤ q → (totA A' : Int) ≤ q
end Go.E.YtgjlajcebcmbaaaGreatDoor

/-
  Files: what must come of fixed calls.
-/
namespace Go.E.YtgjlajcebcmbaaaGreatDoor
open Go.Proofs
set_option maxRecDepth 100000
theorem make8_spec {m : Mem} : PrimSpec Tryz.prog (.makeSlice 37) [.v (.int .i64 8), .v (.int .i64 8)] m fun r m' => ∃ b, m b = none ∧ r = [.v (.slice (some ⟨b, 0, none⟩) 8 8)] ∧ m' = m.set b (.cells (bc (List.replicate 8 0)).toArray 5) := by
  intro _ ty W hW
  obtain ⟨j, hj, hjs, hjb, z, hz, hzc⟩ := (tt_ok _ _ hU8).inf
  have hu := (tt_ok _ _ hBs).slice rfl
  have hr := run_makeSlice W 37 5 j z hu hj hz .i64 .i64 8 8 (by decide) (by decide) (by rw [hjs]; decide) (by rw [hjb]; decide) (by decide)
  rw [hjs, hzc] at hr
  refine ⟨[.v (.slice (some ⟨W.heap.size, 0, none⟩) 8 8)], m.set W.heap.size (.cells (bc (List.replicate 8 0)).toArray 5), W.alloc (.cells (bc (List.replicate 8 0)).toArray 5), ?_, ?_, ⟨W.heap.size, hW.none (Nat.le_refl _), rfl, rfl⟩, (After.refl hW).alloc _⟩
  · simp [Prim.run, Prim.out, Prim.tup, cond_false, resVal, CV.val, hr]
    exact congrArg (fun c => W.alloc (.cells c 5)) (by kernel_rfl)
  · intro x hx
    simp at hx; subst hx; rfl
/-- what stands beside, taken with what was there -/
theorem Split.side {mm b p m : Mem} (h : Split mm [b, p, m]) : ∃ q, Sub b q ∧ Sub m q ∧ Split mm [p, q] ∧ ∀ m' p', Split m' [p', q] → Split m' [p', m] := by
  have h1 := h.perm (l' := [p, b, m]) (List.Perm.swap _ _ _)
  obtain ⟨h2, h3⟩ := Split.rest h1
  exact ⟨allM [b, m], h3.sub (by simp), h3.sub (by simp), h2.perm (List.Perm.swap _ _ _), fun m' p' h4 => by
    have h5 : Split m' [p', b, m] := Split.under (a := [p']) h4 h3
    exact (h5.perm (l' := [b, p', m]) (List.Perm.swap _ _ _)).drop⟩
abbrev nmA : ByteArray := ⟨#[97]⟩
abbrev nmB : ByteArray := ⟨#[98]⟩
abbrev nmX : ByteArray := ⟨#[98, 46, 120]⟩
theorem srtB_one (x : ByteArray) : srtB [x] = [x] := List.perm_singleton.1 (srtB_same [x])
theorem al_1 {e : Int} {A' : List Af} {nb' : Nat} (h : AppR [] nmA [97, 98] 10 e A' 0 nb') : e = 0 ∧ A' = [⟨nmA, [97, 98], 0⟩] ∧ nb' = 2 := by
  rw [AppR, if_neg (by decide +kernel), if_neg (by decide +kernel)] at h
  exact h
theorem al_2 : syncA [⟨nmA, [97, 98], 0⟩] nmA = [⟨nmA, [97, 98], 2⟩] := by simp [syncA]
theorem al_2e : errA [⟨nmA, [97, 98], 0⟩] nmA = 0 ∧ (fileA [⟨nmA, [97, 98], 0⟩] nmA).isSome = true := by simp [errA, fileA]
theorem al_3 {e : Int} {A' : List Af} {nb' : Nat} (h : AppR [⟨nmA, [97, 98], 2⟩] nmA [99, 100] 10 e A' 2 nb') : e = 0 ∧ A' = [⟨nmA, [97, 98, 99, 100], 2⟩] ∧ nb' = 4 := by
  rw [AppR, if_neg (by decide +kernel), if_neg (by decide +kernel)] at h
  obtain ⟨h1, h2, h3⟩ := h
  exact ⟨h1, by rw [h2]; simp [appA], h3⟩
theorem al_4 : crashA [⟨nmA, [97, 98, 99, 100], 2⟩] [1] = [⟨nmA, [97, 98, 99], 3⟩] := by
  simp only [crashA, List.map_cons, List.map_nil, srtB_one, List.length_cons, List.length_nil, crashTo, crash1]
  simp [lastN]
  decide
theorem al_5 : errA [⟨nmA, [97, 98, 99], 3⟩] nmA = 0 ∧ (((fileA [⟨nmA, [97, 98, 99], 3⟩] nmA).map (·.l)).getD []) = [97, 98, 99] := by simp [errA, fileA]
theorem al_6 {e : Int} {A' : List Af} {nb' : Nat} (h : AppR [⟨nmA, [97, 98, 99], 3⟩] nmB (List.replicate 8 0) 10 e A' 4 nb') : e = 5 ∧ A' = [⟨nmA, [97, 98, 99], 3⟩] ∧ nb' = 4 := by
  rw [AppR, if_neg (by decide +kernel), if_pos (by decide +kernel)] at h
  exact h
theorem al_7 : renEA [⟨nmA, [97, 98, 99], 3⟩] nmA nmX = 0 ∧ renA [⟨nmA, [97, 98, 99], 3⟩] nmA nmX = [⟨nmX, [97, 98, 99], 3⟩] := by
  have h : nameOk (chs nmX) = true := by decide +kernel
  simp [renEA, renA, fileA, h, rmA, putA]
theorem al_8 : totA [⟨nmX, [97, 98, 99], 3⟩] = 3 ∧ ((fileA [⟨nmX, [97, 98, 99], 3⟩] nmX).map (·.safe)).getD 0 = 3 ∧ errA [⟨nmX, [97, 98, 99], 3⟩] nmA = 4 := by
  have h : ¬ nmA = nmX := by decide +kernel
  simp [totA, errA, fileA, h]
theorem sm_al {k : Nat} {A : List Af} {nb ns : Nat} (h1 : A.all (fun a => decide (a.l.length ≤ 500)) = true) (h2 : A.length ≤ 1) (h3 : nb ≤ 500) (h4 : ns ≤ 1) : Sm 1 A nb ns :=
  ⟨fun a ha => by have := List.all_eq_true.1 h1 a ha; simpa using this, h2, by omega, h4, by omega⟩
end Go.E.YtgjlajcebcmbaaaGreatDoor
