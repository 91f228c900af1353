/-
  FrB, FrC, KeyR, Sn19, Sn20, Sn21, FrD, Sn22, Sn23, Sn24
-/
import Derived.Test.YtgjlajcebcmbaaaGreatDoorSnapLivesZ12
/-
  The document's files, and the given ones: each op keeps them the same.
-/
namespace Go.E.YtgjlajcebcmbaaaGreatDoor
open Go.Proofs
set_option maxRecDepth 100000
section
variable {A : List Af} {L : List Rf}
theorem same_get {name : ByteArray} {i : Nat} {x : Rf} (hf : fileR L name = some i) (hx : L[i]? = some x) : x.name = name := by
  obtain ⟨x', hx', hxn⟩ := fileR_get hf
  rw [hx] at hx'
  cases hx'
  exact hxn
theorem erase_filter (h : Lk A L) {name : ByteArray} {i : Nat} (hf : fileR L name = some i) : L.eraseIdx i = L.filter fun r => !decide (r.name = name) := by
  obtain ⟨x, hx, hxn⟩ := fileR_get hf
  obtain ⟨hi, hx⟩ := List.getElem?_eq_some_iff.1 hx
  rw [List.eraseIdx_eq_take_drop_succ]
  have h0 : L = L.take i ++ x :: L.drop (i + 1) := by rw [← hx, List.getElem_cons_drop, List.take_append_drop]
  have hnd := h.nd
  rw [h0] at hnd
  obtain ⟨h1, h2, h3⟩ := List.pairwise_append.1 hnd
  have h4 := (List.pairwise_cons.1 h2).1
  conv => rhs; rw [h0]
  rw [List.filter_append, List.filter_cons, if_neg (by simp [hxn])]
  rw [List.filter_eq_self.2 fun a ha => by have := h3 a ha x (by simp); rw [hxn] at this; simpa using this, List.filter_eq_self.2 fun a ha => by have := h4 a ha; rw [hxn] at this; simpa using fun e : a.name = name => this e.symm]
theorem Lk.rm (h : Lk A L) (name : ByteArray) : Lk (rmA A name) (dropR L name) ∧ fileR (dropR L name) name = none := by
  unfold dropR
  cases hf : fileR L name with
  | none =>
    have h1 := fileR_none.1 hf
    have : rmA A name = A := List.filter_eq_self.2 fun a ha => by
      obtain ⟨r, hr, rfl⟩ := h.mem.1 ha
      simp only [Bool.not_eq_true']
      exact decide_eq_false (h1 r hr)
    rw [this]
    exact ⟨h, hf⟩
  | some i =>
    simp only
    rw [erase_filter h hf]
    refine ⟨⟨?_, h.s.filter _, fun r hr => h.n r (List.mem_filter.1 hr).1⟩, fileR_none.2 fun r hr => by simpa using (List.mem_filter.1 hr).2⟩
    have := h.p.filter fun a => !decide (a.name = name)
    rw [rmA]
    refine this.trans (.of_eq ?_)
    rw [List.filter_map]
    rfl
theorem dropR_some {name : ByteArray} {i : Nat} (hf : fileR L name = some i) : dropR L name = L.eraseIdx i := by rw [dropR, hf]
theorem Lk.cut (h : Lk A L) {name : ByteArray} {n e : Int} {L' : List Rf} (hr : CutRR L name n e L') : e = cutEA A name n ∧ Lk (cutRA A name n) L' := by
  unfold CutRR at hr
  unfold cutEA cutRA
  cases hf : fileR L name with
  | none =>
    rw [hf] at hr
    obtain ⟨rfl, rfl⟩ := hr
    rw [h.hasNo hf]
    exact ⟨rfl, h⟩
  | some i =>
    rw [hf] at hr
    obtain ⟨x, hx, hr⟩ := hr
    have hxn := same_get hf hx
    rw [h.has hf hx]
    have e1 : ((afR x).l.length : Int) = x.b.size := by simp [afR, chs]
    simp only [e1]
    split at hr
    · rename_i hc
      rw [if_pos hc, if_pos hc]
      obtain ⟨rfl, rfl⟩ := hr
      refine ⟨rfl, ?_⟩
      refine h.upd (y := ⟨x.name, x.b.extract 0 n.toNat, min x.safe n.toNat⟩) hf hx rfl ?_ fun a ha => if_neg ha
      rw [if_pos (show (afR x).name = name from hxn)]
      simp [afR, chs, ByteArray.data_extract, List.extract, List.map_take]
    · rename_i hc
      rw [if_neg hc, if_neg hc]
      obtain ⟨rfl, rfl⟩ := hr
      exact ⟨rfl, h⟩
/-- one more, of another name -/
theorem putR_perm (x : Rf) : (putR L x).Perm (x :: L) := by
  rw [putR]
  have : (L.take (aheadR L x.name) ++ [x] ++ L.drop (aheadR L x.name)).Perm ([x] ++ (L.take (aheadR L x.name) ++ L.drop (aheadR L x.name))) := by
    rw [List.append_assoc]
    refine (List.perm_append_comm_assoc _ _ _).trans ?_
    exact .refl _
  refine this.trans ?_
  rw [List.take_append_drop]
  exact .refl _
theorem ahead_lt {x : ByteArray} : ∀ {L : List Rf}, ∀ r ∈ L.take (aheadR L x), encB r.name < encB x
  | [], r, hr => by simp at hr
  | a :: L, r, hr => by
    rw [aheadR, List.takeWhile_cons] at hr
    by_cases h : encB a.name < encB x
    · rw [if_pos (by simpa using h), List.length_cons, List.take_succ_cons] at hr
      rcases List.mem_cons.1 hr with rfl | hr
      · exact h
      · exact ahead_lt r hr
    · rw [if_neg (by simpa using h)] at hr
      simp at hr
theorem ahead_ge {x : ByteArray} : ∀ {L : List Rf}, L.Pairwise (fun a b => encB a.name < encB b.name) → ∀ r ∈ L.drop (aheadR L x), ¬ encB r.name < encB x
  | [], _, r, hr => by simp at hr
  | a :: L, hp, r, hr => by
    obtain ⟨h1, h2⟩ := List.pairwise_cons.1 hp
    rw [aheadR, List.takeWhile_cons] at hr
    by_cases h : encB a.name < encB x
    · rw [if_pos (by simpa using h), List.length_cons, List.drop_succ_cons] at hr
      exact ahead_ge h2 r hr
    · rw [if_neg (by simpa using h)] at hr
      simp only [List.length_nil, List.drop_zero] at hr
      rcases List.mem_cons.1 hr with rfl | hr
      · exact h
      · exact fun k => h (ltB_trans (h1 r hr) k)
theorem Lk.put (h : Lk A L) {x : Rf} (hf : fileR L x.name = none) (hx : x.name.size ≤ 1000000) : Lk (afR x :: A) (putR L x) := by
  have h1 := fileR_none.1 hf
  refine ⟨?_, ?_, fun r hr => ?_⟩
  · refine (List.Perm.cons _ h.p).trans ?_
    exact ((putR_perm x).map afR).symm
  · have hs : (L.take (aheadR L x.name) ++ L.drop (aheadR L x.name)).Pairwise fun a b => encB a.name < encB b.name := by rw [List.take_append_drop]; exact h.s
    obtain ⟨g1, g2, g3⟩ := List.pairwise_append.1 hs
    rw [putR, List.append_assoc]
    refine List.pairwise_append.2 ⟨g1, List.pairwise_cons.2 ⟨fun r hr => ?_, g2⟩, fun a ha b hb => ?_⟩
    · have := ahead_ge h.s r hr
      exact ltB_tot this fun e => h1 r (List.mem_of_mem_drop hr) (encB_inj e)
    · rcases List.mem_cons.1 hb with rfl | hb
      · exact ahead_lt a ha
      · exact g3 a ha b hb
  · rcases put_mem.1 hr with rfl | hr
    · exact hx
    · exact h.n r hr
theorem Lk.perm (h : Lk A L) {A' : List Af} (hp : A'.Perm A) : Lk A' L := ⟨hp.trans h.p, h.s, h.n⟩
theorem appA_add {name : ByteArray} {lb : List Nat} : ∀ {A : List Af}, (∀ a ∈ A, a.name ≠ name) → appA A name lb = A ++ [⟨name, lb, 0⟩]
  | [], _ => rfl
  | a :: A, h => by
    rw [appA, if_neg fun e => h a (by simp) e.symm, appA_add fun x hx => h x (by simp [hx])]; rfl
theorem appA_map {name : ByteArray} {lb : List Nat} : ∀ {A : List Af}, A.Pairwise (fun a b => a.name ≠ b.name) → (∃ a ∈ A, a.name = name) → appA A name lb = A.map fun a => if a.name = name then { a with l := a.l ++ lb } else a
  | [], _, h => by obtain ⟨a, ha, _⟩ := h; cases ha
  | a :: A, hp, h => by
    obtain ⟨h1, h2⟩ := List.pairwise_cons.1 hp
    rw [appA, List.map_cons]
    by_cases e : name = a.name
    · rw [if_pos e, if_pos e.symm]
      congr 1
      refine ((List.map_congr_left fun x hx => ?_).trans (List.map_id A)).symm
      exact if_neg fun e' => h1 x hx (by rw [e', e])
    · rw [if_neg e, if_neg (Ne.symm e)]
      congr 1
      refine appA_map h2 ?_
      obtain ⟨b, hb, hbn⟩ := h
      rcases List.mem_cons.1 hb with rfl | hb
      · exact absurd hbn.symm e
      · exact ⟨b, hb, hbn⟩
theorem chs_append (a b : ByteArray) : chs (a ++ b) = chs a ++ chs b := by simp [chs]
theorem Lk.app (h : Lk A L) {name s : ByteArray} {i : Nat} {x : Rf} (hx : name.size ≤ 1000000) (hf : fileR (addR L name) name = some i) (hg : (addR L name)[i]? = some x) : Lk (appA A name (chs s)) ((addR L name).set i { x with b := x.b ++ s }) := by
  cases h0 : fileR L name with
  | some k =>
    have e1 : addR L name = L := by rw [addR, h0]; rfl
    rw [e1] at hf hg ⊢
    have hxn := same_get hf hg
    rw [appA_map h.ndA ⟨afR x, h.mem.2 ⟨x, List.mem_of_getElem? hg, rfl⟩, hxn⟩]
    refine h.upd (y := { x with b := x.b ++ s }) hf hg rfl ?_ fun a ha => if_neg ha
    rw [if_pos (show (afR x).name = name from hxn)]
    simp [afR, chs_append]
  | none =>
    have e1 : addR L name = putR L ⟨name, ByteArray.empty, 0⟩ := by rw [addR, h0]; rfl
    have h1 := h.put (x := ⟨name, ByteArray.empty, 0⟩) h0 hx
    rw [e1] at hf hg ⊢
    have hfp := fileR_put (x := ⟨name, ByteArray.empty, 0⟩) h0
    rw [hfp] at hf
    cases hf
    have hgp := put_get L ⟨name, ByteArray.empty, 0⟩
    rw [hgp] at hg
    cases hg
    have hno : ∀ a ∈ A, a.name ≠ name := fun a ha => by
      obtain ⟨r, hr, rfl⟩ := h.mem.1 ha
      exact fileR_none.1 h0 r hr
    rw [appA_add hno]
    have h2 := h1.upd (y := ⟨name, ByteArray.empty ++ s, 0⟩) (g := fun a => if a.name = name then { a with l := a.l ++ chs s } else a) hfp hgp rfl (by rw [if_pos (show (afR _).name = name from rfl)]; simp [afR, chs_append, chs]) fun a ha => if_neg ha
    refine h2.perm ?_
    have e2 : A.map (fun a : Af => if a.name = name then { a with l := a.l ++ chs s } else a) = A := (List.map_congr_left fun a ha => if_neg (hno a ha)).trans (List.map_id A)
    rw [List.map_cons, e2, if_pos (show (afR _).name = name from rfl)]
    refine List.perm_append_comm.trans (.of_eq ?_)
    simp [afR, chs]
theorem putA_add {x : Af} {name : ByteArray} : ∀ {A : List Af}, (∀ a ∈ A, a.name ≠ name) → putA x name A = A ++ [{ x with name := name }]
  | [], _ => rfl
  | a :: A, h => by
    rw [putA, if_neg fun e => h a (by simp) e.symm, putA_add fun x hx => h x (by simp [hx])]; rfl
theorem putA_perm {x : Af} {name : ByteArray} : ∀ {A : List Af}, A.Pairwise (fun a b => a.name ≠ b.name) → (putA x name A).Perm ({ x with name := name } :: rmA A name)
  | [], _ => .refl _
  | a :: A, hp => by
    obtain ⟨h1, h2⟩ := List.pairwise_cons.1 hp
    rw [putA, rmA, List.filter_cons]
    by_cases e : name = a.name
    · rw [if_pos e, if_neg (by simp [e])]
      refine .of_eq ?_
      congr 1
      exact (List.filter_eq_self.2 fun b hb => by have := h1 b hb; rw [← e] at this; simpa using fun e : b.name = name => this e.symm).symm
    · rw [if_neg e, if_pos (by simpa using Ne.symm e)]
      refine (List.Perm.cons _ (putA_perm h2)).trans ?_
      exact List.Perm.swap _ _ _
theorem Lk.ren (h : Lk A L) {a b : ByteArray} {e : Int} {L' : List Rf} (hb : b.size ≤ 1000000) (hr : RenR L a b e L') : e = renEA A a b ∧ Lk (renA A a b) L' := by
  unfold RenR at hr
  unfold renEA renA
  cases hf : fileR L a with
  | none =>
    rw [hf] at hr
    obtain ⟨rfl, rfl⟩ := hr
    rw [h.hasNo hf]
    exact ⟨rfl, h⟩
  | some i =>
    rw [hf] at hr
    simp only at hr
    split at hr
    · rename_i hn
      obtain ⟨rfl, rfl⟩ := hr
      obtain ⟨x, hx, _⟩ := fileR_get hf
      rw [h.has hf hx]
      simp only [hn]
      exact ⟨by simp, by simpa using h⟩
    · rename_i hn
      obtain ⟨rfl, x, hx, rfl⟩ := hr
      rw [h.has hf hx]
      have hn : nameOk (chs b) = true := by simpa using hn
      simp only [hn, if_true]
      refine ⟨trivial, ?_⟩
      have h1 := (h.rm a).1
      rw [dropR_some hf] at h1
      obtain ⟨h2, h3⟩ := h1.rm b
      exact (h2.put (x := { x with name := b }) h3 hb).perm (putA_perm h1.ndA)
theorem fileR_at (h : Lk A L) {i : Nat} {x : Rf} (hx : L[i]? = some x) : fileR L x.name = some i := by
  obtain ⟨hi, hx⟩ := List.getElem?_eq_some_iff.1 hx
  rw [fileR, List.findIdx?_eq_some_iff_getElem]
  refine ⟨hi, by rw [hx]; simp, fun j hj => ?_⟩
  have := List.pairwise_iff_getElem.1 h.nd j i (by omega) hi hj
  rw [hx] at this
  simpa using this
theorem Lk.crashTo {last : List Int} (h : Lk A L) (hs : ∀ r ∈ L, r.safe ≤ r.b.size) : ∀ i, i ≤ L.length → Lk (crashTo (L.map (·.name)) last A i) (crashToR L last i)
  | 0, _ => by rw [crashToR_zero]; exact h
  | i + 1, hi => by
    have ih := Lk.crashTo (last := last) h hs i (by omega)
    have hi1 : i < L.length := by omega
    have hgd : (L.map (·.name)).getD i ByteArray.empty = L[i].name := by rw [List.getD_eq_getElem?_getD, List.getElem?_map, List.getElem?_eq_getElem hi1]; rfl
    have hg : (crashToR L last i)[i]? = some L[i] := by
      rw [List.getElem?_eq_getElem (by rw [crashToR_len]; exact hi1), crashToR_at]
    have hf := fileR_at ih hg
    have hsx := hs _ (List.getElem_mem hi1)
    rw [Go.E.YtgjlajcebcmbaaaGreatDoor.crashTo, hgd, crashToR_succ hi1, crash1]
    refine ih.upd (y := crash1R L[i] (last.getD i 0)) hf hg rfl ?_ fun a ha => if_neg ha
    rw [if_pos (show (afR L[i]).name = L[i].name from rfl)]
    have e1 : lastN (afR L[i]) (last.getD i 0) = lastR L[i] (last.getD i 0) := by
      simp only [lastN, lastR, afR, chs_len]
    rw [e1]
    simp [afR, crash1R, chs, ByteArray.data_extract, List.extract, List.map_take]
theorem Lk.crash {last : List Int} (h : Lk A L) (hs : ∀ r ∈ L, r.safe ≤ r.b.size) : Lk (crashA A last) (crashToR L last L.length) := by
  rw [crashA, h.names, h.len]
  exact h.crashTo hs _ (Nat.le_refl _)
end
end Go.E.YtgjlajcebcmbaaaGreatDoor

/-
  An op, of both.
-/
namespace Go.E.YtgjlajcebcmbaaaGreatDoor
open Go.Proofs
set_option maxRecDepth 100000
theorem chs_str {l : List Nat} (h : ∀ x ∈ l, x < 256) : chs (strOf (nc l)) = l := by
  rw [chs, strOf_data, by8, nc, List.map_map, List.map_map]
  refine (List.map_congr_left fun x hx => ?_).trans (List.map_id l)
  have := h x hx
  simp [Function.comp, UInt8.toNat_ofNat', Nat.mod_eq_of_lt this]
theorem Lk.sizes {A : List Af} {L : List Rf} {k nb ns : Nat} (h : Lk A L) (hk : Sm k A nb ns) (hs : ∀ a ∈ A, a.safe ≤ a.l.length) : L.length ≤ 100000 ∧ usedR L ≤ 1000000000 ∧ (∀ r ∈ L, r.b.size ≤ 1000000000 ∧ r.safe ≤ r.b.size) ∧ nb ≤ 1000000000 ∧ ns ≤ 1000000000 := by
  have h1 := hk.n
  have h2 := hk.k
  have h3 := hk.nb
  have h4 := hk.ns
  have h5 := hk.tot
  rw [h.len] at h1
  rw [h.tot] at h5
  refine ⟨by omega, by omega, fun r hr => ?_, by omega, by omega⟩
  have ha := h.mem.2 ⟨r, hr, rfl⟩
  have e1 := hk.l _ ha
  have e2 := hs _ ha
  simp only [afR, chs_len] at e1 e2
  omega
theorem str_chs (s : ByteArray) : strOf (nc (chs s)) = s := by
  have h := strOf_data (nc (chs s))
  have e : by8 (nc (chs s)) = s.data.toList := by
    rw [by8, nc, chs, List.map_map, List.map_map]
    refine (List.map_congr_left fun x _ => ?_).trans (List.map_id _)
    simp [Function.comp]
  rw [e] at h
  exact encB_inj h
theorem Lk.text {A : List Af} {L : List Rf} (h : Lk A L) (name : ByteArray) : strOf (nc (((fileA A name).map (·.l)).getD [])) = ((fileR L name).bind fun i => L[i]?.map (·.b)).getD ByteArray.empty := by
  rw [h.file]
  cases hf : fileR L name with
  | none => rfl
  | some i =>
    obtain ⟨x, hx, _⟩ := fileR_get hf
    simp only [Option.bind_some, hx, Option.map_some, Option.getD_some, afR]
    exact str_chs _
theorem Bs.storeX {p : Mem} {b o n c k : Nat} {l : List Int} (h : Bs p (.slice (some ⟨b, o, none⟩) n c) l) (hk : k < l.length) :
    ∃ arr, p b = some (.cells arr 5 (0, 0)) ∧ o + k < arr.size ∧ ∀ x, Bs (p.set b (.cells (arr.setIfInBounds (o + k) (.int .u8 x)) 5 (0, 0))) (.slice (some ⟨b, o, none⟩) n c) (l.set k x) := by
  obtain ⟨arr, h1, h2, _⟩ := Bs.store (x := 0) h hk
  refine ⟨arr, h1, h2, fun x => ?_⟩
  obtain ⟨arr', g1, _, g3⟩ := Bs.store (x := x) h hk
  rw [h1] at g1
  cases g1
  exact g3
theorem Lk.appBoth {A A' : List Af} {L L' : List Rf} {name s : ByteArray} {lb : List Nat} {q e e' : Int} {nb nb1 nb2 : Nat} (h : Lk A L) (hx : name.size ≤ 1000000) (hs : chs s = lb) (hr : AppR A name lb q e A' nb nb1)
    (hr' : if nameOk (chs name) = false then e' = 1 ∧ L' = L ∧ nb2 = nb else if 0 < q ∧ q < usedR L + s.size then e' = 5 ∧ L' = L ∧ nb2 = nb else e' = 0 ∧ nb2 = nb + s.size ∧ ∃ i x, fileR (addR L name) name = some i ∧ (addR L name)[i]? = some x ∧ L' = (addR L name).set i { x with b := x.b ++ s }) : e = e' ∧ nb1 = nb2 ∧ Lk A' L' := by
  unfold AppR at hr
  have hz : lb.length = s.size := by rw [← hs, chs_len]
  have ht := h.tot
  by_cases h1 : nameOk (chs name) = false
  · rw [if_pos h1] at hr hr'
    obtain ⟨rfl, rfl, rfl⟩ := hr
    obtain ⟨rfl, rfl, rfl⟩ := hr'
    exact ⟨rfl, rfl, h⟩
  rw [if_neg h1] at hr hr'
  by_cases h2 : 0 < q ∧ q < usedR L + s.size
  · rw [if_pos (by omega)] at hr
    rw [if_pos h2] at hr'
    obtain ⟨rfl, rfl, rfl⟩ := hr
    obtain ⟨rfl, rfl, rfl⟩ := hr'
    exact ⟨rfl, rfl, h⟩
  · rw [if_neg (by omega)] at hr
    rw [if_neg h2] at hr'
    obtain ⟨rfl, rfl, rfl⟩ := hr
    obtain ⟨rfl, rfl, i, x, h3, h4, rfl⟩ := hr'
    refine ⟨rfl, by rw [hz], ?_⟩
    rw [← hs]
    exact h.app hx h3 h4
/-- both, in parts of their own -/
structure Both (pf px : Mem) (bf bx : Nat) (q : Int) (k nb ns : Nat) (A : List Af) (L : List Rf) : Prop where
  f : FA pf bf q nb ns A
  x : FR px bx q nb ns L
  lk : Lk A L
  sm : Sm k A nb ns
end Go.E.YtgjlajcebcmbaaaGreatDoor

/-
  Which keys may be.
-/
namespace Go.E.YtgjlajcebcmbaaaGreatDoor
open Go.Proofs
set_option maxRecDepth 100000
def isB (c : Nat) : Bool := (decide (97 ≤ c) && decide (c ≤ 122)) || (decide (48 ≤ c) && decide (c ≤ 57)) || decide (c = 45)
def keyOk (l : List Nat) : Bool := decide (0 < l.length) && decide (l.length ≤ 20) && l.all isB
theorem chs_at (s : ByteArray) (i : Nat) : (s.data.toList.getD i 0).toNat = (chs s).getD i 0 := by
  simp only [chs, List.getD_eq_getElem?_getD, List.getElem?_map]
  cases s.data.toList[i]? <;> rfl
theorem hStr : ∃ ti, tt.get 9 = some ti := ⟨_, rfl⟩
theorem convS {m : Mem} {s : ByteArray} : PrimSpec Tryz.prog (.conv 9 37) [.v (.string s)] m fun r m' => ∃ v, r = [.v v] ∧ Sub m m' ∧ La m' v (nc (chs s)) :=
  (convStr_spec tt_ok hStr.choose_spec hBs rfl hU8 rfl).mono fun _ _ ⟨_, _, _, h0, h1, h2, h3⟩ => ⟨_, h1, by rw [h2]; exact Mem.sub_set _ h0, h3.la⟩
end Go.E.YtgjlajcebcmbaaaGreatDoor

/-
  Snapshots as the document has them: numbers, the last one.
-/
namespace Go.E.YtgjlajcebcmbaaaGreatDoor
open Go.Proofs
set_option maxRecDepth 100000
set_option maxHeartbeats 4000000 in
theorem refNumbers_spec {m : Mem} {bx : Nat} {q : Int} {nb ns : Nat} {L : List Rf} {v : Value} (h : RM m bx q nb ns L v) (hl : L.length ≤ 100000) (hn : ∀ r ∈ L, r.name.size ≤ 1000000) : Spec Tryz.prog 26 [ptrB bx] m fun r m' => ∃ v' p, r = [.v v'] ∧ Split m' [p, m] ∧ Io p v' (nc (numsN (L.map (·.name)))) := by
  obtain ⟨a, c, rfl⟩ := rfOk.shape h.lies
  refine en26 rfl (goY ?_)
  conv => whnf
  refine .mk (ι := Nat × Value) (fun i => L.length - i.1) (fun ⟨i, y⟩ mm => i ≤ L.length ∧ ∃ p', Split mm [p', m] ∧ Io p' y (nc (numsN ((L.take i).map (·.name))))) (fun ⟨i, y⟩ => [(0, .c (ptrB bx)), (3, .c (.v y)), (4, .c (i64 i))]) (fun _ => []) (0, .slice none 0 0) ⟨by simp, emp, (Split.one m).addEmp, Io.nil _⟩ ?_ ?_
  · conv => whnf
    repeat (refine And.intro (by first | with_reducible rfl | exact congrArg (Value.int _) (wi (by omega) (by omega)) | exact wi (by omega) (by omega) | rfl) ?_; conv => whnf)
    first | exact trivial | exact fun _ _ h => h
  rintro ⟨i, y⟩ mm ⟨hi, p', hs', hy⟩
  have hm := h.sub (hs'.sub (a := m) (by simp))
  conv => whnf
  refine ⟨_, mcell_of hm.obj rfl, rfl, ?_⟩
  conv => whnf
  refine ⟨fun hc => ?_, fun hc => ?_⟩
  · have hlt : i < L.length := by have := of_decide_eq_true hc; omega
    clear hc
    obtain ⟨b, o, c', e, hg⟩ := rfOk.real hm.lies hlt
    have hgi := hg i hlt
    injection e with e1 e2 e3
    subst e1
    have hz := hn _ (List.getElem_mem hlt)
    have hli : i < (L.map (·.name)).length := by rw [List.length_map]; exact hlt
    have ht := numsN_take (L := L.map (·.name)) hli
    rw [← List.map_take, ← List.map_take, List.getElem_map] at ht
    have hln := numsN_len ((L.take i).map (·.name))
    rw [List.length_map, List.length_take] at hln
    generalize hr : L[i] = r at *
    conv => whnf
    refine ⟨_, mcell_of hm.obj rfl, rfl, ?_⟩
    conv => whnf
    repeat (refine And.intro (by first | omega | (simp only [times]; omega)) ?_; conv => whnf)
    refine ⟨_, by simp only [times, Int.toNat_natCast]; exact mcell_rng (j := 0) hgi rfl, rfl, ?_⟩
    conv => whnf
    first | refine xretk (refNumber_spec (s := r.name) (by omega)) ?_ | refine xret (refNumber_spec (s := r.name) (by omega)) ?_
    conv => whnf
    cases hno : numOf r.name with
    | none =>
      rw [hno, Option.toList_none, List.append_nil] at ht
      refine ⟨fun h => absurd h (by first | decide | simp), fun _ => ?_⟩
      conv => whnf
      refine ⟨(i + 1, y), ⟨by omega, p', hs', by rw [ht]; exact hy⟩, by simp; omega, ?_⟩
      conv => whnf
      repeat (refine And.intro (by first | with_reducible rfl | (first | exact congrArg (Value.int _) (iadd1 (by omega))) | exact congrArg (Value.int _) (wi (by omega) (by omega)) | exact wi (by omega) (by omega) | rfl) ?_; conv => whnf)
      first | exact trivial | exact fun _ _ h => h
    | some n =>
      rw [hno, Option.toList_some] at ht
      refine ⟨fun _ => ?_, fun h => absurd h (by first | decide | simp)⟩
      conv => whnf
      refine .mk _ (buildI1) ?_
      rintro _ _ ⟨b', hb', rfl, rfl⟩
      conv => whnf
      refine .mk _ (pushI (l := nc (numsN ((L.take i).map (·.name)))) hs' hb' hy (by rw [nc_len]; omega)) ?_
      rintro _ m' ⟨y', p2, rfl, hs2, hy2⟩
      conv => whnf
      refine ⟨(i + 1, y'), ⟨by omega, p2, hs2, by rw [ht, nc, List.map_append]; exact hy2⟩, by simp; omega, ?_⟩
      conv => whnf
      repeat (refine And.intro (by first | with_reducible rfl | (first | exact congrArg (Value.int _) (iadd1 (by omega))) | exact congrArg (Value.int _) (wi (by omega) (by omega)) | exact wi (by omega) (by omega) | rfl) ?_; conv => whnf)
      first | exact trivial | exact fun _ _ h => h
  · have hc' := of_decide_eq_false hc
    obtain rfl : i = L.length := by omega
    rw [List.take_length] at hy
    conv => whnf
    exact ⟨y, p', rfl, hs', hy⟩
theorem strOf_sz (l : List Int) : (strOf l).size = l.length := by
  have := congrArg List.length (strOf_data l)
  simpa [by8] using this
theorem read_at_le : ∀ (f : Nat) (b : List Int), (Fr.read f b).2.1 ≤ b.length
  | 0, b => by simp [Fr.read]
  | f + 1, b => by
    by_cases h : 0 < (Fr.next b).2.1
    · rw [read_step h]
      have h1 := Fr.next_le b
      have h2 := read_at_le f (b.drop (Fr.next b).2.1)
      rw [List.length_drop] at h2
      simp only
      omega
    · rw [read_stop h]; exact Nat.zero_le _
theorem readB_le (l : List Int) : (readB l).2.1 ≤ l.length := read_at_le _ _
theorem Lk.names_le {A : List Af} {L : List Rf} (h : Lk A L) : ∀ r ∈ L, r.name.size ≤ 1000000 := h.n
theorem Lk.nums {A : List Af} {L : List Rf} (h : Lk A L) : numsN (L.map (·.name)) = numsA A := by rw [numsA, h.names]
set_option maxHeartbeats 4000000 in
theorem refLoad_spec {m : Mem} {bx : Nat} {q : Int} {nb ns : Nat} {A : List Af} {L : List Rf} {v : Value} (h : RM m bx q nb ns L v) (hlk : Lk A L) (hl : L.length ≤ 100000) (hby : ∀ a ∈ A, ∀ x ∈ a.l, x < 256) (hsz : ∀ a ∈ A, a.l.length ≤ 500000) : Spec Tryz.prog 24 [ptrB bx] m fun r m' => ∃ (v' : Value) (ps : List (Value × List Int)), r = [i64 (loadA A).1, .v v', i64 (loadA A).2.2] ∧ Sub m m' ∧ Lists m' v' ps ∧ ps.map (·.2) = (loadA A).2.1 := by
  have hnu := hlk.nums
  have hrng : ∀ n ∈ numsA A, 1 ≤ n ∧ n ≤ 999999 := numsN_rng
  have hlen : (numsA A).length ≤ 100000 := by
    have := numsA_len A
    rw [hlk.len] at this
    omega
  refine en24 rfl (goY ?_)
  conv => whnf
  refine xcall (refNumbers_spec h hl hlk.n) ?_
  rintro _ m1 ⟨v1, p1, rfl, hs1, hv1⟩
  conv => whnf
  rw [hnu] at hv1
  have hncl : (nc (numsA A)).length = (numsA A).length := nc_len _
  obtain ⟨a, c, rfl⟩ := hv1.il.shape
  rw [hncl]
  conv => whnf
  refine ⟨fun h1 => ?_, fun h1 => ?_⟩
  · have h0 : numsA A = [] := by simpa using h1
    conv => whnf
    rw [loadA_none h0]
    exact ⟨_, [], rfl, hs1.sub (by simp), ⟨.inl ⟨_, rfl, rfl⟩, by simp⟩, rfl⟩
  have h0 : 0 < (numsA A).length := List.length_pos_iff.2 (by simpa using h1)
  clear h1
  have hne : numsA A ≠ [] := by intro e; rw [e] at h0; simp at h0
  have hlast : (numsA A).getLast? = some ((numsA A).getLast hne) := List.getLast?_eq_some_getLast hne
  have hat : (numsA A)[(numsA A).length - 1]? = some ((numsA A).getLast hne) := by rw [← hlast, List.getLast?_eq_getElem?]
  obtain ⟨hr1, hr2⟩ := hrng _ (List.getLast_mem hne)
  generalize (numsA A).getLast hne = n at *
  have hld := loadA_some hlast
  obtain ⟨b, o, cc, e1, hel⟩ := (hv1.il.sub (hs1.sub (a := p1) (by simp))).real (i := 0) (by omega)
  injection e1 with e1 e2 e3
  subst e1
  have hel := hel ((numsA A).length - 1) (by omega)
  have ee : (nc (numsA A))[(numsA A).length - 1]'(by omega) = (n : Int) := by
    have : (nc (numsA A))[(numsA A).length - 1]? = some (n : Int) := by rw [nc, List.getElem?_map, hat]; rfl
    exact (List.getElem?_eq_some_iff.1 this).2
  rw [ee] at hel
  have ew : IntKind.i64.wrap (((numsA A).length : Int) - 1) = (((numsA A).length - 1 : Nat) : Int) := by rw [wi (by omega) (by omega)]; omega
  conv => whnf
  rw [ew]
  refine ⟨by omega, ?_⟩
  conv => whnf
  refine ⟨_, hel, rfl, ?_⟩
  conv => whnf
  refine xcall (refName_spec hr2) ?_
  rintro _ m2 ⟨rfl, hs2⟩
  conv => whnf
  have hm2 : Sub m m2 := (hs1.sub (a := m) (by simp)).trans hs2
  first | refine xretk (refRead_spec (name := Sn.nm n) (h.sub hm2) (by omega)) ?_ | refine xret (refRead_spec (name := Sn.nm n) (h.sub hm2) (by omega)) ?_
  conv => whnf
  rw [← hlk.text]
  have hbl : (bytesA A (Sn.nm n)).length ≤ 500000 := bytesA_p (P := fun l => l.length ≤ 500000) hsz (by simp)
  have h256 : ∀ x ∈ bytesA A (Sn.nm n), x < 256 := bytesA_p (P := fun l => ∀ x ∈ l, x < 256) hby (by simp)
  have ebt : ((fileA A (Sn.nm n)).map (·.l)).getD [] = bytesA A (Sn.nm n) := rfl
  rw [ebt]
  have hchs : chs (strOf (nc (bytesA A (Sn.nm n)))) = bytesA A (Sn.nm n) := chs_str h256
  have hssz : (strOf (nc (bytesA A (Sn.nm n)))).size = (bytesA A (Sn.nm n)).length := by rw [strOf_sz, nc_len]
  generalize bytesA A (Sn.nm n) = l at *
  generalize strOf (nc l) = s at *
  refine .mk _ (convS) ?_
  rintro _ m3 ⟨v2, rfl, hs3, hv2⟩
  conv => whnf
  rw [hchs] at hv2
  have hnl : (nc l).length = l.length := nc_len l
  refine xcall (refFrames_spec hv2 (nc_byt h256) (by omega)) ?_
  rintro _ m4 ⟨v', ps, p4, rfl, hs4, hown, hps, hpr⟩
  conv => whnf
  have htl := readB_le (nc l)
  rw [hnl] at htl
  generalize readB (nc l) = r at *
  obtain ⟨rr, t, e⟩ := r
  dsimp only at hpr hld htl ⊢
  have hm4 : Sub m m4 := (hm2.trans hs3).trans (hs4.sub (a := m3) (by simp))
  conv => whnf
  refine ⟨fun h1 => ?_, fun h1 => ?_⟩
  · have h2 : ¬ e = 0 := by simpa using h1
    rw [if_neg (by simp [h2])] at hld
    rw [hld]
    conv => whnf
    exact ⟨_, [], rfl, hm4, ⟨.inl ⟨_, rfl, rfl⟩, by simp⟩, rfl⟩
  have h2 : e = 0 := by simpa using h1
  clear h1
  subst h2
  conv => whnf
  refine ⟨fun h1 => ?_, fun h1 => ?_⟩
  · have h2 : ¬ t = l.length := by have := of_decide_eq_true h1; omega
    rw [if_neg (by simp [h2])] at hld
    rw [hld]
    conv => whnf
    exact ⟨_, [], rfl, hm4, ⟨.inl ⟨_, rfl, rfl⟩, by simp⟩, rfl⟩
  · have h2 : t = l.length := by have := of_decide_eq_false h1; omega
    rw [if_pos ⟨rfl, h2⟩] at hld
    rw [hld]
    conv => whnf
    exact ⟨v', ps, rfl, hm4, Lists.own hown (hs4.sub (by simp)) fun q hq => (hps q hq).sub (hs4.sub (a := m3) (by simp)), hpr⟩
end Go.E.YtgjlajcebcmbaaaGreatDoor

/-
  A save as the document has it: begun.
-/
namespace Go.E.YtgjlajcebcmbaaaGreatDoor
open Go.Proofs
set_option maxRecDepth 100000
abbrev rsvO (bx : Nat) (n : Int) (s : ByteArray) (st : Int) : Obj := .cells #[.pointer (some ⟨bx, 0, none⟩), .int .i64 n, .string s, .int .i64 st] 64
theorem mayN_last {A : List Af} {n : Int} : mayN A n = (isNum n && match (numsA A).getLast? with | none => true | some k => !decide (n ≤ (k : Int))) := by
  unfold mayN
  congr 1
  have hs := numsA_sorted A
  generalize numsA A = l at hs
  rcases List.eq_nil_or_concat l with rfl | ⟨L, x, rfl⟩
  · rfl
  · rw [List.concat_eq_append] at *
    rw [List.getLast?_append]
    simp only [List.getLast?_singleton, Option.some_or, List.any_append, List.any_cons, List.any_nil, Bool.or_false]
    congr 1
    by_cases h : n ≤ (x : Int)
    · rw [decide_eq_true h, Bool.or_true]
    · rw [decide_eq_false h, Bool.or_false, List.any_eq_false]
      intro k hk
      have := (List.pairwise_append.1 hs).2.2 k hk x (by simp)
      simp only [decide_eq_true_eq]
      omega
theorem strOf_append (a b : List Int) : strOf a ++ strOf b = strOf (a ++ b) := by
  have h : encB (strOf a ++ strOf b) = encB (strOf (a ++ b)) := by
    have e : ∀ l, encB (strOf l) = by8 l := fun l => strOf_data l
    rw [e, show encB (strOf a ++ strOf b) = encB (strOf a) ++ encB (strOf b) by simp [encB, ByteArray.data_append], e, e]
    simp [by8]
  exact encB_inj h
set_option maxHeartbeats 8000000 in
theorem refBegin_tail {m mm : Mem} {bx : Nat} {n : Int} {v : Value} {ps : List (Value × List Int)} (hm : Sub m mm) (hv : LsA m v ps) (hbt : ∀ r ∈ ps, Byt r.2) (hlen : ps.length ≤ 50) (hsz : ∀ r ∈ ps, r.2.length ≤ 1000000) {R : List CV → Mem → Prop}
    (hR : ∀ m' r, (if allRec (ps.map (·.2)) then ∃ bs, r = [ptrB bs, i64 0] ∧ Split m' [blk1 bs (rsvO bx n (strOf (Fr.cat (ps.map (·.2)))) 1), m] else r = [nilP, i64 3] ∧ Sub m m') → R r m') :
    xwpY c20 (restAt 4 (bodyOf Tryz.f20)) (QRetY tt.get Tryz.f20.results.toList R)
      [(0, .c (ptrB bx)), (1, .c (i64 n)), (2, .c (.v v))] [] mm [] := by
  obtain ⟨a, c, rfl⟩ := hv.shape
  conv => whnf
  refine .at ?_
  conv => whnf
  intro bs hbs
  conv => whnf
  have hsb : Split (mm.set bs (rsvO bx n ByteArray.empty 1)) [blk1 bs (rsvO bx n ByteArray.empty 1), m] := ((Split.one m).grow hm).new hbs _
  refine .mk (ι := Nat) (fun i => ps.length - i) (fun i mi => i ≤ ps.length ∧ allRec ((ps.take i).map (·.2)) = true ∧ Split mi [blk1 bs (rsvO bx n (strOf (Fr.cat ((ps.take i).map (·.2)))) 1), m]) (fun i => [(2, .c (.v (.slice a ps.length c))), (9, .c (ptrB bs)), (10, .c (i64 i))]) (fun _ => []) 0 ⟨by omega, rfl, by rw [show strOf (Fr.cat ((ps.take 0).map (·.2))) = ByteArray.empty from rfl]; exact hsb⟩ ?_ ?_
  · conv => whnf
    repeat (refine And.intro (by first | with_reducible rfl | exact congrArg (Value.int _) (wi (by omega) (by omega)) | exact wi (by omega) (by omega) | rfl) ?_; conv => whnf)
    first | exact trivial | exact fun _ _ h => h
  rintro i mi ⟨hi, hall, hs'⟩
  conv => whnf
  refine ⟨fun h => ?_, fun h => ?_⟩
  · have hlt : i < ps.length := by have := of_decide_eq_true h; omega
    clear h
    obtain ⟨bl, ol, cl, e1, hel⟩ := hv.real hlt
    injection e1 with e1 e2 e3
    subst e1
    have hel := hel i hlt
    have hla := hv.la _ (List.getElem_mem hlt)
    have hby := hbt _ (List.getElem_mem hlt)
    have hz := hsz _ (List.getElem_mem hlt)
    have htk : (ps.take (i + 1)).map (·.2) = (ps.take i).map (·.2) ++ [ps[i].2] := by rw [List.take_succ_eq_append_getElem hlt, List.map_append]; rfl
    have hmm : Sub m mi := hs'.sub (a := m) (by simp)
    have hcl := allRec_cat hall
    rw [List.length_map, List.length_take, Nat.min_eq_left hi] at hcl
    have hcl2 : 20013 * i ≤ 20013 * 50 := Nat.mul_le_mul_left _ (by omega)
    have hno : Fr.isRec ps[i].2.length = false → allRec (ps.map (·.2)) = false := fun hr => by
      cases e : allRec (ps.map (·.2)) with
      | false => rfl
      | true =>
        have := List.all_eq_true.1 e ps[i].2 (List.mem_map.2 ⟨_, List.getElem_mem hlt, rfl⟩)
        rw [hr] at this; cases this
    have bad : Fr.isRec ps[i].2.length = false → R [nilP, i64 3] mi := fun hr => hR mi _ (by rw [hno hr]; exact ⟨rfl, hmm⟩)
    obtain ⟨ae, ce, hsh⟩ := hla.shape
    rw [hsh] at hel
    conv => whnf
    repeat (refine And.intro (by first | omega | (simp only [times]; omega)) ?_; conv => whnf)
    refine ⟨_, by simp only [times, Int.toNat_natCast, Nat.mul_one]; exact mcell_sub hel hmm, rfl, ?_⟩
    conv => whnf
    refine ⟨fun h1 => ?_, fun h1 => ?_⟩
    · have h1' := of_decide_eq_true h1
      conv => whnf
      exact bad (by simp [Fr.isRec]; omega)
    have h1' := of_decide_eq_false h1
    clear h1
    conv => whnf
    repeat (refine And.intro (by first | omega | (simp only [times]; omega)) ?_; conv => whnf)
    refine ⟨_, by simp only [times, Int.toNat_natCast, Nat.mul_one]; exact mcell_sub hel hmm, rfl, ?_⟩
    conv => whnf
    refine ⟨fun h1 => ?_, fun h1 => ?_⟩
    · have h2' := of_decide_eq_true h1
      conv => whnf
      exact bad (by simp [Fr.isRec]; omega)
    have h2' := of_decide_eq_false h1
    clear h1
    have hrec : Fr.isRec ps[i].2.length = true := by simp [Fr.isRec]; omega
    have hw := wr_len (l := ps[i].2) (by omega)
    have hb := hs'.sub (a := blk1 bs (rsvO bx n (strOf (Fr.cat ((ps.take i).map (·.2)))) 1)) (by simp) _ _ (blk1_same ..)
    conv => whnf
    refine ⟨_, mcell_of hb rfl, rfl, ?_⟩
    conv => whnf
    repeat (refine And.intro (by first | omega | (simp only [times]; omega)) ?_; conv => whnf)
    refine ⟨_, by simp only [times, Int.toNat_natCast, Nat.mul_one]; exact mcell_sub hel hmm, rfl, ?_⟩
    conv => whnf
    refine xcall (refWrite_spec ((hsh ▸ hla).sub hmm) hby hz) ?_
    rintro _ m4 ⟨v4, p4, rfl, hs4, hv4⟩
    conv => whnf
    have hs4 : Split m4 [p4, blk1 bs (rsvO bx n (strOf (Fr.cat ((ps.take i).map (·.2)))) 1), m] := hs4.under (a := [p4]) hs'
    have hb4 := hs4.sub (a := blk1 bs (rsvO bx n (strOf (Fr.cat ((ps.take i).map (·.2)))) 1)) (by simp) _ _ (blk1_same ..)
    obtain ⟨b4, o4, c4, rfl⟩ := hv4.lb.real (by intro e; have := Fr.wr_pos ps[i].2; rw [e] at this; simp at this)
    refine ⟨fun z hz => ?_, ?_⟩
    · obtain ⟨ob, hob⟩ : ∃ ob, m bl = some ob := by
        unfold mcell at hel
        split at hel
        · exact ⟨_, by assumption⟩
        · cases hel
      simp only [List.mem_cons, List.not_mem_nil, or_false] at hz
      rcases hz with rfl | rfl
      · rw [hmm _ _ hob, hs4.sub (a := m) (by simp) _ _ hob]
      · rw [hb, hb4]
    conv => whnf
    refine .inr ⟨Fr.wr ps[i].2, rfl, _, _, rfl, (hv4.lb.sub (hs4.sub (a := p4) (by simp))).range, ?_⟩
    conv => whnf
    refine ⟨by rw [strOf_sz, strOf_sz]; omega, ?_⟩
    rw [strOf_append]
    conv => whnf
    refine ⟨_, _, _, hb4, ⟨by simp, by simp⟩, ?_⟩
    conv => whnf
    have hz2 := hs4.setAt (i := 1) rfl (blk1_same ..) (rsvO bx n (strOf (Fr.cat ((ps.take i).map (·.2)) ++ Fr.wr ps[i].2)) 1)
    rw [blk1_set] at hz2
    have hz2 : Split _ [p4, blk1 bs (rsvO bx n (strOf (Fr.cat ((ps.take i).map (·.2)) ++ Fr.wr ps[i].2)) 1), m] := hz2
    refine ⟨i + 1, ⟨by omega, by rw [htk, allRec_snoc, hall, hrec]; rfl, ?_⟩, by first | omega | (simp only; omega), ?_⟩
    · rw [htk, Fr.cat_append, show Fr.cat [ps[i].2] = Fr.wr ps[i].2 by simp [Fr.cat]]
      exact hz2.drop
    conv => whnf
    repeat (refine And.intro (by first | with_reducible rfl | (first | exact congrArg (Value.int _) (iadd1 (by omega))) | exact congrArg (Value.int _) (wi (by omega) (by omega)) | exact wi (by omega) (by omega) | rfl) ?_; conv => whnf)
    first | exact trivial | exact fun _ _ h => h
  · have h' := of_decide_eq_false h
    obtain rfl : i = ps.length := by omega
    rw [List.take_length] at hall hs'
    have := hR mi [ptrB bs, i64 0] (by rw [hall]; exact ⟨bs, rfl, hs'⟩)
    conv => whnf
    exact this
set_option maxHeartbeats 8000000 in
theorem refBegin_spec {m : Mem} {bx : Nat} {q n : Int} {nb ns : Nat} {A : List Af} {L : List Rf} {vr v : Value} {ps : List (Value × List Int)} (h : RM m bx q nb ns L vr) (hlk : Lk A L) (hl : L.length ≤ 100000) (hn : -9223372036854775808 ≤ n ∧ n ≤ 9223372036854775807) (hv : LsA m v ps) (hbt : ∀ r ∈ ps, Byt r.2) (hlen : ps.length ≤ 50) (hsz : ∀ r ∈ ps, r.2.length ≤ 1000000) :
    Spec Tryz.prog 20 [ptrB bx, i64 n, .v v] m fun r m' => if mayN A n = false then r = [nilP, i64 1] ∧ Sub m m' else
      if allRec (ps.map (·.2)) then ∃ bs, r = [ptrB bs, i64 0] ∧ Split m' [blk1 bs (rsvO bx n (strOf (Fr.cat (ps.map (·.2)))) 1), m] else r = [nilP, i64 3] ∧ Sub m m' := by
  have hnu := hlk.nums
  have hlen2 : (numsA A).length ≤ 100000 := by
    have := numsA_len A
    rw [hlk.len] at this
    omega
  have hmay := mayN_last (A := A) (n := n)
  refine en20 rfl (goY ?_)
  conv => whnf
  refine xcall (refNumbers_spec h hl hlk.n) ?_
  rintro _ m1 ⟨v1, p1, rfl, hs1, hv1⟩
  conv => whnf
  rw [hnu] at hv1
  have hm1 : Sub m m1 := hs1.sub (by simp)
  have bad : mayN A n = false → ∀ m', Sub m m' → (if mayN A n = false then [nilP, i64 1] = [nilP, i64 1] ∧ Sub m m' else if allRec (ps.map (·.2)) then ∃ bs, [nilP, i64 1] = [ptrB bs, i64 0] ∧ Split m' [blk1 bs (rsvO bx n (strOf (Fr.cat (ps.map (·.2)))) 1), m] else [nilP, i64 1] = [nilP, i64 3] ∧ Sub m m') := fun h m' hs => by
    rw [if_pos h]; exact ⟨rfl, hs⟩
  refine ⟨fun hc => ?_, fun hc => ?_⟩
  · have hc' := of_decide_eq_true hc
    have : mayN A n = false := by rw [hmay, isNum, decide_eq_false (by omega)]; rfl
    conv => whnf
    exact bad this _ hm1
  have hc1 := of_decide_eq_false hc
  clear hc
  conv => whnf
  refine ⟨fun hc => ?_, fun hc => ?_⟩
  · have hc' := of_decide_eq_true hc
    have : mayN A n = false := by rw [hmay, isNum, decide_eq_false (p := n ≤ 999999) (by omega), Bool.and_false]; rfl
    conv => whnf
    exact bad this _ hm1
  have hc2 := of_decide_eq_false hc
  clear hc
  have hi : isNum n = true := by simp [isNum]; omega
  rw [hi, Bool.true_and] at hmay
  have hncl : (nc (numsA A)).length = (numsA A).length := nc_len _
  obtain ⟨a1, c1, rfl⟩ := hv1.il.shape
  rw [hncl]
  conv => whnf
  have fin : mayN A n = true → ∀ mm, Sub m mm → _ := fun hmy mm hmm => refBegin_tail (bx := bx) (n := n) hmm hv hbt hlen hsz (R := fun r m' => if mayN A n = false then r = [nilP, i64 1] ∧ Sub m m' else
      if allRec (ps.map (·.2)) then ∃ bs, r = [ptrB bs, i64 0] ∧ Split m' [blk1 bs (rsvO bx n (strOf (Fr.cat (ps.map (·.2)))) 1), m] else r = [nilP, i64 3] ∧ Sub m m') fun m' r h => by rw [hmy, if_neg (by decide)]; exact h
  refine ⟨fun hc => ?_, fun hc => ?_⟩
  · have h0 : 0 < (numsA A).length := by have := of_decide_eq_true hc; omega
    clear hc
    have hne : numsA A ≠ [] := by intro e; rw [e] at h0; simp at h0
    have hlast : (numsA A).getLast? = some ((numsA A).getLast hne) := List.getLast?_eq_some_getLast hne
    have hat : (numsA A)[(numsA A).length - 1]? = some ((numsA A).getLast hne) := by rw [← hlast, List.getLast?_eq_getElem?]
    rw [hlast] at hmay
    generalize (numsA A).getLast hne = z at *
    obtain ⟨b, o, cc, e1, hel⟩ := (hv1.il.sub (hs1.sub (a := p1) (by simp))).real (i := 0) (by omega)
    injection e1 with e1 e2 e3
    subst e1
    have hel := hel ((numsA A).length - 1) (by omega)
    have ee : (nc (numsA A))[(numsA A).length - 1]'(by omega) = (z : Int) := by
      have : (nc (numsA A))[(numsA A).length - 1]? = some (z : Int) := by rw [nc, List.getElem?_map, hat]; rfl
      exact (List.getElem?_eq_some_iff.1 this).2
    rw [ee] at hel
    have ew : IntKind.i64.wrap (((numsA A).length : Int) - 1) = (((numsA A).length - 1 : Nat) : Int) := by rw [wi (by omega) (by omega)]; omega
    conv => whnf
    rw [ew]
    refine ⟨by omega, ?_⟩
    conv => whnf
    refine ⟨_, hel, rfl, ?_⟩
    conv => whnf
    refine ⟨fun hc => ?_, fun hc => ?_⟩
    · have : mayN A n = false := by rw [hmay]; simp only [hc, Bool.not_true]
      conv => whnf
      exact bad this _ hm1
    · have hmy : mayN A n = true := by rw [hmay]; simp only [hc, Bool.not_false]
      have tl := fin hmy _ hm1
      conv at tl => whnf
      conv => whnf
      refine .via _ _ ?_ tl
      conv => whnf
      repeat (refine And.intro (by first | with_reducible rfl | exact congrArg (Value.int _) (wi (by omega) (by omega)) | exact wi (by omega) (by omega) | rfl) ?_; conv => whnf)
      first | exact trivial | exact fun _ _ h => h
  · have h0 : numsA A = [] := List.eq_nil_of_length_eq_zero (by have := of_decide_eq_false hc; omega)
    have hmy : mayN A n = true := by rw [hmay, h0]; rfl
    have tl := fin hmy _ hm1
    conv at tl => whnf
    conv => whnf
    refine .via _ _ ?_ tl
    conv => whnf
    repeat (refine And.intro (by first | with_reducible rfl | exact congrArg (Value.int _) (wi (by omega) (by omega)) | exact wi (by omega) (by omega) | rfl) ?_; conv => whnf)
    first | exact trivial | exact fun _ _ h => h
end Go.E.YtgjlajcebcmbaaaGreatDoor

/-
  A step of a save as the document has it.
-/
namespace Go.E.YtgjlajcebcmbaaaGreatDoor
open Go.Proofs
set_option maxRecDepth 100000
theorem step_app {A : List Af} {q : Int} {l : List Nat} {nb : Nat} : AppR (rmA A tmpN) tmpN l q (if fitsA q A l then 0 else 5) (if fitsA q A l then appA (rmA A tmpN) tmpN l else rmA A tmpN) nb (if fitsA q A l then nb + l.length else nb) := by
  unfold AppR
  rw [if_neg (by rw [tmp_ok]; decide)]
  by_cases hf : 0 < q ∧ q < (totA (rmA A tmpN) + l.length : Nat)
  · have hfit : ¬ fitsA q A l := fun h => h hf
    rw [if_pos hf, if_neg hfit, if_neg hfit, if_neg hfit]
    exact ⟨rfl, rfl, rfl⟩
  · have hfit : fitsA q A l := hf
    rw [if_neg hf, if_pos hfit, if_pos hfit, if_pos hfit]
    exact ⟨rfl, rfl, rfl⟩
theorem dropR_def (L : List Rf) (name : ByteArray) : dropR L name = match fileR L name with | some i => L.eraseIdx i | none => L := by
  unfold dropR
  cases fileR L name <;> rfl
theorem safe_rm {A : List Af} (h : ∀ a ∈ A, a.safe ≤ a.l.length) (name : ByteArray) : ∀ a ∈ rmA A name, a.safe ≤ a.l.length := fun a ha => h a (List.mem_filter.1 ha).1
set_option maxHeartbeats 8000000 in
theorem refStep_spec {mm m px : Mem} {bs bx nb ns k n st : Nat} {q : Int} {A : List Af} {L : List Rf} {s : ByteArray} {l : List Nat} (hs : Split mm [blk1 bs (rsvO bx n s st), px, m]) (hx : FR px bx q nb ns L) (hlk : Lk A L) (hk : Sm k A nb ns) (hsf : ∀ a ∈ A, a.safe ≤ a.l.length) (hch : chs s = l) (hl : l.length ≤ 1000000) (hq : 0 ≤ q ∧ q ≤ 9223372036854775807) (hn1 : 1 ≤ n) (hn2 : n ≤ 999999) (hst : st ≤ 4) :
    Spec Tryz.prog 22 [ptrB bs] mm fun r m' => ∃ px' L', r = [i64 (stepA q n l st A).told, i64 (stepA q n l st A).e] ∧ Split m' [blk1 bs (rsvO bx n s (stepA q n l st A).st), px', m] ∧ FR px' bx q (stepNb q l st A nb) (stepNs st A ns) L' ∧ Lk (stepA q n l st A).A L' := by
  have hbs : mm bs = some (rsvO bx n s st) := hs.sub (a := blk1 bs (rsvO bx n s st)) (by simp) _ _ (blk1_same ..)
  have hsl : s.size = l.length := by rw [← hch, chs_len]
  obtain ⟨z1, z2, z3, z4, z5⟩ := hlk.sizes hk hsf
  refine en22 rfl (goY ?_)
  conv => whnf
  refine ⟨_, mcell_of hbs rfl, rfl, ?_⟩
  conv => whnf
  have hc : st = 0 ∨ st = 1 ∨ st = 2 ∨ st = 3 ∨ st = 4 := by omega
  rcases hc with rfl | rfl | rfl | rfl | rfl
  · refine ⟨fun _ => ?_, fun h => absurd h (by first | decide | simp)⟩
    conv => whnf
    exact ⟨px, L, rfl, hs, by simp [stepNb, stepNs]; exact hx, hlk⟩
  · refine ⟨fun h => absurd h (by first | decide | simp), fun _ => ?_⟩
    conv => whnf
    refine ⟨fun _ => ?_, fun h => absurd h (by first | decide | simp)⟩
    conv => whnf
    refine ⟨_, mcell_of hbs rfl, rfl, ?_⟩
    conv => whnf
    refine xcall (Spec.at (i := 1) hs rfl (refRemove_spec (name := tmpN) hx (by omega))) ?_
    rintro _ m1 ⟨p1, ⟨rfl, h1⟩, hs1⟩
    conv => whnf
    have h1 : FR p1 bx q nb ns (dropR L tmpN) := by rw [dropR_def]; revert h1; cases fileR L tmpN <;> exact id
    have hs1 : Split m1 [blk1 bs (rsvO bx n s 1), p1, m] := hs1
    have hb1 : m1 bs = some (rsvO bx n s 1) := hs1.sub (a := blk1 bs (rsvO bx n s 1)) (by simp) _ _ (blk1_same ..)
    obtain ⟨hlk1, _⟩ := hlk.rm tmpN
    obtain ⟨y1, y2, y3, y4, y5⟩ := hlk1.sizes (hk.rm tmpN) (safe_rm hsf tmpN)
    refine ⟨_, mcell_of hb1 rfl, rfl, ?_⟩
    conv => whnf
    refine ⟨_, mcell_of hb1 rfl, rfl, ?_⟩
    conv => whnf
    refine xcall (Spec.at (i := 1) hs1 rfl (refAppend_spec (name := tmpN) (s := s) h1 y1 y2 (fun r hr => ⟨hlk1.n r hr, (y3 r hr).1⟩) (by decide) (by omega) hq y4)) ?_
    rintro _ m2 ⟨p2, ⟨e', L', nb', rfl, h2, hr'⟩, hs2⟩
    conv => whnf
    obtain ⟨he, hnb, hlk2⟩ := hlk1.appBoth (by decide) hch (step_app (q := q) (nb := nb)) hr'
    have hs2 : Split m2 [blk1 bs (rsvO bx n s 1), p2, m] := hs2
    have hb2 : m2 bs = some (rsvO bx n s ((1 : Nat) : Int)) := hs2.sub (a := blk1 bs (rsvO bx n s 1)) (by simp) _ _ (blk1_same ..)
    have est : stepA q n l 1 A = if fitsA q A l then ⟨appA (rmA A tmpN) tmpN l, 2, 2, 0⟩ else ⟨rmA A tmpN, 1, 0, 5⟩ := rfl
    have enb : stepNb q l 1 A nb = if fitsA q A l then nb + l.length else nb := by simp [stepNb]
    have ens : stepNs 1 A ns = ns := by simp [stepNs]
    rw [← he]
    rw [← hnb] at h2
    by_cases hf : fitsA q A l
    · simp only [if_pos hf] at h2 hlk2 est enb
      rw [if_pos hf, est]
      refine ⟨fun h => absurd h (by first | decide | simp), fun _ => ?_⟩
      conv => whnf
      refine ⟨_, mcell_of hb2 rfl, rfl, ?_⟩
      conv => whnf
      refine ⟨_, _, _, hb2, ⟨by simp, by simp⟩, ?_⟩
      rw [show IntKind.i64.wrap (((1 : Nat) : Int) + 1) = ((2 : Nat) : Int) by decide]
      conv => whnf
      refine ⟨_, mcell_of (Mem.set_same ..) rfl, rfl, ?_⟩
      conv => whnf
      have hz := hs2.setAt (i := 0) rfl (blk1_same ..) (rsvO bx n s ((2 : Nat) : Int))
      rw [blk1_set] at hz
      exact ⟨p2, L', rfl, hz, by rw [enb, ens]; exact h2, hlk2⟩
    · simp only [if_neg hf] at h2 hlk2 est enb
      rw [if_neg hf, est]
      refine ⟨fun _ => ?_, fun h => absurd h (by first | decide | simp)⟩
      conv => whnf
      exact ⟨p2, L', rfl, hs2, by rw [enb, ens]; exact h2, hlk2⟩
  · refine ⟨fun h => absurd h (by first | decide | simp), fun _ => ?_⟩
    conv => whnf
    refine ⟨fun h => absurd h (by first | decide | simp), fun _ => ?_⟩
    conv => whnf
    refine ⟨fun _ => ?_, fun h => absurd h (by first | decide | simp)⟩
    conv => whnf
    refine ⟨_, mcell_of hbs rfl, rfl, ?_⟩
    conv => whnf
    refine xcall (Spec.at (i := 1) hs rfl (refSync_spec (name := tmpN) hx z1 z5)) ?_
    rintro _ m1 ⟨p1, ⟨e1, L1, ns1, rfl, h1, hr⟩, hs1⟩
    conv => whnf
    obtain ⟨_, hlk1, hns⟩ := hlk.sync hr
    have hs1 : Split m1 [blk1 bs (rsvO bx n s 2), p1, m] := hs1
    have hb1 : m1 bs = some (rsvO bx n s ((2 : Nat) : Int)) := hs1.sub (a := blk1 bs (rsvO bx n s 2)) (by simp) _ _ (blk1_same ..)
    refine ⟨_, mcell_of hb1 rfl, rfl, ?_⟩
    conv => whnf
    refine ⟨_, _, _, hb1, ⟨by simp, by simp⟩, ?_⟩
    rw [show IntKind.i64.wrap (((2 : Nat) : Int) + 1) = ((3 : Nat) : Int) by decide]
    conv => whnf
    refine ⟨_, mcell_of (Mem.set_same ..) rfl, rfl, ?_⟩
    conv => whnf
    have hz := hs1.setAt (i := 0) rfl (blk1_same ..) (rsvO bx n s ((3 : Nat) : Int))
    rw [blk1_set] at hz
    exact ⟨p1, L1, rfl, hz, by rw [hns] at h1; simpa [stepNb, stepNs] using h1, hlk1⟩
  · refine ⟨fun h => absurd h (by first | decide | simp), fun _ => ?_⟩
    conv => whnf
    refine ⟨fun h => absurd h (by first | decide | simp), fun _ => ?_⟩
    conv => whnf
    refine ⟨fun h => absurd h (by first | decide | simp), fun _ => ?_⟩
    conv => whnf
    refine ⟨fun _ => ?_, fun h => absurd h (by first | decide | simp)⟩
    conv => whnf
    refine ⟨_, mcell_of hbs rfl, rfl, ?_⟩
    conv => whnf
    refine ⟨_, mcell_of hbs rfl, rfl, ?_⟩
    conv => whnf
    refine xcall (refName_spec hn2) ?_
    rintro _ m0 ⟨rfl, hs0⟩
    conv => whnf
    refine ⟨fun z hz => by simp at hz; subst hz; exact (hs0 _ _ hbs).trans hbs.symm, ?_⟩
    have hs00 := hs.grow hs0
    refine xcall (Spec.at (i := 1) hs00 rfl (refRename_spec (a := tmpN) (b := Sn.nm n) hx (by omega) (fun r hr => hlk.n r hr) (by rw [Sn.nm_size]; decide))) ?_
    rintro _ m1 ⟨p1, ⟨e1, L1, rfl, h1, hr⟩, hs1⟩
    conv => whnf
    obtain ⟨_, hlk1⟩ := hlk.ren (by rw [Sn.nm_size]; decide) hr
    have hs1 : Split m1 [blk1 bs (rsvO bx n s 3), p1, m] := hs1
    have hb1 : m1 bs = some (rsvO bx n s ((3 : Nat) : Int)) := hs1.sub (a := blk1 bs (rsvO bx n s 3)) (by simp) _ _ (blk1_same ..)
    refine ⟨_, mcell_of hb1 rfl, rfl, ?_⟩
    conv => whnf
    refine ⟨_, _, _, hb1, ⟨by simp, by simp⟩, ?_⟩
    rw [show IntKind.i64.wrap (((3 : Nat) : Int) + 1) = ((4 : Nat) : Int) by decide]
    conv => whnf
    refine ⟨_, mcell_of (Mem.set_same ..) rfl, rfl, ?_⟩
    conv => whnf
    have hz := hs1.setAt (i := 0) rfl (blk1_same ..) (rsvO bx n s ((4 : Nat) : Int))
    rw [blk1_set] at hz
    exact ⟨p1, L1, rfl, hz, by simpa [stepNb, stepNs] using h1, hlk1⟩
  · refine ⟨fun h => absurd h (by first | decide | simp), fun _ => ?_⟩
    conv => whnf
    refine ⟨fun h => absurd h (by first | decide | simp), fun _ => ?_⟩
    conv => whnf
    refine ⟨fun h => absurd h (by first | decide | simp), fun _ => ?_⟩
    conv => whnf
    refine ⟨fun h => absurd h (by first | decide | simp), fun _ => ?_⟩
    conv => whnf
    refine ⟨fun _ => ?_, fun h => absurd h (by first | decide | simp)⟩
    conv => whnf
    refine ⟨_, mcell_of hbs rfl, rfl, ?_⟩
    conv => whnf
    obtain ⟨vr, hrm⟩ := hx.rm
    refine xcall (refNumbers_spec (hrm.sub (hs.sub (a := px) (by simp))) (by omega) (fun r hr => hlk.n r hr)) ?_
    rintro _ m1 ⟨v1, pn, rfl, hs1, hv1⟩
    conv => whnf
    rw [hlk.nums] at hv1
    have hs1 : Split m1 [pn, blk1 bs (rsvO bx n s 4), px, m] := hs1.under (a := [pn]) hs
    have est : stepA q n l 4 A = ⟨sweepA n A, 0, 0, 0⟩ := rfl
    have hrng : ∀ x ∈ numsA A, 1 ≤ x ∧ x ≤ 999999 := numsN_rng
    have hln := numsA_len A
    have hkn := hk.n
    have hkk := hk.k
    rw [est]
    unfold sweepA
    generalize numsA A = N at *
    have hncl : (nc N).length = N.length := nc_len _
    obtain ⟨a, c, rfl⟩ := hv1.il.shape
    rw [hncl]
    conv => whnf
    refine .mk (ι := Nat) (fun i => N.length - i) (fun i mm => i ≤ N.length ∧ ∃ p' L', Split mm [pn, blk1 bs (rsvO bx n s 4), p', m] ∧ FR p' bx q nb ns L' ∧ Lk (sweepL n A (N.take i)) L' ∧ Sm k (sweepL n A (N.take i)) nb ns ∧ ∀ a ∈ sweepL n A (N.take i), a.safe ≤ a.l.length) (fun i => [(0, .c (ptrB bs)), (5, .c (.v (.slice a N.length c))), (6, .c (i64 i))]) (fun _ => []) 0 ⟨by omega, px, L, hs1, hx, hlk, hk, hsf⟩ ?_ ?_
    · conv => whnf
      repeat (refine And.intro (by first | with_reducible rfl | exact congrArg (Value.int _) (wi (by omega) (by omega)) | exact wi (by omega) (by omega) | rfl) ?_; conv => whnf)
      first | exact trivial | exact fun _ _ h => h
    rintro i mi ⟨hi, p', L', hs', hx', hlk', hk', hsf'⟩
    conv => whnf
    refine ⟨fun hc => ?_, fun hc => ?_⟩
    · have hlt : i < N.length := by have := of_decide_eq_true hc; omega
      clear hc
      obtain ⟨bl, ol, cl, e1, hel⟩ := (hv1.il.sub (hs'.sub (a := pn) (by simp))).real (i := i) (by omega)
      injection e1 with e1 e2 e3
      subst e1
      have hel := hel i (by omega)
      have ee : (nc N)[i]'(by omega) = (N[i] : Int) := by simp [nc]
      rw [ee] at hel
      have hrg := hrng _ (List.getElem_mem hlt)
      have hst := sweepL_take (n := n) (A := A) hlt
      have hbi : mi bs = some (rsvO bx n s ((4 : Nat) : Int)) := hs'.sub (a := blk1 bs (rsvO bx n s 4)) (by simp) _ _ (blk1_same ..)
      obtain ⟨z1', z2', z3', z4', z5'⟩ := hlk'.sizes hk' hsf'
      generalize N[i] = x at *
      conv => whnf
      repeat (refine And.intro (by first | omega | (simp only [times]; omega)) ?_; conv => whnf)
      refine ⟨_, hel, rfl, ?_⟩
      conv => whnf
      refine ⟨_, mcell_of hbi rfl, rfl, ?_⟩
      conv => whnf
      refine ⟨fun hc => ?_, fun hc => ?_⟩
      · have hc' : x < n := by have := of_decide_eq_true hc; omega
        rw [if_pos hc'] at hst
        conv => whnf
        refine ⟨_, mcell_of hbi rfl, rfl, ?_⟩
        conv => whnf
        repeat (refine And.intro (by first | omega | (simp only [times]; omega)) ?_; conv => whnf)
        refine ⟨_, hel, rfl, ?_⟩
        conv => whnf
        refine xcall (refName_spec hrg.2) ?_
        rintro _ m0 ⟨rfl, hs0⟩
        conv => whnf
        refine ⟨fun z hz => by
          have key : ∀ z o, mi z = some o → m0 z = mi z := fun z o ho => (hs0 _ _ ho).trans ho.symm
          have hbl : ∃ o, mi bl = some o := by
            cases h : mi bl with
            | some o => exact ⟨o, rfl⟩
            | none => simp [mcell, h] at hel
          obtain ⟨o, ho⟩ := hbl
          simp at hz
          rcases hz with rfl | rfl | rfl | rfl
          all_goals first | exact key _ _ hbi | exact key _ _ ho, ?_⟩
        have hs00 := hs'.grow hs0
        refine xcall (Spec.at (i := 2) hs00 rfl (refRemove_spec (name := Sn.nm x) hx' (by omega))) ?_
        rintro _ m2 ⟨p1, ⟨rfl, h1⟩, hs1⟩
        conv => whnf
        have h1 : FR p1 bx q nb ns (dropR L' (Sn.nm x)) := by rw [dropR_def]; revert h1; cases fileR L' (Sn.nm x) <;> exact id
        refine ⟨i + 1, ⟨by omega, p1, _, hs1, h1, by rw [hst]; exact ⟨(hlk'.rm _).1, hk'.rm _, safe_rm hsf' _⟩⟩, by first | omega | (simp only; omega), ?_⟩
        conv => whnf
        repeat (refine And.intro (by first | with_reducible rfl | (first | exact congrArg (Value.int _) (iadd1 (by omega))) | exact congrArg (Value.int _) (wi (by omega) (by omega)) | exact wi (by omega) (by omega) | rfl) ?_; conv => whnf)
        first | exact trivial | exact fun _ _ h => h
      · have hc' : ¬ x < n := by have := of_decide_eq_false hc; omega
        rw [if_neg hc'] at hst
        conv => whnf
        refine ⟨i + 1, ⟨by omega, p', L', hs', hx', by rw [hst]; exact ⟨hlk', hk', hsf'⟩⟩, by first | omega | (simp only; omega), ?_⟩
        conv => whnf
        repeat (refine And.intro (by first | with_reducible rfl | (first | exact congrArg (Value.int _) (iadd1 (by omega))) | exact congrArg (Value.int _) (wi (by omega) (by omega)) | exact wi (by omega) (by omega) | rfl) ?_; conv => whnf)
        first | exact trivial | exact fun _ _ h => h
    · have hc' := of_decide_eq_false hc
      obtain rfl : i = N.length := by omega
      rw [List.take_length] at hlk'
      have hs2 : Split mi [blk1 bs (rsvO bx n s 4), p', m] := hs'.drop
      have hb1 : mi bs = some (rsvO bx n s ((4 : Nat) : Int)) := hs2.sub (a := blk1 bs (rsvO bx n s 4)) (by simp) _ _ (blk1_same ..)
      conv => whnf
      refine ⟨_, _, _, hb1, ⟨by simp, by simp⟩, ?_⟩
      conv => whnf
      refine ⟨_, mcell_of (Mem.set_same ..) rfl, rfl, ?_⟩
      conv => whnf
      refine ⟨_, _, _, Mem.set_same .., ⟨by simp, by simp⟩, ?_⟩
      rw [show IntKind.i64.wrap ((-1 : Int) + 1) = ((0 : Nat) : Int) by decide]
      conv => whnf
      refine ⟨_, mcell_of (Mem.set_same ..) rfl, rfl, ?_⟩
      conv => whnf
      have hz := hs2.setAt (i := 0) rfl (blk1_same ..) (rsvO bx n s (-1))
      rw [blk1_set] at hz
      have hz := hz.setAt (i := 0) rfl (blk1_same ..) (rsvO bx n s ((0 : Nat) : Int))
      rw [blk1_set] at hz
      exact ⟨p', L', rfl, hz, by simpa [stepNb, stepNs] using hx', hlk'⟩
end Go.E.YtgjlajcebcmbaaaGreatDoor

/-
  Both have the same files.
-/
namespace Go.E.YtgjlajcebcmbaaaGreatDoor
open Go.Proofs
set_option maxRecDepth 100000
set_option maxHeartbeats 8000000 in
theorem sameF_spec {mm : Mem} {bf bx k nb ns : Nat} {q : Int} {A : List Af} {L : List Rf} {vx : Value} (hf : FA mm bf q nb ns A) (hx : RM mm bx q nb ns L vx) (hlk : Lk A L) (hk : Sm k A nb ns) :
    Spec Tryz.prog 27 [ptrB bf, ptrB bx] mm fun r m' => r = [boolV true] ∧ Sub mm m' := by
  obtain ⟨z1, z2, z3, z4, z5⟩ := hlk.sizes hk hf.safe
  have hNm := hlk.names
  have htt := hlk.tot
  have ho := hx.obj
  obtain ⟨ax, cx, rfl⟩ := rfOk.shape hx.lies
  refine en27 rfl (goY ?_)
  conv => whnf
  refine xcall (names_A hf hk) ?_
  rintro _ m1 ⟨vn, pn, rfl, hs1, hvn⟩
  conv => whnf
  rw [hNm] at hvn
  have hsb : Sub mm m1 := hs1.sub (by simp)
  have hn1 := hvn.sl.sub (hs1.sub (a := pn) (by simp))
  obtain ⟨an, cn, rfl⟩ := hn1.shape
  rw [List.length_map] at hn1 ⊢
  first | refine xretk (counts_A (hf.grow hsb)) ?_ | refine xret (counts_A (hf.grow hsb)) ?_
  conv => whnf
  refine ⟨_, mcell_of (hsb _ _ ho) rfl, rfl, ?_⟩
  refine ⟨fun h => absurd h (by (simp at h)), fun _ => ?_⟩
  conv => whnf
  refine xcall (used_A (hf.grow hsb) hk) ?_
  rintro _ m2 ⟨rfl, hu⟩
  conv => whnf
  have hsb2 := hsb.trans hu
  first | refine xretk (refUsed_spec (hx.sub hsb2) (by omega) (by omega)) ?_ | refine xret (refUsed_spec (hx.sub hsb2) (by omega) (by omega)) ?_
  conv => whnf
  refine ⟨fun h => absurd h (by (rw [htt] at h; simp at h)), fun _ => ?_⟩
  conv => whnf
  refine ⟨_, mcell_of (hsb2 _ _ ho) rfl, rfl, ?_⟩
  refine ⟨fun h => absurd h (by (simp at h)), fun _ => ?_⟩
  conv => whnf
  refine ⟨_, mcell_of (hsb2 _ _ ho) rfl, rfl, ?_⟩
  refine ⟨fun h => absurd h (by (simp at h)), fun _ => ?_⟩
  conv => whnf
  refine .mk (ι := Nat) (fun i => L.length - i) (fun i mx => i ≤ L.length ∧ Sub m2 mx) (fun i => [(0, .c (ptrB bf)), (1, .c (ptrB bx)), (5, .c (.v (.slice an L.length cn))), (8, .c (i64 i))]) (fun _ => []) 0 ⟨by omega, Sub.refl _⟩ ?_ ?_
  · conv => whnf
    repeat (refine And.intro (by first | with_reducible rfl | exact congrArg (Value.int _) (wi (by omega) (by omega)) | exact wi (by omega) (by omega) | rfl) ?_; conv => whnf)
    first | exact trivial | exact fun _ _ h => h
  rintro i mx ⟨hi, hs⟩
  conv => whnf
  refine ⟨fun h1 => ?_, fun h1 => ?_⟩
  rotate_left
  · conv => whnf
    exact ⟨rfl, hsb2.trans hs⟩
  have hi1 : i < L.length := by have := of_decide_eq_true h1; omega
  clear h1
  have hm : Sub mm mx := hsb2.trans hs
  obtain ⟨b1, o1, c1, e, g1⟩ := (hn1.sub (hu.trans hs)).real (i := i) (by rw [List.length_map]; exact hi1)
  injection e with e1 _ e3
  subst e1
  have g1 := g1 i (by rw [List.length_map]; exact hi1)
  rw [List.getElem_map] at g1
  obtain ⟨b2, o2, c2, e, g2⟩ := rfOk.real (hx.sub hm).lies hi1
  injection e with e1 _ e3
  subst e1
  have g2 := g2 i hi1
  have hfa := hlk.has (fileR_at hlk (List.getElem?_eq_getElem hi1)) (List.getElem?_eq_getElem hi1)
  have her : errA A L[i].name = 0 := by rw [errA, hfa]; rfl
  have hox := hm _ _ ho
  generalize L[i] = x at g1 g2 hfa her
  conv => whnf
  repeat (refine And.intro (by first | omega | (simp only [times]; omega)) ?_; conv => whnf)
  refine ⟨_, by simp only [times, Int.toNat_natCast, Nat.mul_one]; exact g1, rfl, ?_⟩
  conv => whnf
  refine xcall (read_A (name := x.name) (hf.grow hm) hk) ?_
  rintro _ m4 ⟨vr, pr, rfl, hs4, hvr⟩
  conv => whnf
  have hsm : Sub mx m4 := hs4.sub (by simp)
  rw [her]
  rw [hfa] at hvr
  simp only [Option.map_some, Option.getD_some, afR] at hvr
  have hvr := hvr.lb.sub (hs4.sub (a := pr) (by simp))
  obtain ⟨ar, cr, rfl⟩ := hvr.shape
  rw [nc_len] at hvr ⊢
  have htx := str_chs x.b
  have hox := hsm _ _ hox
  have g2 := g2.sub hsm
  conv => whnf
  repeat (refine And.intro (by first | omega | (simp only [times]; omega)) ?_; conv => whnf)
  refine ⟨_, by simp only [times, Int.toNat_natCast, Nat.mul_one]; exact mcell_sub g1 hsm, rfl, ?_⟩
  conv => whnf
  refine ⟨_, mcell_of hox rfl, rfl, ?_⟩
  conv => whnf
  repeat (refine And.intro (by first | omega | (simp only [times]; omega)) ?_; conv => whnf)
  refine ⟨_, by simp only [times, Int.toNat_natCast]; exact mcell_rng (j := 0) g2 rfl, rfl, ?_⟩
  conv => whnf
  refine ⟨fun h => absurd h (by (simp at h)), fun _ => ?_⟩
  conv => whnf
  rcases Lb.own (l := nc (chs x.b)) hvr with ⟨c', e⟩ | ⟨a', c', e⟩
  · injection e with e1 he e3'
    subst e1
    have he : chs x.b = [] := List.eq_nil_of_length_eq_zero he
    have h0 : ByteArray.empty = x.b := by rw [← htx, he]; rfl
    conv => whnf
    refine ⟨_, mcell_of hox rfl, rfl, ?_⟩
    conv => whnf
    repeat (refine And.intro (by first | omega | (simp only [times]; omega)) ?_; conv => whnf)
    refine ⟨_, by simp only [times, Int.toNat_natCast]; exact mcell_rng (j := 1) g2 rfl, rfl, ?_⟩
    conv => whnf
    refine ⟨fun h => absurd h (by (first | (rw [h0] at h; simp at h; done) | (rw [htx] at h; simp at h; done))), fun _ => ?_⟩
    conv => whnf
    refine ⟨fun h => absurd h (by (simp at h)), fun _ => ?_⟩
    conv => whnf
    repeat (refine And.intro (by first | omega | (simp only [times]; omega)) ?_; conv => whnf)
    refine ⟨_, by simp only [times, Int.toNat_natCast, Nat.mul_one]; exact mcell_sub g1 hsm, rfl, ?_⟩
    conv => whnf
    refine ⟨_, mcell_of hox rfl, rfl, ?_⟩
    conv => whnf
    repeat (refine And.intro (by first | omega | (simp only [times]; omega)) ?_; conv => whnf)
    refine ⟨_, by simp only [times, Int.toNat_natCast]; exact mcell_rng (j := 2) g2 rfl, rfl, ?_⟩
    conv => whnf
    first | refine xretk (safe_A (name := x.name) (hf.grow (hm.trans hsm))) ?_ | refine xret (safe_A (name := x.name) (hf.grow (hm.trans hsm))) ?_
    conv => whnf
    rw [hfa, Option.map_some, Option.getD_some]
    refine ⟨fun h => absurd h (by (simp [afR] at h)), fun _ => ?_⟩
    conv => whnf
    refine ⟨i + 1, ⟨by omega, hs.trans hsm⟩, by first | omega | (simp only; omega), ?_⟩
    conv => whnf
    repeat (refine And.intro (by first | with_reducible rfl | (first | exact congrArg (Value.int _) (iadd1 (by omega))) | exact congrArg (Value.int _) (wi (by omega) (by omega)) | exact wi (by omega) (by omega) | rfl) ?_; conv => whnf)
    first | exact trivial | exact fun _ _ h => h
  injection e with e1 _ e3'
  subst e1
  by_cases he : chs x.b = []
  · have h0 : ByteArray.empty = x.b := by rw [← htx, he]; rfl
    conv => whnf
    refine .inl ⟨by rw [he]; rfl, ?_⟩
    conv => whnf
    refine ⟨_, mcell_of hox rfl, rfl, ?_⟩
    conv => whnf
    repeat (refine And.intro (by first | omega | (simp only [times]; omega)) ?_; conv => whnf)
    refine ⟨_, by simp only [times, Int.toNat_natCast]; exact mcell_rng (j := 1) g2 rfl, rfl, ?_⟩
    conv => whnf
    refine ⟨fun h => absurd h (by (first | (rw [h0] at h; simp at h; done) | (rw [htx] at h; simp at h; done))), fun _ => ?_⟩
    conv => whnf
    refine ⟨fun h => absurd h (by (simp at h)), fun _ => ?_⟩
    conv => whnf
    repeat (refine And.intro (by first | omega | (simp only [times]; omega)) ?_; conv => whnf)
    refine ⟨_, by simp only [times, Int.toNat_natCast, Nat.mul_one]; exact mcell_sub g1 hsm, rfl, ?_⟩
    conv => whnf
    refine ⟨_, mcell_of hox rfl, rfl, ?_⟩
    conv => whnf
    repeat (refine And.intro (by first | omega | (simp only [times]; omega)) ?_; conv => whnf)
    refine ⟨_, by simp only [times, Int.toNat_natCast]; exact mcell_rng (j := 2) g2 rfl, rfl, ?_⟩
    conv => whnf
    first | refine xretk (safe_A (name := x.name) (hf.grow (hm.trans hsm))) ?_ | refine xret (safe_A (name := x.name) (hf.grow (hm.trans hsm))) ?_
    conv => whnf
    rw [hfa, Option.map_some, Option.getD_some]
    refine ⟨fun h => absurd h (by (simp [afR] at h)), fun _ => ?_⟩
    conv => whnf
    refine ⟨i + 1, ⟨by omega, hs.trans hsm⟩, by first | omega | (simp only; omega), ?_⟩
    conv => whnf
    repeat (refine And.intro (by first | with_reducible rfl | (first | exact congrArg (Value.int _) (iadd1 (by omega))) | exact congrArg (Value.int _) (wi (by omega) (by omega)) | exact wi (by omega) (by omega) | rfl) ?_; conv => whnf)
    first | exact trivial | exact fun _ _ h => h
  · obtain ⟨b4, o4, c4, e⟩ := Lb.real (l := nc (chs x.b)) hvr (by intro e; apply he; have := congrArg List.length e; rw [nc_len] at this; exact List.eq_nil_of_length_eq_zero this)
    injection e with e1 _ e3'
    injection e1 with e1
    subst e1
    conv => whnf
    refine .inr ⟨nc (chs x.b), by rw [nc_len], _, _, rfl, Lb.range (l := nc (chs x.b)) hvr, ?_⟩
    conv => whnf
    refine ⟨_, mcell_of hox rfl, rfl, ?_⟩
    conv => whnf
    repeat (refine And.intro (by first | omega | (simp only [times]; omega)) ?_; conv => whnf)
    refine ⟨_, by simp only [times, Int.toNat_natCast]; exact mcell_rng (j := 1) g2 rfl, rfl, ?_⟩
    conv => whnf
    refine ⟨fun h => absurd h (by (first | (rw [h0] at h; simp at h; done) | (rw [htx] at h; simp at h; done))), fun _ => ?_⟩
    conv => whnf
    refine ⟨fun h => absurd h (by (simp at h)), fun _ => ?_⟩
    conv => whnf
    repeat (refine And.intro (by first | omega | (simp only [times]; omega)) ?_; conv => whnf)
    refine ⟨_, by simp only [times, Int.toNat_natCast, Nat.mul_one]; exact mcell_sub g1 hsm, rfl, ?_⟩
    conv => whnf
    refine ⟨_, mcell_of hox rfl, rfl, ?_⟩
    conv => whnf
    repeat (refine And.intro (by first | omega | (simp only [times]; omega)) ?_; conv => whnf)
    refine ⟨_, by simp only [times, Int.toNat_natCast]; exact mcell_rng (j := 2) g2 rfl, rfl, ?_⟩
    conv => whnf
    first | refine xretk (safe_A (name := x.name) (hf.grow (hm.trans hsm))) ?_ | refine xret (safe_A (name := x.name) (hf.grow (hm.trans hsm))) ?_
    conv => whnf
    rw [hfa, Option.map_some, Option.getD_some]
    refine ⟨fun h => absurd h (by (simp [afR] at h)), fun _ => ?_⟩
    conv => whnf
    refine ⟨i + 1, ⟨by omega, hs.trans hsm⟩, by first | omega | (simp only; omega), ?_⟩
    conv => whnf
    repeat (refine And.intro (by first | with_reducible rfl | (first | exact congrArg (Value.int _) (iadd1 (by omega))) | exact congrArg (Value.int _) (wi (by omega) (by omega)) | exact wi (by omega) (by omega) | rfl) ?_; conv => whnf)
    first | exact trivial | exact fun _ _ h => h
end Go.E.YtgjlajcebcmbaaaGreatDoor

/-
  The law's act upon the files, both ways.
-/
namespace Go.E.YtgjlajcebcmbaaaGreatDoor
open Go.Proofs
set_option maxRecDepth 100000
theorem La.cases3 {m : Mem} {v : Value} {l : List Int} (h : La m v l) : (∃ c, v = .slice none 0 c ∧ l = []) ∨ (∃ a, v = .slice (some a) 0 0 ∧ l = []) ∨ ∃ b o c, v = .slice (some ⟨b, o, none⟩) l.length c ∧ Lb m (.slice (some ⟨b, o, none⟩) l.length c) l := by
  rcases h with h | ⟨rfl, a, rfl⟩
  · rcases Lb.cases h with ⟨c, rfl, rfl⟩ | ⟨b, o, c, arr, t, fr, rfl, _⟩
    · exact .inl ⟨c, rfl, rfl⟩
    · exact .inr (.inr ⟨b, o, c, rfl, h⟩)
  · exact .inr (.inl ⟨a, rfl, rfl⟩)
set_option maxHeartbeats 8000000 in
theorem other_spec {m mm pf px : Mem} {o : Opr} {bf bx k nb ns : Nat} {q : Int} {A : List Af} {L : List Rf} (ho : o.Ok m) (hsm : o.Small) (h : Both pf px bf bx q k nb ns A L) (hs : Split mm [pf, px, m]) (hq : 0 ≤ q ∧ q ≤ 9223372036854775807) (hk1 : k < 1000) :
    Spec Tryz.prog 25 [ptrB bf, ptrB bx, o.cv] mm fun r m' => ∃ pf' px' nb' ns' A' L', r = [boolV true] ∧ Split m' [pf', px', m] ∧ Both pf' px' bf bx q (k + 1) nb' ns' A' L' := by
  obtain ⟨kind, n, name, nto, ab, cb, b, al, cl, last⟩ := o
  obtain ⟨h500, hnm, hto⟩ := hsm
  obtain ⟨hob, hby, hol, hlI, hnI, hll⟩ := ho
  simp only at h500 hnm hto hob hby hol hlI hnI hll
  obtain ⟨hf, hx, hlk, hk⟩ := h
  obtain ⟨z1, z2, z3, z4, z5⟩ := hlk.sizes hk hf.safe
  have hxf : Split mm [px, pf, m] := hs.perm (List.Perm.swap _ _ _)
  refine en25 rfl (goY ?_)
  conv => whnf
  refine ⟨fun h1 => ?_, fun h1 => ?_⟩
  · clear h1
    conv => whnf
    have hchs : chs (strOf (nc b)) = b := chs_str hby
    have hsz : (strOf (nc b)).size = b.length := by rw [strOf_sz, nc_len]
    rcases La.cases3 (l := nc b) hob with ⟨c', e, hnb⟩ | ⟨a', e, hnb⟩ | ⟨blk, ob, c', e, hlb⟩
    rotate_left 2
    · injection e with e1 _ _
      subst e1
      have hmm1 : Sub m mm := hs.sub (by simp)
      have hrg := Lb.range (l := nc b) (hlb.sub hmm1)
      obtain ⟨arr, ty, fr, hblk, _⟩ := Lb.range (l := nc b) hlb
      conv => whnf
      refine .inr ⟨nc b, by rw [nc_len], _, _, rfl, hrg, ?_⟩
      conv => whnf
      obtain ⟨q1, hq1, hs2, back⟩ := Split.pick1 hs
      refine xcall (append_A (name := name) hf hs2 hk (hob.sub (hq1 m (by simp))) hby (by omega) hq (by omega)) ?_
      rintro _ m2 ⟨e, pf', A', nb', rfl, hs3, hf', hr⟩
      conv => whnf
      refine ⟨keptF hblk hmm1 ((hq1 m (by simp)).trans (hs3.sub (by simp))) (by simp), ?_⟩
      conv => whnf
      have hs4 : Split m2 [px, pf', m] := (back _ _ hs3).perm (List.Perm.swap _ _ _)
      refine xcall (Spec.frame hs4 (refAppend_spec (name := name) hx z1 z2 (fun r hr => ⟨hlk.n r hr, (z3 r hr).1⟩) (by omega) (by first | decide | omega) hq z4)) ?_
      rintro _ m3 ⟨px', ⟨e', L', nb2, rfl, hx', hr'⟩, hs5⟩
      conv => whnf
      first | refine ⟨fun _ h => (by cases h), ?_⟩ | skip
      conv => whnf
      obtain ⟨rfl, rfl, hlk'⟩ := hlk.appBoth (by omega) (by first | exact hchs | (rw [h0]; exact hchs)) hr hr'
      have hs6 : Split m3 [pf', px', m] := hs5.perm (List.Perm.swap _ _ _)
      rw [show (e == e) = true from beq_self_eq_true _]
      exact ⟨pf', px', nb', ns, A', L', rfl, hs6, hf', hx', hlk', hk.app hr h500 hk1⟩
    all_goals
      injection e with e1 _ _
      subst e1
      have h0 : ByteArray.empty = strOf (nc b) := by rw [hnb]; rfl
    · conv => whnf
      obtain ⟨q1, hq1, hs2, back⟩ := Split.pick1 hs
      refine xcall (append_A (name := name) hf hs2 hk (hob.sub (hq1 m (by simp))) hby (by omega) hq (by omega)) ?_
      rintro _ m2 ⟨e, pf', A', nb', rfl, hs3, hf', hr⟩
      conv => whnf
      first | refine ⟨fun _ h => (by cases h), ?_⟩ | skip
      conv => whnf
      have hs4 : Split m2 [px, pf', m] := (back _ _ hs3).perm (List.Perm.swap _ _ _)
      refine xcall (Spec.frame hs4 (refAppend_spec (name := name) hx z1 z2 (fun r hr => ⟨hlk.n r hr, (z3 r hr).1⟩) (by omega) (by first | decide | omega) hq z4)) ?_
      rintro _ m3 ⟨px', ⟨e', L', nb2, rfl, hx', hr'⟩, hs5⟩
      conv => whnf
      first | refine ⟨fun _ h => (by cases h), ?_⟩ | skip
      conv => whnf
      obtain ⟨rfl, rfl, hlk'⟩ := hlk.appBoth (by omega) (by first | exact hchs | (rw [h0]; exact hchs)) hr hr'
      have hs6 : Split m3 [pf', px', m] := hs5.perm (List.Perm.swap _ _ _)
      rw [show (e == e) = true from beq_self_eq_true _]
      exact ⟨pf', px', nb', ns, A', L', rfl, hs6, hf', hx', hlk', hk.app hr h500 hk1⟩
    · have hb0 : b = [] := List.eq_nil_of_length_eq_zero (by have := congrArg List.length hnb; rwa [nc_len] at this)
      conv => whnf
      refine .inl ⟨by rw [hb0]; rfl, ?_⟩
      conv => whnf
      obtain ⟨q1, hq1, hs2, back⟩ := Split.pick1 hs
      refine xcall (append_A (name := name) hf hs2 hk (hob.sub (hq1 m (by simp))) hby (by omega) hq (by omega)) ?_
      rintro _ m2 ⟨e, pf', A', nb', rfl, hs3, hf', hr⟩
      conv => whnf
      first | refine ⟨fun _ h => (by cases h), ?_⟩ | skip
      conv => whnf
      have hs4 : Split m2 [px, pf', m] := (back _ _ hs3).perm (List.Perm.swap _ _ _)
      refine xcall (Spec.frame hs4 (refAppend_spec (name := name) hx z1 z2 (fun r hr => ⟨hlk.n r hr, (z3 r hr).1⟩) (by omega) (by first | decide | omega) hq z4)) ?_
      rintro _ m3 ⟨px', ⟨e', L', nb2, rfl, hx', hr'⟩, hs5⟩
      conv => whnf
      first | refine ⟨fun _ h => (by cases h), ?_⟩ | skip
      conv => whnf
      obtain ⟨rfl, rfl, hlk'⟩ := hlk.appBoth (by omega) (by first | exact hchs | (rw [h0]; exact hchs)) hr hr'
      have hs6 : Split m3 [pf', px', m] := hs5.perm (List.Perm.swap _ _ _)
      rw [show (e == e) = true from beq_self_eq_true _]
      exact ⟨pf', px', nb', ns, A', L', rfl, hs6, hf', hx', hlk', hk.app hr h500 hk1⟩
  clear h1
  conv => whnf
  refine ⟨fun h1 => ?_, fun h1 => ?_⟩
  · clear h1
    conv => whnf
    refine xcall (Spec.frame hs (sync_A (name := name) hf hk)) ?_
    rintro _ m1 ⟨pf', ⟨rfl, hf'⟩, hs1⟩
    conv => whnf
    first | refine ⟨fun _ h => (by cases h), ?_⟩ | skip
    conv => whnf
    have hs1 : Split m1 [px, pf', m] := hs1.perm (List.Perm.swap _ _ _)
    refine xcall (Spec.frame hs1 (refSync_spec (name := name) hx z1 z5)) ?_
    rintro _ m2 ⟨px', ⟨e, L', ns', rfl, hx', hr⟩, hs2⟩
    conv => whnf
    first | refine ⟨fun _ h => (by cases h), ?_⟩ | skip
    conv => whnf
    obtain ⟨rfl, e2, e3⟩ := hlk.sync hr
    rw [← e3] at hf'
    rw [show (errA A name == errA A name) = true from beq_self_eq_true _]
    exact ⟨pf', px', nb, ns', _, L', rfl, hs2.perm (List.Perm.swap _ _ _), hf', hx', e2, hk.les (sync_les _ _) (by rw [e3]; split <;> omega) hk1⟩
  clear h1
  conv => whnf
  refine ⟨fun h1 => ?_, fun h1 => ?_⟩
  · clear h1
    conv => whnf
    refine xcall (Spec.frame hs (rename_A (name := name) (b := nto) hf (by omega))) ?_
    rintro _ m1 ⟨pf', ⟨rfl, hf'⟩, hs1⟩
    conv => whnf
    first | refine ⟨fun _ h => (by cases h), ?_⟩ | skip
    conv => whnf
    have hs1 : Split m1 [px, pf', m] := hs1.perm (List.Perm.swap _ _ _)
    refine xcall (Spec.frame hs1 (refRename_spec (a := name) (b := nto) hx z1 hlk.n (by omega))) ?_
    rintro _ m2 ⟨px', ⟨e, L', rfl, hx', hr⟩, hs2⟩
    conv => whnf
    first | refine ⟨fun _ h => (by cases h), ?_⟩ | skip
    conv => whnf
    obtain ⟨rfl, e2⟩ := hlk.ren (by omega) hr
    rw [show (renEA A name nto == renEA A name nto) = true from beq_self_eq_true _]
    exact ⟨pf', px', nb, ns, _, L', rfl, hs2.perm (List.Perm.swap _ _ _), hf', hx', e2, hk.les (ren_les _ _ _) (by omega) hk1⟩
  clear h1
  conv => whnf
  refine ⟨fun h1 => ?_, fun h1 => ?_⟩
  · clear h1
    conv => whnf
    refine xcall (Spec.frame hs (remove_A (name := name) hf)) ?_
    rintro _ m1 ⟨pf', ⟨rfl, hf'⟩, hs1⟩
    conv => whnf
    first | refine ⟨fun _ h => (by cases h), ?_⟩ | skip
    conv => whnf
    have hs1 : Split m1 [px, pf', m] := hs1.perm (List.Perm.swap _ _ _)
    refine xcall (Spec.frame hs1 (refRemove_spec (name := name) hx (by omega))) ?_
    rintro _ m2 ⟨px', ⟨rfl, hx'⟩, hs2⟩
    conv => whnf
    first | refine ⟨fun _ h => (by cases h), ?_⟩ | skip
    conv => whnf
    rw [hlk.err, show (errR L name == errR L name) = true from beq_self_eq_true _]
    exact ⟨pf', px', nb, ns, _, dropR L name, rfl, hs2.perm (List.Perm.swap _ _ _), hf', by unfold dropR; revert hx'; cases fileR L name <;> exact id, (hlk.rm name).1, hk.les (rm_les _ _) (by omega) hk1⟩
  clear h1
  conv => whnf
  refine ⟨fun h1 => ?_, fun h1 => ?_⟩
  · clear h1
    conv => whnf
    obtain ⟨q1, hq1, hs1, back⟩ := Split.pick1 hs
    refine xcall (crash_A hf hs1 hk (hol.sub (hq1 m (by simp))) hll hlI) ?_
    rintro _ m1 ⟨pf', rfl, hs2, hf'⟩
    conv => whnf
    have hs2 : Split m1 [px, pf', m] := (back _ _ hs2).perm (List.Perm.swap _ _ _)
    clear back hs1 hq1
    obtain ⟨q1, hq1, hs1, back⟩ := Split.pick1 hs2
    refine xcall (refCrash_spec hx hs1 z1 z3 (hol.sub (hq1 m (by simp))) hll hlI) ?_
    rintro _ m2 ⟨px', rfl, hs3, hx'⟩
    conv => whnf
    have hs3 : Split m2 [px', pf', m] := back _ _ hs3
    exact ⟨pf', px', nb, ns, _, _, rfl, hs3.perm (List.Perm.swap _ _ _), hf', hx', hlk.crash fun r hr => (z3 r hr).2, hk.les (crash_les _ _) (by omega) hk1⟩
  clear h1
  conv => whnf
  refine ⟨fun h1 => ?_, fun h1 => ?_⟩
  · clear h1
    conv => whnf
    refine xcall (Spec.frame hs (cut_A (name := name) (n := n) hf hk)) ?_
    rintro _ m1 ⟨pf', ⟨rfl, hf'⟩, hs1⟩
    conv => whnf
    first | refine ⟨fun _ h => (by cases h), ?_⟩ | skip
    conv => whnf
    have hs1 : Split m1 [px, pf', m] := hs1.perm (List.Perm.swap _ _ _)
    refine xcall (Spec.frame hs1 (refCutF_spec (name := name) (n := n) hx z1 fun r hr => (z3 r hr).1)) ?_
    rintro _ m2 ⟨px', ⟨e, L', rfl, hx', hr⟩, hs2⟩
    conv => whnf
    first | refine ⟨fun _ h => (by cases h), ?_⟩ | skip
    conv => whnf
    obtain ⟨rfl, e2⟩ := hlk.cut hr
    rw [show (cutEA A name n == cutEA A name n) = true from beq_self_eq_true _]
    exact ⟨pf', px', nb, ns, _, L', rfl, hs2.perm (List.Perm.swap _ _ _), hf', hx', e2, hk.les (cut_les _ _ _) (by omega) hk1⟩
  clear h1
  conv => whnf
  exact ⟨pf, px, nb, ns, A, L, rfl, hs, hf, hx, hlk, hk.les (.refl _) (by omega) hk1⟩
end Go.E.YtgjlajcebcmbaaaGreatDoor

/-
  A save of nobody's.
-/
namespace Go.E.YtgjlajcebcmbaaaGreatDoor
open Go.Proofs
set_option maxRecDepth 100000
theorem numbers_nil {m : Mem} : Spec Tryz.prog 18 [.v (.pointer none)] m fun r m' => r = [.v (.slice none 0 0)] ∧ Sub m m' := by
  refine en18 rfl (goY ?_)
  conv => whnf
  refine xcall (names_nil) ?_
  rintro _ m1 ⟨rfl, hs⟩
  conv => whnf
  refine .mk (ι := Unit) (fun _ => 0) (fun _ mm => mm = m1) (fun _ => [(3, .c (.v (.slice none 0 0))), (9, .c (.v (.slice none 0 0))), (10, .c (i64 0)), (11, .c (i64 0))]) (fun _ => []) () rfl ?_ ?_
  · conv => whnf
    repeat (refine And.intro (by first | with_reducible rfl | exact congrArg (Value.int _) (wi (by omega) (by omega)) | exact wi (by omega) (by omega) | rfl) ?_; conv => whnf)
    first | exact trivial | exact fun _ _ h => h
  rintro ⟨⟩ mm rfl
  refine ⟨fun h => absurd h (by first | decide | simp), fun _ => ?_⟩
  conv => whnf
  exact ⟨rfl, hs⟩
abbrev saveZ : Obj := .cells #[.pointer none, .int .i64 0, .slice none 0 0, .int .i64 0] 61
theorem step_nil {m : Mem} : Ret Tryz.prog 21 [nilP] m [i64 0, i64 6] := by
  refine en21 rfl (goY ?_)
  conv => whnf
  refine ⟨fun _ => ?_, fun h => absurd h (by first | decide | simp)⟩
  conv => whnf
  exact ⟨rfl, rfl⟩
theorem step_zero {m : Mem} {bs : Nat} (h : m bs = some saveZ) : Ret Tryz.prog 21 [ptrB bs] m [i64 0, i64 6] := by
  refine en21 rfl (goY ?_)
  conv => whnf
  refine ⟨fun h => absurd h (by first | decide | simp), fun _ => ?_⟩
  conv => whnf
  refine ⟨_, mcell_of h rfl, rfl, ?_⟩
  conv => whnf
  refine ⟨fun _ => ?_, fun h => absurd h (by first | decide | simp)⟩
  conv => whnf
  exact ⟨rfl, rfl⟩
theorem stage_zero {m : Mem} {bs : Nat} (h : m bs = some saveZ) : Ret Tryz.prog 23 [ptrB bs] m [i64 0] := by
  refine en23 rfl (goY ?_)
  conv => whnf
  refine ⟨fun h => absurd h (by first | decide | simp), fun _ => ?_⟩
  conv => whnf
  refine ⟨_, mcell_of h rfl, rfl, ?_⟩
  conv => whnf
  exact ⟨rfl, rfl⟩
theorem nobody17_spec {m : Mem} : Spec Tryz.prog 28 [] m fun r m' => r = [boolV true] ∧ Sub m m' := by
  refine en28 rfl (goY ?_)
  conv => whnf
  intro b hb
  conv => whnf
  have h0 : Sub m (m.set b saveZ) := Mem.sub_set _ hb
  first | refine xretk (step_nil) ?_ | refine xret (step_nil) ?_
  conv => whnf
  first | refine xretk (step_zero (Mem.set_same ..)) ?_ | refine xret (step_zero (Mem.set_same ..)) ?_
  conv => whnf
  refine xcall (begin_nil) ?_
  rintro _ m1 ⟨rfl, h1⟩
  conv => whnf
  first | refine xretk (load_nil) ?_ | refine xret (load_nil) ?_
  conv => whnf
  have h2 : m1 b = some saveZ := h1 _ _ (Mem.set_same ..)
  refine ⟨fun _ => ?_, fun h => absurd h (by first | decide | simp)⟩
  conv => whnf
  refine ⟨fun _ => ?_, fun h => absurd h (by first | decide | simp)⟩
  conv => whnf
  refine ⟨fun _ => ?_, fun h => absurd h (by first | decide | simp)⟩
  conv => whnf
  refine ⟨fun _ => ?_, fun h => absurd h (by first | decide | simp)⟩
  conv => whnf
  first | refine xretk (stage_nil) ?_ | refine xret (stage_nil) ?_
  conv => whnf
  first | refine xretk (stage_zero h2) ?_ | refine xret (stage_zero h2) ?_
  conv => whnf
  refine xcall (numbers_nil) ?_
  rintro _ m2 ⟨rfl, h3⟩
  conv => whnf
  exact ⟨rfl, (h0.trans h1).trans h3⟩
end Go.E.YtgjlajcebcmbaaaGreatDoor

/-
  The acts of the law of lives: how they lie.
-/
namespace Go.E.YtgjlajcebcmbaaaGreatDoor
open Go.Proofs
set_option maxRecDepth 100000
structure Sop where
  k : Int
  n : Int
  av : Option Addr
  cv : Nat
  ps : List (Value × List Int)
  o : Opr
abbrev Sop.vv (s : Sop) : Value := .slice s.av s.ps.length s.cv
abbrev Sop.cells (s : Sop) : List Value := [.int .i64 s.k, .int .i64 s.n, .slice s.av s.ps.length s.cv, .int .i64 s.o.kind, .int .i64 s.o.n, .string s.o.name, .string s.o.nto, .slice s.o.ab s.o.b.length s.o.cb, .slice s.o.al s.o.last.length s.o.cl]
structure Sop.Ok (m : Mem) (s : Sop) : Prop where
  v : LsA m s.vv s.ps
  byt : ∀ r ∈ s.ps, Byt r.2
  nI : -9223372036854775808 ≤ s.n ∧ s.n ≤ 9223372036854775807
  o : s.o.Ok m
theorem sopOk : EncOk Sop.cells 9 := ⟨fun _ => rfl, fun x u hu => by simp [Sop.cells] at hu; rcases hu with rfl | rfl | rfl | rfl | rfl | rfl | rfl | rfl | rfl <;> rfl, by decide⟩
def Pa (m : Mem) (v : Value) (O : List Sop) : Prop := Lies m 9 v (O.flatMap Sop.cells) ∨ (O = [] ∧ ∃ a, v = .slice (some a) 0 0)
theorem Pa.shape {m : Mem} {v : Value} {O : List Sop} (h : Pa m v O) : ∃ a c, v = .slice a O.length c := by
  rcases h with h | ⟨rfl, a, rfl⟩
  · exact sopOk.shape h
  · exact ⟨_, _, rfl⟩
theorem Pa.sub {m m' : Mem} {v : Value} {O : List Sop} (h : Pa m v O) (hs : Sub m m') : Pa m' v O := h.imp (·.sub hs) id
theorem Pa.real {m : Mem} {v : Value} {O : List Sop} (h : Pa m v O) {i : Nat} (hi : i < O.length) : ∃ b o c, v = .slice (some ⟨b, o, none⟩) O.length c ∧ ∀ j (hj : j < O.length), MRange m b (o + j * 9) O[j].cells := by
  rcases h with h | ⟨rfl, _⟩
  · exact sopOk.real h hi
  · simp at hi
abbrev shSop : Sh := .pair (.int .i64) (.pair (.int .i64) (.pair (.slice (.slice (.int .u8))) (.pair shOp .unit)))
theorem dat_sop {m : Mem} {cs : List Value} (h : Dat m shSop cs) : ∃ s : Sop, cs = s.cells ∧ s.Ok m := by
  obtain ⟨_, _, rfl, ⟨n1, rfl, _⟩, _, _, rfl, ⟨n2, rfl, h2⟩, _, _, rfl, h3, _, _, rfl, h4, h5⟩ := h
  simp only [Dat] at h5
  subst h5
  obtain ⟨v, ps, rfl, e1, e2, _⟩ := dat_lists h3
  obtain ⟨o, rfl, ho⟩ := dat_op h4
  obtain ⟨a, c, rfl⟩ := e1.shape
  exact ⟨⟨n1, n2, a, c, ps, o⟩, rfl, e1, e2, wf_i64 h2, ho⟩
theorem dat_sop_rows {m : Mem} : ∀ {els : List (List Value)}, (∀ c ∈ els, Dat m shSop c) → ∃ O : List Sop, els.flatten = O.flatMap Sop.cells ∧ O.length = els.length ∧ ∀ o ∈ O, o.Ok m
  | [], _ => ⟨[], rfl, rfl, by simp⟩
  | c :: els, h => by
    obtain ⟨e, rfl, he⟩ := dat_sop (h c (by simp))
    obtain ⟨E, h1, h2, h3⟩ := dat_sop_rows (els := els) fun c hc => h c (by simp [hc])
    refine ⟨e :: E, by rw [List.flatten_cons, List.flatMap_cons, h1], by simp [h2], fun o ho => ?_⟩
    rcases List.mem_cons.1 ho with rfl | ho
    · exact he
    · exact h3 o ho
theorem dat_sops {m : Mem} {cs : List Value} (h : Dat m (.slice shSop) cs) : ∃ v O, cs = [v] ∧ Pa m v O ∧ (∀ o ∈ O, o.Ok m) ∧ O.length ≤ 9223372036854775807 := by
  obtain ⟨v, els, rfl, h1, h2, h3, h4⟩ := h
  obtain ⟨E, e1, e2, e3⟩ := dat_sop_rows h3
  refine ⟨v, E, rfl, ?_, e3, by rw [e2]; exact h4⟩
  rcases h1 with h1 | ⟨rfl, a, rfl⟩
  · rw [e1] at h1; exact .inl h1
  · exact .inr ⟨List.eq_nil_of_length_eq_zero (by simpa using e2), a, rfl⟩
theorem Sop.Ok.sub {m m' : Mem} {s : Sop} (h : s.Ok m) (hs : Sub m m') : s.Ok m' := ⟨h.v.sub hs, h.byt, h.nI, ⟨h.o.b.sub hs, h.o.byt, h.o.l.sub hs, h.o.lI, h.o.nI, h.o.ll⟩⟩
/-- a step makes the files little greater -/
theorem Sm.up {k j : Nat} {A : List Af} {nb ns : Nat} (h : Sm k A nb ns) (hj : k + j ≤ 1000) : Sm (k + j) A nb ns :=
  ⟨fun a ha => by have := h.l a ha; omega, by have := h.n; omega, by have := h.nb; omega, by have := h.ns; omega, by omega⟩
theorem Sm.step {k n st nb ns : Nat} {q : Int} {A : List Af} {l : List Nat} (h : Sm k A nb ns) (hl : l.length ≤ 3000) (hk : k + 6 ≤ 1000) : Sm (k + 6) (stepA q n l st A).A (stepNb q l st A nb) (stepNs st A ns) := by
  have hb := stepNb_le q l st A nb
  have hn := stepNs_le st A ns
  have gen : ∀ B : List Af, (∀ a ∈ B, a.l.length ≤ 500 * k + 3000) → B.length ≤ k + 2 → Sm (k + 6) B (stepNb q l st A nb) (stepNs st A ns) := fun B h1 h2 =>
    ⟨fun a ha => by have := h1 a ha; omega, by omega, by have := h.nb; omega, by have := h.ns; omega, hk⟩
  have ofLes : ∀ B : List Af, (∀ b : Nat, (∀ a ∈ A, a.l.length ≤ b) → ∀ a ∈ B, a.l.length ≤ b) → B.length ≤ A.length + 1 → Sm (k + 6) B (stepNb q l st A nb) (stepNs st A ns) := fun B h1 h2 => gen B (fun a ha => by have := h1 _ h.l a ha; omega) (by have := h.n; omega)
  have swp : ∀ (N : List Nat) (B : List Af), (∀ a ∈ B, a.l.length ≤ 500 * k) → (∀ a ∈ sweepL n B N, a.l.length ≤ 500 * k) ∧ (sweepL n B N).length ≤ B.length := by
    intro N
    induction N with
    | nil => exact fun B h => ⟨h, Nat.le_refl _⟩
    | cons x N ih =>
      intro B h
      by_cases hx : x < n
      · have e : sweepL n B (x :: N) = sweepL n (rmA B (Sn.nm x)) N := by simp [sweepL, hx]
        rw [e]
        have := ih (rmA B (Sn.nm x)) (fun a ha => h a (List.mem_filter.1 ha).1)
        exact ⟨this.1, Nat.le_trans this.2 (List.length_filter_le _ _)⟩
      · have e : sweepL n B (x :: N) = sweepL n B N := by simp [sweepL, hx]
        rw [e]
        exact ih B h
  unfold stepA
  split
  · exact ofLes _ (fun b h => h) (by simp only; omega)
  split
  · split
    · obtain ⟨_, h2, h3⟩ := app_tot tmpN l (rmA A tmpN)
      have h4 : (rmA A tmpN).length ≤ A.length := List.length_filter_le _ _
      refine gen _ (fun a ha => ?_) (by have := h.n; simp only; omega)
      have := h3 (500 * k) (fun a ha => h.l a (List.mem_filter.1 ha).1) a ha
      omega
    · exact ofLes _ (fun b h a ha => h a (List.mem_filter.1 ha).1) (by have := List.length_filter_le (fun _ => true) A; have h4 : (rmA A tmpN).length ≤ A.length := List.length_filter_le _ _; simp only; omega)
  split
  · have := sync_les A tmpN
    exact ofLes _ this.l (by have := this.n; simp only; omega)
  split
  · have := ren_les A tmpN (Sn.nm n)
    exact ofLes _ this.l (by have := this.n; simp only; omega)
  · have := swp (numsA A) A h.l
    exact gen _ (fun a ha => by have := this.1 a ha; omega) (by have := this.2; have := h.n; simp only [sweepA]; omega)
theorem Lk.nms {A : List Af} {L : List Rf} (h : Lk A L) : NmS A := fun a ha => by
  obtain ⟨r, hr, e⟩ := h.mem.1 ha
  subst e
  exact h.n r hr
theorem next_mem {b : List Int} : ∀ x ∈ (Fr.next b).1, x ∈ b := by
  intro x hx
  unfold Fr.next at hx
  simp only at hx
  repeat' split at hx
  all_goals first | (simp at hx; done) | exact List.mem_of_mem_drop (List.mem_of_mem_take hx) | exact List.mem_of_mem_take (List.mem_of_mem_drop hx)
theorem read_mem : ∀ (f : Nat) (b : List Int), (Fr.read f b).1.length ≤ f ∧ ∀ p ∈ (Fr.read f b).1, ∀ x ∈ p, x ∈ b
  | 0, b => by simp [Fr.read]
  | f + 1, b => by
    by_cases h : 0 < (Fr.next b).2.1
    · rw [read_step h]
      have h2 := read_mem f (b.drop (Fr.next b).2.1)
      refine ⟨by simp only [List.length_cons]; omega, fun p hp x hx => ?_⟩
      rcases List.mem_cons.1 hp with rfl | hp
      · exact next_mem x hx
      · exact List.mem_of_mem_drop (h2.2 p hp x hx)
    · rw [read_stop h]; exact ⟨Nat.zero_le _, by simp⟩
theorem load_byt {A : List Af} (h : ∀ a ∈ A, ∀ x ∈ a.l, x < 256) (hz : ∀ a ∈ A, a.l.length ≤ 500000) : (loadA A).2.1.length ≤ 1000000 ∧ ∀ p ∈ (loadA A).2.1, Byt p := by
  have hb : ∀ name, Byt (nc (bytesA A name)) := fun name => nc_byt (bytesA_p (P := fun l => ∀ x ∈ l, x < 256) h (by simp))
  have hl : ∀ name, (nc (bytesA A name)).length ≤ 500000 := fun name => by rw [nc_len]; exact bytesA_p (P := fun l => l.length ≤ 500000) hz (by simp)
  cases hn : (numsA A).getLast? with
  | none =>
    have : loadA A = (0, [], 0) := by unfold loadA; rw [hn]
    rw [this]; exact ⟨by simp, by simp⟩
  | some n =>
    rw [loadA_some hn]
    split
    · have h1 := read_mem ((nc (bytesA A (Sn.nm n))).length + 1) (nc (bytesA A (Sn.nm n)))
      have h2 := hl (Sn.nm n)
      exact ⟨by have := h1.1; simp only [readB]; omega, fun p hp x hx => hb (Sn.nm n) x (h1.2 p hp x hx)⟩
    · exact ⟨by simp, by simp⟩
end Go.E.YtgjlajcebcmbaaaGreatDoor
