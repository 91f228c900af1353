/-
  FrB, FrC, FrD, Fr5, FrE
-/
import Derived.Test.YtghdapflkhadoaaFilesLiveZ10
/-
  The document's files, and the given ones: each op keeps them the same.
-/
namespace Go.E.Ytghdapflkhadoaa
open Go.Proofs
set_option maxRecDepth 100000
section
variable {A : List Af} {L : List Rf}
theorem same_get {name : ByteArray} {i : Nat} {x : Rf} (hf : fileR L name = some i) (hx : L[i]? = some x) : x.name = name := by
  obtain ⟨x', hx', hxn⟩ := fileR_get hf
  rw [hx] at hx'
  cases hx'
  exact hxn
theorem erase_filter (h : Lk A L) {name : ByteArray} {i : Nat} (hf : fileR L name = some i) : L.eraseIdx i = L.filter fun r => !decide (r.name = name) := by
  obtain ⟨x, hx, hxn⟩ := fileR_get hf
  obtain ⟨hi, hx⟩ := List.getElem?_eq_some_iff.1 hx
  rw [List.eraseIdx_eq_take_drop_succ]
  have h0 : L = L.take i ++ x :: L.drop (i + 1) := by rw [← hx, List.getElem_cons_drop, List.take_append_drop]
  have hnd := h.nd
  rw [h0] at hnd
  obtain ⟨h1, h2, h3⟩ := List.pairwise_append.1 hnd
  have h4 := (List.pairwise_cons.1 h2).1
  conv => rhs; rw [h0]
  rw [List.filter_append, List.filter_cons, if_neg (by simp [hxn])]
  rw [List.filter_eq_self.2 fun a ha => by have := h3 a ha x (by simp); rw [hxn] at this; simpa using this, List.filter_eq_self.2 fun a ha => by have := h4 a ha; rw [hxn] at this; simpa using fun e : a.name = name => this e.symm]
theorem Lk.rm (h : Lk A L) (name : ByteArray) : Lk (rmA A name) (dropR L name) ∧ fileR (dropR L name) name = none := by
  unfold dropR
  cases hf : fileR L name with
  | none =>
    have h1 := fileR_none.1 hf
    have : rmA A name = A := List.filter_eq_self.2 fun a ha => by
      obtain ⟨r, hr, rfl⟩ := h.mem.1 ha
      simp only [Bool.not_eq_true']
      exact decide_eq_false (h1 r hr)
    rw [this]
    exact ⟨h, hf⟩
  | some i =>
    simp only
    rw [erase_filter h hf]
    refine ⟨⟨?_, h.s.filter _, fun r hr => h.n r (List.mem_filter.1 hr).1⟩, fileR_none.2 fun r hr => by simpa using (List.mem_filter.1 hr).2⟩
    have := h.p.filter fun a => !decide (a.name = name)
    rw [rmA]
    refine this.trans (.of_eq ?_)
    rw [List.filter_map]
    rfl
theorem dropR_some {name : ByteArray} {i : Nat} (hf : fileR L name = some i) : dropR L name = L.eraseIdx i := by rw [dropR, hf]
theorem Lk.cut (h : Lk A L) {name : ByteArray} {n e : Int} {L' : List Rf} (hr : CutRR L name n e L') : e = cutEA A name n ∧ Lk (cutRA A name n) L' := by
  unfold CutRR at hr
  unfold cutEA cutRA
  cases hf : fileR L name with
  | none =>
    rw [hf] at hr
    obtain ⟨rfl, rfl⟩ := hr
    rw [h.hasNo hf]
    exact ⟨rfl, h⟩
  | some i =>
    rw [hf] at hr
    obtain ⟨x, hx, hr⟩ := hr
    have hxn := same_get hf hx
    rw [h.has hf hx]
    have e1 : ((afR x).l.length : Int) = x.b.size := by simp [afR, chs]
    simp only [e1]
    split at hr
    · rename_i hc
      rw [if_pos hc, if_pos hc]
      obtain ⟨rfl, rfl⟩ := hr
      refine ⟨rfl, ?_⟩
      refine h.upd (y := ⟨x.name, x.b.extract 0 n.toNat, min x.safe n.toNat⟩) hf hx rfl ?_ fun a ha => if_neg ha
      rw [if_pos (show (afR x).name = name from hxn)]
      simp [afR, chs, ByteArray.data_extract, List.extract, List.map_take]
    · rename_i hc
      rw [if_neg hc, if_neg hc]
      obtain ⟨rfl, rfl⟩ := hr
      exact ⟨rfl, h⟩
/-- one more, of another name -/
theorem putR_perm (x : Rf) : (putR L x).Perm (x :: L) := by
  rw [putR]
  have : (L.take (aheadR L x.name) ++ [x] ++ L.drop (aheadR L x.name)).Perm ([x] ++ (L.take (aheadR L x.name) ++ L.drop (aheadR L x.name))) := by
    rw [List.append_assoc]
    refine (List.perm_append_comm_assoc _ _ _).trans ?_
    exact .refl _
  refine this.trans ?_
  rw [List.take_append_drop]
  exact .refl _
theorem ahead_lt {x : ByteArray} : ∀ {L : List Rf}, ∀ r ∈ L.take (aheadR L x), encB r.name < encB x
  | [], r, hr => by simp at hr
  | a :: L, r, hr => by
    rw [aheadR, List.takeWhile_cons] at hr
    by_cases h : encB a.name < encB x
    · rw [if_pos (by simpa using h), List.length_cons, List.take_succ_cons] at hr
      rcases List.mem_cons.1 hr with rfl | hr
      · exact h
      · exact ahead_lt r hr
    · rw [if_neg (by simpa using h)] at hr
      simp at hr
theorem ahead_ge {x : ByteArray} : ∀ {L : List Rf}, L.Pairwise (fun a b => encB a.name < encB b.name) → ∀ r ∈ L.drop (aheadR L x), ¬ encB r.name < encB x
  | [], _, r, hr => by simp at hr
  | a :: L, hp, r, hr => by
    obtain ⟨h1, h2⟩ := List.pairwise_cons.1 hp
    rw [aheadR, List.takeWhile_cons] at hr
    by_cases h : encB a.name < encB x
    · rw [if_pos (by simpa using h), List.length_cons, List.drop_succ_cons] at hr
      exact ahead_ge h2 r hr
    · rw [if_neg (by simpa using h)] at hr
      simp only [List.length_nil, List.drop_zero] at hr
      rcases List.mem_cons.1 hr with rfl | hr
      · exact h
      · exact fun k => h (ltB_trans (h1 r hr) k)
theorem Lk.put (h : Lk A L) {x : Rf} (hf : fileR L x.name = none) (hx : x.name.size ≤ 1000000) : Lk (afR x :: A) (putR L x) := by
  have h1 := fileR_none.1 hf
  refine ⟨?_, ?_, fun r hr => ?_⟩
  · refine (List.Perm.cons _ h.p).trans ?_
    exact ((putR_perm x).map afR).symm
  · have hs : (L.take (aheadR L x.name) ++ L.drop (aheadR L x.name)).Pairwise fun a b => encB a.name < encB b.name := by rw [List.take_append_drop]; exact h.s
    obtain ⟨g1, g2, g3⟩ := List.pairwise_append.1 hs
    rw [putR, List.append_assoc]
    refine List.pairwise_append.2 ⟨g1, List.pairwise_cons.2 ⟨fun r hr => ?_, g2⟩, fun a ha b hb => ?_⟩
    · have := ahead_ge h.s r hr
      exact ltB_tot this fun e => h1 r (List.mem_of_mem_drop hr) (encB_inj e)
    · rcases List.mem_cons.1 hb with rfl | hb
      · exact ahead_lt a ha
      · exact g3 a ha b hb
  · rcases put_mem.1 hr with rfl | hr
    · exact hx
    · exact h.n r hr
theorem Lk.perm (h : Lk A L) {A' : List Af} (hp : A'.Perm A) : Lk A' L := ⟨hp.trans h.p, h.s, h.n⟩
theorem appA_add {name : ByteArray} {lb : List Nat} : ∀ {A : List Af}, (∀ a ∈ A, a.name ≠ name) → appA A name lb = A ++ [⟨name, lb, 0⟩]
  | [], _ => rfl
  | a :: A, h => by
    rw [appA, if_neg fun e => h a (by simp) e.symm, appA_add fun x hx => h x (by simp [hx])]; rfl
theorem appA_map {name : ByteArray} {lb : List Nat} : ∀ {A : List Af}, A.Pairwise (fun a b => a.name ≠ b.name) → (∃ a ∈ A, a.name = name) → appA A name lb = A.map fun a => if a.name = name then { a with l := a.l ++ lb } else a
  | [], _, h => by obtain ⟨a, ha, _⟩ := h; cases ha
  | a :: A, hp, h => by
    obtain ⟨h1, h2⟩ := List.pairwise_cons.1 hp
    rw [appA, List.map_cons]
    by_cases e : name = a.name
    · rw [if_pos e, if_pos e.symm]
      congr 1
      refine ((List.map_congr_left fun x hx => ?_).trans (List.map_id A)).symm
      exact if_neg fun e' => h1 x hx (by rw [e', e])
    · rw [if_neg e, if_neg (Ne.symm e)]
      congr 1
      refine appA_map h2 ?_
      obtain ⟨b, hb, hbn⟩ := h
      rcases List.mem_cons.1 hb with rfl | hb
      · exact absurd hbn.symm e
      · exact ⟨b, hb, hbn⟩
theorem chs_append (a b : ByteArray) : chs (a ++ b) = chs a ++ chs b := by simp [chs]
theorem Lk.app (h : Lk A L) {name s : ByteArray} {i : Nat} {x : Rf} (hx : name.size ≤ 1000000) (hf : fileR (addR L name) name = some i) (hg : (addR L name)[i]? = some x) : Lk (appA A name (chs s)) ((addR L name).set i { x with b := x.b ++ s }) := by
  cases h0 : fileR L name with
  | some k =>
    have e1 : addR L name = L := by rw [addR, h0]; rfl
    rw [e1] at hf hg ⊢
    have hxn := same_get hf hg
    rw [appA_map h.ndA ⟨afR x, h.mem.2 ⟨x, List.mem_of_getElem? hg, rfl⟩, hxn⟩]
    refine h.upd (y := { x with b := x.b ++ s }) hf hg rfl ?_ fun a ha => if_neg ha
    rw [if_pos (show (afR x).name = name from hxn)]
    simp [afR, chs_append]
  | none =>
    have e1 : addR L name = putR L ⟨name, ByteArray.empty, 0⟩ := by rw [addR, h0]; rfl
    have h1 := h.put (x := ⟨name, ByteArray.empty, 0⟩) h0 hx
    rw [e1] at hf hg ⊢
    have hfp := fileR_put (x := ⟨name, ByteArray.empty, 0⟩) h0
    rw [hfp] at hf
    cases hf
    have hgp := put_get L ⟨name, ByteArray.empty, 0⟩
    rw [hgp] at hg
    cases hg
    have hno : ∀ a ∈ A, a.name ≠ name := fun a ha => by
      obtain ⟨r, hr, rfl⟩ := h.mem.1 ha
      exact fileR_none.1 h0 r hr
    rw [appA_add hno]
    have h2 := h1.upd (y := ⟨name, ByteArray.empty ++ s, 0⟩) (g := fun a => if a.name = name then { a with l := a.l ++ chs s } else a) hfp hgp rfl (by rw [if_pos (show (afR _).name = name from rfl)]; simp [afR, chs_append, chs]) fun a ha => if_neg ha
    refine h2.perm ?_
    have e2 : A.map (fun a : Af => if a.name = name then { a with l := a.l ++ chs s } else a) = A := (List.map_congr_left fun a ha => if_neg (hno a ha)).trans (List.map_id A)
    rw [List.map_cons, e2, if_pos (show (afR _).name = name from rfl)]
    refine List.perm_append_comm.trans (.of_eq ?_)
    simp [afR, chs]
theorem putA_add {x : Af} {name : ByteArray} : ∀ {A : List Af}, (∀ a ∈ A, a.name ≠ name) → putA x name A = A ++ [{ x with name := name }]
  | [], _ => rfl
  | a :: A, h => by
    rw [putA, if_neg fun e => h a (by simp) e.symm, putA_add fun x hx => h x (by simp [hx])]; rfl
theorem putA_perm {x : Af} {name : ByteArray} : ∀ {A : List Af}, A.Pairwise (fun a b => a.name ≠ b.name) → (putA x name A).Perm ({ x with name := name } :: rmA A name)
  | [], _ => .refl _
  | a :: A, hp => by
    obtain ⟨h1, h2⟩ := List.pairwise_cons.1 hp
    rw [putA, rmA, List.filter_cons]
    by_cases e : name = a.name
    · rw [if_pos e, if_neg (by simp [e])]
      refine .of_eq ?_
      congr 1
      exact (List.filter_eq_self.2 fun b hb => by have := h1 b hb; rw [← e] at this; simpa using fun e : b.name = name => this e.symm).symm
    · rw [if_neg e, if_pos (by simpa using Ne.symm e)]
      refine (List.Perm.cons _ (putA_perm h2)).trans ?_
      exact List.Perm.swap _ _ _
theorem Lk.ren (h : Lk A L) {a b : ByteArray} {e : Int} {L' : List Rf} (hb : b.size ≤ 1000000) (hr : RenR L a b e L') : e = renEA A a b ∧ Lk (renA A a b) L' := by
  unfold RenR at hr
  unfold renEA renA
  cases hf : fileR L a with
  | none =>
    rw [hf] at hr
    obtain ⟨rfl, rfl⟩ := hr
    rw [h.hasNo hf]
    exact ⟨rfl, h⟩
  | some i =>
    rw [hf] at hr
    simp only at hr
    split at hr
    · rename_i hn
      obtain ⟨rfl, rfl⟩ := hr
      obtain ⟨x, hx, _⟩ := fileR_get hf
      rw [h.has hf hx]
      simp only [hn]
      exact ⟨by simp, by simpa using h⟩
    · rename_i hn
      obtain ⟨rfl, x, hx, rfl⟩ := hr
      rw [h.has hf hx]
      have hn : nameOk (chs b) = true := by simpa using hn
      simp only [hn, if_true]
      refine ⟨trivial, ?_⟩
      have h1 := (h.rm a).1
      rw [dropR_some hf] at h1
      obtain ⟨h2, h3⟩ := h1.rm b
      exact (h2.put (x := { x with name := b }) h3 hb).perm (putA_perm h1.ndA)
theorem fileR_at (h : Lk A L) {i : Nat} {x : Rf} (hx : L[i]? = some x) : fileR L x.name = some i := by
  obtain ⟨hi, hx⟩ := List.getElem?_eq_some_iff.1 hx
  rw [fileR, List.findIdx?_eq_some_iff_getElem]
  refine ⟨hi, by rw [hx]; simp, fun j hj => ?_⟩
  have := List.pairwise_iff_getElem.1 h.nd j i (by omega) hi hj
  rw [hx] at this
  simpa using this
theorem Lk.crashTo {last : List Int} (h : Lk A L) (hs : ∀ r ∈ L, r.safe ≤ r.b.size) : ∀ i, i ≤ L.length → Lk (crashTo (L.map (·.name)) last A i) (crashToR L last i)
  | 0, _ => by rw [crashToR_zero]; exact h
  | i + 1, hi => by
    have ih := Lk.crashTo (last := last) h hs i (by omega)
    have hi1 : i < L.length := by omega
    have hgd : (L.map (·.name)).getD i ByteArray.empty = L[i].name := by rw [List.getD_eq_getElem?_getD, List.getElem?_map, List.getElem?_eq_getElem hi1]; rfl
    have hg : (crashToR L last i)[i]? = some L[i] := by
      rw [List.getElem?_eq_getElem (by rw [crashToR_len]; exact hi1), crashToR_at]
    have hf := fileR_at ih hg
    have hsx := hs _ (List.getElem_mem hi1)
    rw [Go.E.Ytghdapflkhadoaa.crashTo, hgd, crashToR_succ hi1, crash1]
    refine ih.upd (y := crash1R L[i] (last.getD i 0)) hf hg rfl ?_ fun a ha => if_neg ha
    rw [if_pos (show (afR L[i]).name = L[i].name from rfl)]
    have e1 : lastN (afR L[i]) (last.getD i 0) = lastR L[i] (last.getD i 0) := by
      simp only [lastN, lastR, afR, chs_len]
    rw [e1]
    simp [afR, crash1R, chs, ByteArray.data_extract, List.extract, List.map_take]
theorem Lk.crash {last : List Int} (h : Lk A L) (hs : ∀ r ∈ L, r.safe ≤ r.b.size) : Lk (crashA A last) (crashToR L last L.length) := by
  rw [crashA, h.names, h.len]
  exact h.crashTo hs _ (Nat.le_refl _)
end
end Go.E.Ytghdapflkhadoaa

/-
  An op, of both.
-/
namespace Go.E.Ytghdapflkhadoaa
open Go.Proofs
set_option maxRecDepth 100000
theorem chs_str {l : List Nat} (h : ∀ x ∈ l, x < 256) : chs (strOf (nc l)) = l := by
  rw [chs, strOf_data, by8, nc, List.map_map, List.map_map]
  refine (List.map_congr_left fun x hx => ?_).trans (List.map_id l)
  have := h x hx
  simp [Function.comp, UInt8.toNat_ofNat', Nat.mod_eq_of_lt this]
theorem Lk.sizes {A : List Af} {L : List Rf} {k nb ns : Nat} (h : Lk A L) (hk : Sm k A nb ns) (hs : ∀ a ∈ A, a.safe ≤ a.l.length) : L.length ≤ 100000 ∧ usedR L ≤ 1000000000 ∧ (∀ r ∈ L, r.b.size ≤ 1000000000 ∧ r.safe ≤ r.b.size) ∧ nb ≤ 1000000000 ∧ ns ≤ 1000000000 := by
  have h1 := hk.n
  have h2 := hk.k
  have h3 := hk.nb
  have h4 := hk.ns
  have h5 := hk.tot
  rw [h.len] at h1
  rw [h.tot] at h5
  refine ⟨by omega, by omega, fun r hr => ?_, by omega, by omega⟩
  have ha := h.mem.2 ⟨r, hr, rfl⟩
  have e1 := hk.l _ ha
  have e2 := hs _ ha
  simp only [afR, chs_len] at e1 e2
  omega
theorem str_chs (s : ByteArray) : strOf (nc (chs s)) = s := by
  have h := strOf_data (nc (chs s))
  have e : by8 (nc (chs s)) = s.data.toList := by
    rw [by8, nc, chs, List.map_map, List.map_map]
    refine (List.map_congr_left fun x _ => ?_).trans (List.map_id _)
    simp [Function.comp]
  rw [e] at h
  exact encB_inj h
theorem Lk.text {A : List Af} {L : List Rf} (h : Lk A L) (name : ByteArray) : strOf (nc (((fileA A name).map (·.l)).getD [])) = ((fileR L name).bind fun i => L[i]?.map (·.b)).getD ByteArray.empty := by
  rw [h.file]
  cases hf : fileR L name with
  | none => rfl
  | some i =>
    obtain ⟨x, hx, _⟩ := fileR_get hf
    simp only [Option.bind_some, hx, Option.map_some, Option.getD_some, afR]
    exact str_chs _
theorem Bs.storeX {p : Mem} {b o n c k : Nat} {l : List Int} (h : Bs p (.slice (some ⟨b, o, none⟩) n c) l) (hk : k < l.length) :
    ∃ arr, p b = some (.cells arr 5 (0, 0)) ∧ o + k < arr.size ∧ ∀ x, Bs (p.set b (.cells (arr.setIfInBounds (o + k) (.int .u8 x)) 5 (0, 0))) (.slice (some ⟨b, o, none⟩) n c) (l.set k x) := by
  obtain ⟨arr, h1, h2, _⟩ := Bs.store (x := 0) h hk
  refine ⟨arr, h1, h2, fun x => ?_⟩
  obtain ⟨arr', g1, _, g3⟩ := Bs.store (x := x) h hk
  rw [h1] at g1
  cases g1
  exact g3
theorem Lk.appBoth {A A' : List Af} {L L' : List Rf} {name s : ByteArray} {lb : List Nat} {q e e' : Int} {nb nb1 nb2 : Nat} (h : Lk A L) (hx : name.size ≤ 1000000) (hs : chs s = lb) (hr : AppR A name lb q e A' nb nb1)
    (hr' : if nameOk (chs name) = false then e' = 1 ∧ L' = L ∧ nb2 = nb else if 0 < q ∧ q < usedR L + s.size then e' = 5 ∧ L' = L ∧ nb2 = nb else e' = 0 ∧ nb2 = nb + s.size ∧ ∃ i x, fileR (addR L name) name = some i ∧ (addR L name)[i]? = some x ∧ L' = (addR L name).set i { x with b := x.b ++ s }) : e = e' ∧ nb1 = nb2 ∧ Lk A' L' := by
  unfold AppR at hr
  have hz : lb.length = s.size := by rw [← hs, chs_len]
  have ht := h.tot
  by_cases h1 : nameOk (chs name) = false
  · rw [if_pos h1] at hr hr'
    obtain ⟨rfl, rfl, rfl⟩ := hr
    obtain ⟨rfl, rfl, rfl⟩ := hr'
    exact ⟨rfl, rfl, h⟩
  rw [if_neg h1] at hr hr'
  by_cases h2 : 0 < q ∧ q < usedR L + s.size
  · rw [if_pos (by omega)] at hr
    rw [if_pos h2] at hr'
    obtain ⟨rfl, rfl, rfl⟩ := hr
    obtain ⟨rfl, rfl, rfl⟩ := hr'
    exact ⟨rfl, rfl, h⟩
  · rw [if_neg (by omega)] at hr
    rw [if_neg h2] at hr'
    obtain ⟨rfl, rfl, rfl⟩ := hr
    obtain ⟨rfl, rfl, i, x, h3, h4, rfl⟩ := hr'
    refine ⟨rfl, by rw [hz], ?_⟩
    rw [← hs]
    exact h.app hx h3 h4
/-- both, in parts of their own -/
structure Both (pf px : Mem) (bf bx : Nat) (q : Int) (k nb ns : Nat) (A : List Af) (L : List Rf) : Prop where
  f : FA pf bf q nb ns A
  x : FR px bx q nb ns L
  lk : Lk A L
  sm : Sm k A nb ns
set_option maxHeartbeats 8000000 in
theorem do_spec {m mm pf px : Mem} {o : Opr} {bf bx k nb ns : Nat} {q : Int} {A : List Af} {L : List Rf} (ho : o.Ok m) (hsm : o.Small) (h : Both pf px bf bx q k nb ns A L) (hs : Split mm [pf, px, m]) (hq : 0 ≤ q ∧ q ≤ 9223372036854775807) (hk1 : k < 1000) :
    Spec Try.prog 9 [ptrB bf, ptrB bx, o.cv] mm fun r m' => ∃ pf' px' nb' ns' A' L', r = [boolV true] ∧ Split m' [pf', px', m] ∧ Both pf' px' bf bx q (k + 1) nb' ns' A' L' := by
  obtain ⟨kind, n, name, to, ab, cb, b, al, cl, last⟩ := o
  obtain ⟨h500, hnm, hto⟩ := hsm
  obtain ⟨hob, hby, hol, hlI, hnI, hll⟩ := ho
  simp only at h500 hnm hto hob hby hol hlI hnI hll
  obtain ⟨hf, hx, hlk, hk⟩ := h
  obtain ⟨z1, z2, z3, z4, z5⟩ := hlk.sizes hk hf.safe
  have hxf : Split mm [px, pf, m] := hs.perm (List.Perm.swap _ _ _)
  refine en9 rfl (goY ?_)
  conv => whnf
  refine ⟨fun h1 => ?_, fun h1 => ?_⟩
  · clear h1
    conv => whnf
    refine .mk _ (buildB0) ?_
    rintro _ _ ⟨b0, hb0, rfl, rfl⟩
    conv => whnf
    have hs0 := hs.new hb0 (.cells #[] 5)
    refine .mk _ (appendBat (i := 0) hs0 rfl (Bs.none0 (blk1_same ..)) (hob.sub (hs0.sub (a := m) (by simp))) (by rw [List.length_nil, nc_len]; omega)) ?_
    rintro _ m1 ⟨v1, p1, rfl, hs1, hv1⟩
    conv => whnf
    have hs1 : Split m1 [p1, pf, px, m] := hs1
    have hv1 := hv1.own
    rw [List.nil_append] at hv1
    obtain ⟨ao, co, rfl⟩ := hv1.lb.shape
    have hchs : chs (strOf (nc b)) = b := chs_str hby
    have hsz : (strOf (nc b)).size = b.length := by rw [strOf_size, nc_len]
    obtain ⟨vx, hrm⟩ := hx.rm
    have hmm1 : Sub m m1 := hs1.sub (by simp)
    rcases La.cases (l := nc b) hob with ⟨c', e, hnb⟩ | ⟨a', e, hnb⟩ | ⟨blk, ob, c', e, hlb⟩
    rotate_left 2
    · injection e with e1 _ _
      subst e1
      have hrg := Lb.range (l := nc b) (hlb.sub hmm1)
      obtain ⟨arr, ty, fr, hblk, _⟩ := Lb.range (l := nc b) hlb
      conv => whnf
      refine .inr ⟨nc b, by rw [nc_len], _, _, rfl, hrg, ?_⟩
      conv => whnf
      obtain ⟨q1, hq1, hs2, back⟩ := Split.pick1 (hs1.perm (List.Perm.swap _ _ _))
      refine xcall (append_A (name := name) hf hs2 hk ((hv1.lb.sub (hq1 p1 (by simp))).la) hby (by omega) hq (by omega)) ?_
      rintro _ m2 ⟨e, pf', A', nb', rfl, hs3, hf', hr⟩
      conv => whnf
      refine ⟨keptF hblk hmm1 ((hq1 m (by simp)).trans (hs3.sub (by simp))) (by simp), ?_⟩
      conv => whnf
      have hs3 : Split m2 [pf', p1, px, m] := back _ _ hs3
      have hs4 : Split m2 [px, p1, pf', m] := hs3.perm (by
        refine (List.Perm.cons _ (List.Perm.swap _ _ _)).trans ?_
        refine (List.Perm.swap _ _ _).trans ?_
        exact List.Perm.cons _ (List.Perm.swap _ _ _))
      refine xcall (Spec.frame hs4 (refAppend_spec (name := name) hx z1 z2 (fun r hr => ⟨hlk.n r hr, (z3 r hr).1⟩) (by omega) (by first | decide | omega) hq z4)) ?_
      rintro _ m3 ⟨px', ⟨e', L', nb2, rfl, hx', hr'⟩, hs5⟩
      conv => whnf
      obtain ⟨rfl, rfl, hlk'⟩ := hlk.appBoth (by omega) (by first | exact hchs | (rw [h0]; exact hchs)) hr hr'
      have hs6 : Split m3 [p1, pf', px', m] := hs5.perm (by
        refine (List.Perm.swap _ _ _).trans ?_
        exact List.Perm.cons _ (List.Perm.swap _ _ _))
      rw [show (e == e) = true from beq_self_eq_true _, nc_len]
      rw [nc_len] at hv1
      refine .mk (ι := Nat) (fun i => b.length - i) (fun i mm => i ≤ b.length ∧ ∃ po l, Split mm [po, pf', px', m] ∧ Bs po (.slice ao b.length co) l ∧ l.length = b.length) (fun i => [(7, .c (.v (.slice ao b.length co))), (8, .c (boolV true)), (9, .c (i64 i))]) (fun _ => []) 0 ⟨by omega, p1, nc b, hs6, hv1, nc_len b⟩ ?_ ?_
      · conv => whnf
        repeat (refine And.intro (by first | with_reducible rfl | exact congrArg (Value.int _) (wi (by omega) (by omega)) | exact wi (by omega) (by omega) | rfl) ?_; conv => whnf)
        first | exact trivial | exact fun _ _ h => h
      rintro i mm ⟨hi, po, l, hs, hv, hl1⟩
      conv => whnf
      refine ⟨fun h1 => ?_, fun h1 => ?_⟩
      rotate_left
      · conv => whnf
        exact ⟨pf', px', nb', ns, A', L', rfl, hs.drop, hf', hx', hlk', hk.app hr h500 hk1⟩
      have hi1 : i < b.length := by have := of_decide_eq_true h1; omega
      obtain ⟨bo, oo, c2, e⟩ := Lb.real (l := l) hv.lb (by intro e; rw [e] at hl1; simp at hl1; omega)
      injection e with e1 e2 e3
      subst e1 e3
      have hg := Lb.at (hv.lb.sub (hs.sub (a := po) (by simp))) (j := i) (x := l[i]) (List.getElem?_eq_getElem (by omega))
      conv => whnf
      repeat (refine And.intro (by first | omega | (simp only [times]; omega)) ?_; conv => whnf)
      refine ⟨_, by simp only [times, Int.toNat_natCast, Nat.mul_one]; exact hg, rfl, ?_⟩
      conv => whnf
      repeat (refine And.intro (by first | omega | (simp only [times]; omega)) ?_; conv => whnf)
      obtain ⟨arr, g1, g2, g3⟩ := Bs.storeX (k := i) hv (by omega)
      refine ⟨_, _, _, hs.sub (a := po) (by simp) _ _ g1, ⟨by simp only [times, Int.toNat_natCast]; omega, by simp⟩, ?_⟩
      simp only [times, Int.toNat_natCast, Nat.mul_one]
      conv => whnf
      refine ⟨i + 1, ⟨by omega, _, _, hs.setAt (i := 0) rfl g1 _, g3 _, by rw [List.length_set]; exact hl1⟩, by first | omega | (simp only; omega), ?_⟩
      conv => whnf
      repeat (refine And.intro (by first | with_reducible rfl | (first | exact congrArg (Value.int _) (iadd1 (by omega))) | exact congrArg (Value.int _) (wi (by omega) (by omega)) | exact wi (by omega) (by omega) | rfl) ?_; conv => whnf)
      first | exact trivial | exact fun _ _ h => h
    all_goals
      injection e with e1 _ _
      subst e1
      have h0 : ByteArray.empty = strOf (nc b) := by rw [hnb]; rfl
    · conv => whnf
      obtain ⟨q1, hq1, hs2, back⟩ := Split.pick1 (hs1.perm (List.Perm.swap _ _ _))
      refine xcall (append_A (name := name) hf hs2 hk ((hv1.lb.sub (hq1 p1 (by simp))).la) hby (by omega) hq (by omega)) ?_
      rintro _ m2 ⟨e, pf', A', nb', rfl, hs3, hf', hr⟩
      conv => whnf
      first | refine ⟨fun _ h => (by cases h), ?_⟩ | skip
      conv => whnf
      have hs3 : Split m2 [pf', p1, px, m] := back _ _ hs3
      have hs4 : Split m2 [px, p1, pf', m] := hs3.perm (by
        refine (List.Perm.cons _ (List.Perm.swap _ _ _)).trans ?_
        refine (List.Perm.swap _ _ _).trans ?_
        exact List.Perm.cons _ (List.Perm.swap _ _ _))
      refine xcall (Spec.frame hs4 (refAppend_spec (name := name) hx z1 z2 (fun r hr => ⟨hlk.n r hr, (z3 r hr).1⟩) (by omega) (by first | decide | omega) hq z4)) ?_
      rintro _ m3 ⟨px', ⟨e', L', nb2, rfl, hx', hr'⟩, hs5⟩
      conv => whnf
      first | refine ⟨fun _ h => (by cases h), ?_⟩ | skip
      conv => whnf
      obtain ⟨rfl, rfl, hlk'⟩ := hlk.appBoth (by omega) (by first | exact hchs | (rw [h0]; exact hchs)) hr hr'
      have hs6 : Split m3 [p1, pf', px', m] := hs5.perm (by
        refine (List.Perm.swap _ _ _).trans ?_
        exact List.Perm.cons _ (List.Perm.swap _ _ _))
      rw [show (e == e) = true from beq_self_eq_true _, nc_len]
      rw [nc_len] at hv1
      refine .mk (ι := Nat) (fun i => b.length - i) (fun i mm => i ≤ b.length ∧ ∃ po l, Split mm [po, pf', px', m] ∧ Bs po (.slice ao b.length co) l ∧ l.length = b.length) (fun i => [(7, .c (.v (.slice ao b.length co))), (8, .c (boolV true)), (9, .c (i64 i))]) (fun _ => []) 0 ⟨by omega, p1, nc b, hs6, hv1, nc_len b⟩ ?_ ?_
      · conv => whnf
        repeat (refine And.intro (by first | with_reducible rfl | exact congrArg (Value.int _) (wi (by omega) (by omega)) | exact wi (by omega) (by omega) | rfl) ?_; conv => whnf)
        first | exact trivial | exact fun _ _ h => h
      rintro i mm ⟨hi, po, l, hs, hv, hl1⟩
      conv => whnf
      refine ⟨fun h1 => ?_, fun h1 => ?_⟩
      rotate_left
      · conv => whnf
        exact ⟨pf', px', nb', ns, A', L', rfl, hs.drop, hf', hx', hlk', hk.app hr h500 hk1⟩
      have hi1 : i < b.length := by have := of_decide_eq_true h1; omega
      obtain ⟨bo, oo, c2, e⟩ := Lb.real (l := l) hv.lb (by intro e; rw [e] at hl1; simp at hl1; omega)
      injection e with e1 e2 e3
      subst e1 e3
      have hg := Lb.at (hv.lb.sub (hs.sub (a := po) (by simp))) (j := i) (x := l[i]) (List.getElem?_eq_getElem (by omega))
      conv => whnf
      repeat (refine And.intro (by first | omega | (simp only [times]; omega)) ?_; conv => whnf)
      refine ⟨_, by simp only [times, Int.toNat_natCast, Nat.mul_one]; exact hg, rfl, ?_⟩
      conv => whnf
      repeat (refine And.intro (by first | omega | (simp only [times]; omega)) ?_; conv => whnf)
      obtain ⟨arr, g1, g2, g3⟩ := Bs.storeX (k := i) hv (by omega)
      refine ⟨_, _, _, hs.sub (a := po) (by simp) _ _ g1, ⟨by simp only [times, Int.toNat_natCast]; omega, by simp⟩, ?_⟩
      simp only [times, Int.toNat_natCast, Nat.mul_one]
      conv => whnf
      refine ⟨i + 1, ⟨by omega, _, _, hs.setAt (i := 0) rfl g1 _, g3 _, by rw [List.length_set]; exact hl1⟩, by first | omega | (simp only; omega), ?_⟩
      conv => whnf
      repeat (refine And.intro (by first | with_reducible rfl | (first | exact congrArg (Value.int _) (iadd1 (by omega))) | exact congrArg (Value.int _) (wi (by omega) (by omega)) | exact wi (by omega) (by omega) | rfl) ?_; conv => whnf)
      first | exact trivial | exact fun _ _ h => h
    · have hb0 : b = [] := List.eq_nil_of_length_eq_zero (by have := congrArg List.length hnb; rwa [nc_len] at this)
      conv => whnf
      refine .inl ⟨by rw [hb0]; rfl, ?_⟩
      conv => whnf
      obtain ⟨q1, hq1, hs2, back⟩ := Split.pick1 (hs1.perm (List.Perm.swap _ _ _))
      refine xcall (append_A (name := name) hf hs2 hk ((hv1.lb.sub (hq1 p1 (by simp))).la) hby (by omega) hq (by omega)) ?_
      rintro _ m2 ⟨e, pf', A', nb', rfl, hs3, hf', hr⟩
      conv => whnf
      first | refine ⟨fun _ h => (by cases h), ?_⟩ | skip
      conv => whnf
      have hs3 : Split m2 [pf', p1, px, m] := back _ _ hs3
      have hs4 : Split m2 [px, p1, pf', m] := hs3.perm (by
        refine (List.Perm.cons _ (List.Perm.swap _ _ _)).trans ?_
        refine (List.Perm.swap _ _ _).trans ?_
        exact List.Perm.cons _ (List.Perm.swap _ _ _))
      refine xcall (Spec.frame hs4 (refAppend_spec (name := name) hx z1 z2 (fun r hr => ⟨hlk.n r hr, (z3 r hr).1⟩) (by omega) (by first | decide | omega) hq z4)) ?_
      rintro _ m3 ⟨px', ⟨e', L', nb2, rfl, hx', hr'⟩, hs5⟩
      conv => whnf
      first | refine ⟨fun _ h => (by cases h), ?_⟩ | skip
      conv => whnf
      obtain ⟨rfl, rfl, hlk'⟩ := hlk.appBoth (by omega) (by first | exact hchs | (rw [h0]; exact hchs)) hr hr'
      have hs6 : Split m3 [p1, pf', px', m] := hs5.perm (by
        refine (List.Perm.swap _ _ _).trans ?_
        exact List.Perm.cons _ (List.Perm.swap _ _ _))
      rw [show (e == e) = true from beq_self_eq_true _, nc_len]
      rw [nc_len] at hv1
      refine .mk (ι := Nat) (fun i => b.length - i) (fun i mm => i ≤ b.length ∧ ∃ po l, Split mm [po, pf', px', m] ∧ Bs po (.slice ao b.length co) l ∧ l.length = b.length) (fun i => [(7, .c (.v (.slice ao b.length co))), (8, .c (boolV true)), (9, .c (i64 i))]) (fun _ => []) 0 ⟨by omega, p1, nc b, hs6, hv1, nc_len b⟩ ?_ ?_
      · conv => whnf
        repeat (refine And.intro (by first | with_reducible rfl | exact congrArg (Value.int _) (wi (by omega) (by omega)) | exact wi (by omega) (by omega) | rfl) ?_; conv => whnf)
        first | exact trivial | exact fun _ _ h => h
      rintro i mm ⟨hi, po, l, hs, hv, hl1⟩
      conv => whnf
      refine ⟨fun h1 => ?_, fun h1 => ?_⟩
      rotate_left
      · conv => whnf
        exact ⟨pf', px', nb', ns, A', L', rfl, hs.drop, hf', hx', hlk', hk.app hr h500 hk1⟩
      have hi1 : i < b.length := by have := of_decide_eq_true h1; omega
      obtain ⟨bo, oo, c2, e⟩ := Lb.real (l := l) hv.lb (by intro e; rw [e] at hl1; simp at hl1; omega)
      injection e with e1 e2 e3
      subst e1 e3
      have hg := Lb.at (hv.lb.sub (hs.sub (a := po) (by simp))) (j := i) (x := l[i]) (List.getElem?_eq_getElem (by omega))
      conv => whnf
      repeat (refine And.intro (by first | omega | (simp only [times]; omega)) ?_; conv => whnf)
      refine ⟨_, by simp only [times, Int.toNat_natCast, Nat.mul_one]; exact hg, rfl, ?_⟩
      conv => whnf
      repeat (refine And.intro (by first | omega | (simp only [times]; omega)) ?_; conv => whnf)
      obtain ⟨arr, g1, g2, g3⟩ := Bs.storeX (k := i) hv (by omega)
      refine ⟨_, _, _, hs.sub (a := po) (by simp) _ _ g1, ⟨by simp only [times, Int.toNat_natCast]; omega, by simp⟩, ?_⟩
      simp only [times, Int.toNat_natCast, Nat.mul_one]
      conv => whnf
      refine ⟨i + 1, ⟨by omega, _, _, hs.setAt (i := 0) rfl g1 _, g3 _, by rw [List.length_set]; exact hl1⟩, by first | omega | (simp only; omega), ?_⟩
      conv => whnf
      repeat (refine And.intro (by first | with_reducible rfl | (first | exact congrArg (Value.int _) (iadd1 (by omega))) | exact congrArg (Value.int _) (wi (by omega) (by omega)) | exact wi (by omega) (by omega) | rfl) ?_; conv => whnf)
      first | exact trivial | exact fun _ _ h => h
  clear h1
  conv => whnf
  refine ⟨fun h1 => ?_, fun h1 => ?_⟩
  · clear h1
    conv => whnf
    refine xcall (Spec.frame hs (sync_A (name := name) hf hk)) ?_
    rintro _ m1 ⟨pf', ⟨rfl, hf'⟩, hs1⟩
    conv => whnf
    first | refine ⟨fun _ h => (by cases h), ?_⟩ | skip
    conv => whnf
    have hs1 : Split m1 [px, pf', m] := hs1.perm (List.Perm.swap _ _ _)
    refine xcall (Spec.frame hs1 (refSync_spec (name := name) hx z1 z5)) ?_
    rintro _ m2 ⟨px', ⟨e, L', ns', rfl, hx', hr⟩, hs2⟩
    conv => whnf
    first | refine ⟨fun _ h => (by cases h), ?_⟩ | skip
    conv => whnf
    obtain ⟨rfl, e2, e3⟩ := hlk.sync hr
    rw [← e3] at hf'
    rw [show (errA A name == errA A name) = true from beq_self_eq_true _]
    exact ⟨pf', px', nb, ns', _, L', rfl, hs2.perm (List.Perm.swap _ _ _), hf', hx', e2, hk.les (sync_les _ _) (by rw [e3]; split <;> omega) hk1⟩
  clear h1
  conv => whnf
  refine ⟨fun h1 => ?_, fun h1 => ?_⟩
  · clear h1
    conv => whnf
    refine xcall (Spec.frame hs (rename_A (name := name) (b := to) hf (by omega))) ?_
    rintro _ m1 ⟨pf', ⟨rfl, hf'⟩, hs1⟩
    conv => whnf
    first | refine ⟨fun _ h => (by cases h), ?_⟩ | skip
    conv => whnf
    have hs1 : Split m1 [px, pf', m] := hs1.perm (List.Perm.swap _ _ _)
    refine xcall (Spec.frame hs1 (refRename_spec (a := name) (b := to) hx z1 hlk.n (by omega))) ?_
    rintro _ m2 ⟨px', ⟨e, L', rfl, hx', hr⟩, hs2⟩
    conv => whnf
    first | refine ⟨fun _ h => (by cases h), ?_⟩ | skip
    conv => whnf
    obtain ⟨rfl, e2⟩ := hlk.ren (by omega) hr
    rw [show (renEA A name to == renEA A name to) = true from beq_self_eq_true _]
    exact ⟨pf', px', nb, ns, _, L', rfl, hs2.perm (List.Perm.swap _ _ _), hf', hx', e2, hk.les (ren_les _ _ _) (by omega) hk1⟩
  clear h1
  conv => whnf
  refine ⟨fun h1 => ?_, fun h1 => ?_⟩
  · clear h1
    conv => whnf
    refine xcall (Spec.frame hs (remove_A (name := name) hf)) ?_
    rintro _ m1 ⟨pf', ⟨rfl, hf'⟩, hs1⟩
    conv => whnf
    first | refine ⟨fun _ h => (by cases h), ?_⟩ | skip
    conv => whnf
    have hs1 : Split m1 [px, pf', m] := hs1.perm (List.Perm.swap _ _ _)
    refine xcall (Spec.frame hs1 (refRemove_spec (name := name) hx (by omega))) ?_
    rintro _ m2 ⟨px', ⟨rfl, hx'⟩, hs2⟩
    conv => whnf
    first | refine ⟨fun _ h => (by cases h), ?_⟩ | skip
    conv => whnf
    rw [hlk.err, show (errR L name == errR L name) = true from beq_self_eq_true _]
    exact ⟨pf', px', nb, ns, _, dropR L name, rfl, hs2.perm (List.Perm.swap _ _ _), hf', by unfold dropR; revert hx'; cases fileR L name <;> exact id, (hlk.rm name).1, hk.les (rm_les _ _) (by omega) hk1⟩
  clear h1
  conv => whnf
  refine ⟨fun h1 => ?_, fun h1 => ?_⟩
  · clear h1
    conv => whnf
    refine xcall (read_A (name := name) (hf.grow (hs.sub (by simp))) hk) ?_
    rintro _ m1 ⟨vr, pr, rfl, hs1, hvr⟩
    conv => whnf
    have hs1 : Split m1 [pr, pf, px, m] := hs1.under (a := [pr]) hs
    obtain ⟨vx, hrm⟩ := hx.rm
    have htx := hlk.text name
    have her := hlk.err name
    generalize ((fileA A name).map (·.l)).getD [] = lr at hvr htx
    have hvr := hvr.lb.sub (hs1.sub (a := pr) (by simp))
    obtain ⟨ar, cr, rfl⟩ := hvr.shape
    rw [nc_len] at hvr ⊢
    have fin : ∀ {m1}, Split m1 [pr, pf, px, m] → ∃ pf' px' nb' ns' A' L', [boolV true] = [boolV true] ∧ Split m1 [pf', px', m] ∧ Both pf' px' bf bx q (k + 1) nb' ns' A' L' := fun hs1 => ⟨pf, px, nb, ns, A, L, rfl, hs1.drop, hf, hx, hlk, hk.les (.refl _) (by omega) hk1⟩
    first | refine xretk (refRead_spec (name := name) (hrm.sub (hs1.sub (by simp))) (by omega)) ?_ | refine xret (refRead_spec (name := name) (hrm.sub (hs1.sub (by simp))) (by omega)) ?_
    conv => whnf
    rw [← htx, ← her]
    rcases Lb.own (l := nc lr) hvr with ⟨c', e⟩ | ⟨a', c', e⟩
    · injection e with e1 he e3'
      subst e1
      have he : lr = [] := List.eq_nil_of_length_eq_zero he
      subst he
      refine ⟨fun _ => ?_, fun h => absurd h (by (rw [show strOf (nc []) = ByteArray.empty from rfl]; simp))⟩
      conv => whnf
      rw [show (errA A name == errA A name) = true from beq_self_eq_true _]
      exact fin hs1
    injection e with e1 _ e3'
    subst e1
    by_cases he : lr = []
    · subst he
      conv => whnf
      refine .inl ⟨rfl, ?_⟩
      refine ⟨fun _ => ?_, fun h => absurd h (by (rw [show strOf (nc []) = ByteArray.empty from rfl]; simp))⟩
      conv => whnf
      rw [show (errA A name == errA A name) = true from beq_self_eq_true _]
      exact fin hs1
    · obtain ⟨b4, o4, c4, e⟩ := Lb.real (l := nc lr) hvr (by intro e; apply he; have := congrArg List.length e; rw [nc_len] at this; exact List.eq_nil_of_length_eq_zero this)
      injection e with e1 _ e3'
      injection e1 with e1
      subst e1
      conv => whnf
      refine .inr ⟨nc lr, by rw [nc_len], _, _, rfl, Lb.range (l := nc lr) hvr, ?_⟩
      refine ⟨fun _ => ?_, fun h => absurd h (by (simp at h))⟩
      conv => whnf
      rw [show (errA A name == errA A name) = true from beq_self_eq_true _]
      exact fin hs1
  clear h1
  conv => whnf
  refine ⟨fun h1 => ?_, fun h1 => ?_⟩
  · clear h1
    conv => whnf
    obtain ⟨q1, hq1, hs1, back⟩ := Split.pick1 hs
    refine xcall (crash_A hf hs1 hk (hol.sub (hq1 m (by simp))) hll hlI) ?_
    rintro _ m1 ⟨pf', rfl, hs2, hf'⟩
    conv => whnf
    have hs2 : Split m1 [px, pf', m] := (back _ _ hs2).perm (List.Perm.swap _ _ _)
    clear back hs1 hq1
    obtain ⟨q1, hq1, hs1, back⟩ := Split.pick1 hs2
    refine xcall (refCrash_spec hx hs1 z1 z3 (hol.sub (hq1 m (by simp))) hll hlI) ?_
    rintro _ m2 ⟨px', rfl, hs3, hx'⟩
    conv => whnf
    have hs3 : Split m2 [px', pf', m] := back _ _ hs3
    exact ⟨pf', px', nb, ns, _, _, rfl, hs3.perm (List.Perm.swap _ _ _), hf', hx', hlk.crash fun r hr => (z3 r hr).2, hk.les (crash_les _ _) (by omega) hk1⟩
  clear h1
  conv => whnf
  refine ⟨fun h1 => ?_, fun h1 => ?_⟩
  · clear h1
    conv => whnf
    refine xcall (Spec.frame hs (cut_A (name := name) (n := n) hf hk)) ?_
    rintro _ m1 ⟨pf', ⟨rfl, hf'⟩, hs1⟩
    conv => whnf
    first | refine ⟨fun _ h => (by cases h), ?_⟩ | skip
    conv => whnf
    have hs1 : Split m1 [px, pf', m] := hs1.perm (List.Perm.swap _ _ _)
    refine xcall (Spec.frame hs1 (refCutF_spec (name := name) (n := n) hx z1 fun r hr => (z3 r hr).1)) ?_
    rintro _ m2 ⟨px', ⟨e, L', rfl, hx', hr⟩, hs2⟩
    conv => whnf
    first | refine ⟨fun _ h => (by cases h), ?_⟩ | skip
    conv => whnf
    obtain ⟨rfl, e2⟩ := hlk.cut hr
    rw [show (cutEA A name n == cutEA A name n) = true from beq_self_eq_true _]
    exact ⟨pf', px', nb, ns, _, L', rfl, hs2.perm (List.Perm.swap _ _ _), hf', hx', e2, hk.les (cut_les _ _ _) (by omega) hk1⟩
  clear h1
  conv => whnf
  exact ⟨pf, px, nb, ns, A, L, rfl, hs, hf, hx, hlk, hk.les (.refl _) (by omega) hk1⟩
end Go.E.Ytghdapflkhadoaa

/-
  Both have the same files.
-/
namespace Go.E.Ytghdapflkhadoaa
open Go.Proofs
set_option maxRecDepth 100000
set_option maxHeartbeats 8000000 in
theorem same_spec {mm : Mem} {bf bx k nb ns : Nat} {q : Int} {A : List Af} {L : List Rf} {vx : Value} (hf : FA mm bf q nb ns A) (hx : RM mm bx q nb ns L vx) (hlk : Lk A L) (hk : Sm k A nb ns) :
    Spec Try.prog 10 [ptrB bf, ptrB bx] mm fun r m' => r = [boolV true] ∧ Sub mm m' := by
  obtain ⟨z1, z2, z3, z4, z5⟩ := hlk.sizes hk hf.safe
  have hNm := hlk.names
  have htt := hlk.tot
  have ho := hx.obj
  obtain ⟨ax, cx, rfl⟩ := rfOk.shape hx.lies
  refine en10 rfl (goY ?_)
  conv => whnf
  refine xcall (names_A hf hk) ?_
  rintro _ m1 ⟨vn, pn, rfl, hs1, hvn⟩
  conv => whnf
  rw [hNm] at hvn
  have hsb : Sub mm m1 := hs1.sub (by simp)
  have hn1 := hvn.sl.sub (hs1.sub (a := pn) (by simp))
  obtain ⟨an, cn, rfl⟩ := hn1.shape
  rw [List.length_map] at hn1 ⊢
  first | refine xretk (counts_A (hf.grow hsb)) ?_ | refine xret (counts_A (hf.grow hsb)) ?_
  conv => whnf
  refine ⟨_, mcell_of (hsb _ _ ho) rfl, rfl, ?_⟩
  refine ⟨fun h => absurd h (by (simp at h)), fun _ => ?_⟩
  conv => whnf
  refine xcall (used_A (hf.grow hsb) hk) ?_
  rintro _ m2 ⟨rfl, hu⟩
  conv => whnf
  have hsb2 := hsb.trans hu
  first | refine xretk (refUsed_spec (hx.sub hsb2) (by omega) (by omega)) ?_ | refine xret (refUsed_spec (hx.sub hsb2) (by omega) (by omega)) ?_
  conv => whnf
  refine ⟨fun h => absurd h (by (rw [htt] at h; simp at h)), fun _ => ?_⟩
  conv => whnf
  refine ⟨_, mcell_of (hsb2 _ _ ho) rfl, rfl, ?_⟩
  refine ⟨fun h => absurd h (by (simp at h)), fun _ => ?_⟩
  conv => whnf
  refine ⟨_, mcell_of (hsb2 _ _ ho) rfl, rfl, ?_⟩
  refine ⟨fun h => absurd h (by (simp at h)), fun _ => ?_⟩
  conv => whnf
  refine .mk (ι := Nat) (fun i => L.length - i) (fun i mx => i ≤ L.length ∧ Sub m2 mx) (fun i => [(0, .c (ptrB bf)), (1, .c (ptrB bx)), (5, .c (.v (.slice an L.length cn))), (8, .c (i64 i))]) (fun _ => []) 0 ⟨by omega, Sub.refl _⟩ ?_ ?_
  · conv => whnf
    repeat (refine And.intro (by first | with_reducible rfl | exact congrArg (Value.int _) (wi (by omega) (by omega)) | exact wi (by omega) (by omega) | rfl) ?_; conv => whnf)
    first | exact trivial | exact fun _ _ h => h
  rintro i mx ⟨hi, hs⟩
  conv => whnf
  refine ⟨fun h1 => ?_, fun h1 => ?_⟩
  rotate_left
  · conv => whnf
    exact ⟨rfl, hsb2.trans hs⟩
  have hi1 : i < L.length := by have := of_decide_eq_true h1; omega
  clear h1
  have hm : Sub mm mx := hsb2.trans hs
  obtain ⟨b1, o1, c1, e, g1⟩ := (hn1.sub (hu.trans hs)).real (i := i) (by rw [List.length_map]; exact hi1)
  injection e with e1 _ e3
  subst e1
  have g1 := g1 i (by rw [List.length_map]; exact hi1)
  rw [List.getElem_map] at g1
  obtain ⟨b2, o2, c2, e, g2⟩ := rfOk.real (hx.sub hm).lies hi1
  injection e with e1 _ e3
  subst e1
  have g2 := g2 i hi1
  have hfa := hlk.has (fileR_at hlk (List.getElem?_eq_getElem hi1)) (List.getElem?_eq_getElem hi1)
  have her : errA A L[i].name = 0 := by rw [errA, hfa]; rfl
  have hox := hm _ _ ho
  generalize L[i] = x at g1 g2 hfa her
  conv => whnf
  repeat (refine And.intro (by first | omega | (simp only [times]; omega)) ?_; conv => whnf)
  refine ⟨_, by simp only [times, Int.toNat_natCast, Nat.mul_one]; exact g1, rfl, ?_⟩
  conv => whnf
  refine xcall (read_A (name := x.name) (hf.grow hm) hk) ?_
  rintro _ m4 ⟨vr, pr, rfl, hs4, hvr⟩
  conv => whnf
  have hsm : Sub mx m4 := hs4.sub (by simp)
  rw [her]
  rw [hfa] at hvr
  simp only [Option.map_some, Option.getD_some, afR] at hvr
  have hvr := hvr.lb.sub (hs4.sub (a := pr) (by simp))
  obtain ⟨ar, cr, rfl⟩ := hvr.shape
  rw [nc_len] at hvr ⊢
  have htx := str_chs x.b
  have hox := hsm _ _ hox
  have g2 := g2.sub hsm
  conv => whnf
  repeat (refine And.intro (by first | omega | (simp only [times]; omega)) ?_; conv => whnf)
  refine ⟨_, by simp only [times, Int.toNat_natCast, Nat.mul_one]; exact mcell_sub g1 hsm, rfl, ?_⟩
  conv => whnf
  refine ⟨_, mcell_of hox rfl, rfl, ?_⟩
  conv => whnf
  repeat (refine And.intro (by first | omega | (simp only [times]; omega)) ?_; conv => whnf)
  refine ⟨_, by simp only [times, Int.toNat_natCast]; exact mcell_rng (j := 0) g2 rfl, rfl, ?_⟩
  conv => whnf
  refine ⟨fun h => absurd h (by (simp at h)), fun _ => ?_⟩
  conv => whnf
  rcases Lb.own (l := nc (chs x.b)) hvr with ⟨c', e⟩ | ⟨a', c', e⟩
  · injection e with e1 he e3'
    subst e1
    have he : chs x.b = [] := List.eq_nil_of_length_eq_zero he
    have h0 : ByteArray.empty = x.b := by rw [← htx, he]; rfl
    conv => whnf
    refine ⟨_, mcell_of hox rfl, rfl, ?_⟩
    conv => whnf
    repeat (refine And.intro (by first | omega | (simp only [times]; omega)) ?_; conv => whnf)
    refine ⟨_, by simp only [times, Int.toNat_natCast]; exact mcell_rng (j := 1) g2 rfl, rfl, ?_⟩
    conv => whnf
    refine ⟨fun h => absurd h (by (first | (rw [h0] at h; simp at h; done) | (rw [htx] at h; simp at h; done))), fun _ => ?_⟩
    conv => whnf
    refine ⟨fun h => absurd h (by (simp at h)), fun _ => ?_⟩
    conv => whnf
    repeat (refine And.intro (by first | omega | (simp only [times]; omega)) ?_; conv => whnf)
    refine ⟨_, by simp only [times, Int.toNat_natCast, Nat.mul_one]; exact mcell_sub g1 hsm, rfl, ?_⟩
    conv => whnf
    refine ⟨_, mcell_of hox rfl, rfl, ?_⟩
    conv => whnf
    repeat (refine And.intro (by first | omega | (simp only [times]; omega)) ?_; conv => whnf)
    refine ⟨_, by simp only [times, Int.toNat_natCast]; exact mcell_rng (j := 2) g2 rfl, rfl, ?_⟩
    conv => whnf
    first | refine xretk (safe_A (name := x.name) (hf.grow (hm.trans hsm))) ?_ | refine xret (safe_A (name := x.name) (hf.grow (hm.trans hsm))) ?_
    conv => whnf
    rw [hfa, Option.map_some, Option.getD_some]
    refine ⟨fun h => absurd h (by (simp [afR] at h)), fun _ => ?_⟩
    conv => whnf
    refine ⟨i + 1, ⟨by omega, hs.trans hsm⟩, by first | omega | (simp only; omega), ?_⟩
    conv => whnf
    repeat (refine And.intro (by first | with_reducible rfl | (first | exact congrArg (Value.int _) (iadd1 (by omega))) | exact congrArg (Value.int _) (wi (by omega) (by omega)) | exact wi (by omega) (by omega) | rfl) ?_; conv => whnf)
    first | exact trivial | exact fun _ _ h => h
  injection e with e1 _ e3'
  subst e1
  by_cases he : chs x.b = []
  · have h0 : ByteArray.empty = x.b := by rw [← htx, he]; rfl
    conv => whnf
    refine .inl ⟨by rw [he]; rfl, ?_⟩
    conv => whnf
    refine ⟨_, mcell_of hox rfl, rfl, ?_⟩
    conv => whnf
    repeat (refine And.intro (by first | omega | (simp only [times]; omega)) ?_; conv => whnf)
    refine ⟨_, by simp only [times, Int.toNat_natCast]; exact mcell_rng (j := 1) g2 rfl, rfl, ?_⟩
    conv => whnf
    refine ⟨fun h => absurd h (by (first | (rw [h0] at h; simp at h; done) | (rw [htx] at h; simp at h; done))), fun _ => ?_⟩
    conv => whnf
    refine ⟨fun h => absurd h (by (simp at h)), fun _ => ?_⟩
    conv => whnf
    repeat (refine And.intro (by first | omega | (simp only [times]; omega)) ?_; conv => whnf)
    refine ⟨_, by simp only [times, Int.toNat_natCast, Nat.mul_one]; exact mcell_sub g1 hsm, rfl, ?_⟩
    conv => whnf
    refine ⟨_, mcell_of hox rfl, rfl, ?_⟩
    conv => whnf
    repeat (refine And.intro (by first | omega | (simp only [times]; omega)) ?_; conv => whnf)
    refine ⟨_, by simp only [times, Int.toNat_natCast]; exact mcell_rng (j := 2) g2 rfl, rfl, ?_⟩
    conv => whnf
    first | refine xretk (safe_A (name := x.name) (hf.grow (hm.trans hsm))) ?_ | refine xret (safe_A (name := x.name) (hf.grow (hm.trans hsm))) ?_
    conv => whnf
    rw [hfa, Option.map_some, Option.getD_some]
    refine ⟨fun h => absurd h (by (simp [afR] at h)), fun _ => ?_⟩
    conv => whnf
    refine ⟨i + 1, ⟨by omega, hs.trans hsm⟩, by first | omega | (simp only; omega), ?_⟩
    conv => whnf
    repeat (refine And.intro (by first | with_reducible rfl | (first | exact congrArg (Value.int _) (iadd1 (by omega))) | exact congrArg (Value.int _) (wi (by omega) (by omega)) | exact wi (by omega) (by omega) | rfl) ?_; conv => whnf)
    first | exact trivial | exact fun _ _ h => h
  · obtain ⟨b4, o4, c4, e⟩ := Lb.real (l := nc (chs x.b)) hvr (by intro e; apply he; have := congrArg List.length e; rw [nc_len] at this; exact List.eq_nil_of_length_eq_zero this)
    injection e with e1 _ e3'
    injection e1 with e1
    subst e1
    conv => whnf
    refine .inr ⟨nc (chs x.b), by rw [nc_len], _, _, rfl, Lb.range (l := nc (chs x.b)) hvr, ?_⟩
    conv => whnf
    refine ⟨_, mcell_of hox rfl, rfl, ?_⟩
    conv => whnf
    repeat (refine And.intro (by first | omega | (simp only [times]; omega)) ?_; conv => whnf)
    refine ⟨_, by simp only [times, Int.toNat_natCast]; exact mcell_rng (j := 1) g2 rfl, rfl, ?_⟩
    conv => whnf
    refine ⟨fun h => absurd h (by (first | (rw [h0] at h; simp at h; done) | (rw [htx] at h; simp at h; done))), fun _ => ?_⟩
    conv => whnf
    refine ⟨fun h => absurd h (by (simp at h)), fun _ => ?_⟩
    conv => whnf
    repeat (refine And.intro (by first | omega | (simp only [times]; omega)) ?_; conv => whnf)
    refine ⟨_, by simp only [times, Int.toNat_natCast, Nat.mul_one]; exact mcell_sub g1 hsm, rfl, ?_⟩
    conv => whnf
    refine ⟨_, mcell_of hox rfl, rfl, ?_⟩
    conv => whnf
    repeat (refine And.intro (by first | omega | (simp only [times]; omega)) ?_; conv => whnf)
    refine ⟨_, by simp only [times, Int.toNat_natCast]; exact mcell_rng (j := 2) g2 rfl, rfl, ?_⟩
    conv => whnf
    first | refine xretk (safe_A (name := x.name) (hf.grow (hm.trans hsm))) ?_ | refine xret (safe_A (name := x.name) (hf.grow (hm.trans hsm))) ?_
    conv => whnf
    rw [hfa, Option.map_some, Option.getD_some]
    refine ⟨fun h => absurd h (by (simp [afR] at h)), fun _ => ?_⟩
    conv => whnf
    refine ⟨i + 1, ⟨by omega, hs.trans hsm⟩, by first | omega | (simp only; omega), ?_⟩
    conv => whnf
    repeat (refine And.intro (by first | with_reducible rfl | (first | exact congrArg (Value.int _) (iadd1 (by omega))) | exact congrArg (Value.int _) (wi (by omega) (by omega)) | exact wi (by omega) (by omega) | rfl) ?_; conv => whnf)
    first | exact trivial | exact fun _ _ h => h
end Go.E.Ytghdapflkhadoaa

/-
  Files that are nil, or that no call made.
-/
namespace Go.E.Ytghdapflkhadoaa
open Go.Proofs
set_option maxRecDepth 100000
theorem crash_nil {m : Mem} {vl : Value} (hv : vl.oneCell' = true) : Spec Try.prog 11 [.v (.pointer none), .v vl] m fun r m' => r = [] ∧ Sub m m' := by
  refine en11 rfl (goY ?_)
  conv => whnf
  refine xcall (names_nil) ?_
  rintro _ m1 ⟨rfl, hs⟩
  conv => whnf
  conv => whnf
  refine .mk (ι := Nat) (fun i => 0 - i) (fun i mm => i = 0 ∧ Sub m mm) (fun i => [(0, .c (.v (.pointer none))), (1, .c (.v vl)), (9, .c (.v (.slice none 0 0))), (10, .c (i64 0)), (11, .c (i64 i))]) (fun _ => []) 0 ⟨rfl, hs⟩ ?_ ?_
  · conv => whnf
    repeat (refine And.intro (by first | with_reducible rfl | exact congrArg (Value.int _) (wi (by omega) (by omega)) | exact wi (by omega) (by omega) | rfl) ?_; conv => whnf)
    first | exact trivial | exact fun _ _ h => h
  rintro i mm ⟨rfl, hs⟩
  conv => whnf
  refine ⟨fun h => absurd h (by decide), fun _ => ?_⟩
  conv => whnf
  exact ⟨rfl, hs⟩
theorem names_zero {m : Mem} {bf : Nat} {arr : Array Value} (h : m bf = some (.cells arr 47)) (h1 : arr[1]? = some (.map none)) : Spec Try.prog 19 [ptrB bf] m fun r m' => r = [.v (.slice none 0 0)] ∧ Sub m m' := by
  refine en19 rfl (goY ?_)
  conv => whnf
  refine ⟨fun _ => ?_, fun h => absurd h (by decide)⟩
  conv => whnf
  refine ⟨_, mcell_of h h1, rfl, ?_⟩
  conv => whnf
  refine .mk _ (rangeM_nil (P := Try.prog) Try.underlying40) ?_
  rintro _ _ ⟨it, hit, rfl, rfl⟩
  conv => whnf
  refine .mk (ι := Nat) (fun i => 0 - i) (fun i mm => i = 0 ∧ Split mm [blk1 it (.mapIter none 0 #[] 0), m]) (fun i => [(3, .c (.v (.slice none 0 0))), (11, .c (ptrB it))]) (fun _ => []) 0 ⟨rfl, (Split.one m).new hit _⟩ ?_ ?_
  · conv => whnf
    repeat (refine And.intro (by first | with_reducible rfl | exact congrArg (Value.int _) (wi (by omega) (by omega)) | exact wi (by omega) (by omega) | rfl) ?_; conv => whnf)
    first | exact trivial | exact fun _ _ h => h
  rintro i mm ⟨rfl, hs⟩
  have hit' : mm it = some (.mapIter none 0 #[] 0) := hs.sub (a := blk1 it (.mapIter none 0 #[] 0)) (by simp) _ _ (blk1_same ..)
  conv => whnf
  refine .mk _ (nextM_nil (P := Try.prog) hit') ?_
  rintro _ _ ⟨rfl, rfl⟩
  conv => whnf
  refine ⟨fun h => absurd h (by decide), fun _ => ?_⟩
  conv => whnf
  refine xcall ((sort_spec (m := emp) (ss := []) (.inl ⟨rfl, rfl⟩) (by simp)).frame hs.addEmp) ?_
  rintro _ m1 ⟨p1, ⟨rfl, hv⟩, hs2⟩
  conv => whnf
  exact ⟨rfl, hs2.sub (by simp)⟩
theorem crash_zero {m : Mem} {bf : Nat} {arr : Array Value} {vl : Value} (h : m bf = some (.cells arr 47)) (h1 : arr[1]? = some (.map none)) (hv : vl.oneCell' = true) : Spec Try.prog 11 [ptrB bf, .v vl] m fun r m' => r = [] ∧ Sub m m' := by
  refine en11 rfl (goY ?_)
  conv => whnf
  refine xcall (names_zero h h1) ?_
  rintro _ m1 ⟨rfl, hs⟩
  conv => whnf
  conv => whnf
  refine .mk (ι := Nat) (fun i => 0 - i) (fun i mm => i = 0 ∧ Sub m mm) (fun i => [(0, .c (ptrB bf)), (1, .c (.v vl)), (9, .c (.v (.slice none 0 0))), (10, .c (i64 0)), (11, .c (i64 i))]) (fun _ => []) 0 ⟨rfl, hs⟩ ?_ ?_
  · conv => whnf
    repeat (refine And.intro (by first | with_reducible rfl | exact congrArg (Value.int _) (wi (by omega) (by omega)) | exact wi (by omega) (by omega) | rfl) ?_; conv => whnf)
    first | exact trivial | exact fun _ _ h => h
  rintro i mm ⟨rfl, hs⟩
  conv => whnf
  refine ⟨fun h => absurd h (by decide), fun _ => ?_⟩
  conv => whnf
  exact ⟨rfl, hs⟩
end Go.E.Ytghdapflkhadoaa

/-
  Law FilesLive.
-/
namespace Go.E.Ytghdapflkhadoaa
open Go.Proofs
set_option maxRecDepth 100000
set_option maxHeartbeats 8000000 in
theorem live_tail {m mm : Mem} (hsm : Sub m mm) :
    xwpY c3 (restAt 14 (bodyOf Try.f3)) (QRetY tt.get Try.f3.results.toList fun r m' => r = [boolV true] ∧ Sub m m')
      [] [] mm [] := by
  conv => whnf
  refine .at ?_
  conv => whnf
  intro bz hbz
  conv => whnf
  have hz : (mm.set bz (.cells #[.int .i64 0, .map none, .int .u64 0, .int .u64 0] 47)) bz = some (.cells #[.int .i64 0, .map none, .int .u64 0, .int .u64 0] 47) := Mem.set_same ..
  have hs0 : Sub mm (mm.set bz (.cells #[.int .i64 0, .map none, .int .u64 0, .int .u64 0] 47)) := Mem.sub_set _ hbz
  refine xcall (crash_nil rfl) ?_
  rintro _ m1 ⟨rfl, hs1⟩
  conv => whnf
  have hz := hs1 _ _ hz
  refine .mk _ (buildI1) ?_
  rintro _ _ ⟨bi, hbi, rfl, rfl⟩
  conv => whnf
  have hs2 : Sub m1 (m1.set bi (.cells #[.int .i64 1] 3)) := Mem.sub_set _ hbi
  have hz := hs2 _ _ hz
  refine xcall (crash_zero hz rfl rfl) ?_
  rintro _ m3 ⟨rfl, hs3⟩
  conv => whnf
  have hz := hs3 _ _ hz
  first | refine xretk (read_nil) ?_ | refine xret (read_nil) ?_
  conv => whnf
  first | refine xretk (counts_nil) ?_ | refine xret (counts_nil) ?_
  conv => whnf
  refine xcall (alive14_spec) ?_
  rintro _ m4 ⟨rfl, hs4⟩
  conv => whnf
  have hz := hs4 _ _ hz
  refine ⟨fun _ => ?_, fun h => absurd h (by decide)⟩
  conv => whnf
  refine ⟨fun _ => ?_, fun h => absurd h (by decide)⟩
  conv => whnf
  first | refine xretk (append_nil) ?_ | refine xret (append_nil) ?_
  conv => whnf
  refine ⟨fun _ => ?_, fun h => absurd h (by decide)⟩
  conv => whnf
  first | refine xretk (append_zero hz rfl) ?_ | refine xret (append_zero hz rfl) ?_
  conv => whnf
  refine ⟨fun _ => ?_, fun h => absurd h (by decide)⟩
  conv => whnf
  first | refine xretk (sync_zero hz rfl) ?_ | refine xret (sync_zero hz rfl) ?_
  conv => whnf
  refine ⟨fun _ => ?_, fun h => absurd h (by decide)⟩
  conv => whnf
  first | refine xretk (rename_nil) ?_ | refine xret (rename_nil) ?_
  conv => whnf
  refine ⟨fun _ => ?_, fun h => absurd h (by decide)⟩
  conv => whnf
  first | refine xretk (remove_zero hz rfl) ?_ | refine xret (remove_zero hz rfl) ?_
  conv => whnf
  refine ⟨fun _ => ?_, fun h => absurd h (by decide)⟩
  conv => whnf
  first | refine xretk (cut_nil) ?_ | refine xret (cut_nil) ?_
  conv => whnf
  refine ⟨fun _ => ?_, fun h => absurd h (by decide)⟩
  conv => whnf
  refine xcall (names_nil) ?_
  rintro _ m5 ⟨rfl, hs5⟩
  conv => whnf
  have hz := hs5 _ _ hz
  refine xcall (names_zero hz rfl) ?_
  rintro _ m6 ⟨rfl, hs6⟩
  conv => whnf
  have hz := hs6 _ _ hz
  first | refine xretk (used_nil) ?_ | refine xret (used_nil) ?_
  conv => whnf
  first | refine xretk (safe_zero hz rfl) ?_ | refine xret (safe_zero hz rfl) ?_
  conv => whnf
  refine ⟨fun _ => ?_, fun h => absurd h (by decide)⟩
  conv => whnf
  exact ⟨rfl, ((((((hsm.trans hs0).trans hs1).trans hs2).trans hs3).trans hs4).trans hs5).trans hs6⟩
set_option maxHeartbeats 8000000 in
theorem filesLive_spec {m : Mem} {v : Value} {q : Int} {O : List Opr} (hq : q ≤ 9223372036854775807) (hv : Oa m v O) (hO : ∀ o ∈ O, o.Ok m) (hl : O.length ≤ 9223372036854775807) :
    Spec Try.prog 3 [i64 q, .v v] m fun r m' => r = [boolV true] ∧ Sub m m' := by
  obtain ⟨a, c, rfl⟩ := hv.shape
  refine en3 rfl (goY ?_)
  conv => whnf
  by_cases h0 : q < 0
  · first | refine xretk (new_neg h0) ?_ | refine xret (new_neg h0) ?_
    conv => whnf
    refine ⟨fun _ => ?_, fun h => absurd h (by (rw [decide_eq_true h0]; simp))⟩
    conv => whnf
    refine xcall (alive14_spec) ?_
    rintro _ m1 ⟨rfl, hs⟩
    conv => whnf
    refine ⟨fun _ => ?_, fun h => absurd h (by decide)⟩
    conv => whnf
    refine ⟨fun _ => ?_, fun h => absurd h (by decide)⟩
    conv => whnf
    exact ⟨rfl, hs⟩
  have h0 : 0 ≤ q := by omega
  refine xcall (new_spec h0) ?_
  rintro _ m0 ⟨bf, p, rfl, hs, h⟩
  conv => whnf
  refine ⟨fun h => absurd h (by (have := of_decide_eq_true h; omega)), fun _ => ?_⟩
  conv => whnf
  refine ⟨fun h => absurd h (by decide), fun _ => ?_⟩
  conv => whnf
  refine ⟨fun h => absurd h (by decide), fun _ => ?_⟩
  conv => whnf
  intro bx hbx
  conv => whnf
  have hs := hs.new hbx (refO q (.slice none 0 0) 0 0)
  have hs := hs.perm (List.Perm.swap _ _ _)
  have hx0 : FR (blk1 bx (refO q (.slice none 0 0) 0 0)) bx q 0 0 [] := ⟨_, emp, (Split.one _).addEmp.perm (List.Perm.swap _ _ _), Ro.nil _⟩
  refine .mk (ι := Nat) (fun i => 60 - i) (fun i mm => i ≤ O.length ∧ i ≤ 60 ∧ ∃ pf px nb ns A L, Split mm [pf, px, m] ∧ Both pf px bf bx q i nb ns A L)
    (fun i => [(1, .c (.v (.slice a O.length c))), (5, .c (ptrB bf)), (7, .c (ptrB bx)), (8, .c (i64 i))]) (fun _ => []) 0 ⟨by omega, by omega, _, _, 0, 0, [], [], hs, h, hx0, .nil, .none⟩ ?_ ?_
  · conv => whnf
    repeat (refine And.intro (by first | with_reducible rfl | exact congrArg (Value.int _) (wi (by omega) (by omega)) | exact wi (by omega) (by omega) | rfl) ?_; conv => whnf)
    first | exact trivial | exact fun _ _ h => h
  rintro i mm ⟨hi, hi60, pf, px, nb, ns, A, L, hs, hB⟩
  have hsm : Sub m mm := hs.sub (by simp)
  have fin := live_tail hsm
  conv => whnf
  refine ⟨fun h1 => ?_, fun h1 => ?_⟩
  rotate_left
  · have tl := fin
    conv at tl => whnf
    conv => whnf
    refine .via _ _ ?_ tl
    conv => whnf
    repeat (refine And.intro (by first | with_reducible rfl | exact congrArg (Value.int _) (wi (by omega) (by omega)) | exact wi (by omega) (by omega) | rfl) ?_; conv => whnf)
    first | exact trivial | exact fun _ _ h => h
  have hi1 : i < O.length := by have := of_decide_eq_true h1; omega
  clear h1
  conv => whnf
  refine ⟨fun h1 => ?_, fun h1 => ?_⟩
  rotate_left
  · have tl := fin
    conv at tl => whnf
    conv => whnf
    refine .via _ _ ?_ tl
    conv => whnf
    repeat (refine And.intro (by first | with_reducible rfl | exact congrArg (Value.int _) (wi (by omega) (by omega)) | exact wi (by omega) (by omega) | rfl) ?_; conv => whnf)
    first | exact trivial | exact fun _ _ h => h
  have hi2 : i < 60 := by have := of_decide_eq_true h1; omega
  clear h1 fin
  conv => whnf
  obtain ⟨b, o, c', e, hgo⟩ := hv.real hi1
  cases e
  have hgi := hgo i hi1
  have hoi := hO O[i] (List.getElem_mem hi1)
  generalize ho : O[i] = op at hgi hoi
  repeat (refine And.intro (by first | omega | (simp only [times]; omega)) ?_; conv => whnf)
  refine ⟨[.one (.int .i64 op.kind), .one (.int .i64 op.n), .one (.string op.name), .one (.string op.to), .one (.slice op.ab op.b.length op.cb), .one (.slice op.al op.last.length op.cl)], ⟨rfl, rfl, rfl, rfl, rfl, rfl, trivial⟩, rfl, by simp only [times, Int.toNat_natCast]; exact hgi.sub hsm, ?_⟩
  conv => whnf
  refine xcall (great_spec (o := op) (hoi.sub hsm)) ?_
  rintro _ m1 ⟨gr, rfl, hs1, hsmall⟩
  conv => whnf
  refine ⟨fun h1 => ?_, fun h1 => ?_⟩
  · conv => whnf
    refine xcall (alive14_spec) ?_
    rintro _ m2 ⟨rfl, hs2⟩
    conv => whnf
    conv => whnf
    exact ⟨rfl, (hsm.trans hs1).trans hs2⟩
  have hsmall := hsmall h1
  clear h1
  have hs := Split.grow hs hs1
  have hsm := hsm.trans hs1
  conv => whnf
  repeat (refine And.intro (by first | omega | (simp only [times]; omega)) ?_; conv => whnf)
  refine ⟨[.one (.int .i64 op.kind), .one (.int .i64 op.n), .one (.string op.name), .one (.string op.to), .one (.slice op.ab op.b.length op.cb), .one (.slice op.al op.last.length op.cl)], ⟨rfl, rfl, rfl, rfl, rfl, rfl, trivial⟩, rfl, by simp only [times, Int.toNat_natCast]; exact hgi.sub hsm, ?_⟩
  conv => whnf
  refine xcall (do_spec (o := op) hoi hsmall hB hs ⟨h0, hq⟩ (by omega)) ?_
  rintro _ m4 ⟨pf, px, nb, ns, A, L, rfl, hs, hB⟩
  conv => whnf
  refine ⟨fun h => absurd h (by decide), fun _ => ?_⟩
  conv => whnf
  obtain ⟨vx, hrm⟩ := hB.x.rm
  refine xcall (same_spec (hB.f.grow (hs.sub (by simp))) (hrm.sub (hs.sub (by simp))) hB.lk hB.sm) ?_
  rintro _ m5 ⟨rfl, hs5⟩
  conv => whnf
  refine ⟨fun h => absurd h (by decide), fun _ => ?_⟩
  conv => whnf
  have hs := Split.grow hs hs5
  refine ⟨i + 1, ⟨by omega, by omega, pf, px, nb, ns, A, L, hs, hB⟩, by first | omega | (simp only; omega), ?_⟩
  conv => whnf
  repeat (refine And.intro (by first | with_reducible rfl | (first | exact congrArg (Value.int _) (iadd1 (by omega))) | exact congrArg (Value.int _) (wi (by omega) (by omega)) | exact wi (by omega) (by omega) | rfl) ?_; conv => whnf)
  first | exact trivial | exact fun _ _ h => h
end Go.E.Ytghdapflkhadoaa
