/-
  SoC, SoD, SoE, SoF, SoG, ScL, SoH, TxtDat, FiB, FiC, Lg3, SoI, SoJ, SoK, SoL, SoM, SoN, SoO
-/
import Derived.Test.YtcionccfgcnhoaaGreatDoorStoreRefusesZ12
import Derived.Laws.MakeOwn
namespace Go.E.YtcionccfgcnhoaaGreatDoor
open Go.Proofs
set_option maxRecDepth 100000
def fullF (q : Int) (A : List Af) (x : Kd) : Prop := 0 < q ∧ q < (totA A + (Fr.wr (kdB x)).length : Nat)
instance (q : Int) (A : List Af) (x : Kd) : Decidable (fullF q A x) := by unfold fullF; infer_instance
def putE (q : Int) (A : List Af) (s : Sto) (x : Kd) : Int := if askF s x.1 x.2 ≠ 0 then askF s x.1 x.2 else if fullF q A x then 5 else 0
theorem askF_zero {s : Sto} {k : ByteArray} {c : Ct} (h : askF s k c = 0) : keyOk (chs k) = true ∧ rightC c.1 c.2 = true ∧ s.st = 0 := by
  unfold askF at h
  split at h
  · cases h
  · rename_i h1
    split at h
    · cases h
    · rename_i h2
      split at h
      · cases h
      · exact ⟨by simpa using h1, by simpa using h2, by omega⟩
theorem kept_s {m m' : Mem} {b : Nat} {o : Obj} (h : m b = some o) (hs : Sub m m') : Kept [b] m m' := kept1 ((hs _ _ h).trans h.symm)
structure Left (m' m : Mem) (bs bf : Nat) (q : Int) (nb ns : Nat) (A : List Af) (s : Sto) : Prop where
  ex : ∃ p pf, Split m' [p, pf, m] ∧ SP p bs bf s ∧ FA pf bf q nb ns A
theorem sleft_of {m' m pf ps g : Mem} {bs bf bl nb ns : Nat} {q : Int} {A : List Af} {s : Sto} {lv sv : Value} (h : Split m' [blk1 bs (storeO bf s.g lv bl sv), blk1 bl (logO bf (lgn s.g) s.R.length s.sure), ps, g, pf, m]) (hk : Kys g lv s.L) (hsv : SvP ps bf s sv) (hf : FA pf bf q nb ns A) : Left m' m bs bf q nb ns A s := by
  have h1 : Split m' ([blk1 bs (storeO bf s.g lv bl sv), blk1 bl (logO bf (lgn s.g) s.R.length s.sure), ps, g] ++ [pf, m]) := h
  obtain ⟨h2, h3⟩ := Split.group _ h1
  exact ⟨_, pf, h2, ⟨bl, lv, sv, ps, g, h3, hk, hsv⟩, hf⟩
theorem flat_of {mm m p pf : Mem} {bs bf : Nat} {s : Sto} (hs : Split mm [p, pf, m]) (hp : SP p bs bf s) : ∃ bl lv sv ps g, Split mm [blk1 bs (storeO bf s.g lv bl sv), blk1 bl (logO bf (lgn s.g) s.R.length s.sure), ps, g, pf, m] ∧ Kys g lv s.L ∧ SvP ps bf s sv := by
  obtain ⟨bl, lv, sv, ps, g, hsp, hkys, hsv⟩ := hp
  refine ⟨bl, lv, sv, ps, g, ?_, hkys, hsv⟩
  have h1 : Split mm ([pf, m] ++ [p]) := hs.perm (List.perm_append_comm (l₁ := [p]) (l₂ := [pf, m]))
  exact (Split.weld (a := [pf, m]) h1 hsp).perm (List.perm_append_comm (l₁ := [pf, m]) (l₂ := [_, _, ps, g]))
set_option maxHeartbeats 8000000 in
theorem sput_spec {mm m p pf : Mem} {bs bf nb ns kk : Nat} {q : Int} {A : List Af} {s : Sto} {k : ByteArray} {u : List Int} {a : Option Addr} {c : Nat} {E : List En} (hg : Glob m) (hs : Split mm [p, pf, m]) (hp : SP p bs bf s) (hf : FA pf bf q nb ns A) (hk : Sm kk A nb ns) (hv : Na m (.slice a E.length c) E) (hx : ArgK (k, (u, E))) (hks : k.size ≤ 1000000) (hq : 0 ≤ q ∧ q ≤ 9223372036854775807) (hR : s.R.length ≤ 100000) (hL : s.L.length ≤ 100000) :
    Spec Tryz.prog 14 [ptrB bs, .v (.string k), cartV u a E.length c] mm fun r m' =>
      (putE q A s (k, (u, E)) ≠ 0 ∧ r = [i64 0, i64 (putE q A s (k, (u, E)))] ∧ Left m' m bs bf q nb ns A s) ∨ (putE q A s (k, (u, E)) = 0 ∧ r = [i64 ((s.R.length + 1 : Nat) : Int), i64 0] ∧ Left m' m bs bf q (nb + (Fr.wr (kdB (k, (u, E)))).length) ns (appA A (lgn s.g) (toN (Fr.wr (kdB (k, (u, E)))))) (s.put (k, (u, E)))) := by
  have hne : E.length ≤ 1000 := hx.n
  obtain ⟨bl, lv, sv, hsr⟩ := hp.read (hs.sub (a := p) (by simp))
  have hmS : Strong mm := hg.strong.sub (hs.sub (by simp))
  have hvm := hv.sub (hs.sub (a := m) (by simp))
  refine en14 rfl (goY ?_)
  conv => whnf
  first | refine xretk (sask_spec hmS hsr (u := u) hvm hx.e hks (by omega)) ?_ | refine xret (sask_spec hmS hsr (u := u) hvm hx.e hks (by omega)) ?_
  conv => whnf
  refine ⟨fun h => ?_, fun h => ?_⟩
  · have h0 : askF s k (u, E) ≠ 0 := by simpa using h
    conv => whnf
    have e : putE q A s (k, (u, E)) = askF s k (u, E) := by unfold putE; rw [if_pos h0]
    rw [e]
    exact .inl ⟨h0, rfl, ⟨p, pf, hs, hp, hf⟩⟩
  have h0 : askF s k (u, E) = 0 := by simpa using h
  clear h
  have hput : putE q A s (k, (u, E)) = if fullF q A (k, (u, E)) then 5 else 0 := by unfold putE; rw [if_neg (by simp only; omega)]
  rw [hput]
  obtain ⟨k1, k2, k3⟩ := askF_zero h0
  have hgk : GoodK (k, (u, E)) := ⟨k1, hx.u, k2⟩
  have hkl := hgk.len
  have hwl := wr_len (l := kdB (k, (u, E))) (by omega)
  obtain ⟨bl, lv, sv, ps, g, hall, hkys, hsv⟩ := flat_of hs hp
  have hbs : mm bs = some (storeO bf s.g lv bl sv) := hall.get (a := blk1 bs _) (by simp) (blk1_same ..)
  conv => whnf
  refine ⟨_, mcell_of hbs rfl, rfl, ?_⟩
  conv => whnf
  refine xcall (record_spec (x := (k, (u, E))) hmS hvm hx hks) ?_
  rintro _ m1 ⟨vr, pr, rfl, hs1, hbr⟩
  conv => whnf
  have hall1 := Split.weld (a := [pr]) hs1 hall
  refine ⟨kept_s hbs (hs1.sub (by simp)), ?_⟩
  conv => whnf
  have h1 := (hall1.pick (i := 5) rfl).pick (i := 3) rfl
  obtain ⟨q1, hq1, h2, back⟩ := Split.part2 h1
  clear h1
  refine xcall (lapp_any (name := lgn s.g) h2 hf hk (hbr.lb.la.sub (hall1.sub (a := pr) (by simp))) (kdB_byt _) hgk.isr (by omega) lgn_ok (by rw [lgn_size]; omega) (by omega) hq) ?_
  rintro _ m2 ⟨pf', hres⟩
  conv => whnf
  first | refine ⟨fun _ h => (by cases h), ?_⟩ | skip
  conv => whnf
  rcases hres with ⟨q1', q2', rfl, h3, hf'⟩ | ⟨q1', rfl, h3, hf'⟩
  · have hfull : fullF q A (k, (u, E)) := ⟨q1', q2'⟩
    rw [if_pos hfull]
    have h4 := back _ _ _ h3
    refine ⟨fun _ => ?_, fun h => absurd h (by first | decide | simp)⟩
    conv => whnf
    refine .inl ⟨by simp, rfl, sleft_of (ps := ps) (g := g) (pf := pf') (bl := bl) (lv := lv) (sv := sv) ?_ hkys hsv hf'⟩
    have h5 : Split m2 [blk1 bl (logO bf (lgn s.g) s.R.length s.sure), pf', blk1 bs (storeO bf s.g lv bl sv), ps, g, m] := h4.erase 2
    exact h5.perm (by classical exact List.perm_iff_count.2 fun x => by simp only [List.count_cons, List.count_nil]; ac_rfl)
  · have hfull : ¬ fullF q A (k, (u, E)) := q1'
    rw [if_neg hfull]
    have h4 := back _ _ _ h3
    have hbs2 : m2 bs = some (storeO bf s.g lv bl sv) := h4.get (a := blk1 bs (storeO bf s.g lv bl sv)) (by simp) (blk1_same ..)
    refine ⟨fun h => absurd h (by first | decide | simp), fun _ => ?_⟩
    conv => whnf
    refine ⟨_, mcell_of hbs2 rfl, by obtain ⟨_, _, e⟩ := hkys.shape; rw [e]; rfl, ?_⟩
    conv => whnf
    have h5 : Split m2 (g :: [blk1 bl (logO bf (lgn s.g) (s.R.length + 1) s.sure), pf', pr, blk1 bs (storeO bf s.g lv bl sv), ps, m]) := h4.pick (i := 5) rfl
    obtain ⟨q2, hq2, h6, back2⟩ := Split.part h5
    refine xcall (pwith_spec (k := k) (u := u) h6 hkys (hv.sub (h4.sub (a := m) (by simp))) hx.u.1 hL (by omega)) ?_
    rintro _ m3 ⟨lv', g', rfl, h7, hk7⟩
    conv => whnf
    have h8 := back2 _ _ h7
    have hbs3 : m3 bs = some (storeO bf s.g lv bl sv) := h8.get (a := blk1 bs (storeO bf s.g lv bl sv)) (by simp) (blk1_same ..)
    refine ⟨_, _, _, hbs3, ⟨by simp, by simp⟩, ?_⟩
    conv => whnf
    have h9 := h8.setAt (i := 4) rfl (blk1_same ..) (storeO bf s.g lv' bl sv)
    rw [blk1_set] at h9
    refine .inr ⟨rfl, rfl, sleft_of (ps := ps) (g := g') (pf := pf') (bl := bl) (lv := lv') (sv := sv) ?_ ?_ ?_ hf'⟩
    · have h10 : Split _ [g', blk1 bl (logO bf (lgn s.g) (s.R.length + 1) s.sure), pf', pr, blk1 bs (storeO bf s.g lv' bl sv), ps, m] := h9
      have h11 : Split _ [g', blk1 bl (logO bf (lgn s.g) (s.R.length + 1) s.sure), pf', blk1 bs (storeO bf s.g lv' bl sv), ps, m] := h10.erase 3
      have e : (s.put (k, (u, E))).R.length = s.R.length + 1 := by simp [Sto.put]
      rw [e]
      show Split _ [blk1 bs (storeO bf s.g lv' bl sv), blk1 bl (logO bf (lgn s.g) (s.R.length + 1) s.sure), ps, g', pf', m]
      exact h11.perm (by classical exact List.perm_iff_count.2 fun x => by simp only [List.count_cons, List.count_nil]; ac_rfl)
    · rw [Sto.put_L]; exact hk7
    · rcases hsv with hh | ⟨b, n, v, pv, l, g1, g2, g3, g4, _⟩
      · exact .inl hh
      · exact .inr ⟨b, n, v, pv, l, g1, g2, g3, g4, fun hh => by have hh : 0 < s.st := hh; omega⟩
theorem joinU_v8 {u w : List Int} (hu : WV8 u) (hw : WV8 w) : WV8 (joinU u w) := by
  have key : ∀ {a b : List Int}, WV8 a → WV8 b → WV8 (List.zipWith max a b) := fun {a b} ha hb => by
    refine ⟨by rw [List.length_zipWith, ha.1, hb.1]; rfl, fun x hx => ?_⟩
    obtain ⟨i, hi, rfl⟩ := List.getElem_of_mem hx
    rw [List.length_zipWith] at hi
    rw [List.getElem_zipWith]
    have h1 := ha.2 a[i] (List.getElem_mem _)
    have h2 := hb.2 b[i] (List.getElem_mem _)
    unfold U64 at *
    omega
  exact key (key wv8_zeros hu) hw
theorem twoF_arg {k : ByteArray} {x y : Ct} (hx : ArgK (k, x)) (hy : ArgK (k, y)) (h : (twoF x y).2 = 0) : ArgK (k, (twoF x y).1) := by
  unfold twoF at h ⊢
  split at h
  · cases h
  · split at h
    · cases h
    · split at h
      · cases h
      · rename_i h1 h2 h3
        rw [if_neg h1, if_neg h2, if_neg h3]
        refine ⟨joinU_v8 hx.u hy.u, fun e he => ?_, ?_⟩
        · have he : e ∈ sortE (joinL x.1 y.1 x.2 y.2) := he
          have := (List.mem_mergeSort).1 he
          rcases List.mem_append.1 this with h | h
          · exact hx.e e (List.mem_filter.1 h).1
          · exact hy.e e (List.mem_filter.1 h).1
        · show (sortE (joinL x.1 y.1 x.2 y.2)).length ≤ 1000
          rw [sortE_len]; omega
theorem getK_arg {L : List Kd} (h : ∀ x ∈ L, ArgK x) (k : ByteArray) : ArgK (k, getK L k) := by
  cases e : findK L k with
  | none => rw [getK, e]; exact ⟨wv8_zeros, by simp, by simp⟩
  | some c =>
    rw [getK, e]
    have := h _ (findK_mem e)
    exact ⟨this.u, this.e, this.n⟩
def mergeC (s : Sto) (x : Kd) : Ct × Int := twoF (getK s.L x.1) x.2
def mergeE (q : Int) (A : List Af) (s : Sto) (x : Kd) : Int :=
  if askF s x.1 x.2 ≠ 0 then askF s x.1 x.2 else if (mergeC s x).2 ≠ 0 then (mergeC s x).2 else if getK s.L x.1 = (mergeC s x).1 then 0 else putE q A s (x.1, (mergeC s x).1)
def mergeB (q : Int) (A : List Af) (s : Sto) (x : Kd) : Bool :=
  decide (askF s x.1 x.2 = 0) && decide ((mergeC s x).2 = 0) && !decide (getK s.L x.1 = (mergeC s x).1) && decide (putE q A s (x.1, (mergeC s x).1) = 0)
theorem Left.less {m' m mq : Mem} {bs bf nb ns : Nat} {q : Int} {A : List Af} {s : Sto} (h : Left m' mq bs bf q nb ns A s) (hs : Sub m mq) : Left m' m bs bf q nb ns A s := by
  obtain ⟨p, pf, h1, h2, h3⟩ := h.ex
  refine ⟨p, pf, ?_, h2, h3⟩
  have h4 : Split m' (mq :: [p, pf]) := h1.perm (List.perm_append_comm (l₁ := [p, pf]) (l₂ := [mq]))
  exact (Split.fewer h4 hs).perm (List.perm_append_comm (l₁ := [m]) (l₂ := [p, pf]))
set_option maxHeartbeats 8000000 in
theorem smerge_spec {mm m p pf : Mem} {bs bf nb ns kk : Nat} {q : Int} {A : List Af} {s : Sto} {k : ByteArray} {u : List Int} {a : Option Addr} {c : Nat} {E : List En} (hg : Glob m) (hs : Split mm [p, pf, m]) (hp : SP p bs bf s) (hf : FA pf bf q nb ns A) (hk : Sm kk A nb ns) (hv : Na m (.slice a E.length c) E) (hx : ArgK (k, (u, E))) (hks : k.size ≤ 1000000) (hq : 0 ≤ q ∧ q ≤ 9223372036854775807) (hR : s.R.length ≤ 100000) (hL : s.L.length ≤ 100000) (hA : ∀ x ∈ s.L, ArgK x) :
    Spec Tryz.prog 16 [ptrB bs, .v (.string k), cartV u a E.length c] mm fun r m' =>
      r = [boolV (mergeB q A s (k, (u, E))), i64 (mergeE q A s (k, (u, E)))] ∧ if mergeB q A s (k, (u, E)) then Left m' m bs bf q (nb + (Fr.wr (kdB (k, (mergeC s (k, (u, E))).1))).length) ns (appA A (lgn s.g) (toN (Fr.wr (kdB (k, (mergeC s (k, (u, E))).1))))) (s.put (k, (mergeC s (k, (u, E))).1)) else Left m' m bs bf q nb ns A s := by
  have hne : E.length ≤ 1000 := hx.n
  obtain ⟨bl, lv, sv, hsr⟩ := hp.read (hs.sub (a := p) (by simp))
  have hmS : Strong mm := hg.strong.sub (hs.sub (by simp))
  have hvm := hv.sub (hs.sub (a := m) (by simp))
  have hgk := getK_arg hA k
  have hC : mergeC s (k, (u, E)) = twoF (getK s.L k) (u, E) := rfl
  have hE : mergeE q A s (k, (u, E)) = if askF s k (u, E) ≠ 0 then askF s k (u, E) else if (mergeC s (k, (u, E))).2 ≠ 0 then (mergeC s (k, (u, E))).2 else if getK s.L k = (mergeC s (k, (u, E))).1 then 0 else putE q A s (k, (mergeC s (k, (u, E))).1) := rfl
  have hB : mergeB q A s (k, (u, E)) = (decide (askF s k (u, E) = 0) && decide ((mergeC s (k, (u, E))).2 = 0) && !decide (getK s.L k = (mergeC s (k, (u, E))).1) && decide (putE q A s (k, (mergeC s (k, (u, E))).1) = 0)) := rfl
  generalize mergeE q A s (k, (u, E)) = me at *
  generalize mergeB q A s (k, (u, E)) = mb at *
  generalize mergeC s (k, (u, E)) = now at *
  have stay : mb = false → Left mm m bs bf q nb ns A s → (if mb = true then Left mm m bs bf q (nb + (Fr.wr (kdB (k, now.1))).length) ns (appA A (lgn s.g) (toN (Fr.wr (kdB (k, now.1))))) (s.put (k, now.1)) else Left mm m bs bf q nb ns A s) := fun h h2 => by rw [if_neg (by rw [h]; decide)]; exact h2
  refine en16 rfl (goY ?_)
  conv => whnf
  first | refine xretk (sask_spec hmS hsr (u := u) hvm hx.e hks (by omega)) ?_ | refine xret (sask_spec hmS hsr (u := u) hvm hx.e hks (by omega)) ?_
  conv => whnf
  refine ⟨fun h => ?_, fun h => ?_⟩
  · have h0 : askF s k (u, E) ≠ 0 := by simpa using h
    rw [if_pos h0] at hE
    rw [decide_eq_false h0] at hB
    have hB : mb = false := by rw [hB]; rfl
    conv => whnf
    exact ⟨by rw [hE, hB], stay hB ⟨p, pf, hs, hp, hf⟩⟩
  have h0 : askF s k (u, E) = 0 := by simpa using h
  clear h
  rw [if_neg (by simp [h0])] at hE
  rw [decide_eq_true h0, Bool.true_and] at hB
  conv => whnf
  refine xcall (sget_spec hsr (k := k) (by omega) (by have := hgk.n; simp only at this; omega)) ?_
  rintro _ m1 ⟨a1, c1, p1, rfl, hs1, hv1⟩
  conv => whnf
  have hs1 : Split m1 [p1, p, pf, m] := Split.weld (a := [p1]) hs1 hs
  generalize getK s.L k = was at *
  obtain ⟨wu, wE⟩ := was
  have hwn : wE.length ≤ 1000 := hgk.n
  simp only at hv1 ⊢
  refine xcall (two_spec (u := wu) (w := u) (hg.strong.sub (hs1.sub (a := m) (by simp))) hgk.u hx.u (hv1.ea.sub (hs1.sub (a := p1) (by simp))) (hv.sub (hs1.sub (a := m) (by simp))) hgk.e hx.e hwn hne) ?_
  rintro _ m2 ⟨x, e, a2, c2, p2, hx2, he2, rfl, hs2, hv2⟩
  conv => whnf
  have hs2 : Split m2 [p2, p1, p, pf, m] := Split.weld (a := [p2]) hs2 hs1
  rw [← hC] at hx2 he2
  have harg : now.2 = 0 → ArgK (k, now.1) := fun h => by rw [hC] at h ⊢; exact twoF_arg hgk hx h
  obtain ⟨nx, ne⟩ := now
  simp only at hx2 he2 harg hE hB stay ⊢
  subst hx2 he2
  obtain ⟨xu, xE⟩ := x
  simp only at hv2 ⊢
  have stay2 : mb = false → (if mb = true then Left m2 m bs bf q (nb + (Fr.wr (kdB (k, (xu, xE)))).length) ns (appA A (lgn s.g) (toN (Fr.wr (kdB (k, (xu, xE)))))) (s.put (k, (xu, xE))) else Left m2 m bs bf q nb ns A s) := fun h => by rw [if_neg (by rw [h]; decide)]; exact ⟨p, pf, hs2.drop.drop, hp, hf⟩
  refine ⟨fun h => ?_, fun h => ?_⟩
  · have h1 : e ≠ 0 := by simpa using h
    rw [if_pos h1] at hE
    have hB : mb = false := by rw [hB, decide_eq_false h1]; rfl
    conv => whnf
    exact ⟨by rw [hE, hB], stay2 hB⟩
  have h1 : e = 0 := by simpa using h
  clear h
  subst h1
  have harg := harg rfl
  rw [if_neg (by decide)] at hE
  rw [decide_eq_true rfl, Bool.true_and] at hB
  have hxn : xE.length ≤ 1000 := harg.n
  conv => whnf
  first | refine xretk (sameC_spec (u := wu) (w := xu) (hv1.ea.sub (hs2.sub (a := p1) (by simp))) (hv2.sub (hs2.sub (a := p2) (by simp))) (by omega)) ?_ | refine xret (sameC_spec (u := wu) (w := xu) (hv1.ea.sub (hs2.sub (a := p1) (by simp))) (hv2.sub (hs2.sub (a := p2) (by simp))) (by omega)) ?_
  conv => whnf
  have hdec : (decide (wu = xu) && decide (wE = xE)) = decide ((wu, wE) = (xu, xE)) := by
    rw [Bool.eq_iff_iff]
    simp
  rw [hdec]
  by_cases h2 : (wu, wE) = (xu, xE)
  · rw [decide_eq_true h2]
    rw [if_pos h2] at hE
    have hB : mb = false := by rw [hB, decide_eq_true h2]; rfl
    refine ⟨fun _ => ?_, fun h => absurd h (by first | decide | simp)⟩
    conv => whnf
    exact ⟨by rw [hE, hB], stay2 hB⟩
  rw [decide_eq_false h2]
  rw [if_neg h2] at hE
  rw [decide_eq_false h2, Bool.not_false, Bool.true_and] at hB
  refine ⟨fun h => absurd h (by first | decide | simp), fun _ => ?_⟩
  conv => whnf
  have hs3 : Split m2 [p, pf, p2, p1, m] := hs2.perm (by classical exact List.perm_iff_count.2 fun x => by simp only [List.count_cons, List.count_nil]; ac_rfl)
  obtain ⟨mq, hmq, hs4, back⟩ := Split.part2 hs3
  have hmm : Sub m mq := hmq m (by simp)
  refine xcall (sput_spec (k := k) (u := xu) (hg.sub hmm) hs4 hp hf hk (hv2.sub (hmq p2 (by simp))) harg hks hq hR hL) ?_
  rintro _ m5 hres
  conv => whnf
  rcases hres with ⟨e1, rfl, hL5⟩ | ⟨e1, rfl, hL5⟩
  · have hB : mb = false := by rw [hB, decide_eq_false e1]
    conv => whnf
    refine ⟨?_, by rw [if_neg (by rw [hB]; decide)]; exact hL5.less hmm⟩
    rw [hE, hB, beqG, decide_eq_false e1]
  · have hB : mb = true := by rw [hB, decide_eq_true e1]
    conv => whnf
    refine ⟨?_, by rw [if_pos hB]; exact hL5.less hmm⟩
    rw [hE, hB, e1]; rfl
theorem ssync_spec {mm m p pf : Mem} {bs bf nb ns kk : Nat} {q : Int} {A : List Af} {s : Sto} (hs : Split mm [p, pf, m]) (hp : SP p bs bf s) (hf : FA pf bf q nb ns A) (hk : Sm kk A nb ns) :
    Spec Tryz.prog 15 [ptrB bs] mm fun r m' => r = [i64 0] ∧ ∃ ns', ns' ≤ ns + 1 ∧ Left m' m bs bf q nb ns' (syncA A (lgn s.g)) s.synced := by
  obtain ⟨bl, lv, sv, hsr⟩ := hp.read (hs.sub (a := p) (by simp))
  obtain ⟨bl, lv, sv, ps, g, hall, hkys, hsv⟩ := flat_of hs hp
  have hbs : mm bs = some (storeO bf s.g lv bl sv) := hall.get (a := blk1 bs _) (by simp) (blk1_same ..)
  refine en15 rfl (goY ?_)
  conv => whnf
  first | refine xretk (smade_spec hsr) ?_ | refine xret (smade_spec hsr) ?_
  conv => whnf
  refine ⟨fun h => absurd h (by first | decide | simp), fun _ => ?_⟩
  conv => whnf
  refine ⟨_, mcell_of hbs rfl, rfl, ?_⟩
  conv => whnf
  have h1 := (hall.pick (i := 4) rfl).pick (i := 2) rfl
  obtain ⟨q1, hq1, h2, back⟩ := Split.part2 h1
  refine xcall (lsync_spec h2 hf hk) ?_
  rintro _ m2 ⟨pf', ns', rfl, h3, hf', hns⟩
  conv => whnf
  have h4 := back _ _ _ h3
  refine ⟨rfl, ns', hns, sleft_of (ps := ps) (g := g) (pf := pf') (bl := bl) (lv := lv) (sv := sv) ?_ hkys ?_ hf'⟩
  · have h5 : Split m2 [blk1 bl (logO bf (lgn s.g) s.R.length s.R.length), pf', blk1 bs (storeO bf s.g lv bl sv), ps, g, m] := h4
    exact h5.perm (by classical exact List.perm_iff_count.2 fun x => by simp only [List.count_cons, List.count_nil, Sto.synced]; ac_rfl)
  · rcases hsv with hh | ⟨b, n, v, pv, l, g1, g2, g3, g4, g5⟩
    · exact .inl hh
    · exact .inr ⟨b, n, v, pv, l, g1, g2, g3, g4, g5⟩
def beginE (s : Sto) : Int := if 0 < s.st ∨ s.sure ≠ s.R.length then 7 else 0
set_option maxHeartbeats 8000000 in
theorem sbegin_spec {mm m p pf : Mem} {bs bf nb ns kk : Nat} {q : Int} {A : List Af} {s : Sto} (hg : Glob m) (hs : Split mm [p, pf, m]) (hp : SP p bs bf s) (hf : FA pf bf q nb ns A) (hk : Sm kk A nb ns) (hn : NmS A) (hfi : FI q A s) (hL : s.L.length ≤ 50) :
    Spec Tryz.prog 18 [ptrB bs] mm fun r m' => r = [i64 (beginE s)] ∧ Left m' m bs bf q nb ns A (if beginE s = 0 then s.at 1 else s) := by
  obtain ⟨bl, lv, sv, hsr⟩ := hp.read (hs.sub (a := p) (by simp))
  have hmS : Strong mm := hg.strong.sub (hs.sub (by simp))
  have hgl := hfi.gl
  have hgb := hfi.g
  have hB : beginE s = if 0 < s.st ∨ s.sure ≠ s.R.length then 7 else 0 := rfl
  have same : beginE s ≠ 0 → Left mm m bs bf q nb ns A (if beginE s = 0 then s.at 1 else s) := fun h => by rw [if_neg h]; exact ⟨p, pf, hs, hp, hf⟩
  refine en18 rfl (goY ?_)
  conv => whnf
  first | refine xretk (smade_spec hsr) ?_ | refine xret (smade_spec hsr) ?_
  conv => whnf
  refine ⟨fun h => absurd h (by first | decide | simp), fun _ => ?_⟩
  conv => whnf
  first | refine xretk (sstage_spec hsr) ?_ | refine xret (sstage_spec hsr) ?_
  conv => whnf
  refine ⟨fun h => ?_, fun h => ?_⟩
  · have h1 : 0 < s.st := by have := of_decide_eq_true h; omega
    rw [if_pos (.inl h1)] at hB
    conv => whnf
    exact ⟨by rw [hB], same (by rw [hB]; decide)⟩
  have h1 : ¬ 0 < s.st := by have := of_decide_eq_false h; omega
  clear h
  conv => whnf
  first | refine xretk (ssure_spec hsr) ?_ | refine xret (ssure_spec hsr) ?_
  conv => whnf
  by_cases h2 : s.sure = s.R.length
  rotate_left
  · rw [decide_eq_false h2]
    rw [if_pos (.inr h2)] at hB
    refine ⟨fun _ => ?_, fun h => absurd h (by first | decide | simp)⟩
    conv => whnf
    exact ⟨by rw [hB], same (by rw [hB]; decide)⟩
  rw [decide_eq_true h2]
  rw [if_neg (by simp only [not_or]; exact ⟨h1, by simpa using h2⟩)] at hB
  rw [hB, if_pos rfl]
  refine ⟨fun h => absurd h (by first | decide | simp), fun _ => ?_⟩
  conv => whnf
  obtain ⟨R, hR, hK⟩ := hsr.l
  obtain ⟨av, cv, rfl⟩ := hR.shape
  have hlen := hK.len
  have hbs := hsr.o
  refine ⟨_, mcell_of hbs rfl, rfl, ?_⟩
  conv => whnf
  refine .mk (ι := Nat × Value) (fun i => R.length - i.1) (fun ⟨i, v⟩ m' => i ≤ R.length ∧ ∃ pv g rs, Split m' [pv, g] ∧ Sub mm g ∧ Own pv 80 1 v (List.map (fun r : Value × List Int => r.1) rs) ∧ rs.length = i ∧ rs.map (·.2) = recs (s.L.take i) ∧ ∀ r ∈ rs, La g r.1 r.2) (fun ⟨i, v⟩ => [(0, .c (ptrB bs)), (3, .c (.v v)), (24, .c (.v (.slice av R.length cv))), (25, .c (i64 R.length)), (26, .c (i64 i))]) (fun _ => []) (0, .slice none 0 0) ⟨by omega, emp, mm, [], (Split.one mm).addEmp, Sub.refl _, .inl ⟨rfl, rfl⟩, rfl, by simp [recs], by simp⟩ ?_ ?_
  · conv => whnf
    repeat (refine And.intro (by first | with_reducible rfl | exact congrArg (Value.int _) (wi (by omega) (by omega)) | exact wi (by omega) (by omega) | rfl) ?_; conv => whnf)
    first | exact trivial | exact fun _ _ h => h
  rintro ⟨i, v⟩ m' ⟨hi, pv, g, rs, ht, hmg, hpv, hrl, hrr, hla⟩
  have hmm : Sub mm m' := hmg.trans (ht.sub (by simp))
  conv => whnf
  refine ⟨fun h => ?_, fun h => ?_⟩
  · have h' := of_decide_eq_true h
    have hlt : i < R.length := by omega
    clear h
    obtain ⟨b2, ol, c', hh, hg'⟩ := (hR.sub hmm).real hlt
    injection hh with hh1 _ hh3
    subst hh1
    clear hh3 c'
    have hg' := hg' i hlt
    have hx := hK.at' i hlt (by omega)
    have hGx := hgl _ (List.getElem_mem (show i < s.L.length by omega))
    have hst : recs (s.L.take (i + 1)) = recs (s.L.take i) ++ [kdB s.L[i]] := by
      rw [List.take_succ_eq_append_getElem (by omega), recs_append]; rfl
    rw [← el8 hx] at hg'
    have hxl := hx.len
    have hxe := hx.e
    have hxu := hx.u8
    generalize s.L[i] = x at *
    generalize R[i] = r at *
    rw [hxl] at hxe
    obtain ⟨xk, xu, xE⟩ := x
    obtain ⟨rk, ru, ra, rn, rc⟩ := r
    have hks := hGx.key
    simp only at hg' hxe hxu hks
    conv => whnf
    repeat (refine And.intro (by first | omega | (simp only [times]; omega)) ?_; conv => whnf)
    refine ⟨[.one (.string xk), .ints .u64 8 xu, .one (.slice ra xE.length rc)], ⟨rfl, hxu, rfl, trivial⟩, rfl, by simp only [times, Int.toNat_natCast]; exact hg', ?_⟩
    conv => whnf
    refine xcall (record_spec (x := (xk, xu, xE)) (hmS.sub hmm) (hxe.sub hmm) hGx.arg (by simp only; omega)) ?_
    rintro _ m1 ⟨vr, pr, rfl, ht1, hbr⟩
    conv => whnf
    have ht1 : Split m1 [pr, pv, g] := Split.weld (a := [pr]) ht1 ht
    refine .mk _ (buildL1 (x := vr)) ?_
    rintro _ _ ⟨b5, hb5, rfl, rfl⟩
    conv => whnf
    refine .mk _ (pushLat (i := 1) (ht1.grow (Mem.sub_set _ hb5)) rfl (Mem.set_same ..) hbr.lb.la.one hpv (by rw [List.length_map]; omega)) ?_
    rintro _ m2 ⟨v2, pv2, rfl, ht2, hpv2⟩
    conv => whnf
    have ht2 : Split m2 [pr, pv2, g] := ht2
    have ht3 : Split m2 ([pr, g] ++ [pv2]) := ht2.perm (List.Perm.cons _ (List.Perm.swap _ _ _))
    obtain ⟨ht4, ht5⟩ := Split.group _ ht3
    refine ⟨(i + 1, v2), ⟨by omega, pv2, allM [pr, g], rs ++ [(vr, kdB (xk, xu, xE))], ht4.perm (List.Perm.swap _ _ _), hmg.trans (ht5.sub (by simp)), by rw [List.map_append]; exact hpv2, by rw [List.length_append, hrl]; rfl, by rw [List.map_append, hrr, hst]; rfl, fun r hr => ?_⟩, by simp only; omega, ?_⟩
    · rcases List.mem_append.1 hr with hr | hr
      · exact (hla r hr).sub (ht5.sub (by simp))
      · rw [List.mem_singleton.1 hr]; exact hbr.lb.la.sub (ht5.sub (by simp))
    · conv => whnf
      repeat (refine And.intro (by first | with_reducible rfl | (first | exact congrArg (Value.int _) (iadd (by omega))) | exact congrArg (Value.int _) (wi (by omega) (by omega)) | exact wi (by omega) (by omega) | rfl) ?_; conv => whnf)
      first | exact trivial | exact fun _ _ h => h
  · have h' := of_decide_eq_false h
    obtain rfl : i = R.length := by omega
    have hrr : rs.map (·.2) = recs s.L := by rw [hrr, hlen, List.take_length]
    have hbs' := hmm _ _ hbs
    have hfi1 := hfi.may (by omega)
    have hrb : ∀ r ∈ rs, r.2 ∈ recs s.L := fun r hr => by rw [← hrr]; exact List.mem_map.2 ⟨r, hr, rfl⟩
    have hbz : ∀ r ∈ rs, r.2.length ≤ 1000000 := fun r hr => by
      obtain ⟨x, hx, e⟩ := List.mem_map.1 (hrb r hr)
      have := (hgl x hx).len
      rw [← e]; omega
    conv => whnf
    refine ⟨_, mcell_of hbs' rfl, rfl, ?_⟩
    conv => whnf
    refine ⟨_, mcell_of hbs' rfl, rfl, ?_⟩
    have ew : IntKind.i64.wrap ((s.g : Int) + 1) = ((s.g + 1 : Nat) : Int) := iadd' (by omega)
    conv => whnf
    rw [ew]
    refine xcall (begin_ok (ps := rs) ((hg.sub (hs.sub (a := m) (by simp))).sub hmm) ((hf.grow (hs.sub (a := pf) (by simp))).grow hmm) hk hn hfi1 (.inl ⟨hpv.lies.sub (ht.sub (by simp)), fun r hr => (hla r hr).sub (ht.sub (by simp))⟩) (fun r hr => (recs_ok hgl _ (hrb r hr)).2) (by omega) hbz) ?_
    rintro _ m2 hres
    conv => whnf
    rw [hrr, if_pos (recs_all hgl)] at hres
    obtain ⟨b6, v6, p6, rfl, ht1, hb6⟩ := hres
    refine ⟨fun _ => ?_, fun h => absurd h (by first | decide | simp)⟩
    conv => whnf
    obtain ⟨bl, lv, sv, ps, g0, hall, hkys, hsv⟩ := flat_of hs hp
    have ht2 : Split m2 [blk1 b6 (saveO bf ((s.g + 1 : Nat) : Int) v6 1), p6, mm] := by
      have h1 : Split m2 ([blk1 b6 (saveO bf ((s.g + 1 : Nat) : Int) v6 1), p6] ++ [pv, g]) := Split.weld (a := [blk1 b6 (saveO bf ((s.g + 1 : Nat) : Int) v6 1), p6]) ht1 ht
      have h2 : Split m2 (g :: [blk1 b6 (saveO bf ((s.g + 1 : Nat) : Int) v6 1), p6]) := (h1.erase 2).perm (List.perm_append_comm (l₁ := [_, p6]) (l₂ := [g]))
      exact (Split.fewer h2 hmg).perm (List.perm_append_comm (l₁ := [mm]) (l₂ := [_, p6]))
    have ht3 : Split m2 ([blk1 b6 (saveO bf ((s.g + 1 : Nat) : Int) v6 1), p6] ++ [blk1 bs (storeO bf s.g lv bl sv), blk1 bl (logO bf (lgn s.g) s.R.length s.sure), ps, g0, pf, m]) := Split.weld (a := [blk1 b6 (saveO bf ((s.g + 1 : Nat) : Int) v6 1), p6]) ht2 hall
    obtain ⟨ht4, ht5⟩ := Split.group _ ht3
    have hbs2 : m2 bs = some (storeO bf s.g lv bl sv) := ht3.get (a := blk1 bs (storeO bf s.g lv bl sv)) (by simp) (blk1_same ..)
    refine ⟨_, _, _, hbs2, ⟨by simp, by simp⟩, ?_⟩
    conv => whnf
    have ht6 := ht4.setAt (i := 1) rfl (blk1_same ..) (storeO bf s.g lv bl (.pointer (some ⟨b6, 0, none⟩)))
    rw [blk1_set] at ht6
    refine ⟨rfl, sleft_of (ps := allM [blk1 b6 (saveO bf ((s.g + 1 : Nat) : Int) v6 1), p6]) (g := g0) (pf := pf) (bl := bl) (lv := lv) (sv := .pointer (some ⟨b6, 0, none⟩)) ?_ hkys ?_ hf⟩
    · have h5 : Split _ [allM [blk1 b6 (saveO bf ((s.g + 1 : Nat) : Int) v6 1), p6], blk1 bs (storeO bf s.g lv bl (.pointer (some ⟨b6, 0, none⟩))), blk1 bl (logO bf (lgn s.g) s.R.length s.sure), ps, g0, pf, m] := ht6
      have h6 : Split _ [allM [blk1 b6 (saveO bf ((s.g + 1 : Nat) : Int) v6 1), p6], blk1 bs (storeO bf s.g lv bl (.pointer (some ⟨b6, 0, none⟩))), blk1 bl (logO bf (lgn s.g) s.R.length s.sure), g0, pf, m] := h5.erase 3
      exact h6.perm (by classical exact List.perm_iff_count.2 fun x => by simp only [List.count_cons, List.count_nil, Sto.at]; ac_rfl)
    · refine .inr ⟨b6, s.g + 1, v6, p6, catK s.L, rfl, ht5, ?_, toN_byt (Fr.cat_byt fun r hr => (recs_ok hgl r hr).2), fun _ => ⟨rfl, rfl⟩⟩
      rw [catK, nc_toN (Fr.cat_byt fun r hr => (recs_ok hgl r hr).2)]
      exact hb6
theorem sub_tot {A B : List Af} (h : A.Sublist B) : totA A ≤ totA B := by
  unfold totA
  induction h with
  | slnil => simp
  | cons a _ ih => simp only [List.map_cons, List.sum_cons]; omega
  | cons_cons a _ ih => simp only [List.map_cons, List.sum_cons]; omega
theorem sub_file {A B : List Af} (h : A.Sublist B) {x : ByteArray} (hx : fileA B x = none) : fileA A x = none :=
  fileA_none.2 fun a ha => fileA_none.1 hx a (h.subset ha)
theorem nms_sub {A B : List Af} (h : A.Sublist B) (hn : NmS B) : NmS A := fun a ha => hn a (h.subset ha)
theorem sm_sub {k nb ns : Nat} {A B : List Af} (h : A.Sublist B) (hk : Sm k B nb ns) : Sm k A nb ns := ⟨fun a ha => hk.l a (h.subset ha), Nat.le_trans h.length_le hk.n, hk.nb, hk.ns, hk.k⟩
theorem pre_nm (k : Nat) : Lib.hasPrefix (Sn.nm k).data.toList preG = false := by
  have : (Sn.nm k).data.toList = Sn.pre ++ Sn.dgs 6 k := by simp [Sn.nm]
  rw [this]
  simp [Lib.hasPrefix, Sn.pre, preG, List.isPrefixOf]
theorem So.real' {m : Mem} {v : Value} {ss : List ByteArray} (h : So m v ss) {i : Nat} (hi : i < ss.length) : ∃ b o c, v = .slice (some ⟨b, o, none⟩) ss.length c ∧ ∀ j (hj : j < ss.length), mcell m b (o + j) = some (.string ss[j]) := h.sl.real hi
set_option maxHeartbeats 8000000 in
theorem sturn_spec {mm m ps g pf : Mem} {bs bf bl nb ns kk gg all sure : Nat} {q : Int} {A : List Af} {lv sv : Value} (hg : Glob m) (hs : Split mm [blk1 bs (storeO bf gg lv bl sv), blk1 bl (logO bf (lgn gg) all sure), ps, g, pf, m]) (hlv : lv.oneCell' = true) (hsv : sv.oneCell' = true) (hf : FA pf bf q nb ns A) (hk : Sm kk A nb ns) (hgg : gg + 1 ≤ 999999) (hq : 0 ≤ q ∧ q ≤ 9223372036854775807) (hqt : 0 < q → (totA A : Int) ≤ q) (hno : fileA A (lgn (gg + 1)) = none) :
    Spec Tryz.prog 45 [ptrB bs] mm fun r m' => r = [] ∧ ∃ bl' pf' A', Split m' [blk1 bs (storeO bf (gg + 1) lv bl' sv), blk1 bl' (logO bf (lgn (gg + 1)) 0 0), ps, g, pf', m] ∧ FA pf' bf q nb ns A' ∧ A'.Sublist A ∧ ∀ k, fileA A' (Sn.nm k) = fileA A (Sn.nm k) := by
  have hbs : mm bs = some (storeO bf gg lv bl sv) := hs.get (a := blk1 bs _) (by simp) (blk1_same ..)
  have ew : IntKind.i64.wrap ((gg : Int) + 1) = ((gg + 1 : Nat) : Int) := iadd' (by omega)
  refine en45 rfl (goY ?_)
  conv => whnf
  refine ⟨_, mcell_of hbs rfl, rfl, ?_⟩
  conv => whnf
  rw [ew]
  refine ⟨_, _, _, hbs, ⟨by simp, by simp⟩, ?_⟩
  conv => whnf
  have hs1 := hs.set (blk1_same ..) (storeO bf (gg + 1) lv bl sv)
  rw [blk1_set] at hs1
  have hbs1 : (mm.set bs (storeO bf (gg + 1) lv bl sv)) bs = some (storeO bf (gg + 1) lv bl sv) := Mem.set_same ..
  refine ⟨_, mcell_of hbs1 rfl, rfl, ?_⟩
  conv => whnf
  refine xcall (names_A (hf.grow (hs1.sub (a := pf) (by simp))) hk) ?_
  rintro _ m2 ⟨vN, pN, rfl, hs2, hN⟩
  conv => whnf
  have hs2 : Split m2 [pN, blk1 bs (storeO bf (gg + 1) lv bl sv), blk1 bl (logO bf (lgn gg) all sure), ps, g, pf, m] := Split.weld (a := [pN]) hs2 hs1
  have hNl : (srtB (A.map (·.name))).length ≤ 1000 := by rw [(srtB_same _).length_eq, List.length_map]; exact Nat.le_trans hk.n hk.k
  generalize srtB (A.map (·.name)) = N at hN hNl
  obtain ⟨aN, cN, rfl⟩ := hN.sl.shape
  refine .mk (ι := Nat) (fun i => N.length - i) (fun i m' => i ≤ N.length ∧ ∃ pf' A', Split m' [pN, blk1 bs (storeO bf (gg + 1) lv bl sv), blk1 bl (logO bf (lgn gg) all sure), ps, g, pf', m] ∧ FA pf' bf q nb ns A' ∧ A'.Sublist A ∧ ∀ k, fileA A' (Sn.nm k) = fileA A (Sn.nm k)) (fun i => [(0, .c (ptrB bs)), (15, .c (.v (.slice aN N.length cN))), (16, .c (i64 N.length)), (17, .c (i64 i))]) (fun _ => []) 0 ⟨by omega, pf, A, hs2, hf, List.Sublist.refl _, fun _ => rfl⟩ ?_ ?_
  · conv => whnf
    repeat (refine And.intro (by first | with_reducible rfl | exact congrArg (Value.int _) (wi (by omega) (by omega)) | exact wi (by omega) (by omega) | rfl) ?_; conv => whnf)
    first | exact trivial | exact fun _ _ h => h
  rintro i m3 ⟨hi, pf', A', hs3, hf', hsub, hnm⟩
  have hbs3 : m3 bs = some (storeO bf (gg + 1) lv bl sv) := hs3.get (a := blk1 bs (storeO bf (gg + 1) lv bl sv)) (by simp) (blk1_same ..)
  have hg3 : Glob m3 := hg.sub (hs3.sub (a := m) (by simp))
  conv => whnf
  refine ⟨fun h => ?_, fun h => ?_⟩
  · have h' := of_decide_eq_true h
    have hlt : i < N.length := by omega
    clear h
    obtain ⟨b2, ol, c', hh, hg'⟩ := (hN.sub (hs3.sub (a := pN) (by simp))).real' hlt
    injection hh with hh1 _ hh3
    subst hh1
    clear hh3 c'
    have hg' := hg' i hlt
    generalize N[i] = x at hg'
    conv => whnf
    repeat (refine And.intro (by first | omega | (simp only [times]; omega)) ?_; conv => whnf)
    refine ⟨_, by simp only [times, Int.toNat_natCast, Nat.mul_one]; exact hg', rfl, ?_⟩
    conv => whnf
    first | refine xretk (hasPrefix_spec (s := x) (p := ⟨#[108, 111, 103, 45]⟩)) ?_ | refine xret (hasPrefix_spec (s := x) (p := ⟨#[108, 111, 103, 45]⟩)) ?_
    conv => whnf
    refine ⟨fun hpre => ?_, fun hpre => ?_⟩
    · have hne : ∀ k, Sn.nm k ≠ x := fun k e => by
        have h1 := pre_nm k
        rw [e] at h1
        have hpre : Lib.hasPrefix x.data.toList preG = true := hpre
        rw [h1] at hpre
        cases hpre
      conv => whnf
      refine ⟨_, mcell_of hbs3 rfl, rfl, ?_⟩
      conv => whnf
      first | refine xretk (lname18_spec hg3 (n := gg + 1) hgg) ?_ | refine xret (lname18_spec hg3 (n := gg + 1) hgg) ?_
      conv => whnf
      refine ⟨fun hl => ?_, fun hl => ?_⟩
      · conv => whnf
        refine ⟨_, mcell_of hbs3 rfl, rfl, ?_⟩
        conv => whnf
        have hs4 := hs3.pick (i := 5) rfl
        obtain ⟨q4, hq4, hs5, back⟩ := Split.part hs4
        refine xcall (Spec.frame hs5 (remove_A (name := x) hf')) ?_
        rintro _ m6 ⟨pf2, ⟨rfl, hf2⟩, hs6⟩
        conv => whnf
        have hs7 := back _ _ hs6
        have hs7 : Split m6 [pf2, pN, blk1 bs (storeO bf (gg + 1) lv bl sv), blk1 bl (logO bf (lgn gg) all sure), ps, g, m] := hs7
        refine ⟨i + 1, ⟨by omega, pf2, rmA A' x, hs7.perm (by classical exact List.perm_iff_count.2 fun x => by simp only [List.count_cons, List.count_nil]; ac_rfl), hf2, List.filter_sublist.trans hsub, fun k => by rw [file_rm, if_neg (hne k)]; exact hnm k⟩, by omega, ?_⟩
        conv => whnf
        repeat (refine And.intro (by first | with_reducible rfl | (first | exact congrArg (Value.int _) (iadd (by omega))) | exact congrArg (Value.int _) (wi (by omega) (by omega)) | exact wi (by omega) (by omega) | rfl) ?_; conv => whnf)
        first | exact trivial | exact fun _ _ h => h
      · conv => whnf
        refine ⟨i + 1, ⟨by omega, pf', A', hs3, hf', hsub, hnm⟩, by omega, ?_⟩
        conv => whnf
        repeat (refine And.intro (by first | with_reducible rfl | (first | exact congrArg (Value.int _) (iadd (by omega))) | exact congrArg (Value.int _) (wi (by omega) (by omega)) | exact wi (by omega) (by omega) | rfl) ?_; conv => whnf)
        first | exact trivial | exact fun _ _ h => h
    · conv => whnf
      refine ⟨i + 1, ⟨by omega, pf', A', hs3, hf', hsub, hnm⟩, by omega, ?_⟩
      conv => whnf
      repeat (refine And.intro (by first | with_reducible rfl | (first | exact congrArg (Value.int _) (iadd (by omega))) | exact congrArg (Value.int _) (wi (by omega) (by omega)) | exact wi (by omega) (by omega) | rfl) ?_; conv => whnf)
      first | exact trivial | exact fun _ _ h => h
  · have h' := of_decide_eq_false h
    conv => whnf
    refine ⟨_, mcell_of hbs3 rfl, rfl, ?_⟩
    conv => whnf
    refine ⟨_, mcell_of hbs3 rfl, rfl, ?_⟩
    conv => whnf
    first | refine xretk (lname18_spec hg3 (n := gg + 1) hgg) ?_ | refine xret (lname18_spec hg3 (n := gg + 1) hgg) ?_
    conv => whnf
    have hg0 : Split m3 ([pN, blk1 bs (storeO bf (gg + 1) lv bl sv), blk1 bl (logO bf (lgn gg) all sure), ps, g, m] ++ [pf']) := hs3.perm (by classical exact List.perm_iff_count.2 fun x => by simp only [List.count_cons, List.count_nil, List.cons_append, List.nil_append]; ac_rfl)
    obtain ⟨h5, h6⟩ := Split.group _ hg0
    have hs5 := h5.perm (List.Perm.swap _ _ _)
    refine xcall (lopen_new (name := lgn (gg + 1)) hf' hs5 (sm_sub hsub hk) lgn_ok (by rw [lgn_size]; omega) hq (fun h => by have := sub_tot hsub; have := hqt h; omega) (sub_file hsub hno)) ?_
    rintro _ m6 ⟨bl', pf2, rfl, hs6, hf2⟩
    conv => whnf
    have hs7 : Split m6 [blk1 bl' (logO bf (lgn (gg + 1)) 0 0), pf2, pN, blk1 bs (storeO bf (gg + 1) lv bl sv), blk1 bl (logO bf (lgn gg) all sure), ps, g, m] := Split.weld (a := [blk1 bl' (logO bf (lgn (gg + 1)) 0 0), pf2]) hs6 h6
    have hbs6 : m6 bs = some (storeO bf (gg + 1) lv bl sv) := hs7.get (a := blk1 bs (storeO bf (gg + 1) lv bl sv)) (by simp) (blk1_same ..)
    refine ⟨_, _, _, hbs6, ⟨by simp, by simp⟩, ?_⟩
    conv => whnf
    have hs8 := hs7.setAt (i := 3) rfl (blk1_same ..) (storeO bf (gg + 1) lv bl' sv)
    rw [blk1_set] at hs8
    have hs9 : Split _ [blk1 bl' (logO bf (lgn (gg + 1)) 0 0), pf2, pN, blk1 bs (storeO bf (gg + 1) lv bl' sv), blk1 bl (logO bf (lgn gg) all sure), ps, g, m] := hs8
    have hs10 : Split _ [blk1 bl' (logO bf (lgn (gg + 1)) 0 0), pf2, blk1 bs (storeO bf (gg + 1) lv bl' sv), ps, g, m] := (hs9.erase 2).erase 3
    exact ⟨rfl, bl', pf2, A', hs10.perm (by classical exact List.perm_iff_count.2 fun x => by simp only [List.count_cons, List.count_nil]; ac_rfl), hf2, hsub, hnm⟩
structure Gr (A A' : List Af) (b : Nat) : Prop where
  l : ∀ c, b ≤ c → (∀ a ∈ A, a.l.length ≤ c) → ∀ a ∈ A', a.l.length ≤ c
  n : A'.length ≤ A.length + 1
  nm : NmS A → NmS A'
theorem Gr.refl (A : List Af) (b : Nat) : Gr A A b := ⟨fun _ _ h => h, by omega, id⟩
theorem Gr.sub {A A' : List Af} {b : Nat} (h : A'.Sublist A) : Gr A A' b := ⟨fun _ _ h1 a ha => h1 a (h.subset ha), Nat.le_trans h.length_le (by omega), nms_sub h⟩
theorem rm_sub (A : List Af) (n : ByteArray) : (rmA A n).Sublist A := List.filter_sublist
theorem Gr.app {A : List Af} {l : List Nat} : Gr A (appA (rmA A tmpN) tmpN l) l.length := by
  have h1 : ∀ b ∈ rmA A tmpN, b.name ≠ tmpN := fun b hb => by simpa using (List.mem_filter.1 hb).2
  rw [app_new h1]
  refine ⟨fun c hc h a ha => ?_, ?_, fun hn a ha => ?_⟩
  · rcases List.mem_append.1 ha with ha | ha
    · exact h a ((rm_sub A tmpN).subset ha)
    · rw [List.mem_singleton.1 ha]; exact hc
  · rw [List.length_append]
    have := (rm_sub A tmpN).length_le
    simp; omega
  · rcases List.mem_append.1 ha with ha | ha
    · exact hn a ((rm_sub A tmpN).subset ha)
    · rw [List.mem_singleton.1 ha]; exact (by decide : tmpN.size ≤ 1000000)
theorem nms_map {A : List Af} {g : Af → Af} (hg : ∀ a ∈ A, (g a).name = a.name) (h : NmS A) : NmS (A.map g) := fun a ha => by
  obtain ⟨x, hx, rfl⟩ := List.mem_map.1 ha
  rw [hg x hx]; exact h x hx
theorem nms_sync {A : List Af} (n : ByteArray) (h : NmS A) : NmS (syncA A n) := nms_map (fun a _ => by split <;> rfl) h
theorem nms_cut {A : List Af} (n : ByteArray) (k : Nat) (h : NmS A) : NmS (cutA A n k) := nms_map (fun a _ => by split <;> rfl) h
theorem Gr.sync {A : List Af} {n : ByteArray} {b : Nat} : Gr A (syncA A n) b := ⟨fun c _ h => (sync_les A n).l c h, by rw [syncA, List.length_map]; omega, nms_sync n⟩
theorem nms_put {x : Af} {b : ByteArray} (hb : b.size ≤ 1000000) : ∀ {A : List Af}, NmS A → NmS (putA x b A)
  | [], _ => fun a ha => by rw [List.mem_singleton.1 ha]; exact hb
  | y :: A, h => by
    simp only [putA]
    split
    · intro a ha
      rcases List.mem_cons.1 ha with rfl | ha
      · exact hb
      · exact h a (by simp [ha])
    · intro a ha
      rcases List.mem_cons.1 ha with rfl | ha
      · exact h _ (by simp)
      · exact nms_put hb (fun z hz => h z (by simp [hz])) a ha
theorem Gr.ren {A : List Af} {n m : ByteArray} {b : Nat} (hm : m.size ≤ 1000000) : Gr A (renA A n m) b := by
  refine ⟨fun c _ h => (ren_les A n m).l c h, (ren_les A n m).n, fun hn => ?_⟩
  unfold renA
  split
  · exact hn
  · split
    · exact nms_put hm (hn.rm n)
    · exact hn
theorem sweep_sub (n : Nat) : ∀ (L : List Nat) (A : List Af), (sweepL n A L).Sublist A
  | [], A => List.Sublist.refl A
  | k :: L, A => by
    have ih := sweep_sub n L (if k < n then rmA A (Sn.nm k) else A)
    have e : sweepL n A (k :: L) = sweepL n (if k < n then rmA A (Sn.nm k) else A) L := by simp [sweepL]
    rw [e]
    refine ih.trans ?_
    split
    · exact rm_sub _ _
    · exact List.Sublist.refl _
def stepS (q : Int) (A : List Af) (s : Sto) : Sto :=
  if s.st = 0 then s else if s.st = 1 then (if fitsA q A (catK s.L) then s.at 2 else s.at 1) else if s.st = 2 then s.at 3 else if s.st = 3 then s.at 4 else s.next
def stepT (q : Int) (A : List Af) (s : Sto) : Int × Int :=
  if s.st = 0 then (0, 4) else if s.st = 1 then (if fitsA q A (catK s.L) then (2, 0) else (0, 5)) else if s.st = 2 then (3, 0) else if s.st = 3 then (4, 0) else (0, 0)
def StepR' (q : Int) (A : List Af) (s : Sto) (m : Mem) (bs bf nb ns : Nat) (r : List CV) (m' : Mem) : Prop :=
  r = [i64 (stepT q A s).1, i64 (stepT q A s).2] ∧ ∃ nb' ns' A', Left m' m bs bf q nb' ns' A' (stepS q A s) ∧ FI q A' (stepS q A s) ∧ nb' ≤ nb + (catK s.L).length ∧ ns' ≤ ns + 1 ∧ Gr A A' (catK s.L).length
set_option maxHeartbeats 8000000 in
theorem sstep_spec {mm m p pf : Mem} {bs bf nb ns kk : Nat} {q : Int} {A : List Af} {s : Sto} (hg : Glob m) (hs : Split mm [p, pf, m]) (hp : SP p bs bf s) (hf : FA pf bf q nb ns A) (hk : Sm kk A nb ns) (hn : NmS A) (hfi : FI q A s) (hq : 0 ≤ q ∧ q ≤ 9223372036854775807) (hL : (catK s.L).length ≤ 1000000) (hgb : s.g + 1 ≤ 900000) :
    Spec Tryz.prog 19 [ptrB bs] mm fun r m' => StepR' q A s m bs bf nb ns r m' := by
  obtain ⟨bl, lv, sv, hsr⟩ := hp.read (hs.sub (a := p) (by simp))
  have hst4 := hfi.st
  refine en19 rfl (goY ?_)
  conv => whnf
  first | refine xretk (smade_spec hsr) ?_ | refine xret (smade_spec hsr) ?_
  conv => whnf
  refine ⟨fun h => absurd h (by first | decide | simp), fun _ => ?_⟩
  conv => whnf
  first | refine xretk (sstage_spec hsr) ?_ | refine xret (sstage_spec hsr) ?_
  conv => whnf
  refine ⟨fun h => ?_, fun h => ?_⟩
  · have h0 : s.st = 0 := by simpa using h
    conv => whnf
    refine ⟨by simp only [stepT]; rw [if_pos h0], nb, ns, A, ?_⟩
    simp only [stepS]
    rw [if_pos h0]
    exact ⟨⟨p, pf, hs, hp, hf⟩, hfi, by omega, by omega, .refl _ _⟩
  have h0 : ¬ s.st = 0 := by simpa using h
  clear h
  obtain ⟨bl, lv, sv, ps, g, hall, hkys, hsv⟩ := flat_of hs hp
  rcases hsv with ⟨_, hh⟩ | ⟨b, n, v, pv, l, rfl, hsp, hbv, h256, hcond⟩
  · exact absurd hh h0
  obtain ⟨rfl, rfl⟩ := hcond (by omega)
  have hbs : mm bs = some (storeO bf s.g lv bl (.pointer (some ⟨b, 0, none⟩))) := hall.get (a := blk1 bs _) (by simp) (blk1_same ..)
  have hs1 : Split mm ([blk1 b (saveO bf ((s.g + 1 : Nat) : Int) v s.st), pv] ++ [blk1 bs (storeO bf s.g lv bl (.pointer (some ⟨b, 0, none⟩))), blk1 bl (logO bf (lgn s.g) s.R.length s.sure), g, pf, m]) := hall.flat (i := 2) rfl hsp
  have hs2 : Split mm ([blk1 bs (storeO bf s.g lv bl (.pointer (some ⟨b, 0, none⟩))), blk1 bl (logO bf (lgn s.g) s.R.length s.sure), g, m] ++ [blk1 b (saveO bf ((s.g + 1 : Nat) : Int) v s.st), pv, pf]) := hs1.perm (by classical exact List.perm_iff_count.2 fun x => by simp only [List.count_cons, List.count_nil, List.cons_append, List.nil_append]; ac_rfl)
  obtain ⟨hs3, hs4⟩ := Split.group _ hs2
  have hs5 := hs3.perm (List.perm_append_comm (l₁ := [_]) (l₂ := [blk1 b (saveO bf ((s.g + 1 : Nat) : Int) v s.st), pv, pf]))
  refine ⟨_, mcell_of hbs rfl, rfl, ?_⟩
  conv => whnf
  refine xcall (saveStepX_spec (n := s.g + 1) (hg.sub (hs4.sub (by simp))) hs5 hbv hf hk h256 hL hq hn (by omega) (by omega) hst4) ?_
  rintro _ m1 ⟨pf1, rfl, hs6, hf1⟩
  conv => whnf
  have hs7 : Split m1 ([blk1 b (saveO bf ((s.g + 1 : Nat) : Int) v (stepA q (s.g + 1) (catK s.L) s.st A).st), pv] ++ [pf1, blk1 bs (storeO bf s.g lv bl (.pointer (some ⟨b, 0, none⟩))), blk1 bl (logO bf (lgn s.g) s.R.length s.sure), g, m]) := Split.weld (a := [blk1 b (saveO bf ((s.g + 1 : Nat) : Int) v (stepA q (s.g + 1) (catK s.L) s.st A).st), pv, pf1]) hs6 hs4
  obtain ⟨hs8, hs9⟩ := Split.group _ hs7
  have hnb := stepNb_le q (catK s.L) s.st A nb
  have hns := stepNs_le s.st A ns
  have hnb4 : s.st = 4 → stepNb q (catK s.L) s.st A nb = nb := fun h => by unfold stepNb; rw [if_neg (by omega)]
  have hns4 : s.st = 4 → stepNs s.st A ns = ns := fun h => by unfold stepNs; rw [if_neg (by omega)]
  generalize stepNb q (catK s.L) s.st A nb = nb' at *
  generalize stepNs s.st A ns = ns' at *
  have hs10 : Split m1 [blk1 bs (storeO bf s.g lv bl (.pointer (some ⟨b, 0, none⟩))), blk1 bl (logO bf (lgn s.g) s.R.length s.sure), allM [blk1 b (saveO bf ((s.g + 1 : Nat) : Int) v (stepA q (s.g + 1) (catK s.L) s.st A).st), pv], g, pf1, m] := hs8.perm (by classical exact List.perm_iff_count.2 fun x => by simp only [List.count_cons, List.count_nil]; ac_rfl)
  have hT : stepT q A s = (((stepA q (s.g + 1) (catK s.L) s.st A).told : Int), (stepA q (s.g + 1) (catK s.L) s.st A).e) := by
    unfold stepT stepA
    rw [if_neg h0, if_neg h0]
    split
    · split <;> rfl
    · split
      · rfl
      · split <;> rfl
  have hS : s.st ≠ 4 → stepS q A s = s.at (stepA q (s.g + 1) (catK s.L) s.st A).st := fun h4 => by
    unfold stepS stepA
    rw [if_neg h0, if_neg h0]
    split
    · split <;> rfl
    · split
      · rfl
      · rw [if_pos (by omega), if_pos (by omega)]
  have hFI : s.st ≠ 4 → FI q (stepA q (s.g + 1) (catK s.L) s.st A).A (s.at (stepA q (s.g + 1) (catK s.L) s.st A).st) ∧ Gr A (stepA q (s.g + 1) (catK s.L) s.st A).A (catK s.L).length := fun h4 => by
    unfold stepA
    rw [if_neg h0]
    split
    · rename_i h1
      split
      · rename_i hfit
        exact ⟨hfi.step1 h1 hfit, Gr.app⟩
      · exact ⟨hfi.step1x h1, Gr.sub (rm_sub _ _)⟩
    · split
      · rename_i h2
        exact ⟨hfi.step2 h2, Gr.sync⟩
      · rw [if_pos (by omega)]
        exact ⟨hfi.step3 (by omega), Gr.ren (by rw [Sn.nm_size]; omega)⟩
  have hsv' : ∀ s' : Sto, s'.st = (stepA q (s.g + 1) (catK s.L) s.st A).st → (0 < s'.st → s'.g = s.g ∧ s'.L = s.L) → SvP (allM [blk1 b (saveO bf ((s.g + 1 : Nat) : Int) v (stepA q (s.g + 1) (catK s.L) s.st A).st), pv]) bf s' (.pointer (some ⟨b, 0, none⟩)) := fun s' h1 h2 => .inr ⟨b, s.g + 1, v, pv, catK s.L, rfl, by rw [h1]; exact hs9, hbv, h256, fun h3 => by
    obtain ⟨e1, e2⟩ := h2 h3
    rw [e1, e2]; exact ⟨rfl, rfl⟩⟩
  have fin : s.st ≠ 4 → StepR' q A s m bs bf nb ns [i64 (stepA q (s.g + 1) (catK s.L) s.st A).told, i64 (stepA q (s.g + 1) (catK s.L) s.st A).e] m1 := fun h4 => by
    obtain ⟨f1, f2⟩ := hFI h4
    refine ⟨by rw [hT], nb', ns', _, ?_, by rw [hS h4]; exact f1, hnb, hns, f2⟩
    rw [hS h4]
    exact sleft_of (s := s.at _) hs10 hkys (hsv' _ rfl fun _ => ⟨rfl, rfl⟩) hf1
  by_cases h4 : s.st = 4
  · clear fin hS hFI
    have e4 : stepA q (s.g + 1) (catK s.L) s.st A = ⟨sweepA (s.g + 1) A, 0, 0, 0⟩ := by
      unfold stepA
      rw [if_neg h0, if_neg (by omega), if_neg (by omega), if_neg (by omega)]
    have hTT : stepT q A s = (0, 0) := by rw [hT, e4]; rfl
    rw [e4] at hs10 hsv' hf1 ⊢
    simp only at hs10 hsv' hf1 ⊢
    have hno : fileA (sweepA (s.g + 1) A) (lgn (s.g + 1)) = none := by
      rw [file_sweep]
      split
      · rfl
      · exact hfi.nl _ (by omega) (by omega)
    have hsw : (sweepA (s.g + 1) A).Sublist A := sweep_sub _ _ _
    refine ⟨fun _ => ?_, fun h => absurd h (by first | decide | simp)⟩
    conv => whnf
    refine ⟨fun _ => ?_, fun h => absurd h (by first | decide | simp)⟩
    conv => whnf
    refine xcall (sturn_spec hg hs10 (by obtain ⟨_, _, e⟩ := hkys.shape; rw [e]; rfl) rfl hf1 (by rw [hnb4 h4, hns4 h4]; exact sm_sub hsw hk) (by omega) hq (fun h => by have := sub_tot hsw; have := hfi.qt h; omega) hno) ?_
    rintro _ m2 ⟨rfl, bl', pf2, A', ht1, hf2, hsub, hnm⟩
    conv => whnf
    have hSS : stepS q A s = s.next := by
      unfold stepS
      rw [if_neg h0, if_neg (by omega), if_neg (by omega), if_neg (by omega)]
    refine ⟨by rw [hTT]; rfl, nb', ns', A', ?_, ?_, hnb, hns, Gr.sub (hsub.trans hsw)⟩
    · rw [hSS]
      exact sleft_of (s := s.next) (bl := bl') ht1 (by rw [Sto.next_L]; exact hkys) (hsv' _ rfl fun h => absurd h (by simp [Sto.next])) hf2
    · rw [hSS]
      exact hfi.step4 h4 hgb hnm (fun k h => sub_file hsub h) (sub_tot (hsub.trans hsw))
  · have hne : ¬ ((stepA q (s.g + 1) (catK s.L) s.st A).told = 0 ∧ (stepA q (s.g + 1) (catK s.L) s.st A).e = 0) := by
      unfold stepA
      rw [if_neg h0]
      split
      · split <;> simp
      · split
        · simp
        · rw [if_pos (by omega)]; simp
    refine ⟨fun h => ?_, fun h => ?_⟩
    · have h1 : (stepA q (s.g + 1) (catK s.L) s.st A).told = 0 := by
        have : ((stepA q (s.g + 1) (catK s.L) s.st A).told : Int) = 0 := by simpa using h
        omega
      have h2 : (stepA q (s.g + 1) (catK s.L) s.st A).e ≠ 0 := fun e => hne ⟨h1, e⟩
      conv => whnf
      refine ⟨fun h => absurd (by simpa using h) h2, fun _ => ?_⟩
      conv => whnf
      exact fin h4
    · conv => whnf
      exact fin h4
theorem hLb : tt.get 80 = some ⟨.slice 5, 1, 24, [.one (.slice none 0 0)], false⟩ := by rfl
theorem own_len {m : Mem} {e : TypeId} {v : Value} {l : List Value} (h : Own m e 1 v l) : lenV v = l.length := by
  rcases h with ⟨rfl, rfl⟩ | ⟨b, o, c, n, arr, rfl, _, h2, _⟩
  · rfl
  · simp [lenV, h2]
theorem lies_len {m : Mem} {v : Value} {l : List Value} (h : Lies m 1 v l) : lenV v = l.length := by
  rcases h with ⟨c, rfl, rfl⟩ | ⟨b, o, c, n, arr, t, fr, rfl, _, h2, _⟩
  · rfl
  · simp [lenV, h2]
theorem lies_one {m : Mem} {v : Value} {l : List Value} (h : Lies m 1 v l) : v.oneCell' = true := by
  rcases h with ⟨c, rfl, rfl⟩ | ⟨b, o, c, n, arr, t, fr, rfl, _⟩ <;> rfl
theorem appendLat {m p : Mem} {ls : List Mem} {i : Nat} {v x : Value} {l news : List Value} (hs : Split m ls) (hi : ls[i]? = some p) (hv : Own p 80 1 v l) (hg : Lies m 1 x news) (hb : l.length + news.length ≤ 10000000) :
    PrimSpec Tryz.prog (.builtin .append [69, 69]) [.v v, .v x] m fun r m' => ∃ v' p', r = [.v v'] ∧ Split m' (ls.set i p') ∧ Own p' 80 1 v' (l ++ news) := by
  have e1 := own_len hv
  have e2 := lies_len hg
  refine (append_at (news := news) tt_ok hLs rfl hLb hLs (by rfl) hs hi hv (.inl ⟨_, rfl, .inl hg⟩) (by rw [e1, e2]; simp only; omega) (by rw [e1, e2]; omega)).mono fun r m' ⟨v', p', q1, q2, q3⟩ => ⟨v', p', q1, q2, q3.own⟩
theorem growL_spec {m : Mem} {n : Nat} (hn : n ≤ 1000000) :
    Spec Tryz.prog 59 [.v (.slice none 0 0), .v (.int .i64 n)] m fun r m' => ∃ v p, r = [.v v] ∧ Split m' [p, m] ∧ Own p 80 1 v [] := by
  refine en59 rfl (goY ?_)
  conv => whnf
  refine ⟨fun h => absurd h (by (simp; try omega)), fun _ => ?_⟩
  conv => whnf
  refine .mk _ (cap_spec tt_ok hLs rfl) ?_
  rintro _ _ ⟨rfl, rfl⟩
  conv => whnf
  have e : IntKind.i64.wrap ((n : Int) - IntKind.i64.wrap (((0 : Nat) : Int) - ((0 : Nat) : Int))) = (n : Int) := by rw [wi (n := ((0 : Nat) : Int) - ((0 : Nat) : Int)) (by omega) (by omega), wi (by omega) (by omega)]; omega
  rw [e]
  refine ⟨fun h => ?_, fun h => ?_⟩
  · have h' := of_decide_eq_true h
    conv => whnf
    refine .mk _ (cap_spec tt_ok hLs rfl) ?_
    rintro _ _ ⟨rfl, rfl⟩
    conv => whnf
    repeat (refine And.intro (by first | omega | (simp only [times]; omega)) ?_; conv => whnf)
    refine .mk _ (appendZeros_spec (n := 0) (c := 0) (a := none) (l := []) tt_ok hLs rfl hLb hI rfl (by decide) rfl (.inl ⟨0, rfl, rfl⟩) (by omega) (by omega) (by simp only; omega) (by omega)) ?_
    rintro _ _ ⟨b, C, hb, hC, rfl, rfl⟩
    conv => whnf
    repeat (refine And.intro (by first | omega | (simp only [times]; omega)) ?_; conv => whnf)
    intro o' h1 h2
    obtain rfl : o' = 0 := by have := h1 (by omega); simpa using this
    conv => whnf
    refine ⟨_, blk1 b _, rfl, (Split.one m).new hb _, .inr ⟨b, 0, C, 0, _, rfl, blk1_same .., rfl, Nat.zero_le _, ?_, by intro j u hu; simp at hu, by simp⟩⟩
    simp only [Array.size_append, zeroCells_size, List.size_toArray, List.length_nil, LB.cells, Seg.cells, List.length_append, List.length_cons]
    omega
  · have h' := of_decide_eq_false h
    conv => whnf
    exact ⟨_, emp, rfl, (Split.one m).addEmp, .inl ⟨rfl, rfl⟩⟩
structure LsL (m : Mem) (v : Value) (ps : List (Value × List Value)) : Prop where
  lies : Lies m 1 v (ps.map (·.1))
  la : ∀ p ∈ ps, Lies m 1 p.1 p.2
theorem LsL.shape {m : Mem} {v : Value} {ps : List (Value × List Value)} (h : LsL m v ps) : ∃ a c, v = .slice a ps.length c := by
  rcases h.lies with ⟨c, rfl, e⟩ | ⟨b, o, c, n, arr, t, fr, rfl, _, e, _⟩
  · have : ps.length = 0 := by simpa using congrArg List.length e
    exact ⟨none, c, by rw [this]⟩
  · have : ps.length = n := by simpa using e
    exact ⟨_, c, by rw [this]⟩
theorem LsL.real {m : Mem} {v : Value} {ps : List (Value × List Value)} (h : LsL m v ps) {i : Nat} (hi : i < ps.length) : ∃ b o c, v = .slice (some ⟨b, o, none⟩) ps.length c ∧ ∀ (i : Nat) (hi : i < ps.length), mcell m b (o + i) = some ps[i].1 := by
  rcases h.lies with ⟨c, rfl, e⟩ | ⟨b, o, c, n, arr, t, fr, rfl, g1, e, _, g2, _⟩
  · have : ps.length = 0 := by simpa using congrArg List.length e
    omega
  · have : ps.length = n := by simpa using e
    exact ⟨b, o, c, by rw [this], fun j hj => mcell_of g1 (g2 j _ (by simp [hj]))⟩
def catV (ps : List (Value × List Value)) : List Value := (ps.map (·.2)).flatten
theorem catV_take {ps : List (Value × List Value)} {i : Nat} (h : i < ps.length) : catV (ps.take i) ++ ps[i].2 = catV (ps.take (i + 1)) := by
  rw [List.take_succ_eq_append_getElem h, catV, catV, List.map_append, List.flatten_append]; simp
theorem catV_le {ps : List (Value × List Value)} (i : Nat) : (catV (ps.take i)).length ≤ (catV ps).length := by
  have e : catV ps = catV (ps.take i) ++ catV (ps.drop i) := by
    rw [catV, catV, catV, ← List.flatten_append, ← List.map_append, List.take_append_drop]
  rw [e, List.length_append]; omega
theorem lies_shape {m : Mem} {v : Value} {l : List Value} (h : Lies m 1 v l) : ∃ a c, v = .slice a l.length c := by
  rcases h with ⟨c, rfl, rfl⟩ | ⟨b, o, c, n, arr, t, fr, rfl, _, h2, _⟩
  · exact ⟨_, _, rfl⟩
  · have : l.length = n := by simpa using h2
    exact ⟨_, c, by rw [this]⟩
set_option maxHeartbeats 1000000 in
theorem concatL_spec {m : Mem} {v : Value} {ps : List (Value × List Value)} (h : LsL m v ps) (hb : (catV ps).length ≤ 1000000) (hn : ps.length ≤ 1000000) :
    Spec Tryz.prog 26 [.v v] m fun r m' => ∃ v' p, r = [.v v'] ∧ Split m' [p, m] ∧ Own p 80 1 v' (catV ps) := by
  obtain ⟨a, c, rfl⟩ := h.shape
  refine en26 rfl (goY ?_)
  conv => whnf
  refine .mk (ι := Nat) (fun i => ps.length - i) (fun i mm => i ≤ ps.length ∧ mm = m) (fun i => [(0, .c (.v (.slice a ps.length c))), (3, .c (i64 (catV (ps.take i)).length)), (9, .c (.v (.slice a ps.length c))), (10, .c (i64 ps.length)), (11, .c (i64 i))]) (fun _ => []) 0 ⟨by omega, rfl⟩ ?_ ?_
  · conv => whnf
    repeat (refine And.intro (by first | with_reducible rfl | exact congrArg (Value.int _) (wi (by omega) (by omega)) | exact wi (by omega) (by omega) | rfl) ?_; conv => whnf)
    first | exact trivial | exact fun _ _ h => h
  rintro i mm ⟨hi, he⟩
  subst mm
  conv => whnf
  refine ⟨fun h1 => ?_, fun h1 => ?_⟩
  · have h1' := of_decide_eq_true h1
    have hlt : i < ps.length := by omega
    obtain ⟨b, o, c', e, hat⟩ := h.real hlt
    cases e
    have hla := h.la ps[i] (by simp)
    obtain ⟨ai, ci, hvi⟩ := lies_shape hla
    have hc := hat i hlt
    rw [hvi] at hc
    have hle := catV_le (ps := ps) (i + 1)
    rw [← catV_take hlt, List.length_append] at hle
    conv => whnf
    repeat (refine And.intro (by first | omega | (simp only [times]; omega)) ?_; conv => whnf)
    refine ⟨_, hc, rfl, ?_⟩
    conv => whnf
    have e3 : IntKind.i64.wrap (((catV (ps.take i)).length : Int) + (ps[i].2.length : Int)) = ((catV (ps.take (i + 1))).length : Int) := by
      rw [← catV_take hlt, List.length_append, wi (by omega) (by omega)]; omega
    rw [e3]
    refine ⟨fun h => absurd h (by (simp; try omega)), fun _ => ?_⟩
    conv => whnf
    refine ⟨i + 1, ⟨by omega, rfl⟩, by omega, ?_⟩
    conv => whnf
    repeat (refine And.intro (by first | with_reducible rfl | (exact congrArg (Value.int _) (iadd' (by omega))) | exact congrArg (Value.int _) (wi (by omega) (by omega)) | exact wi (by omega) (by omega) | rfl) ?_; conv => whnf)
    first | exact trivial | exact fun _ _ h => h
  · have h1' := of_decide_eq_false h1
    obtain rfl : i = ps.length := by omega
    rw [List.take_length]
    conv => whnf
    refine xcall (growL_spec (n := (catV ps).length) (by omega)) ?_
    rintro _ m2 ⟨v2, p2, rfl, hs2, hv2⟩
    conv => whnf
    refine .mk (ι := Nat × Value) (fun i => ps.length - i.1) (fun ⟨i, x⟩ mm => i ≤ ps.length ∧ ∃ p, Split mm [p, m] ∧ Own p 80 1 x (catV (ps.take i))) (fun ⟨i, x⟩ => [(6, .c (.v x)), (25, .c (.v (.slice a ps.length c))), (26, .c (i64 ps.length)), (27, .c (i64 i))]) (fun _ => []) (0, v2) ⟨by omega, p2, hs2, by simpa [catV] using hv2⟩ ?_ ?_
    · conv => whnf
      repeat (refine And.intro (by first | with_reducible rfl | exact congrArg (Value.int _) (wi (by omega) (by omega)) | exact wi (by omega) (by omega) | rfl) ?_; conv => whnf)
      first | exact trivial | exact fun _ _ h => h
    rintro ⟨i, x⟩ mm ⟨hi, p, hs, hx⟩
    conv => whnf
    refine ⟨fun h2 => ?_, fun h2 => ?_⟩
    · have h2' := of_decide_eq_true h2
      have hlt : i < ps.length := by omega
      obtain ⟨b, o, c', e, hat⟩ := h.real hlt
      cases e
      have hla := h.la ps[i] (by simp)
      have hle := catV_le (ps := ps) (i + 1)
      rw [← catV_take hlt, List.length_append] at hle
      have hc : mcell mm b (o + i) = some ps[i].1 := mcell_sub (hat i hlt) (hs.at (i := 1) rfl)
      conv => whnf
      repeat (refine And.intro (by first | omega | (simp only [times]; omega)) ?_; conv => whnf)
      refine ⟨_, hc, lies_one hla, ?_⟩
      conv => whnf
      refine .mk _ (appendLat (i := 0) hs rfl hx (hla.sub (hs.at (i := 1) rfl)) (by omega)) ?_
      rintro _ m3 ⟨v3, p3, rfl, hs3, hv3⟩
      conv => whnf
      refine ⟨(i + 1, v3), ⟨by omega, p3, hs3, ?_⟩, by simp only; omega, ?_⟩
      · rw [catV_take hlt] at hv3; exact hv3
      · conv => whnf
        repeat (refine And.intro (by first | with_reducible rfl | (exact congrArg (Value.int _) (iadd' (by omega))) | exact congrArg (Value.int _) (wi (by omega) (by omega)) | exact wi (by omega) (by omega) | rfl) ?_; conv => whnf)
        first | exact trivial | exact fun _ _ h => h
    · have h2' := of_decide_eq_false h2
      obtain rfl : i = ps.length := by omega
      rw [List.take_length] at hx
      conv => whnf
      exact ⟨x, p, rfl, hs, hx⟩
theorem buildLL2 {m : Mem} {x y : Value} : PrimSpec Tryz.prog (.buildSlice 119 2 [0, 1]) [.v x, .v y] m fun r m' => ∃ b, m b = none ∧ r = [.v (.slice (some ⟨b, 0, none⟩) 2 2)] ∧ m' = m.set b (.cells #[x, y] 69) :=
  buildSlice_spec (n := 2) tt_ok (show tt.get 119 = some ⟨.slice 69, 1, 24, [.one (.slice none 0 0)], false⟩ by rfl) rfl hLs rfl rfl (by simp [CV.cs]) (by simp) (by simp)
theorem Gr.cut {A : List Af} {n : ByteArray} {k b : Nat} : Gr A (syncA (cutA A n k) n) b := ⟨fun c _ h => (sync_les _ n).l c ((cutA_les A n k).l c h), by rw [syncA, List.length_map, cutA, List.length_map]; omega, fun h => nms_sync n (nms_cut n k h)⟩
theorem lopenC_spec {mm m pf : Mem} {bf nb ns kk g K : Nat} {q : Int} {A : List Af} {P R : List Kd} (hs : Split mm [pf, m]) (hf : FA pf bf q nb ns A) (hk : Sm kk A nb ns) (hc : CI q A g P R K) (hgb : g ≤ 900000) (hq : 0 ≤ q ∧ q ≤ 9223372036854775807) (hK : K ≤ 1000000) :
    Spec Tryz.prog 24 [ptrB bf, .v (.string (lgn g))] mm fun r m' => ∃ bl v ps pv pf' ns' A', r = [ptrB bl, .v v, i64 0] ∧ Split m' [blk1 bl (logO bf (lgn g) (wholeK R K) (wholeK R K)), pv, pf', m] ∧ Lists pv v ps ∧ ps.map (·.2) = recs (R.take (wholeK R K)) ∧ FA pf' bf q nb ns' A' ∧ FI q A' (opened g P R K) ∧ ns' ≤ ns + 1 ∧ Gr A A' 0 ∧ (fileA A (lgn g) = none → A' = A) := by
  cases hfile : fileA A (lgn g) with
  | none =>
    refine (lopen_new hf hs hk lgn_ok (by rw [lgn_size]; omega) hq hc.qt hfile).mono fun r m' ⟨bl, pf', h1, h2, h3⟩ => ?_
    have hR : R = [] ∧ K = 0 := by
      rcases hc.lg with ⟨_, h1, h2⟩ | ⟨sf, h1, _⟩
      · exact ⟨h1, h2⟩
      · rw [hfile] at h1; cases h1
    have hw : wholeK R K = 0 := by
      have := wholeK_le R K
      rw [hR.1] at this ⊢
      simpa using this
    refine ⟨bl, _, [], emp, pf', ns, A, h1, ?_, ⟨.inl ⟨_, rfl, rfl⟩, by simp⟩, by rw [hw]; rfl, h3, hc.opened0 hfile hgb, by omega, .refl _ _, fun _ => rfl⟩
    rw [hw]
    exact (h2.addEmp).perm (List.Perm.swap _ _ _)
  | some a =>
    rcases hc.lg with ⟨h1, _⟩ | ⟨sf, h1, h2⟩
    · rw [hfile] at h1; cases h1
    · refine (lopen_old (R := recs R) hf hs hk (recs_ok hc.gr) h2 hK h1).mono fun r m' ⟨bl, v, ps, pv, pf', e1, e2, e3, e4, e5⟩ => ?_
      exact ⟨bl, v, ps, pv, pf', ns + 1, _, e1, e2, e3, by rw [e4, recs_take]; rfl, e5, hc.opened1 h1 hgb, by omega, Gr.cut, fun h => by cases h⟩
set_option maxHeartbeats 8000000 in
theorem sopen_spec {mm m pf : Mem} {bf nb ns kk g K : Nat} {q : Int} {A : List Af} {P R : List Kd} (hg : Glob m) (hs : Split mm [pf, m]) (hf : FA pf bf q nb ns A) (hk : Sm kk A nb ns) (hn : NmS A) (hc : CI q A g P R K) (hgb : g ≤ 900000) (hq : 0 ≤ q ∧ q ≤ 9223372036854775807) (hK : K ≤ 1000000) (hP : P.length + R.length ≤ 1000) :
    Spec Tryz.prog 7 [ptrB bf] mm fun r m' => ∃ bs ns' A', r = [ptrB bs, i64 0] ∧ Left m' m bs bf q nb ns' A' (opened g P R K) ∧ FI q A' (opened g P R K) ∧ ns' ≤ ns + 1 ∧ Gr A A' 0 ∧ (fileA A (lgn g) = none → A' = A) := by
  have hmm : Sub m mm := hs.sub (by simp)
  have hwl := wholeK_le R K
  refine en7 rfl (goY ?_)
  conv => whnf
  refine xcall (load_A (hg.sub hmm) (hf.grow (hs.sub (a := pf) (by simp))) hk hn) ?_
  rintro _ m1 ⟨v1, ps1, p1, rfl, hs1, hl1, he1⟩
  conv => whnf
  rw [hc.load] at he1 ⊢
  simp only at he1 ⊢
  have hs1 : Split m1 [p1, pf, m] := Split.weld (a := [p1]) hs1 hs
  refine ⟨fun h => absurd h (by first | decide | simp), fun _ => ?_⟩
  conv => whnf
  first | refine xretk (lname18_spec (hg.sub (hs1.sub (a := m) (by simp))) (n := g) (by omega)) ?_ | refine xret (lname18_spec (hg.sub (hs1.sub (a := m) (by simp))) (n := g) (by omega)) ?_
  conv => whnf
  have hs2 : Split m1 ([p1, m] ++ [pf]) := hs1.perm (by classical exact List.perm_iff_count.2 fun x => by simp only [List.count_cons, List.count_nil, List.cons_append, List.nil_append]; ac_rfl)
  obtain ⟨hs3, hs4⟩ := Split.group _ hs2
  refine xcall (lopenC_spec (hs3.perm (List.Perm.swap _ _ _)) hf hk hc hgb hq hK) ?_
  rintro _ m2 ⟨bl, v2, ps2, p2, pf', ns', A', rfl, hs5, hl2, he2, hf', hfi, hns, hgr, hsame⟩
  conv => whnf
  have hs5 : Split m2 [blk1 bl (logO bf (lgn g) (wholeK R K) (wholeK R K)), p2, pf', p1, m] := Split.weld (a := [blk1 bl (logO bf (lgn g) (wholeK R K) (wholeK R K)), p2, pf']) hs5 hs4
  have hop : opened g P R K = ⟨g, P, R.take (wholeK R K), wholeK R K, 0⟩ := rfl
  refine ⟨fun h => absurd h (by first | decide | simp), fun _ => ?_⟩
  conv => whnf
  intro bs hbs
  conv => whnf
  have hs6 := hs5.new hbs (storeO bf g (.slice none 0 0) bl (.pointer none))
  refine .mk _ (buildLL2) ?_
  rintro _ _ ⟨b6, hb6, rfl, rfl⟩
  conv => whnf
  have hs7 := hs6.new hb6 (.cells #[v1, v2] 69)
  have hq1 := hs7.sub (a := p1) (by simp)
  have hq2 := hs7.sub (a := p2) (by simp)
  have hcat : catV [(v1, ps1.map (·.1)), (v2, ps2.map (·.1))] = (ps1 ++ ps2).map (·.1) := by simp [catV]
  have hpl1 : ps1.length = P.length := by have := congrArg List.length he1; simpa [recs] using this
  have hpl2 : ps2.length = wholeK R K := by
    have := congrArg List.length he2
    simp only [recs, List.length_map, List.length_take] at this
    omega
  refine xcall (concatL_spec (ps := [(v1, ps1.map (·.1)), (v2, ps2.map (·.1))]) ⟨.inr ⟨b6, 0, 2, 2, _, _, _, rfl, hs7.get (a := blk1 b6 (.cells #[v1, v2] 69)) (by simp) (blk1_same ..), rfl, Nat.le_refl _, fun j u hu => by simpa using hu, fun u hu => by simp at hu; rcases hu with rfl | rfl; exact lies_one hl1.lies; exact lies_one hl2.lies⟩, fun p hp => by simp at hp; rcases hp with rfl | rfl; exact hl1.lies.sub hq1; exact hl2.lies.sub hq2⟩ (by rw [hcat, List.length_map, List.length_append]; omega) (by simp)) ?_
  rintro _ m4 ⟨v3, p3, rfl, hs8, hv3⟩
  conv => whnf
  rw [hcat] at hv3
  have hs8 : Split m4 [p3, blk1 b6 (.cells #[v1, v2] 69), blk1 bs (storeO bf g (.slice none 0 0) bl (.pointer none)), blk1 bl (logO bf (lgn g) (wholeK R K) (wholeK R K)), p2, pf', p1, m] := Split.weld (a := [p3]) hs8 hs7
  have hs9 : Split m4 ([p3, blk1 bl (logO bf (lgn g) (wholeK R K) (wholeK R K)), p2, pf', p1, m] ++ [blk1 bs (storeO bf g (.slice none 0 0) bl (.pointer none))]) := (hs8.erase 1).perm (by
    show List.Perm [p3, blk1 bs (storeO bf g (.slice none 0 0) bl (.pointer none)), blk1 bl (logO bf (lgn g) (wholeK R K) (wholeK R K)), p2, pf', p1, m] _
    classical exact List.perm_iff_count.2 fun x => by simp only [List.count_cons, List.count_nil, List.cons_append, List.nil_append]; ac_rfl)
  obtain ⟨hs10, hs11⟩ := Split.group _ hs9
  have hmS' : Strong (allM [p3, blk1 bl (logO bf (lgn g) (wholeK R K) (wholeK R K)), p2, pf', p1, m]) := hg.strong.sub (hs11.sub (a := m) (by simp))
  have hpm : Sub p3 (allM [p3, blk1 bl (logO bf (lgn g) (wholeK R K) (wholeK R K)), p2, pf', p1, m]) := hs11.sub (by simp)
  have hxs : (ps1 ++ ps2).map (·.2) = recs (P ++ R.take (wholeK R K)) := by rw [List.map_append, he1, he2, recs_append]
  have hgx : ∀ x ∈ P ++ R.take (wholeK R K), GoodK x := fun x hx => (List.mem_append.1 hx).elim (hc.gp x) fun h => hc.gr x (List.mem_of_mem_take h)
  have hlal : ∀ p ∈ ps1 ++ ps2, La (allM [p3, blk1 bl (logO bf (lgn g) (wholeK R K) (wholeK R K)), p2, pf', p1, m]) p.1 p.2 := fun p hp => (List.mem_append.1 hp).elim (fun h => (hl1.la p h).sub (hs11.sub (by simp))) fun h => (hl2.la p h).sub (hs11.sub (by simp))
  have hlen : (ps1 ++ ps2).length ≤ 2000 := by rw [List.length_append]; omega
  have hlx : (P ++ R.take (wholeK R K)).length = (ps1 ++ ps2).length := by have := congrArg List.length hxs; simp only [recs, List.length_map] at this; exact this.symm
  have hL : (opened g P R K).L = withs [] (P ++ R.take (wholeK R K)) := rfl
  generalize hX : P ++ R.take (wholeK R K) = X at *
  generalize ps1 ++ ps2 = ps at *
  obtain ⟨a3, c3, rfl⟩ := lies_shape hv3.lies
  rw [List.length_map] at hv3 ⊢
  generalize hrest : [p3, blk1 bl (logO bf (lgn g) (wholeK R K) (wholeK R K)), p2, pf', p1, m] = lr at *
  refine .mk (ι := Nat) (fun i => ps.length - i) (fun i m' => i ≤ ps.length ∧ ∃ lv g', Split m' [blk1 bs (storeO bf g lv bl (.pointer none)), g', allM lr] ∧ Kys g' lv (withs [] (X.take i))) (fun i => [(9, .c (ptrB bs)), (42, .c (.v (.slice a3 ps.length c3))), (43, .c (i64 ps.length)), (44, .c (i64 i))]) (fun _ => []) 0 ⟨by omega, .slice none 0 0, emp, (hs10.addEmp).perm (by classical exact List.perm_iff_count.2 fun x => by simp only [List.count_cons, List.count_nil]; ac_rfl), Kys.nil _⟩ ?_ ?_
  · conv => whnf
    repeat (refine And.intro (by first | with_reducible rfl | exact congrArg (Value.int _) (wi (by omega) (by omega)) | exact wi (by omega) (by omega) | rfl) ?_; conv => whnf)
    first | exact trivial | exact fun _ _ h => h
  rintro i m5 ⟨hi, lv, g', ht, hk5⟩
  conv => whnf
  refine ⟨fun h => ?_, fun h => ?_⟩
  · have h' := of_decide_eq_true h
    have hlt : i < ps.length := by omega
    clear h
    have hsub5 : Sub (allM lr) m5 := ht.sub (by simp)
    obtain ⟨b2, o2, hcell⟩ : ∃ b2 o2, a3 = some ⟨b2, o2, none⟩ ∧ mcell m5 b2 (o2 + i) = some ps[i].1 := by
      rcases hv3 with ⟨e, e2⟩ | ⟨b, o, c, n, arr, e, g1, g2, g3, g4, g5, g6⟩
      · have : ps.length = 0 := by simpa using congrArg List.length e2
        omega
      · cases e
        exact ⟨b, o, rfl, mcell_of (hsub5 _ _ (hpm _ _ g1)) (g5 i _ (by simp [hlt]))⟩
    obtain ⟨rfl, hcell⟩ := hcell
    have hlai := hlal ps[i] (List.getElem_mem hlt)
    have hbi : ps[i].2 = kdB X[i] := by
      have := congrArg (fun l : List (List Int) => l[i]?) hxs
      simp only [recs, List.getElem?_map, List.getElem?_eq_getElem hlt, List.getElem?_eq_getElem (show i < X.length by omega), Option.map_some, Option.some.injEq] at this
      exact this
    have hgi := hgx X[i] (List.getElem_mem _)
    have hst : withs [] (X.take (i + 1)) = withK (withs [] (X.take i)) X[i].1 X[i].2 := by
      rw [List.take_succ_eq_append_getElem (by omega), withs_snoc]
    generalize X[i] = x at *
    generalize ps[i] = pi at *
    obtain ⟨pv, pb⟩ := pi
    simp only at hcell hlai hbi
    subst hbi
    have hkl := hgi.len
    conv => whnf
    repeat (refine And.intro (by first | omega | (simp only [times]; omega)) ?_; conv => whnf)
    refine ⟨_, by simp only [times, Int.toNat_natCast, Nat.mul_one]; exact hcell, hlai.one, ?_⟩
    conv => whnf
    refine xcall (read_rec_spec (hmS'.sub hsub5) (hlai.sub hsub5) (kdB_byt x) (by omega)) ?_
    rintro _ m6 ⟨y, ya, yc, py, hy, rfl, ht1, hya, hyu, hyo⟩
    conv => whnf
    rw [readR_back hgi.k hgi.u hgi.r] at hy ⊢
    simp only at hy
    subst hy
    obtain ⟨yk, yu, yE⟩ := y
    simp only at hya hyu hyo hst hgi
    have ht1 : Split m6 [py, blk1 bs (storeO bf g lv bl (.pointer none)), g', allM lr] := Split.weld (a := [py]) ht1 ht
    have hbs6 : m6 bs = some (storeO bf g lv bl (.pointer none)) := ht1.get (a := blk1 bs (storeO bf g lv bl (.pointer none))) (by simp) (blk1_same ..)
    conv => whnf
    refine ⟨fun h => absurd h (by first | decide | simp), fun _ => ?_⟩
    conv => whnf
    refine ⟨_, mcell_of hbs6 rfl, by obtain ⟨_, _, e⟩ := hk5.shape; rw [e]; rfl, ?_⟩
    conv => whnf
    have hwl5 : (withs [] (X.take i)).length ≤ 100000 := by
      have := withs_len [] (X.take i)
      rw [List.length_take] at this
      simp only [List.length_nil] at this
      omega
    have hnE := rightC_len hgi.r
    obtain ⟨q6, hq6, ht2, back⟩ := Split.part (ht1.pick (i := 2) rfl)
    refine xcall (pwith_spec (k := yk) (u := yu) (E := yE) ht2 hk5 (hya.sub (ht1.sub (a := py) (by simp))) hyu.1 hwl5 (by simp only at hnE; omega)) ?_
    rintro _ m7 ⟨lv', g2, rfl, ht3, hk6⟩
    conv => whnf
    have ht4 : Split m7 [g2, py, blk1 bs (storeO bf g lv bl (.pointer none)), allM lr] := back _ _ ht3
    have hbs7 : m7 bs = some (storeO bf g lv bl (.pointer none)) := ht4.get (a := blk1 bs (storeO bf g lv bl (.pointer none))) (by simp) (blk1_same ..)
    refine ⟨_, _, _, hbs7, ⟨by simp, by simp⟩, ?_⟩
    conv => whnf
    have ht5 := (ht4.erase 1).setAt (i := 1) rfl (blk1_same ..) (storeO bf g lv' bl (.pointer none))
    rw [blk1_set] at ht5
    have ht5 : Split _ [g2, blk1 bs (storeO bf g lv' bl (.pointer none)), allM lr] := ht5
    refine ⟨i + 1, ⟨by omega, lv', g2, ht5.perm (List.Perm.swap _ _ _), by rw [hst]; exact hk6⟩, by omega, ?_⟩
    conv => whnf
    repeat (refine And.intro (by first | with_reducible rfl | (first | exact congrArg (Value.int _) (iadd (by omega))) | exact congrArg (Value.int _) (wi (by omega) (by omega)) | exact wi (by omega) (by omega) | rfl) ?_; conv => whnf)
    first | exact trivial | exact fun _ _ h => h
  · have h' := of_decide_eq_false h
    obtain rfl : i = ps.length := by omega
    rw [← hlx, List.take_length] at hk5
    conv => whnf
    subst hrest
    have ht2 : Split m5 ([blk1 bs (storeO bf g lv bl (.pointer none)), g'] ++ [p3, blk1 bl (logO bf (lgn g) (wholeK R K) (wholeK R K)), p2, pf', p1, m]) := Split.weld (a := [blk1 bs (storeO bf g lv bl (.pointer none)), g']) ht hs11
    have ht3 : Split m5 [p3, p2, p1, blk1 bs (storeO bf g lv bl (.pointer none)), g', blk1 bl (logO bf (lgn g) (wholeK R K) (wholeK R K)), pf', m] := ht2.perm (by classical exact List.perm_iff_count.2 fun x => by simp only [List.count_cons, List.count_nil, List.cons_append, List.nil_append]; ac_rfl)
    have ht4 := (ht3.drop.drop.drop).addEmp
    have hwR : (R.take (wholeK R K)).length = wholeK R K := by rw [List.length_take]; omega
    refine ⟨bs, ns', A', rfl, sleft_of (s := opened g P R K) (ps := emp) (g := g') (pf := pf') (bl := bl) (lv := lv) (sv := .pointer none) ?_ (by rw [hL]; exact hk5) (.inl ⟨rfl, rfl⟩) hf', hfi, hns, hgr, hsame⟩
    show Split m5 [blk1 bs (storeO bf g lv bl (.pointer none)), blk1 bl (logO bf (lgn g) (R.take (wholeK R K)).length (wholeK R K)), emp, g', pf', m]
    rw [hwR]
    exact ht4.perm (by classical exact List.perm_iff_count.2 fun x => by simp only [List.count_cons, List.count_nil]; ac_rfl)
theorem new_neg {m : Mem} {q : Int} (h : q < 0) : Ret Tryz.prog 5 [i64 q] m [.v (.pointer none), i64 1] := by
  refine en5 rfl (goY ?_)
  conv => whnf
  refine ⟨fun _ => ?_, fun h => absurd h (by first | exact (by simpa using h) | (rw [decide_eq_true (by omega)] at h; cases h))⟩
  conv => whnf
  exact ⟨rfl, rfl⟩
theorem fs_new {m : Mem} {bf bm : Nat} {q : Int} (h : Split m [blk1 bf (filesO q bm 0 0), blk1 bm (mapF [] 0)]) : FA m bf q 0 0 [] := ⟨bm, 0, [], ⟨h, by simp, by simp, by simp⟩, rfl⟩
theorem new_spec {m : Mem} {q : Int} (h : 0 ≤ q) : Spec Tryz.prog 5 [i64 q] m fun r m' => ∃ bf p, r = [ptrB bf, i64 0] ∧ Split m' [p, m] ∧ FA p bf q 0 0 [] := by
  refine en5 rfl (goY ?_)
  conv => whnf
  refine ⟨fun h' => absurd (of_decide_eq_true h') (by omega), fun _ => ?_⟩
  conv => whnf
  refine .mk _ (makeMap_spec (enc := Value.string)) ?_
  rintro _ m1 ⟨bm, hbm, rfl, rfl⟩
  conv => whnf
  intro bf hbf
  conv => whnf
  have hs := ((Split.one m).new hbm (mapF [] 0)).new hbf (filesO q bm 0 0)
  have hs := hs.perm (l' := [m, blk1 bf (filesO q bm 0 0), blk1 bm (mapF [] 0)]) (by exact (List.Perm.cons _ (List.Perm.swap _ _ _)).trans (List.Perm.swap _ _ _))
  exact ⟨bf, _, rfl, (Split.rest hs).1, fs_new (Split.rest hs).2⟩
structure Opr where
  kind : Int
  n : Int
  name : ByteArray
  nto : ByteArray
  ab : Option Addr
  cb : Nat
  b : List Nat
  al : Option Addr
  cl : Nat
  last : List Int
theorem dat_last {m : Mem} {cs : List Value} (h : Dat m (.slice (.int .i64)) cs) : ∃ v l, cs = [v] ∧ Ia m v l ∧ (∀ x ∈ l, -9223372036854775808 ≤ x ∧ x ≤ 9223372036854775807) ∧ l.length ≤ 9223372036854775807 := by
  obtain ⟨v, l, rfl, h1, h2, h3, h4⟩ := dat_sints h
  exact ⟨v, l, rfl, h1, fun x hx => wf_i64 (h3 x hx), h4⟩
def Opr.Small (o : Opr) : Prop := o.b.length ≤ 500 ∧ o.name.size ≤ 100 ∧ o.nto.size ≤ 100
theorem srtB_one (x : ByteArray) : srtB [x] = [x] := List.perm_singleton.1 (srtB_same [x])
theorem crash_lg (name : ByteArray) (pr : Bool) (l : List Nat) (sf : Nat) (last : List Int) : crashA (lgA name pr l sf) last = lgA name pr (l.take (sf + lastN ⟨name, l, sf⟩ (last.getD 0 0))) (sf + lastN ⟨name, l, sf⟩ (last.getD 0 0)) := by
  cases pr with
  | false => rfl
  | true =>
    simp only [lgA, if_true, crashA, List.map_cons, List.map_nil, srtB_one, List.length_cons, List.length_nil, crashTo, crash1]
    simp
def kA : ByteArray := ⟨#[97]⟩
def vA : List Int := [1, 0, 0, 0, 0, 0, 0, 0]
def eA : En := (5, 1, 1, 2)
def cA : Ct := (vA, [eA])
def cB : Ct := (vA, [])
theorem vA_ok : WV8 vA := ⟨rfl, fun x hx => by simp [vA] at hx; rcases hx with rfl | rfl <;> exact ⟨by decide, by decide⟩⟩
theorem liveA : liveC [eA] = [(1, 1)] := by
  simp [liveC, setF, sortD, enDot, eA, rightD, rightN, isN, compD]
theorem liveB : liveC [] = [] := by simp [liveC, setF, sortD, compD]
theorem rightA : rightC cA.1 cA.2 = true := by
  show rightC vA [eA] = true
  unfold rightC
  rw [liveA]
  decide
theorem rightB : rightC cB.1 cB.2 = true := by
  show rightC vA [] = true
  unfold rightC
  rw [liveB]
  decide
theorem keyA : keyOk (chs kA) = true := by decide
theorem goodA : GoodK (kA, cA) := ⟨keyA, vA_ok, rightA⟩
theorem goodB : GoodK (kA, cB) := ⟨keyA, vA_ok, rightB⟩
theorem sort_nil : sortE [] = [] := by simp [sortE]
theorem twoAB : twoF cA cB = (cB, 0) := by
  rw [twoF_ok rightA rightB (by decide) (by decide)]
  have h1 : joinL cA.1 cB.1 cA.2 cB.2 = [] := by decide
  have h2 : joinU cA.1 cB.1 = vA := by decide
  rw [h1, h2, sort_nil]; rfl
theorem twoBA : twoF cB cA = (cB, 0) := by
  rw [twoF_ok rightB rightA (by decide) (by decide)]
  have h1 : joinL cB.1 cA.1 cB.2 cA.2 = [] := by decide
  have h2 : joinU cB.1 cA.1 = vA := by decide
  rw [h1, h2, sort_nil]; rfl
theorem withA : withs [] [(kA, cA)] = [(kA, cA)] := by simp [withs, withK, insK]
theorem withAB : withs [] [(kA, cA), (kA, cB)] = [(kA, cB)] := by simp [withs, withK, insK]
theorem getA : getK [(kA, cA)] kA = cA := by decide
theorem getB : getK [(kA, cB)] kA = cB := by decide
def s0A : Sto := ⟨0, [], [], 0, 0⟩
theorem opened00 : opened 0 [] [] 0 = s0A := by
  have h : wholeK [] 0 = 0 := by have := wholeK_le [] 0; simpa using this
  unfold opened; rw [h]; rfl
def w1 : List Nat := toN (Fr.wr (kdB (kA, cA)))
def w2 : List Nat := toN (Fr.wr (kdB (kA, cB)))
theorem files2 : syncA [⟨lgn 0, w1, 0⟩] (lgn 0) = [⟨lgn 0, w1, w1.length⟩] := by simp [syncA]
theorem files3 : appA [⟨lgn 0, w1, w1.length⟩] (lgn 0) w2 = lgA (lgn 0) true (w1 ++ w2) w1.length := by simp [appA, lgA]
theorem files4 : crashA (lgA (lgn 0) true (w1 ++ w2) w1.length) [] = lgA (lgn 0) true w1 w1.length := by
  rw [crash_lg]
  have h : lastN ⟨lgn 0, w1 ++ w2, w1.length⟩ (([] : List Int).getD 0 0) = 0 := by
    unfold lastN
    simp
    omega
  rw [h]
  simp
theorem opened1A : opened 0 [] [(kA, cA)] (Fr.cat (recs [(kA, cA)])).length = ⟨0, [], [(kA, cA)], 1, 0⟩ := by
  have h : wholeK [(kA, cA)] (Fr.cat (recs [(kA, cA)])).length = 1 := by
    unfold wholeK
    rw [Fr.whole_all (Nat.le_refl _)]; rfl
  unfold opened; rw [h]; rfl
theorem ci1 : CI 0 (lgA (lgn 0) true w1 w1.length) 0 [] [(kA, cA)] (Fr.cat (recs [(kA, cA)])).length where
  gp := by simp
  gr := by simpa using goodA
  gb := by omega
  sn h := by omega
  s0 _ := rfl
  lg := .inr ⟨w1.length, by
    rw [lg_file, List.take_length]
    simp [w1, recs, Fr.cat], Nat.le_refl _⟩
  nl n h1 h2 := fileA_none.2 fun a ha => by
    simp only [lgA, if_true, List.mem_singleton] at ha
    rw [ha]
    exact fun e => by have := lgn_inj (by omega) h2 e; omega
  nn n h1 h2 := fileA_none.2 fun a ha => by
    simp only [lgA, if_true, List.mem_singleton] at ha
    rw [ha]
    exact lgn_ne_nm _ _
  qt h := by omega
theorem FI.ci {q : Int} {A : List Af} {s : Sto} (h : FI q A s) (h4 : s.st ≠ 4) : CI q A s.g s.P s.R (Fr.cat (recs s.R)).length where
  gp := h.gp
  gr := h.gr
  gb := by have := h.g; omega
  sn := h.sn
  s0 := h.s0
  lg := by
    rcases h.lg with ⟨h1, h2⟩ | ⟨sf, h1, _, _⟩
    · exact .inl ⟨h1, h2, by rw [h2]; rfl⟩
    · exact .inr ⟨sf, by rw [h1, List.take_length]; rfl, Nat.le_refl _⟩
  nl := h.nl
  nn n h1 h2 := by
    cases e : fileA A (Sn.nm n) with
    | none => rfl
    | some a => exact absurd (h.nn n h1 h2 (by rw [e]; rfl)).1 h4
  qt := h.qt
theorem opened_all (g : Nat) (P R : List Kd) : opened g P R (Fr.cat (recs R)).length = ⟨g, P, R, R.length, 0⟩ := by
  have h : wholeK R (Fr.cat (recs R)).length = R.length := by
    unfold wholeK
    rw [Fr.whole_all (Nat.le_refl _)]
    exact recs_len R
  unfold opened; rw [h, List.take_length]
theorem Smj {A : List Af} {nb ns : Nat} (h1 : ∀ a ∈ A, a.l.length ≤ 400000) (h2 : A.length ≤ 100) (h3 : nb ≤ 1000000000) (h4 : ns ≤ 100) : Sm 1000 A nb ns := ⟨fun a ha => by have := h1 a ha; omega, by omega, by omega, by omega, by omega⟩
theorem open18_nil {m : Mem} : Ret Tryz.prog 7 [.v (.pointer none)] m [.v (.pointer none), i64 6] := by
  refine en7 rfl (goY ?_)
  conv => whnf
  first | refine xretk (load_nil) ?_ | refine xret (load_nil) ?_
  conv => whnf
  refine ⟨fun _ => ?_, fun h => absurd h (by first | decide | simp)⟩
  conv => whnf
  exact ⟨rfl, rfl⟩
theorem Left.cut {m' m : Mem} {bs bf nb ns : Nat} {q : Int} {A : List Af} {s : Sto} (h : Left m' m bs bf q nb ns A s) : ∃ pf mq, Split m' [pf, mq] ∧ Sub m mq ∧ FA pf bf q nb ns A ∧ ∀ mm, Sub mq mm → ∃ bl lv sv, SR mm bs bf s bl lv sv := by
  obtain ⟨p, pf, h1, h2, h3⟩ := h.ex
  have h4 : Split m' ([p, m] ++ [pf]) := h1.perm (by classical exact List.perm_iff_count.2 fun x => by simp only [List.count_cons, List.count_nil, List.cons_append, List.nil_append]; ac_rfl)
  obtain ⟨h5, h6⟩ := Split.group _ h4
  exact ⟨pf, allM [p, m], h5.perm (List.Perm.swap _ _ _), h6.sub (by simp), h3, fun mm hm => h2.read ((h6.sub (by simp)).trans hm)⟩
theorem askF_ok {s : Sto} {k : ByteArray} {c : Ct} (h1 : keyOk (chs k) = true) (h2 : rightC c.1 c.2 = true) (h3 : s.st = 0) : askF s k c = 0 := by
  unfold askF; rw [if_neg (by rw [h1]; decide), if_neg (by rw [h2]; decide), if_neg (by omega)]
theorem putE_ok {A : List Af} {s : Sto} {x : Kd} (h1 : keyOk (chs x.1) = true) (h2 : rightC x.2.1 x.2.2 = true) (h3 : s.st = 0) : putE 0 A s x = 0 := by
  unfold putE; rw [if_neg (by simp [askF_ok h1 h2 h3]), if_neg (by unfold fullF; omega)]
theorem merge_yes {A : List Af} {s : Sto} {x : Kd} {was now : Ct} (h1 : keyOk (chs x.1) = true) (h2 : rightC x.2.1 x.2.2 = true) (h3 : s.st = 0) (hw : getK s.L x.1 = was) (hC : twoF was x.2 = (now, 0)) (hne : was ≠ now) (hr : rightC now.1 now.2 = true) : mergeB 0 A s x = true ∧ mergeE 0 A s x = 0 ∧ (mergeC s x).1 = now := by
  have e : mergeC s x = (now, 0) := by unfold mergeC; rw [hw, hC]
  have hp : putE 0 A s (x.1, now) = 0 := putE_ok h1 hr h3
  refine ⟨?_, ?_, by rw [e]⟩
  · unfold mergeB; rw [e, hw, askF_ok h1 h2 h3]; simp [hne, hp]
  · unfold mergeE; rw [e, hw, if_neg (by simp [askF_ok h1 h2 h3]), if_neg (by simp), if_neg hne]; exact hp
theorem merge_no {A : List Af} {s : Sto} {x : Kd} {was : Ct} (h1 : keyOk (chs x.1) = true) (h2 : rightC x.2.1 x.2.2 = true) (h3 : s.st = 0) (hw : getK s.L x.1 = was) (hC : twoF was x.2 = (was, 0)) : mergeB 0 A s x = false ∧ mergeE 0 A s x = 0 := by
  have e : mergeC s x = (was, 0) := by unfold mergeC; rw [hw, hC]
  refine ⟨?_, ?_⟩
  · unfold mergeB; rw [e, hw]; simp
  · unfold mergeE; rw [e, hw, if_neg (by simp [askF_ok h1 h2 h3]), if_neg (by simp), if_pos rfl]
def sgA (i : Nat) : Sto := if i < 4 then ⟨0, [], [(kA, cA)], 1, i + 1⟩ else ⟨1, [(kA, cA)], [], 0, 0⟩
theorem sgA_L (i : Nat) : (sgA i).L = [(kA, cA)] := by
  unfold sgA
  split
  · exact withA
  · exact withA
theorem sgA_g (i : Nat) : (sgA i).g ≤ 1 := by
  unfold sgA
  split <;> simp
theorem sgA_step {A : List Af} {i : Nat} (hi : i < 4) : stepS 0 A (sgA i) = sgA (i + 1) := by
  have e : sgA i = ⟨0, [], [(kA, cA)], 1, i + 1⟩ := by unfold sgA; rw [if_pos hi]
  rw [e]
  unfold stepS
  simp only
  rw [if_neg (by omega)]
  by_cases h0 : i = 0
  · subst h0
    rw [if_pos rfl, if_pos (fits0 _ _)]; rfl
  rw [if_neg (by omega)]
  by_cases h1 : i = 1
  · subst h1; rfl
  rw [if_neg (by omega)]
  by_cases h2 : i = 2
  · subst h2; rfl
  rw [if_neg (by omega)]
  have h3 : i = 3 := by omega
  subst h3
  show Sto.next ⟨0, [], [(kA, cA)], 1, 4⟩ = ⟨1, [(kA, cA)], [], 0, 0⟩
  unfold Sto.next
  have : Sto.L ⟨0, [], [(kA, cA)], 1, 4⟩ = [(kA, cA)] := withA
  rw [this]
set_option maxHeartbeats 8000000 in
theorem alive18_spec {m : Mem} (hg : Glob m) : Spec Tryz.prog 6 [] m fun r m' => r = [boolV true] ∧ Sub m m' := by
  have hlw1 : w1.length ≤ 7000 := by
    have h1 := goodA.len
    have h2 := wr_len (l := kdB (kA, cA)) (by omega)
    rw [w1, toN_len]; omega
  have hlw2 : w2.length ≤ 7000 := by
    have h1 := goodB.len
    have h2 := wr_len (l := kdB (kA, cB)) (by omega)
    rw [w2, toN_len]; omega
  refine en6 rfl (goY ?_)
  conv => whnf
  refine xcall (new_spec (q := 0) (by omega)) ?_
  rintro _ m1 ⟨bf, pf, rfl, hs, hf⟩
  conv => whnf
  refine ⟨fun h => absurd h (by first | decide | simp), fun _ => ?_⟩
  conv => whnf
  refine ⟨fun h => absurd h (by first | decide | simp), fun _ => ?_⟩
  conv => whnf
  refine xcall (sopen_spec hg hs hf (Smj (by simp) (by simp) (by omega) (by omega)) (fun a ha => by simp at ha) (CI.nil 0) (by omega) (by omega) (by omega) (by simp)) ?_
  rintro _ m2 ⟨bs, ns1, A1, rfl, hL1, hfi1, hns1, hgr1, hsame1⟩
  conv => whnf
  obtain rfl := hsame1 rfl
  rw [opened00] at hL1 hfi1
  obtain ⟨p1, pf1, ht1, hp1, hf1⟩ := hL1.ex
  refine .mk _ (buildN1 (e := eA)) ?_
  rintro _ _ ⟨b5, hb5, rfl, rfl⟩
  conv => whnf
  have ht2 : Split _ ([blk1 b5 (.cells (encE eA).toArray 57), m] ++ [p1, pf1]) := (ht1.new hb5 (.cells (encE eA).toArray 57)).perm (by classical exact List.perm_iff_count.2 fun x => by simp only [List.count_cons, List.count_nil, List.cons_append, List.nil_append]; ac_rfl)
  obtain ⟨ht3, ht4⟩ := Split.group _ ht2
  have ht5 := ht3.perm (List.perm_append_comm (l₁ := [_]) (l₂ := [p1, pf1]))
  have hmq : Sub m (allM [blk1 b5 (.cells (encE eA).toArray 57), m]) := ht4.sub (by simp)
  have hna : Na (allM [blk1 b5 (.cells (encE eA).toArray 57), m]) (.slice (some ⟨b5, 0, none⟩) [eA].length 1) [eA] := (No.blk1 (e := eA) (ht4.get (a := blk1 b5 (.cells (encE eA).toArray 57)) (by simp) (blk1_same ..))).ea
  generalize allM [blk1 b5 (.cells (encE eA).toArray 57), m] = mq at ht5 hmq hna
  clear ht4 ht3 ht2
  have hgq := hg.sub hmq
  refine xcall (sput_spec (k := kA) (u := vA) (E := [eA]) hgq ht5 hp1 hf1 (Smj (by simp) (by simp) (by omega) (by omega)) hna goodA.arg (by decide) (by omega) (by simp [s0A]) (by decide)) ?_
  rintro _ m3 hres
  conv => whnf
  rcases hres with ⟨e1, _, _⟩ | ⟨_, rfl, hL2⟩
  · exact absurd (putE_ok keyA rightA rfl) e1
  have hwr1 : (Fr.wr (kdB (kA, cA))).length ≤ 7000 := by rw [w1, toN_len] at hlw1; exact hlw1
  have hwr2 : (Fr.wr (kdB (kA, cB))).length ≤ 7000 := by rw [w2, toN_len] at hlw2; exact hlw2
  have hL2 : Left m3 mq bs bf 0 (0 + (Fr.wr (kdB (kA, cA))).length) ns1 [⟨lgn 0, w1, 0⟩] ⟨0, [], [(kA, cA)], 0, 0⟩ := hL2
  obtain ⟨p2, pf2, ht6, hp2, hf2⟩ := hL2.ex
  conv => whnf
  refine xcall (ssync_spec ht6 hp2 hf2 (Smj (by simp; omega) (by simp) (by omega) (by omega))) ?_
  rintro _ m4 ⟨rfl, ns2, hns2, hL3⟩
  conv => whnf
  have hL3 : Left m4 mq bs bf 0 (0 + (Fr.wr (kdB (kA, cA))).length) ns2 (syncA [⟨lgn 0, w1, 0⟩] (lgn 0)) ⟨0, [], [(kA, cA)], 1, 0⟩ := hL3
  rw [files2] at hL3
  obtain ⟨p3, pf3, ht7, hp3, hf3⟩ := hL3.ex
  obtain ⟨my1, my2, my3⟩ := merge_yes (A := [⟨lgn 0, w1, w1.length⟩]) (s := ⟨0, [], [(kA, cA)], 1, 0⟩) (x := (kA, cB)) keyA rightB rfl (was := cA) (by show getK (withs [] [(kA, cA)]) kA = cA; rw [withA]; exact getA) twoAB (by decide) rightB
  conv => whnf
  refine xcall (smerge_spec (k := kA) (u := vA) (E := []) hgq ht7 hp3 hf3 (Smj (by simp; omega) (by simp) (by omega) (by omega)) (Na.nil _) goodB.arg (by decide) (by omega) (by simp) (by show (withs [] [(kA, cA)]).length ≤ _; rw [withA]; simp) (fun x hx => by have hx : x ∈ withs [] [(kA, cA)] := hx; rw [withA] at hx; rw [List.mem_singleton.1 hx]; exact goodA.arg)) ?_
  rintro _ m5 ⟨rfl, hL4⟩
  conv => whnf
  have my1 : mergeB 0 [⟨lgn 0, w1, w1.length⟩] ⟨0, [], [(kA, cA)], 1, 0⟩ (kA, (vA, [])) = true := my1
  have my2 : mergeE 0 [⟨lgn 0, w1, w1.length⟩] ⟨0, [], [(kA, cA)], 1, 0⟩ (kA, (vA, [])) = 0 := my2
  have my3 : (mergeC ⟨0, [], [(kA, cA)], 1, 0⟩ (kA, (vA, []))).1 = cB := my3
  rw [if_pos my1, my3] at hL4
  rw [my1, my2]
  have hL4 : Left m5 mq bs bf 0 (0 + (Fr.wr (kdB (kA, cA))).length + (Fr.wr (kdB (kA, cB))).length) ns2 (appA [⟨lgn 0, w1, w1.length⟩] (lgn 0) w2) ⟨0, [], [(kA, cA), (kA, cB)], 1, 0⟩ := hL4
  rw [files3] at hL4
  obtain ⟨p4, pf4, ht8, hp4, hf4⟩ := hL4.ex
  have hlg3 : ∀ a ∈ lgA (lgn 0) true (w1 ++ w2) w1.length, a.l.length ≤ 400000 := fun a ha => by simp only [lgA, if_true, List.mem_singleton] at ha; rw [ha]; simp; omega
  obtain ⟨mn1, mn2⟩ := merge_no (A := lgA (lgn 0) true (w1 ++ w2) w1.length) (s := ⟨0, [], [(kA, cA), (kA, cB)], 1, 0⟩) (x := (kA, cA)) keyA rightA rfl (was := cB) (by show getK (withs [] [(kA, cA), (kA, cB)]) kA = cB; rw [withAB]; exact getB) twoBA
  conv => whnf
  refine xcall (smerge_spec (k := kA) (u := vA) (E := [eA]) hgq ht8 hp4 hf4 (Smj hlg3 (by simp [lgA]) (by omega) (by omega)) hna goodA.arg (by decide) (by omega) (by simp) (by show (withs [] [(kA, cA), (kA, cB)]).length ≤ _; rw [withAB]; simp) (fun x hx => by have hx : x ∈ withs [] [(kA, cA), (kA, cB)] := hx; rw [withAB] at hx; rw [List.mem_singleton.1 hx]; exact goodB.arg)) ?_
  rintro _ m6 ⟨rfl, hL5⟩
  conv => whnf
  have mn1 : mergeB 0 (lgA (lgn 0) true (w1 ++ w2) w1.length) ⟨0, [], [(kA, cA), (kA, cB)], 1, 0⟩ (kA, (vA, [eA])) = false := mn1
  have mn2 : mergeE 0 (lgA (lgn 0) true (w1 ++ w2) w1.length) ⟨0, [], [(kA, cA), (kA, cB)], 1, 0⟩ (kA, (vA, [eA])) = 0 := mn2
  rw [if_neg (by rw [mn1]; decide)] at hL5
  rw [mn1, mn2]
  obtain ⟨p5, pf5, ht9, _, hf5⟩ := hL5.ex
  conv => whnf
  refine xcall (crash_A (last := []) hf5 ht9.drop (Smj hlg3 (by simp [lgA]) (by omega) (by omega)) (Io.nil _).il.ia (by simp) (by simp)) ?_
  rintro _ m7 ⟨pf6, rfl, ht10, hf6⟩
  conv => whnf
  rw [files4] at hf6
  have hlg4 : ∀ a ∈ lgA (lgn 0) true w1 w1.length, a.l.length ≤ 100000 := fun a ha => by simp only [lgA, if_true, List.mem_singleton] at ha; rw [ha]; show w1.length ≤ _; omega
  have hnm4 : NmS (lgA (lgn 0) true w1 w1.length) := fun a ha => by simp only [lgA, if_true, List.mem_singleton] at ha; rw [ha, lgn_size]; omega
  have hcl1 : (Fr.cat (recs [(kA, cA)])).length ≤ 7000 := by
    have : (Fr.cat (recs [(kA, cA)])) = Fr.wr (kdB (kA, cA)) := by simp [recs, Fr.cat]
    rw [this]; exact hwr1
  refine xcall (sopen_spec hgq ht10 hf6 (Smj (fun a ha => by have := hlg4 a ha; omega) (by simp [lgA]) (by omega) (by omega)) hnm4 ci1 (by omega) (by omega) (by omega) (by simp)) ?_
  rintro _ m8 ⟨bt, ns3, A6, rfl, hL6, hfi6, hns3, hgr6, _⟩
  conv => whnf
  rw [opened1A] at hL6 hfi6
  have hA6 : ∀ a ∈ A6, a.l.length ≤ 100000 := hgr6.l _ (by omega) hlg4
  have hA6n : A6.length ≤ 2 := hgr6.n
  have hA6m : NmS A6 := hgr6.nm hnm4
  have hs4 : Sto.L ⟨0, [], [(kA, cA)], 1, 0⟩ = [(kA, cA)] := withA
  obtain ⟨p7, pf7, ht11, hp7, hf7⟩ := hL6.ex
  obtain ⟨bl7, lv7, sv7, hsr7⟩ := hp7.read (ht11.sub (by simp))
  have hgk : getK (Sto.L ⟨0, [], [(kA, cA)], 1, 0⟩) kA = cA := by rw [hs4]; exact getA
  have hfk : (findK (Sto.L ⟨0, [], [(kA, cA)], 1, 0⟩) kA).isSome = true := by rw [hs4]; decide
  conv => whnf
  refine xcall (sget_spec hsr7 (k := kA) (by rw [hs4]; simp) (by rw [hgk]; decide)) ?_
  rintro _ m9 ⟨ga, gc, gp, rfl, ht12, hgo⟩
  conv => whnf
  rw [hgk] at hgo ⊢
  rw [hfk]
  have ht12 : Split m9 [gp, p7, pf7, mq] := Split.weld (a := [gp]) ht12 ht11
  have ht13 : Split m9 ([gp, mq] ++ [p7, pf7]) := ht12.perm (by classical exact List.perm_iff_count.2 fun x => by simp only [List.count_cons, List.count_nil, List.cons_append, List.nil_append]; ac_rfl)
  obtain ⟨ht14, ht15⟩ := Split.group _ ht13
  have ht16 := ht14.perm (List.perm_append_comm (l₁ := [_]) (l₂ := [p7, pf7]))
  have hgo2 : Na (allM [gp, mq]) (.slice ga cA.2.length gc) cA.2 := hgo.ea.sub (ht15.sub (by simp))
  have hna2 := hna.sub (ht15.sub (a := mq) (by simp))
  have hmq2 : Sub m (allM [gp, mq]) := hmq.trans (ht15.sub (by simp))
  generalize allM [gp, mq] = mr at ht16 hgo2 hna2 hmq2
  clear ht15 ht14 ht13 ht12
  have hgr := hg.sub hmq2
  conv => whnf
  refine xcall (sbegin_spec hgr ht16 hp7 hf7 (Smj (fun a ha => by have := hA6 a ha; omega) (by omega) (by omega) (by omega)) hA6m hfi6 (by rw [hs4]; simp)) ?_
  rintro _ m10 ⟨rfl, hL7⟩
  conv => whnf
  have hbe : beginE ⟨0, [], [(kA, cA)], 1, 0⟩ = 0 := by simp [beginE]
  rw [if_pos hbe] at hL7
  rw [hbe]
  have hL7 : Left m10 mr bt bf 0 (0 + (Fr.wr (kdB (kA, cA))).length + (Fr.wr (kdB (kA, cB))).length) ns3 A6 (sgA 0) := hL7
  have hfi7 : FI 0 A6 (sgA 0) := hfi6.begin rfl rfl
  have hcat : ∀ i, (catK (sgA i).L).length ≤ 7000 := fun i => by rw [sgA_L, catK_one]; exact hlw1
  conv => whnf
  refine .mk (ι := Nat) (fun i => 4 - i) (fun i m' => i ≤ 4 ∧ ∃ nb ns A, Left m' mr bt bf 0 nb ns A (sgA i) ∧ FI 0 A (sgA i) ∧ (∀ a ∈ A, a.l.length ≤ 100000) ∧ A.length ≤ 2 + i ∧ NmS A ∧ nb ≤ 100000 + 10000 * i ∧ ns ≤ 10 + i) (fun i => [(1, .c (ptrB bf)), (4, .c (i64 0)), (5, .p 0 0), (6, .c (i64 1)), (7, .c (i64 0)), (8, .c (boolV true)), (9, .c (i64 0)), (10, .c (boolV false)), (11, .c (i64 0)), (12, .c (ptrB bt)), (13, .c (i64 0)), (14, .p 1 0), (15, .c (boolV true)), (16, .c (i64 0)), (17, .c (i64 i))]) (fun _ => [(40, [.ints .u64 8 vA, .one (.slice (some ⟨b5, 0, none⟩) 1 1)]), (40, [.ints .u64 8 vA, .one (.slice ga 1 gc)])]) 0 ⟨by omega, _, _, A6, hL7, hfi7, hA6, by omega, hA6m, by omega, by omega⟩ ?_ ?_
  · conv => whnf
    repeat (refine And.intro (by first | with_reducible rfl | exact congrArg (Value.int _) (wi (by omega) (by omega)) | exact wi (by omega) (by omega) | rfl) ?_; conv => whnf)
    first | exact trivial | exact fun _ _ h => h
  rintro i m11 ⟨hi, nb, ns, A, hL8, hfi8, hA8, hA8n, hA8m, hnb8, hns8⟩
  obtain ⟨p8, pf8, ht17, hp8, hf8⟩ := hL8.ex
  conv => whnf
  refine ⟨fun h => ?_, fun h => ?_⟩
  · have h' := of_decide_eq_true h
    have hlt : i < 4 := by omega
    clear h
    conv => whnf
    refine xcall (sstep_spec hgr ht17 hp8 hf8 (Smj (fun a ha => by have := hA8 a ha; omega) (by omega) (by omega) (by omega)) hA8m hfi8 (by omega) (by have := hcat i; omega) (by have := sgA_g i; omega)) ?_
    rintro _ m12 ⟨rfl, nb', ns', A', hL9, hfi9, hnb9, hns9, hgr9⟩
    conv => whnf
    rw [sgA_step hlt] at hL9 hfi9
    have hci := hcat i
    refine ⟨i + 1, ⟨by omega, nb', ns', A', hL9, hfi9, hgr9.l _ (by omega) hA8, by have := hgr9.n; omega, hgr9.nm hA8m, by omega, by omega⟩, by omega, ?_⟩
    conv => whnf
    repeat (refine And.intro (by first | with_reducible rfl | (first | exact congrArg (Value.int _) (iadd (by omega))) | exact congrArg (Value.int _) (wi (by omega) (by omega)) | exact wi (by omega) (by omega) | rfl) ?_; conv => whnf)
    first | exact trivial | exact fun _ _ h => h
  · have h' := of_decide_eq_false h
    obtain rfl : i = 4 := by omega
    clear h h'
    obtain ⟨pf9, mq9, ht18, hmr9, hf9, hrd9⟩ := hL8.cut
    have hK0 : (Fr.cat (recs (sgA 4).R)).length = 0 := rfl
    conv => whnf
    refine xcall (sopen_spec (hgr.sub hmr9) ht18 hf9 (Smj (fun a ha => by have := hA8 a ha; omega) (by omega) (by omega) (by omega)) hA8m (hfi8.ci (by decide)) (by decide) (by omega) (by omega) (by decide)) ?_
    rintro _ m13 ⟨bu, ns9, A9, rfl, hL9, hfi9, _, _, _⟩
    conv => whnf
    rw [opened_all] at hL9
    have hL9 : Left m13 mq9 bu bf 0 nb ns9 A9 ⟨1, [(kA, cA)], [], 0, 0⟩ := hL9
    obtain ⟨p9, pf9', ht19, hp9, _⟩ := hL9.ex
    have hm13 : Sub mq9 m13 := ht19.sub (by simp)
    obtain ⟨blt, lvt, svt, hsrt⟩ := hrd9 m13 hm13
    obtain ⟨blu, lvu, svu, hsru⟩ := hp9.read (ht19.sub (a := p9) (by simp))
    have hsu : Sto.L ⟨1, [(kA, cA)], [], 0, 0⟩ = [(kA, cA)] := withA
    have hn1 : Na m13 (.slice (some ⟨b5, 0, none⟩) [eA].length 1) [eA] := (hna2.sub hmr9).sub hm13
    have hn2 : Na m13 (.slice ga [eA].length gc) [eA] := (hgo2.sub hmr9).sub hm13
    first | refine xretk (open18_nil) ?_ | refine xret (open18_nil) ?_
    conv => whnf
    refine ⟨fun _ => ?_, fun h => absurd h (by first | decide | simp)⟩
    conv => whnf
    refine ⟨fun _ => ?_, fun h => absurd h (by first | decide | simp)⟩
    conv => whnf
    refine ⟨fun _ => ?_, fun h => absurd h (by first | decide | simp)⟩
    conv => whnf
    refine ⟨fun _ => ?_, fun h => absurd h (by first | decide | simp)⟩
    conv => whnf
    refine ⟨fun _ => ?_, fun h => absurd h (by first | decide | simp)⟩
    conv => whnf
    refine ⟨fun _ => ?_, fun h => absurd h (by first | decide | simp)⟩
    conv => whnf
    refine ⟨fun _ => ?_, fun h => absurd h (by first | decide | simp)⟩
    conv => whnf
    refine ⟨fun _ => ?_, fun h => absurd h (by first | decide | simp)⟩
    conv => whnf
    refine ⟨fun _ => ?_, fun h => absurd h (by first | decide | simp)⟩
    conv => whnf
    first | refine xretk (sameC_spec (u := vA) (w := vA) hn1 hn2 (by decide)) ?_ | refine xret (sameC_spec (u := vA) (w := vA) hn1 hn2 (by decide)) ?_
    conv => whnf
    refine ⟨fun _ => ?_, fun h => absurd h (by first | decide | simp)⟩
    conv => whnf
    refine ⟨fun _ => ?_, fun h => absurd h (by first | decide | simp)⟩
    conv => whnf
    first | refine xretk (sage_spec hsrt) ?_ | refine xret (sage_spec hsrt) ?_
    conv => whnf
    refine ⟨fun _ => ?_, fun h => absurd h (by first | decide | simp)⟩
    conv => whnf
    first | refine xretk (sall_spec hsrt) ?_ | refine xret (sall_spec hsrt) ?_
    conv => whnf
    refine ⟨fun _ => ?_, fun h => absurd h (by first | decide | simp)⟩
    conv => whnf
    refine ⟨fun _ => ?_, fun h => absurd h (by first | decide | simp)⟩
    conv => whnf
    first | refine xretk (sage_spec hsru) ?_ | refine xret (sage_spec hsru) ?_
    conv => whnf
    refine ⟨fun _ => ?_, fun h => absurd h (by first | decide | simp)⟩
    conv => whnf
    refine xcall (slist_spec hsru (by rw [hsu]; decide) (fun x hx => by rw [hsu] at hx; rw [List.mem_singleton.1 hx]; decide)) ?_
    rintro _ m14 ⟨vl, rfl, hkv, hsub⟩
    conv => whnf
    obtain ⟨al, cl, rfl⟩ := hkv.shape
    rw [hsu]
    obtain ⟨blt, lvt, svt, hsrt⟩ := hrd9 m14 (hm13.trans hsub)
    conv => whnf
    refine ⟨fun _ => ?_, fun h => absurd h (by first | decide | simp)⟩
    conv => whnf
    refine ⟨fun _ => ?_, fun h => absurd h (by first | decide | simp)⟩
    conv => whnf
    first | refine xretk (ssure_spec hsrt) ?_ | refine xret (ssure_spec hsrt) ?_
    conv => whnf
    exact ⟨rfl, ((hmq2.trans hmr9).trans hm13).trans hsub⟩
structure Sz (j : Nat) (A : List Af) (nb ns : Nat) : Prop where
  l : ∀ a ∈ A, a.l.length ≤ 7000 * j
  n : A.length ≤ j + 1
  nm : NmS A
  nb : nb ≤ 500000 * j
  ns : ns ≤ j
theorem Sz.sm {j : Nat} {A : List Af} {nb ns : Nat} (h : Sz j A nb ns) (hj : j ≤ 60) : Sm 1000 A nb ns := ⟨fun a ha => by have := h.l a ha; omega, by have := h.n; omega, by have := h.nb; omega, by have := h.ns; omega, by omega⟩
theorem Sz.next {j : Nat} {A : List Af} {nb ns : Nat} (h : Sz j A nb ns) : Sz (j + 1) A nb ns := ⟨fun a ha => by have := h.l a ha; omega, by have := h.n; omega, h.nm, by have := h.nb; omega, by have := h.ns; omega⟩
theorem nms_app {A : List Af} {n : ByteArray} {l : List Nat} (hn : n.size ≤ 1000000) : NmS A → NmS (appA A n l) := by
  induction A with
  | nil => intro _ a ha; simp only [appA, List.mem_singleton] at ha; rw [ha]; exact hn
  | cons x A ih =>
    intro h
    simp only [appA]
    split
    · intro a ha
      rcases List.mem_cons.1 ha with rfl | ha
      · exact h x (by simp)
      · exact h a (by simp [ha])
    · intro a ha
      rcases List.mem_cons.1 ha with rfl | ha
      · exact h _ (by simp)
      · exact ih (fun b hb => h b (by simp [hb])) a ha
theorem Sz.app {j : Nat} {A : List Af} {nb ns : Nat} {g : Nat} {x : Kd} (h : Sz j A nb ns) (hx : GoodK x) : Sz (j + 1) (appA A (lgn g) (toN (Fr.wr (kdB x)))) (nb + (Fr.wr (kdB x)).length) ns := by
  have h1 := hx.len
  have h2 := wr_len (l := kdB x) (by omega)
  obtain ⟨t1, t2, t3⟩ := app_tot (lgn g) (toN (Fr.wr (kdB x))) A
  have h3 := h.n
  have h4 := h.nb
  have h5 := h.ns
  refine ⟨fun a ha => ?_, by omega, nms_app (by rw [lgn_size]; omega) h.nm, by omega, by omega⟩
  have := t3 (7000 * j) h.l a ha
  rw [toN_len] at this
  omega
theorem Sz.gr {j b : Nat} {A A' : List Af} {nb ns nb' ns' : Nat} (h : Sz j A nb ns) (hg : Gr A A' b) (hb : b ≤ 7000 * j) (h1 : nb' ≤ nb + 7000 * j) (h2 : ns' ≤ ns + 1) (hj : j ≤ 60) : Sz (j + 1) A' nb' ns' := by
  have h3 := h.n
  have h4 := h.nb
  have h5 := h.ns
  have h6 := hg.n
  exact ⟨fun a ha => by have := hg.l (7000 * j) hb h.l a ha; omega, by omega, hg.nm h.nm, by omega, by omega⟩
structure Play (mm m : Mem) (bs bf : Nat) (q : Int) (j : Nat) (s : Sto) : Prop where
  ex : ∃ nb ns A, Left mm m bs bf q nb ns A s ∧ FI q A s ∧ Sz j A nb ns
  pr : s.P.length + s.R.length ≤ j
  g : s.g ≤ j
inductive Done (s : Sto) : Bool → Sto → Prop
  | put (x : Kd) : Done s true (s.put x)
  | same : Done s false s
  | sync : Done s false s.synced
  | at (st : Nat) (h : 0 < st) (hs : s.sure = s.R.length) : Done s false (s.at st)
  | next (h : s.st = 4) : Done s false s.next
theorem Play.L_len {mm m : Mem} {bs bf j : Nat} {q : Int} {s : Sto} (h : Play mm m bs bf q j s) : s.L.length ≤ j := Nat.le_trans (sL_len s) h.pr
abbrev op18 (k : Int) (key : ByteArray) (u : List Int) (a : Option Addr) (n c : Nat) (lv : Value) : CV := .a [.one (.int .i64 k), .one (.string key), .ints .u64 8 u, .one (.slice a n c), .one lv]
theorem great6_spec {m : Mem} {u : List Int} {a : Option Addr} {n c : Nat} : Ret Tryz.prog 30 [cartV u a n c] m [boolV (decide (60 < n))] := by
  refine en30 rfl (goY ?_)
  conv => whnf
  refine ⟨?_, rfl⟩
  have : decide (60 < (n : Int)) = decide (60 < n) := decide_eq_decide.2 (by omega)
  rw [this]
theorem great18_spec {m : Mem} {k : Int} {key : ByteArray} {u : List Int} {a : Option Addr} {n c : Nat} {lv : Value} : Ret Tryz.prog 9 [op18 k key u a n c lv] m [boolV (decide (60 < n) || decide (100 < key.size))] := by
  refine en9 rfl (goY ?_)
  conv => whnf
  first | refine xretk (great6_spec) ?_ | refine xret (great6_spec) ?_
  conv => whnf
  refine ⟨fun h => ?_, fun h => ?_⟩
  · conv => whnf
    exact ⟨by rw [h]; rfl, rfl⟩
  · conv => whnf
    refine ⟨?_, rfl⟩
    have : decide (100 < (key.size : Int)) = decide (100 < key.size) := decide_eq_decide.2 (by omega)
    rw [this, h]; rfl
theorem stepS_is (q : Int) (A : List Af) (s : Sto) : stepS q A s = s ∨ (∃ st, 0 < st ∧ 0 < s.st ∧ stepS q A s = s.at st) ∨ (4 ≤ s.st ∧ stepS q A s = s.next) := by
  unfold stepS
  by_cases h0 : s.st = 0
  · rw [if_pos h0]; exact .inl rfl
  rw [if_neg h0]
  refine .inr ?_
  by_cases h1 : s.st = 1
  · rw [if_pos h1]
    by_cases hf : fitsA q A (catK s.L)
    · rw [if_pos hf]; exact .inl ⟨2, by omega, by omega, rfl⟩
    · rw [if_neg hf]; exact .inl ⟨1, by omega, by omega, rfl⟩
  rw [if_neg h1]
  by_cases h2 : s.st = 2
  · rw [if_pos h2]; exact .inl ⟨3, by omega, by omega, rfl⟩
  rw [if_neg h2]
  by_cases h3 : s.st = 3
  · rw [if_pos h3]; exact .inl ⟨4, by omega, by omega, rfl⟩
  rw [if_neg h3]
  exact .inr ⟨by omega, rfl⟩
set_option maxHeartbeats 8000000 in
theorem splay_spec {mm m : Mem} {bs bf j : Nat} {q : Int} {s : Sto} {k : Int} {key : ByteArray} {u : List Int} {a : Option Addr} {c : Nat} {E : List En} {lv : Value} (hg : Glob m) (h : Play mm m bs bf q j s) (hj : j ≤ 50) (hv : Na m (.slice a E.length c) E) (hx : ArgK (key, (u, E))) (hks : key.size ≤ 1000000) (hq : 0 ≤ q ∧ q ≤ 9223372036854775807) (hlv : lv.oneCell' = true) :
    Spec Tryz.prog 10 [ptrB bs, op18 k key u a E.length c lv] mm fun r m' => ∃ b s', r = [boolV b] ∧ Play m' m bs bf q (j + 1) s' ∧ Done s b s' ∧ (k ≤ 1 → b = false → s' = s) := by
  have hLl := h.L_len
  have hpr := h.pr
  have hgj := h.g
  obtain ⟨nb, ns, A, hL, hfi, hsz⟩ := h.ex
  obtain ⟨p, pf, hs, hp, hf⟩ := hL.ex
  have hsm := hsz.sm (by omega)
  have hmS : Strong m := hg.strong
  have hgl := hfi.gl
  have stay : ∀ m', Left m' m bs bf q nb ns A s → Play m' m bs bf q (j + 1) s := fun m' h => ⟨⟨nb, ns, A, h, hfi, hsz.next⟩, by omega, by omega⟩
  have hcat : (catK s.L).length ≤ 7000 * j := by
    have := catK_small hgl
    have : 6613 * s.L.length ≤ 6613 * j := Nat.mul_le_mul_left _ hLl
    omega
  have hput : ∀ x, GoodK x → s.st = 0 → ¬ fullF q A x → ∀ m', Left m' m bs bf q (nb + (Fr.wr (kdB x)).length) ns (appA A (lgn s.g) (toN (Fr.wr (kdB x)))) (s.put x) → Play m' m bs bf q (j + 1) (s.put x) := fun x hx h0 hfl m' hl => ⟨⟨_, _, _, hl, hfi.put h0 hx hfl, hsz.app hx⟩, by simp only [Sto.put, List.length_append, List.length_singleton]; omega, by simp only [Sto.put]; omega⟩
  have putE0 : ∀ x, WV8 x.2.1 → putE q A s x = 0 → GoodK x ∧ s.st = 0 ∧ ¬ fullF q A x := fun x hu h => by
    unfold putE at h
    split at h
    · rename_i h1; exact absurd h h1
    · rename_i h1
      split at h
      · cases h
      · rename_i h2
        obtain ⟨k1, k2, k3⟩ := askF_zero (s := s) (k := x.1) (c := x.2) (by simpa using h1)
        exact ⟨⟨k1, hu, k2⟩, k3, h2⟩
  refine en10 rfl (goY ?_)
  conv => whnf
  refine ⟨fun h0 => ?_, fun h0 => ?_⟩
  · conv => whnf
    refine xcall (sput_spec (k := key) (u := u) hg hs hp hf hsm hv hx hks hq (by omega) (by omega)) ?_
    rintro _ m1 hres
    conv => whnf
    rcases hres with ⟨e1, rfl, hl⟩ | ⟨e1, rfl, hl⟩
    · conv => whnf
      refine ⟨false, s, ?_, stay _ hl, .same, fun _ _ => rfl⟩
      rw [beqG, decide_eq_false e1]
    · obtain ⟨g1, g2, g3⟩ := putE0 (key, (u, E)) hx.u e1
      conv => whnf
      exact ⟨true, _, rfl, hput _ g1 g2 g3 _ hl, .put _, fun _ h => by cases h⟩
  conv => whnf
  refine ⟨fun h1 => ?_, fun h1 => ?_⟩
  · conv => whnf
    refine xcall (smerge_spec (k := key) (u := u) hg hs hp hf hsm hv hx hks hq (by omega) (by omega) (fun x hx => (hgl x hx).arg)) ?_
    rintro _ m1 ⟨rfl, hres⟩
    conv => whnf
    by_cases hb : mergeB q A s (key, (u, E)) = true
    · rw [if_pos hb] at hres
      rw [hb]
      have hb' := hb
      simp only [mergeB, Bool.and_eq_true, decide_eq_true_eq] at hb'
      have harg := twoF_arg (getK_arg (fun x hx => (hgl x hx).arg) key) hx hb'.1.1.2
      obtain ⟨g1, g2, g3⟩ := putE0 (key, (mergeC s (key, (u, E))).1) harg.u hb'.2
      conv => whnf
      exact ⟨true, _, rfl, hput _ g1 g2 g3 _ hres, .put _, fun _ h => by cases h⟩
    · rw [if_neg hb] at hres
      have hb : mergeB q A s (key, (u, E)) = false := by simpa using hb
      rw [hb]
      conv => whnf
      exact ⟨false, s, rfl, stay _ hres, .same, fun _ _ => rfl⟩
  conv => whnf
  refine ⟨fun h2 => ?_, fun h2 => ?_⟩
  · have hk2 : k = 2 := by simpa using h2
    conv => whnf
    refine xcall (ssync_spec hs hp hf hsm) ?_
    rintro _ m1 ⟨rfl, ns', hns, hl⟩
    conv => whnf
    refine ⟨false, s.synced, rfl, ⟨⟨nb, ns', _, hl, hfi.sync, hsz.gr (b := 0) Gr.sync (by omega) (by omega) hns (by omega)⟩, by simp only [Sto.synced]; omega, by simp only [Sto.synced]; omega⟩, .sync, fun h => by omega⟩
  conv => whnf
  refine ⟨fun h3 => ?_, fun h3 => ?_⟩
  · have hk3 : k = 3 := by simpa using h3
    conv => whnf
    refine xcall (sbegin_spec hg hs hp hf hsm hsz.nm hfi (by omega)) ?_
    rintro _ m1 ⟨rfl, hl⟩
    conv => whnf
    by_cases hb : beginE s = 0
    · rw [if_pos hb] at hl
      have h1 : ¬ (0 < s.st ∨ s.sure ≠ s.R.length) := fun hc => by unfold beginE at hb; rw [if_pos hc] at hb; cases hb
      have h2 : s.st = 0 := by omega
      have h3 : s.sure = s.R.length := by omega
      exact ⟨false, s.at 1, rfl, ⟨⟨nb, ns, A, hl, hfi.begin h2 h3, hsz.next⟩, by simp only [Sto.at]; omega, by simp only [Sto.at]; omega⟩, .at 1 (by omega) h3, fun h => by omega⟩
    · rw [if_neg hb] at hl
      exact ⟨false, s, rfl, stay _ hl, .same, fun _ _ => rfl⟩
  conv => whnf
  refine ⟨fun h4 => ?_, fun h4 => ?_⟩
  · have hk4 : k = 4 := by simpa using h4
    conv => whnf
    refine xcall (sstep_spec hg hs hp hf hsm hsz.nm hfi hq (by omega) (by omega)) ?_
    rintro _ m1 ⟨rfl, nb', ns', A', hl, hfi', hnb, hns, hgr⟩
    conv => whnf
    have hsz' := hsz.gr (nb' := nb') hgr hcat (by omega) hns (by omega)
    have hLL := sL_len s
    have hss := hfi.ss
    have hst := hfi.st
    rcases stepS_is q A s with e | ⟨st, e1, e2, e⟩ | ⟨e1, e⟩
    · rw [e] at hl hfi'
      exact ⟨false, s, rfl, ⟨⟨nb', ns', A', hl, hfi', hsz'⟩, by omega, by omega⟩, .same, fun h => by omega⟩
    · rw [e] at hl hfi'
      exact ⟨false, s.at st, rfl, ⟨⟨nb', ns', A', hl, hfi', hsz'⟩, by simp only [Sto.at]; omega, by simp only [Sto.at]; omega⟩, .at st e1 (hss e2), fun h => by omega⟩
    · rw [e] at hl hfi'
      exact ⟨false, s.next, rfl, ⟨⟨nb', ns', A', hl, hfi', hsz'⟩, by simp only [Sto.next, List.length_nil]; omega, by simp only [Sto.next]; omega⟩, .next (by omega), fun h => by omega⟩
  · conv => whnf
    exact ⟨false, s, rfl, stay _ ⟨p, pf, hs, hp, hf⟩, .same, fun _ _ => rfl⟩
def txt (L : List Kd) : ByteArray := strI (kdsB L)
structure Hist (ss : List ByteArray) (sure : Nat) (s : Sto) : Prop where
  ex : ∃ b, ss.length = b + s.R.length + 1 ∧ (∀ i, i ≤ s.R.length → ss[b + i]? = some (txt (withs [] (s.P ++ s.R.take i)))) ∧ sure ≤ b + s.sure
theorem Hist.sure {ss : List ByteArray} {sure : Nat} {s : Sto} (h : Hist ss sure s) (hs : s.sure = s.R.length) : Hist ss (ss.length - 1) s := by
  obtain ⟨b, h1, h2, h3⟩ := h.ex
  exact ⟨b, h1, h2, by omega⟩
structure O18 where
  kind : Int
  key : ByteArray
  u : List Int
  a : Option Addr
  c : Nat
  l : List En
  lv : Value
structure O18.Ok (m : Mem) (o : O18) : Prop where
  u : WV8 o.u
  e : ∀ e ∈ o.l, okE e
  l : Na m (.slice o.a o.l.length o.c) o.l
  lv : o.lv.oneCell' = true
abbrev o18L (o : O18) : LB := [.one (.int .i64 o.kind), .one (.string o.key), .ints .u64 8 o.u, .one (.slice o.a o.l.length o.c), .one o.lv]
structure O18s (m : Mem) (v : Value) (O : List O18) : Prop where
  ok : ∀ o ∈ O, o.Ok m
  shape : ∃ a c, v = .slice a O.length c
  elem : ∀ i, i < O.length → ∃ b o c, v = .slice (some ⟨b, o, none⟩) O.length c ∧ ∀ j (hj : j < O.length), MRange m b (o + j * 12) (LB.cells (o18L O[j]))
theorem Left.grow {m' m'' m : Mem} {bs bf nb ns : Nat} {q : Int} {A : List Af} {s : Sto} (h : Left m' m bs bf q nb ns A s) (hs : Sub m' m'') : Left m'' m bs bf q nb ns A s := by
  obtain ⟨p, pf, h1, h2, h3⟩ := h.ex
  exact ⟨p, pf, h1.grow hs, h2, h3⟩
theorem Play.grow {m' m'' mq : Mem} {bs bf j : Nat} {q : Int} {s : Sto} (h : Play m' mq bs bf q j s) (hs : Sub m' m'') : Play m'' mq bs bf q j s := by
  obtain ⟨nb, ns, A, hL, hfi, hsz⟩ := h.ex
  exact ⟨⟨nb, ns, A, hL.grow hs, hfi, hsz⟩, h.pr, h.g⟩
theorem Play.reads {m' mq : Mem} {bs bf j : Nat} {q : Int} {s : Sto} (h : Play m' mq bs bf q j s) : ∃ bl lv sv, SR m' bs bf s bl lv sv := by
  obtain ⟨nb, ns, A, hL, hfi, hsz⟩ := h.ex
  obtain ⟨p, pf, h1, h2, h3⟩ := hL.ex
  exact h2.read (h1.sub (by simp))
theorem Play.goods {m' mq : Mem} {bs bf j : Nat} {q : Int} {s : Sto} (h : Play m' mq bs bf q j s) : (∀ x ∈ s.L, GoodK x) ∧ s.sure ≤ s.R.length ∧ (0 < s.st → s.sure = s.R.length) := by
  obtain ⟨nb, ns, A, hL, hfi, hsz⟩ := h.ex
  exact ⟨hfi.gl, hfi.su, hfi.ss⟩
end Go.E.YtcionccfgcnhoaaGreatDoor
