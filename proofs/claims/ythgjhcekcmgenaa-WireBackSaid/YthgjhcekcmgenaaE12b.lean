/-
  Regions that draw their order: that the one order serves.
-/
import Derived.Test.YthgjhcekcmgenaaE12
namespace Go.E
section
variable {c : Cfg} {nt : Nat} {m0 : Mem} {W0 : World} {Q : Exit → Act → World → Prop} {ops : Array Oper}

theorem strip_mem {r : RE} {j : Nat} {k : Ks} {b : Option Nat} (h : (j, k, b) ∈ r) : (j, k) ∈ strip r := List.mem_map.2 ⟨_, h, rfl⟩
theorem allocAt_spec {T : Tab} {j : Nat} (h : allocAt T ops j = true) : ∃ o t ti d, ops[j]? = some o ∧ o.op = .alloc t ∧ o.guard = none ∧ o.dst = some d ∧ T t = some ti := by
  unfold allocAt at h
  split at h
  · rename_i o ho
    split at h
    · rename_i t ht
      simp only [Bool.and_eq_true] at h
      obtain ⟨⟨h1, h2⟩, h3⟩ := h
      obtain ⟨d, hd⟩ := Option.isSome_iff_exists.1 h2
      obtain ⟨ti, hti⟩ := Option.isSome_iff_exists.1 h3
      exact ⟨o, t, ti, d, ho, ht, by simpa using h1, hd, hti⟩
    · simp at h
  · simp at h

theorem not_in {r : List (Nat × Ks)} {i : Nat} (h : (!(r.any fun x => x.1 == i)) = true) (k : Ks) : (i, k) ∉ r := by
  intro hm
  have : (r.any fun x => x.1 == i) = true := List.any_eq_true.2 ⟨(i, k), hm, by simp⟩
  rw [this] at h; cases h
theorem ordSt_nodup {T : Tab} {ms : List Nat} : ∀ {r : List (Nat × Ks)}, ordSt T ops ms r = true → (r.map Prod.fst).Nodup
  | [], _ => List.nodup_nil
  | (i, k) :: r, h => by
    simp only [ordSt, Bool.and_eq_true] at h
    obtain ⟨h0, h1⟩ := h
    rw [List.map_cons, List.nodup_cons]
    refine ⟨?_, ordSt_nodup h1⟩
    cases ho : ops[i]? with
    | none => simp [ho] at h0
    | some o =>
      simp only [ho, Bool.and_eq_true] at h0
      intro hm
      obtain ⟨⟨i', k'⟩, hm', e⟩ := List.mem_map.1 hm
      simp only at e
      subst e
      exact not_in h0.1.2 k' hm'
theorem ordSt_apart {T : Tab} {ms : List Nat} : ∀ {r : List (Nat × Ks)}, ordSt T ops ms r = true → ∀ x ∈ r, ∀ y ∈ r, x.1 ≠ y.1 → allocAt T ops x.1 = true → allocAt T ops y.1 = true → apartAt ops x.1 y.1 = true ∨ apartAt ops y.1 x.1 = true
  | [], _, x, hx, _, _, _, _, _ => by cases hx
  | (i, k) :: r, h, x, hx, y, hy, hne, hax, hay => by
    simp only [ordSt, Bool.and_eq_true] at h
    obtain ⟨h0, h1⟩ := h
    have one : allocAt T ops i = true → ∀ z ∈ r, allocAt T ops z.1 = true → apartAt ops i z.1 = true := by
      intro hi z hz haz
      obtain ⟨o, t, ti, d, ho, hop, _⟩ := allocAt_spec hi
      simp only [ho, Bool.and_eq_true] at h0
      have h3 := h0.2
      rw [hop, if_neg (by simp [floaty])] at h3
      simp only [Bool.and_eq_true] at h3
      have := List.all_eq_true.1 h3.2 z hz
      simp only [Bool.or_eq_true, Bool.and_eq_true, haz, Bool.not_true, Bool.false_eq_true, and_false, false_or] at this
      exact this.1
    rcases List.mem_cons.1 hx with rfl | hx' <;> rcases List.mem_cons.1 hy with rfl | hy'
    · exact absurd rfl hne
    · exact .inl (one hax y hy' hay)
    · exact .inr (one hay x hx' hax)
    · exact ordSt_apart h1 x hx' y hy' hne hax hay
theorem ldOk_spec {s0 : St} {ms : List Nat} {i : Nat} {x : SV} : ∀ {l : List (Nat × Ks)}, ldOk s0 ms i x l = true → ∀ j r, (j, Ks.but r) ∈ l → tw ms j i = false → diffH x (s0.fr r) = true
  | [], _, _, _, h, _ => by cases h
  | (j', k') :: l, h, j, r, hm, ht => by
    have tail : ldOk s0 ms i x l = true := by
      cases k' <;> simp only [ldOk, Bool.and_eq_true] at h <;> first | exact h | exact h.2
    rcases List.mem_cons.1 hm with e | hm
    · simp only [Prod.mk.injEq] at e
      obtain ⟨rfl, rfl⟩ := e
      simp only [ldOk, Bool.and_eq_true, ht, cond_false] at h
      exact h.1
    · exact ldOk_spec tail j r hm ht

/-- a load keeps out of the way of a store to another block -/
theorem diffH_spec {ρ ρ0 : List Nat} {s s0 : St} {a : Act} {W : World} (hr : Rel nt m0 W0 ρ s a W) {e : List Nat} (he : ρ = ρ0 ++ e) {xo : Operand} {b : Nat} (hb : blkOf ρ (ev s xo) = some b) (hin : ∀ y, ev s xo = .c y → ∃ o, s.m b = some o)
    {r h off : Nat} (hr0 : s0.fr r = .p h off) (hh : h < ρ0.length) (hd : diffH (ev s xo) (s0.fr r) = true) : b ≠ ρ0.getD h 0 := by
  have hg : ρ0.getD h 0 = ρ.getD h 0 := by
    rw [he]; simp only [List.getD_eq_getElem?_getD]; rw [List.getElem?_append_left hh]
  have hhρ : h < ρ.length := by rw [he]; simp; omega
  rw [hg]
  rw [hr0] at hd
  have loc : ∀ h', h' < ρ.length → h' ≠ h → ρ.getD h' 0 ≠ ρ.getD h 0 := by
    intro h' hl hne e'
    simp only [List.getD_eq_getElem?_getD, List.getElem?_eq_getElem hl, List.getElem?_eq_getElem hhρ, Option.getD_some] at e'
    exact hne (nodup_inj hr.nodup hl hhρ e')
  have hne : ev s xo ≠ .any := by intro e'; rw [e'] at hb; simp [blkOf] at hb
  have hu := (hr.evalOk xo hne).2
  cases hx : ev s xo with
  | p h' o' =>
    rw [hx] at hd hb hu
    simp only [diffH, Bool.not_eq_true'] at hd
    simp only [blkOf, Option.some.injEq] at hb
    subst hb
    exact loc h' hu (fun e' => by subst e'; rw [Nat.beq_refl] at hd; cases hd)
  | q h' o' d' =>
    rw [hx] at hd hb hu
    simp only [diffH, Bool.not_eq_true'] at hd
    simp only [blkOf, Option.some.injEq] at hb
    subst hb
    exact loc h' hu (fun e' => by subst e'; rw [Nat.beq_refl] at hd; cases hd)
  | sl h' o' d' n' c' =>
    rw [hx] at hd hb hu
    simp only [diffH, Bool.not_eq_true'] at hd
    simp only [blkOf, Option.some.injEq] at hb
    subst hb
    exact loc h' hu (fun e' => by subst e'; rw [Nat.beq_refl] at hd; cases hd)
  | c x =>
    intro e'
    have hn := (hr.out hhρ).1
    obtain ⟨o, ho⟩ := hin x hx
    rw [e', hn] at ho; cases ho
  | _ => rw [hx] at hd; simp [diffH] at hd

theorem xord_spec (hT : TabOk c.P c.T) (hd : ∀ o ∈ ops.toList, dstIn o.dst nt) (hsel : Region.noSelect ops = true) {ms : List Nat} (hms : masksOk ops ms = true) {K : St → Prop} (hQ : ∀ s ρ a W, K s → Rel nt m0 W0 ρ s a W → Q .normal a W)
    (hP : ∀ ch a d v w, Q (.panic ch) (a.put d v) w → Q (.panic ch) a w) (od : List (Nat × Ks)) (s0 : St) (ρ0 : List Nat) (hs0 : ∀ i h off, s0.fr i = .p h off → h < ρ0.length) :
    ∀ (n : Nat) (r : RE) (La : Array Bool) (s : St) (ρ : List Nat) (a : Act) (W : World), r.length + cnt r = n → RInv c nt m0 W0 ops od ρ0 r La s ρ a W → ordSt c.T ops ms (strip r) = true →
      xord c ops.toList ms s0 (strip r) K s → ∃ Φ, Holds Φ W ∧ (∀ f ∈ factsOf ρ s.x W, f ∈ Φ) ∧ wpAnyF c.P ops Q (fun j f => ∀ k, (j, k) ∈ od → KeepF s0 ρ0 f k) (cnt r) Φ La a W := by
  intro n
  induction n using Nat.strongRecOn with
  | _ n ih =>
  intro r La s ρ a W hn hI hst h
  have hr := hI.rel
  match r, hn, hI, hst, h with
  | [], hn, hI, hst, h =>
    refine ⟨factsOf ρ s.x W, factsOf_holds _ _ _, fun f hf => hf, ?_, hQ s ρ a W h hr⟩
    refine List.eq_nil_iff_forall_not_mem.2 fun j hj => ?_
    obtain ⟨hju, oj, hoj, _⟩ := mem_ready.1 hj
    obtain ⟨k, hk⟩ := hI.hun j (Array.getElem?_eq_some_iff.1 hoj).1 hju
    cases hk
  | (i, k, some b) :: r', hn, hI, hst, h =>
    -- made ahead: only the reckoning goes on
    obtain ⟨hiL, hE⟩ := hI.early i k b (List.mem_cons_self ..)
    obtain ⟨o, t, ti, d, ho, hop, hgd, hdst, hti, hW, hslot⟩ := hE.lies
    have hal : allocAt c.T ops i = true := by simp [allocAt, ho, hop, hgd, hdst, hti]
    simp only [strip, List.map_cons, ordSt, ho, Bool.and_eq_true] at hst
    obtain ⟨⟨⟨hst1, hst2⟩, hst3⟩, hst4⟩ := hst
    have hnf : floaty c.T o.op = false := by rw [hop]; rfl
    rw [hnf, if_neg Bool.false_ne_true] at hst3
    simp only [Bool.and_eq_true] at hst3
    have hka : k = .all := by
      rw [hal] at hst3
      cases k <;> first | rfl | (simp [isAll] at hst3)
    simp only [strip, List.map_cons, xord, nth_eq, Array.getElem?_toList, ho] at h
    have hlo : loadOk c.T s0 ms i o s (List.map (fun x => (x.1, x.2.1)) r') = true := by simp [loadOk, ldArg, hop]
    simp only [hlo, cond_true, xop, hgd, xact, hnf] at h
    simp only [nval, hop, hti] at h
    have tail : ∀ (s' : St) (ρ' : List Nat), Rel nt m0 W0 ρ' s' a W → (∃ e, ρ' = ρ ++ e ∧ ∀ x ∈ e, x = b) → s'.x = s.x → (∀ x, x ≠ b → s'.m x = s.m x) → (∀ y, y ≠ d → s'.fr y = s.fr y) → xord c ops.toList ms s0 (strip r') K s' →
        ∃ Φ, Holds Φ W ∧ (∀ f ∈ factsOf ρ s.x W, f ∈ Φ) ∧ wpAnyF c.P ops Q (fun j f => ∀ k, (j, k) ∈ od → KeepF s0 ρ0 f k) (cnt r') Φ La a W := by
      intro s' ρ' hr' ⟨e, he, hee⟩ hx hm hfr hk
      have hIn : RInv c nt m0 W0 ops od ρ0 r' La s' ρ' a W := by
        refine ⟨hr', hI.cl, hI.lsz, fun j hj hju => ?_, fun j k' hm' => hI.hli j k' (List.mem_cons_of_mem _ hm'), fun x hx' => ?_, fun j k' b' hm' => hI.rod j k' b' (List.mem_cons_of_mem _ hm'), fun j k' b' hm' => ?_,
          fun j k' j' k'' b' h1 h2 => hI.dist j k' j' k'' b' (List.mem_cons_of_mem _ h1) (List.mem_cons_of_mem _ h2), fun j k' b' o' d' hm' hal' ho' hd' => ?_, ?_⟩
        · obtain ⟨k', hk'⟩ := hI.hun j hj hju
          rcases List.mem_cons.1 hk' with e' | e'
          · simp at e'
          · exact ⟨k', e'⟩
        · rcases hI.odr x hx' with ⟨b', hb'⟩ | h'
          · rcases List.mem_cons.1 hb' with e' | e'
            · have : x.1 = i := congrArg Prod.fst e'
              rw [this]; exact .inr hiL
            · exact .inl ⟨b', e'⟩
          · exact .inr h'
        · obtain ⟨g1, g2⟩ := hI.early j k' b' (List.mem_cons_of_mem _ hm')
          have hbb : b' ≠ b := by
            intro e'
            have := hI.dist j k' i k b (by rw [← e']; exact List.mem_cons_of_mem _ hm') (List.mem_cons_self ..)
            subst this
            exact not_in hst2 k' (strip_mem hm')
          refine ⟨g1, ⟨g2.lies, by rw [hm b' hbb]; exact g2.out, g2.new, fun hin => ?_⟩⟩
          rw [he] at hin
          rcases List.mem_append.1 hin with h' | h'
          · exact g2.own h'
          · exact hbb (hee b' h')
        · have hne : d' ≠ d := by
            intro e'
            subst e'
            have hji : j ≠ i := by
              intro e''; subst e''
              exact not_in hst2 k' (strip_mem hm')
            -- two new variables of one slot are apart, or one waits for the other
            have hx3 := List.all_eq_true.1 hst3.2 (j, k') (strip_mem hm')
            simp only [Bool.or_eq_true, Bool.and_eq_true] at hx3
            rcases hx3 with h' | h'
            · rw [hal'] at h'; simp at h'
            · have hap := h'.1
              simp only [apartAt, ho, ho'] at hap
              have := (Oper.apart_spec hap).2.1 d' hdst
              exact this hd'
          rw [hfr d' hne]
          exact hI.anys j k' b' o' d' (List.mem_cons_of_mem _ hm') hal' ho' hd'
        · obtain ⟨e0, he0⟩ := hI.ext
          exact ⟨e0 ++ e, by rw [he, he0, List.append_assoc]⟩
      obtain ⟨Φ, q1, q2, q3⟩ := ih (r'.length + cnt r') (by rw [← hn]; simp only [List.length_cons, cnt]; omega) r' La s' ρ' a W rfl hIn hst4 hk
      refine ⟨Φ, q1, fun f hf => q2 f (factsOf_mono (fun x hx' => by rw [he]; exact List.mem_append_left _ hx') (fun x hx' => by rw [hx]; exact hx') (fun _ _ => rfl) f hf), q3⟩
    cases hesc : escOf c o.dst with
    | false =>
      rw [hesc] at h
      simp only [nNew, hdst] at h
      exact tail _ _ (hr.adopt hslot (hT t ti hti).zok hW hE.out hE.new hE.own) ⟨[b], rfl, by simp⟩ rfl (fun _ _ => rfl) (fun y hy => by show putF s.fr (some d) _ y = s.fr y; rw [putF_at, if_neg (by simpa using fun e => hy e.symm)]) h
    | true =>
      rw [hesc] at h
      simp only [nNew, hdst] at h
      exact tail _ _ (hr.adoptKnown hslot hW hE.out hE.new hE.own) ⟨[], by simp, by simp⟩ rfl (fun x hx => Mem.set_ne _ _ hx) (fun y hy => by show putF s.fr (some d) _ y = s.fr y; rw [putF_at, if_neg (by simpa using fun e => hy e.symm)]) (h b hE.out)
  | (i, k, none) :: r', hn, hI, hst, h =>
    have hiun := hI.hli i k (List.mem_cons_self ..)
    have hilt := unlisted_lt hiun
    have hstAll : ordSt c.T ops ms ((i, k) :: strip r') = true := hst
    have hAll : xord c ops.toList ms s0 ((i, k) :: strip r') K s := h
    simp only [strip, List.map_cons, ordSt, Bool.and_eq_true] at hst
    obtain ⟨hst0, hst4⟩ := hst
    cases ho : ops[i]? with
    | none => simp [ho] at hst0
    | some o =>
    simp only [ho, Bool.and_eq_true] at hst0
    obtain ⟨⟨hst1, hst2⟩, hst3⟩ := hst0
    have hnin : ∀ k', (i, k') ∉ strip r' := fun k' => not_in hst2 k'
    -- it may come up
    have hready : i ∈ Region.ready .any ops La := by
      refine mem_ready.2 ⟨hiun, o, ho, fun e he hb => ?_⟩
      have := (Array.all_eq_true_iff_forall_mem.1 hst1) e he
      simp only [Bool.or_eq_true, Bool.and_eq_true, hb, Bool.not_true, Bool.false_eq_true, false_or] at this
      have hlt : e.on < ops.size := blt_lt.1 this.1
      have hlt' : e.on < La.size := by rw [hI.lsz]; exact hlt
      cases hl : La.getD e.on true with
      | false =>
        obtain ⟨k', hk'⟩ := hI.hun e.on hlt hl
        exact absurd (strip_mem hk') (not_in this.2 k')
      | true => simp [hlt'] at hl ⊢; exact hl
    have hdi : dstIn o.dst nt := hd o (by rw [← Array.getElem?_toList] at ho; exact List.mem_of_getElem? ho)
    have hset : ∀ dd, (La.setIfInBounds i true).getD i dd = true := getD_set_same hilt
    have hmem : (i, k) ∈ od := hI.rod i k none (List.mem_cons_self ..)
    -- who is left waits for it, or is apart from it
    have later : ∀ j k' b', (j, k', b') ∈ r' → (tw ms j i = true ∧ allocAt c.T ops j = false) ∨ apartAt ops i j = true := by
      intro j k' b' hm'
      by_cases hf : floaty c.T o.op = true
      · rw [if_pos hf] at hst3
        simp only [Bool.and_eq_true] at hst3
        have := List.all_eq_true.1 hst3.2 (j, k') (strip_mem hm')
        simp only [Bool.or_eq_true, Bool.and_eq_true] at this
        rcases this with h' | h'
        · exact .inl ⟨h'.1, by simpa using h'.2⟩
        · exact .inr h'.1
      · rw [if_neg hf] at hst3
        simp only [Bool.and_eq_true] at hst3
        have := List.all_eq_true.1 hst3.2 (j, k') (strip_mem hm')
        simp only [Bool.or_eq_true, Bool.and_eq_true] at this
        rcases this with h' | h'
        · exact .inl ⟨h'.1, by simpa using h'.2⟩
        · exact .inr h'.1
    -- what stays so behind it
    have step : ∀ (s' : St) (ρ' : List Nat) (v : Value) (W' : World), Rel nt m0 W0 ρ' s' (a.put o.dst v) W' → (∃ e, ρ' = ρ ++ e) → (∀ y, o.dst ≠ some y → (s'.fr y = s.fr y ∨ s.fr y ≠ .any)) →
        (∀ b, b < W.heap.size → s.m b = none → b ∉ ρ → W'.heap[b]? = W.heap[b]? ∧ s'.m b = none ∧ b ∉ ρ') →
        RInv c nt m0 W0 ops od ρ0 r' (La.setIfInBounds i true) s' ρ' (a.put o.dst v) W' := by
      intro s' ρ' v W' hr' ⟨e, he⟩ hfr hout
      refine ⟨hr', hI.cl.set hready, by simp [hI.lsz], fun j hj hju => ?_, fun j k' hm' => ?_, fun x hx' => ?_, fun j k' b' hm' => hI.rod j k' b' (List.mem_cons_of_mem _ hm'), fun j k' b' hm' => ?_,
        fun j k' j' k'' b' h1 h2 => hI.dist j k' j' k'' b' (List.mem_cons_of_mem _ h1) (List.mem_cons_of_mem _ h2), fun j k' b' o' d' hm' hal' ho' hd' => ?_, ?_⟩
      · have hji : i ≠ j := fun e' => by subst e'; rw [hset] at hju; cases hju
        rw [getD_set_ne true hji] at hju
        obtain ⟨k', hk'⟩ := hI.hun j hj hju
        rcases List.mem_cons.1 hk' with e' | e'
        · exact absurd (congrArg Prod.fst e').symm hji
        · exact ⟨k', e'⟩
      · have hji : i ≠ j := fun e' => by subst e'; exact hnin k' (strip_mem hm')
        rw [getD_set_ne true hji]
        exact hI.hli j k' (List.mem_cons_of_mem _ hm')
      · by_cases hxi : i = x.1
        · rw [← hxi]; exact .inr (hset _)
        · rcases hI.odr x hx' with ⟨b', hb'⟩ | h'
          · rcases List.mem_cons.1 hb' with e' | e'
            · exact absurd (congrArg Prod.fst e').symm hxi
            · exact .inl ⟨b', e'⟩
          · rw [getD_set_ne false hxi]; exact .inr h'
      · obtain ⟨g1, g2⟩ := hI.early j k' b' (List.mem_cons_of_mem _ hm')
        obtain ⟨o', t', ti', d', p1, p2, p3, p4, p5, p6, p7⟩ := g2.lies
        have hji : i ≠ j := fun e' => by subst e'; exact hnin k' (strip_mem hm')
        have hblt : b' < W.heap.size := (Array.getElem?_eq_some_iff.1 p6).1
        obtain ⟨q1, q2, q3⟩ := hout b' hblt g2.out g2.own
        have hdd : o.dst ≠ some d' := by
          have hal' : allocAt c.T ops j = true := by simp [allocAt, p1, p2, p3, p4, p5]
          rcases later j k' (some b') hm' with h' | h'
          · rw [hal'] at h'; cases h'.2
          · simp only [apartAt, ho, p1] at h'
            exact fun e' => (Oper.apart_spec h').2.1 d' e' p4
        refine ⟨by rw [getD_set_ne false hji]; exact g1, ⟨⟨o', t', ti', d', p1, p2, p3, p4, p5, by rw [q1]; exact p6, ?_⟩, q2, g2.new, q3⟩⟩
        cases hod : o.dst with
        | none => exact p7
        | some y =>
          simp only [Act.put]
          rw [Array.getElem?_setIfInBounds_ne (fun e' => hdd (by rw [hod, e']))]; exact p7
      · have hdd : o.dst ≠ some d' := by
          rcases later j k' b' hm' with h' | h'
          · rw [hal'] at h'; cases h'.2
          · simp only [apartAt, ho, ho'] at h'
            exact fun e' => (Oper.apart_spec h').2.1 d' e' hd'
        have hany := hI.anys j k' b' o' d' (List.mem_cons_of_mem _ hm') hal' ho' hd'
        rcases hfr d' hdd with h' | h'
        · rw [h']; exact hany
        · exact absurd hany h'
      · obtain ⟨e0, he0⟩ := hI.ext
        exact ⟨e0 ++ e, by rw [he, he0, List.append_assoc]⟩
    have hlt0 : r'.length + cnt r' < n := by rw [← hn]; simp only [List.length_cons, cnt]; omega
    simp only [strip, List.map_cons, xord, nth_eq, Array.getElem?_toList, ho] at h
    cases hlo : loadOk c.T s0 ms i o s (List.map (fun x => (x.1, x.2.1)) r') with
    | false => simp [hlo] at h
    | true =>
    simp only [hlo, cond_true] at h
    obtain ⟨e0, he0⟩ := hI.ext
    cases hf : floaty c.T o.op with
    | true =>
      rw [hf, if_pos rfl] at hst3
      simp only [Bool.and_eq_true] at hst3
      -- taken first
      have take : ∀ (s' : St) (v : Value) (Ψ : List Fact), YieldsIf c.P ops (Holds Ψ) o v a → (Ψ ≠ [] → isLoad c.T o.op = true) → (∀ f ∈ Ψ, f ∈ factsOf ρ s'.x W) → (∀ f ∈ Ψ, ∀ j r, (j, Ks.but r) ∈ strip r' → tw ms j i = false → KeepF s0 ρ0 f (.but r)) → (∀ b ∈ s.x, b ∈ s'.x) → s'.m = s.m →
          (∀ y, o.dst ≠ some y → (s'.fr y = s.fr y ∨ s.fr y ≠ .any)) → xord c ops.toList ms s0 (strip r') K s' → Rel nt m0 W0 ρ s' (a.put o.dst v) W →
          ∃ Φ, Holds Φ W ∧ (∀ f ∈ factsOf ρ s.x W, f ∈ Φ) ∧ wpAnyF c.P ops Q (fun j f => ∀ k, (j, k) ∈ od → KeepF s0 ρ0 f k) (cnt r' + 1) Φ La a W := by
        intro s' v Ψ hy hΨ hΨs hΨk hxs hms' hfr hk' hr'
        have hIn := step s' ρ v W hr' ⟨[], by simp⟩ hfr (fun b hb hm hρ => ⟨rfl, by rw [hms']; exact hm, hρ⟩)
        obtain ⟨Φ, h1, h2, h3⟩ := ih _ hlt0 r' (La.setIfInBounds i true) s' ρ _ W rfl hIn hst4 hk'
        refine ⟨Φ, h1, fun f hf' => h2 f (factsOf_mono (fun _ hb => hb) hxs (fun _ _ => rfl) f hf'), ?_⟩
        refine wpAnyF_first hms ho (Region.noSelect_spec hsel) (fun ch a w => hP ch a _ _ w) (cnt r') Φ La a W hI.cl ?_ hready hy h1 (fun f hf' => h2 f (hΨs f hf')) h3
        intro j oj hj hji hjun hno
        have hjlt : j < ops.size := (Array.getElem?_eq_some_iff.1 hj).1
        obtain ⟨kj, hkj⟩ := hI.hun j hjlt hjun
        have hkj' : (j, kj, none) ∈ r' := by
          rcases List.mem_cons.1 hkj with e' | e'
          · exact absurd (congrArg Prod.fst e') hji
          · exact e'
        constructor
        · rcases later j kj none hkj' with h' | h'
          · rw [hno] at h'; cases h'.1
          · simpa [apartAt, ho, hj] using h'
        · intro f hf' k' hk''
          have hl := hΨ (by intro e'; rw [e'] at hf'; cases hf')
          -- the entry of j in the order is the one that is left
          have hin : (j, k') ∈ strip r' := by
            rcases hI.odr (j, k') hk'' with ⟨b', hb'⟩ | h'
            · rcases List.mem_cons.1 hb' with e' | e'
              · exact absurd (congrArg Prod.fst e') hji
              · exact strip_mem e'
            · exact absurd h' (listed_of hjun)
          have := List.all_eq_true.1 hst3.2 (j, k') hin
          simp only [Bool.or_eq_true, Bool.and_eq_true, hno, hl, Bool.not_true, Bool.false_eq_true, false_and, false_or] at this
          cases k' with
          | all => trivial
          | none => simp [isNone] at this
          | but rr => exact hΨk f hf' j rr hin hno
      have yes : ∀ s', Rel nt m0 W0 ρ s' a W → s'.x = s.x → s'.m = s.m → (∀ y, s'.fr y = s.fr y ∨ s.fr y ≠ .any) → (∀ x b, blkOf ρ (ev s' x) = some b → ev s' x = ev s x) → Region.wanted o (yielded ops a.tmps) = true → xact c o (kpOf s0 k) s' (xord c ops.toList ms s0 (strip r') K) →
          ∃ Φ, Holds Φ W ∧ (∀ f ∈ factsOf ρ s.x W, f ∈ Φ) ∧ wpAnyF c.P ops Q (fun j f => ∀ k, (j, k) ∈ od → KeepF s0 ρ0 f k) (cnt r' + 1) Φ La a W := by
        intro s' hr' hx hmm hfr hev hw hh
        unfold xact at hh
        rw [hf] at hh
        obtain ⟨sv, bs, v, B, h1, h2, h3, h4, h4', h5⟩ := fval_spec hT hr' hh
        refine take ⟨putF s'.fr o.dst sv, s'.L, s'.m, bs ++ s'.x⟩ v (B.map fun b => (b, W.heap[b]?)) (.inl ⟨hw, fun w hS => h5 o rfl w fun b hb => hS (b, W.heap[b]?) (List.mem_map.2 ⟨b, hb, rfl⟩)⟩) ?_ ?_ ?_ ?_ hmm ?_ h1 ?_
        · intro hne
          cases hl : isLoad c.T o.op with
          | true => rfl
          | false => rw [h4 hl] at hne; simp at hne
        · intro f hf'
          simp only [List.mem_map] at hf'
          obtain ⟨b, hb, rfl⟩ := hf'
          simp only [factsOf, List.mem_map, List.mem_append]
          refine ⟨b, ?_, rfl⟩
          rcases (h4' b hb).1 with h' | h'
          · exact .inl h'
          · exact .inr (.inl h')
        · intro f hf' j rr hjr hno hh' off hs0'
          simp only [List.mem_map] at hf'
          obtain ⟨b, hb, rfl⟩ := hf'
          obtain ⟨_, x', hop', hbk, hc'⟩ := h4' b hb
          have hlo' := hlo
          simp only [loadOk, hop'] at hlo'
          have hev' := hev x' b hbk
          exact diffH_spec hr' he0 hbk hc' hs0' (hs0 _ _ _ hs0') (by rw [hev']; exact ldOk_spec hlo' j rr hjr hno)
        · intro b hb
          rw [← hx] at hb
          exact List.mem_append_right _ hb
        · intro y hy
          show putF s'.fr o.dst sv y = s.fr y ∨ _
          rw [putF_at, if_neg hy]
          exact hfr y
        · refine hr'.put (by rw [hr'.size]; exact hdi) ?_ v ?_ _ ?_
          · rcases h2 with h2 | h2
            · exact .inl h2
            · exact .inr ⟨h2.1, h2.2.1⟩
          · rcases h2 with h2 | h2
            · exact .inl h2
            · exact .inr h2.2.2
          · intro b hb
            rcases List.mem_append.1 hb with hb | hb
            · exact h3 b hb
            · exact hr'.seen b hb
      have no : ∀ s', Rel nt m0 W0 ρ s' a W → s'.x = s.x → s'.m = s.m → (∀ y, s'.fr y = s.fr y ∨ s.fr y ≠ .any) → Region.wanted o (yielded ops a.tmps) = false → xord c ops.toList ms s0 (strip r') K ⟨putF s'.fr o.dst .un, s'.L, s'.m, s'.x⟩ →
          ∃ Φ, Holds Φ W ∧ (∀ f ∈ factsOf ρ s.x W, f ∈ Φ) ∧ wpAnyF c.P ops Q (fun j f => ∀ k, (j, k) ∈ od → KeepF s0 ρ0 f k) (cnt r' + 1) Φ La a W := by
        intro s' hr' hx hmm hfr hw hh
        refine take ⟨putF s'.fr o.dst .un, s'.L, s'.m, s'.x⟩ undef [] (.inr ⟨hw, rfl⟩) (by simp) (by simp) (by simp) (fun b hb => by rw [← hx] at hb; exact hb) hmm ?_ hh (hr'.skip hdi)
        intro y hy
        show putF s'.fr o.dst .un y = s.fr y ∨ _
        rw [putF_at, if_neg hy]
        exact hfr y
      -- by the guard
      have dec : ∀ (d : Nat) (b : Bool), s.fr d = .c (.v (.bool b)) → ∀ z : SV, (∀ y, putF s.fr (some d) z y = s.fr y ∨ s.fr y ≠ .any) := by
        intro d b e z y
        rw [putF_at]
        by_cases e' : some d = some y
        · simp only [Option.some.injEq] at e'; subst e'; exact .inr (by rw [e]; simp)
        · rw [if_neg e']; exact .inl rfl
      have dev : ∀ (d : Nat) (z : SV), (z = .tt ∨ z = .ff) → ∀ x b, blkOf ρ (ev ⟨putF s.fr (some d) z, s.L, s.m, s.x⟩ x) = some b → ev ⟨putF s.fr (some d) z, s.L, s.m, s.x⟩ x = ev s x := by
        intro d z hz x b hb
        cases x with
        | tmp t =>
          simp only [ev] at hb ⊢
          rw [putF_at] at hb ⊢
          by_cases e' : some d = some t
          · rw [if_pos e'] at hb
            rcases hz with rfl | rfl <;> simp [blkOf] at hb
          · rw [if_neg e']
        | const v => cases v <;> first | rfl | (rename_i b'; cases b' <;> rfl)
        | global g => rfl
        | func f => rfl
      unfold xop at h
      split at h
      · rename_i hg
        exact yes s hr rfl rfl (fun _ => .inl rfl) (fun _ _ _ => rfl) (by simp [Region.wanted, hg]) h
      · rename_i j w hg
        split at h
        · exact h.elim
        rename_i d hgd
        have want : ∀ b, a.tmps[d]? = some (.bool b) → Region.wanted o (yielded ops a.tmps) = (b == w) := by
          intro b hb
          simp only [Region.wanted, hg, yielded_at hgd hb]
          cases b <;> cases w <;> rfl
        have hs := hr.slots d
        split at h
        · rename_i e
          rw [e] at hs
          rcases hs with hs | ⟨hs, _⟩
          · simp at hs
          have := want true hs
          cases w
          · exact no s hr rfl rfl (fun _ => .inl rfl) (by rw [this]; rfl) h
          · exact yes s hr rfl rfl (fun _ => .inl rfl) (fun _ _ _ => rfl) (by rw [this]; rfl) h
        · rename_i e
          rw [e] at hs
          rcases hs with hs | ⟨hs, _⟩
          · simp at hs
          have := want false hs
          cases w
          · exact yes s hr rfl rfl (fun _ => .inl rfl) (fun _ _ _ => rfl) (by rw [this]; rfl) h
          · exact no s hr rfl rfl (fun _ => .inl rfl) (by rw [this]; rfl) h
        · rename_i e
          rw [e] at hs
          rcases hs with hs | ⟨hs, _⟩
          · simp at hs
          refine no s hr rfl rfl (fun _ => .inl rfl) ?_ h
          simp only [Region.wanted, hg, yielded_at hgd hs]
          rfl
        · rename_i b e
          rw [e] at hs
          rcases hs with hs | ⟨hs, _⟩
          · simp at hs
          have hw := want b hs
          have hdec := hr.decide e
          cases b
          · have h' := h.2 rfl
            cases w
            · exact yes _ hdec rfl rfl (dec d _ e _) (dev d _ (.inr rfl)) (by rw [hw]; rfl) h'
            · exact no _ hdec rfl rfl (dec d _ e _) (by rw [hw]; rfl) h'
          · have h' := h.1 rfl
            cases w
            · exact no _ hdec rfl rfl (dec d _ e _) (by rw [hw]; rfl) h'
            · exact yes _ hdec rfl rfl (dec d _ e _) (dev d _ (.inl rfl)) (by rw [hw]; rfl) h'
        · exact h.elim
    | false =>
      rw [hf, if_neg Bool.false_ne_true] at hst3
      simp only [Bool.and_eq_true] at hst3
      refine ⟨factsOf ρ s.x W, factsOf_holds _ _ _, fun f hf => hf, ?_⟩
      show wpAnyF c.P ops Q _ (cnt r' + 1) _ La a W
      refine ⟨fun h0 => (by rw [h0] at hready; cases hready), fun j hj => ?_⟩
      by_cases hji : j = i
      · subst hji
        have hsp := xop_spec (Q := Q) hT hr ho hdi h
        refine wpOp_mono (fun a' W' hp => ?_) hsp
        obtain ⟨s', e, h1, h2, h3, h4, ⟨v, rfl⟩, h6⟩ := hp
        have hIn := step s' (ρ ++ e) v W' h2 ⟨e, rfl⟩ h6 (fun b hb hm hρ => by
          obtain ⟨q1, q2, q3⟩ := h4 b hb hm hρ
          exact ⟨q1, q2, fun hin => (List.mem_append.1 hin).elim hρ q3⟩)
        obtain ⟨Φ', g1, g2, g3⟩ := ih _ hlt0 r' (La.setIfInBounds j true) s' (ρ ++ e) _ W' rfl hIn hst4 h1
        refine ⟨Φ', g1, fun f hf hF => ?_, g3⟩
        have hk := hF k hmem
        have keep : (∀ b, b ∈ ρ ∨ b ∈ s.x → (b, W.heap[b]?) = f → W'.heap[b]? = W.heap[b]?) → (∀ b ∈ s.x, b ∈ s'.x) → f ∈ Φ' := by
          intro hb1 hb2
          refine g2 f ?_
          simp only [factsOf, List.mem_map, List.mem_append] at hf ⊢
          obtain ⟨b, hb, rfl⟩ := hf
          exact ⟨b, hb.imp .inl (hb2 b), by rw [hb1 b hb rfl]⟩
        cases k with
        | all => exact keep (fun b hb _ => h3.1 b hb) h3.2
        | none => exact hk.elim
        | but rr =>
          simp only [kpOf] at h3
          cases hs0r : s0.fr rr with
          | p hh off =>
            rw [hs0r] at h3
            have hhl := hs0 _ _ _ hs0r
            have hne := hk hh off hs0r
            refine keep (fun b hb e' => ?_) h3.2
            subst e'
            refine h3.1 b (hr.seen_lt hb) (fun e' => hne ?_)
            have hg : ρ0.getD hh 0 = ρ.getD hh 0 := by
              rw [he0]; simp only [List.getD_eq_getElem?_getD]; rw [List.getElem?_append_left hhl]
            rw [hg]; exact e'
          | _ => rw [hs0r] at h3; exact keep (fun b hb _ => h3.1 b hb) h3.2
      · -- a new variable, made ahead of its turn
        obtain ⟨hjun, oj, hoj, hall⟩ := mem_ready.1 hj
        obtain ⟨kj, hkj⟩ := hI.hun j (Array.getElem?_eq_some_iff.1 hoj).1 hjun
        have hkj' : (j, kj, none) ∈ r' := by
          rcases List.mem_cons.1 hkj with e' | e'
          · exact absurd (congrArg Prod.fst e') hji
          · exact e'
        have hal : allocAt c.T ops j = true := by
          have := List.all_eq_true.1 hst3.2 (j, kj) (strip_mem hkj')
          simp only [Bool.or_eq_true, Bool.and_eq_true] at this
          rcases this with h' | h'
          · exact absurd (tw_listed hms hI.cl i j oj hoj hall h'.1) (listed_of hiun)
          · exact h'.2
        obtain ⟨o', t, ti, d, p1, p2, p3, p4, p5⟩ := allocAt_spec hal
        rw [hoj] at p1; cases p1
        obtain ⟨z, hz1, hz2⟩ := (hT t ti p5).run_zero
        have hrun : (execOp a.eval oj).run c.P W = .ok (.value (.pointer (some ⟨W.heap.size, 0, none⟩))) (W.alloc (.cells (LB.cells ti.zero).toArray t)) := by
          simp [execOp, p2, Instr.alloc, hz2, newVar, newRow, newObj, hz1, Sem.run]
        unfold wpOp
        simp only [hoj]
        rw [if_pos (by simp [Region.wanted, p3])]
        refine .inl ?_
        unfold Oper.wp
        rw [hrun]
        obtain ⟨pre, post, hsplit⟩ := List.append_of_mem hkj'
        have hany := hI.anys j kj none oj d hkj hal hoj p4
        -- the same order, with j marked
        let r2 : RE := (i, k, none) :: (pre ++ (j, kj, some W.heap.size) :: post)
        have hr2 : ∀ x, x ∈ r2 → x = (j, kj, some W.heap.size) ∨ x ∈ ((i, k, none) :: r' : RE) := by
          intro x hx
          rcases List.mem_cons.1 hx with e' | e'
          · exact .inr (by rw [e']; exact List.mem_cons_self ..)
          · rcases List.mem_append.1 e' with e' | e'
            · exact .inr (List.mem_cons_of_mem _ (by rw [hsplit]; exact List.mem_append_left _ e'))
            · rcases List.mem_cons.1 e' with e' | e'
              · exact .inl e'
              · exact .inr (List.mem_cons_of_mem _ (by rw [hsplit]; exact List.mem_append_right _ (List.mem_cons_of_mem _ e')))
        have hr2' : ∀ x, x ∈ ((i, k, none) :: r' : RE) → x ∈ r2 ∨ x = (j, kj, none) := by
          intro x hx
          rcases List.mem_cons.1 hx with e' | e'
          · exact .inl (by rw [e']; exact List.mem_cons_self ..)
          · rw [hsplit] at e'
            rcases List.mem_append.1 e' with e' | e'
            · exact .inl (List.mem_cons_of_mem _ (List.mem_append_left _ e'))
            · rcases List.mem_cons.1 e' with e' | e'
              · exact .inr e'
              · exact .inl (List.mem_cons_of_mem _ (List.mem_append_right _ (List.mem_cons_of_mem _ e')))
        have hj2 : (j, kj, some W.heap.size) ∈ r2 := List.mem_cons_of_mem _ (List.mem_append_right _ (List.mem_cons_self ..))
        have hstr : strip r2 = (i, k) :: strip r' := by
          show (i, k) :: List.map _ (pre ++ (j, kj, some W.heap.size) :: post) = _
          rw [hsplit]
          simp [strip]
        have hcnt : cnt r2 = cnt r' := by
          show cnt (pre ++ (j, kj, some W.heap.size) :: post) + 1 = cnt r'
          rw [hsplit, cnt_append, cnt_append]
          simp only [cnt]; omega
        have hnd : ((strip r').map Prod.fst).Nodup := ordSt_nodup hst4
        have honly : ∀ k', (j, k', none) ∉ r2 := by
          intro k' hm'
          rw [hsplit] at hnd
          simp only [strip, List.map_append, List.map_cons, List.map_map] at hnd
          rw [List.nodup_append] at hnd
          obtain ⟨_, n2, n3⟩ := hnd
          rcases List.mem_cons.1 hm' with e' | e'
          · exact hji (congrArg Prod.fst e')
          rcases List.mem_append.1 e' with e' | e'
          · exact n3 j (List.mem_map.2 ⟨_, e', rfl⟩) j (List.mem_cons_self ..) rfl
          · rcases List.mem_cons.1 e' with e' | e'
            · simp at e'
            · exact (List.nodup_cons.1 n2).1 (List.mem_map.2 ⟨_, e', rfl⟩)
        have hjlt := unlisted_lt hjun
        have hszρ : W.heap.size ∉ ρ := fun hin => Nat.lt_irrefl _ (hr.seen_lt (.inl hin))
        have hI2 : RInv c nt m0 W0 ops od ρ0 r2 (La.setIfInBounds j true) s ρ (a.put oj.dst (.pointer (some ⟨W.heap.size, 0, none⟩))) (W.alloc (.cells (LB.cells ti.zero).toArray t)) := by
          refine ⟨by rw [p4]; exact hr.ahead hany _ _, hI.cl.set hj, by simp [hI.lsz], fun j' hj' hju' => ?_, fun j' k' hm' => ?_, fun x hx' => ?_, fun j' k' b' hm' => ?_, fun j' k' b' hm' => ?_, fun j1 k1 j2 k2 b' m1 m2 => ?_, fun j' k' b' o' d' hm' hal' ho' hd' => ?_, hI.ext⟩
          · have hne : j ≠ j' := fun e' => by subst e'; rw [getD_set_same hjlt] at hju'; cases hju'
            rw [getD_set_ne true hne] at hju'
            obtain ⟨k', hk'⟩ := hI.hun j' hj' hju'
            rcases hr2' _ hk' with h' | h'
            · exact ⟨k', h'⟩
            · exact absurd (congrArg Prod.fst h').symm hne
          · have hne : j ≠ j' := fun e' => by subst e'; exact honly k' hm'
            rw [getD_set_ne true hne]
            rcases hr2 _ hm' with h' | h'
            · simp at h'
            · exact hI.hli j' k' h'
          · by_cases hxj : j = x.1
            · rw [← hxj]; exact .inr (getD_set_same hjlt _)
            · rcases hI.odr x hx' with ⟨b', hb'⟩ | h'
              · rcases hr2' _ hb' with h' | h'
                · exact .inl ⟨b', h'⟩
                · exact absurd (congrArg Prod.fst h').symm hxj
              · rw [getD_set_ne false hxj]; exact .inr h'
          · rcases hr2 _ hm' with h' | h'
            · simp only [Prod.mk.injEq] at h'
              obtain ⟨rfl, rfl, _⟩ := h'
              exact hI.rod _ _ _ hkj
            · exact hI.rod _ _ _ h'
          · rcases hr2 _ hm' with h' | h'
            · simp only [Prod.mk.injEq, Option.some.injEq] at h'
              obtain ⟨rfl, rfl, rfl⟩ := h'
              refine ⟨getD_set_same hjlt _, ⟨⟨oj, t, ti, d, hoj, p2, p3, p4, p5, heap_alloc_new W _, ?_⟩, hr.after.over.none (Nat.le_refl _), hr.after.size, hszρ⟩⟩
              rw [p4]
              have hdi' : dstIn oj.dst nt := hd oj (by rw [← Array.getElem?_toList] at hoj; exact List.mem_of_getElem? hoj)
              rw [p4] at hdi'
              have hdl : d < a.tmps.size := by rw [hr.size]; exact hdi' d rfl
              simp [Act.put, hdl]
            · obtain ⟨g1, g2⟩ := hI.early j' k' b' h'
              have hne : j ≠ j' := fun e' => by subst e'; exact listed_of hjun g1
              obtain ⟨o1, t1, ti1, d1, q1, q2, q3, q4, q5, q6, q7⟩ := g2.lies
              have hblt : b' < W.heap.size := (Array.getElem?_eq_some_iff.1 q6).1
              refine ⟨by rw [getD_set_ne false hne]; exact g1, ⟨⟨o1, t1, ti1, d1, q1, q2, q3, q4, q5, by rw [heap_alloc_old W _ hblt]; exact q6, ?_⟩, g2.out, g2.new, g2.own⟩⟩
              have hdd : d ≠ d1 := by
                intro e'; subst e'
                have hin' : (j', k') ∈ strip r' := by
                  rcases List.mem_cons.1 h' with e' | e'
                  · simp at e'
                  · exact strip_mem e'
                have hal' : allocAt c.T ops j' = true := by simp [allocAt, q1, q2, q3, q4, q5]
                rcases ordSt_apart hst4 (j, kj) (strip_mem hkj') (j', k') hin' hne hal hal' with h' | h'
                · simp only [apartAt, hoj, q1] at h'
                  exact (Oper.apart_spec h').2.1 d p4 q4
                · simp only [apartAt, hoj, q1] at h'
                  exact (Oper.apart_spec h').2.1 d q4 p4
              rw [p4]
              simp only [Act.put]
              rw [Array.getElem?_setIfInBounds_ne hdd]; exact q7
          · rcases hr2 _ m1 with h1 | h1 <;> rcases hr2 _ m2 with h2 | h2
            · exact (congrArg Prod.fst h1).trans (congrArg Prod.fst h2).symm
            · simp only [Prod.mk.injEq, Option.some.injEq] at h1
              obtain ⟨_, _, _, _, _, _, _, _, _, q6, _⟩ := (hI.early _ _ _ h2).2.lies
              have := (Array.getElem?_eq_some_iff.1 q6).1
              omega
            · simp only [Prod.mk.injEq, Option.some.injEq] at h2
              obtain ⟨_, _, _, _, _, _, _, _, _, q6, _⟩ := (hI.early _ _ _ h1).2.lies
              have := (Array.getElem?_eq_some_iff.1 q6).1
              omega
            · exact hI.dist _ _ _ _ _ h1 h2
          · rcases hr2 _ hm' with h' | h'
            · simp only [Prod.mk.injEq] at h'
              obtain ⟨rfl, rfl, _⟩ := h'
              exact hI.anys _ _ _ _ _ hkj hal' ho' hd'
            · exact hI.anys _ _ _ _ _ h' hal' ho' hd'
        obtain ⟨Φ', g1, g2, g3⟩ := ih (r2.length + cnt r2) (by
          rw [← hn, hcnt]
          have : r2.length = r'.length + 1 := by
            show (pre ++ (j, kj, some W.heap.size) :: post).length + 1 = _
            rw [hsplit]; simp
          rw [this]
          simp only [List.length_cons, cnt]; omega) r2 (La.setIfInBounds j true) s ρ _ _ rfl hI2 (by rw [hstr]; exact hstAll) (by rw [hstr]; exact hAll)
        rw [hcnt] at g3
        refine ⟨Φ', g1, fun f hf' _ => g2 f (factsOf_mono (fun _ h => h) (fun _ h => h) (fun b hb => heap_alloc_old W _ (hr.seen_lt hb)) f hf'), g3⟩

theorem fresh_spec {s : St} : ∀ {l : List Oper}, fresh s l = true → ∀ o ∈ l, ∀ t d, o.op = .alloc t → o.dst = some d → s.fr d = .any
  | [], _, o, ho, _, _, _, _ => by cases ho
  | o' :: l, h, o, ho, t, d, hop, hd => by
    have tail : fresh s l = true ∧ (o = o' → s.fr d = .any) := by
      simp only [fresh] at h
      split at h
      · rename_i t' ht'
        split at h
        · rename_i d' hd'
          split at h
          · rename_i e
            refine ⟨h, fun e' => ?_⟩
            subst e'
            rw [hd] at hd'; cases hd'
            exact e
          · cases h
        · rename_i hd'
          exact ⟨h, fun e' => by subst e'; rw [hd] at hd'; cases hd'⟩
      · rename_i hn
        exact ⟨h, fun e' => by subst e'; exact absurd hop (hn t)⟩
    rcases List.mem_cons.1 ho with e | ho'
    · exact tail.2 e
    · exact fresh_spec tail.1 o ho' t d hop hd

theorem region_drawn {ρ : List Nat} {s : St} {a : Act} {W : World} (hT : TabOk c.P c.T) (hm : c.P.follows .mixedOrders = true) {id : Nat} (hd : ∀ o ∈ ops.toList, dstIn o.dst nt) {K : St → Prop} (hQ : ∀ s ρ a W, K s → Rel nt m0 W0 ρ s a W → Q .normal a W)
    (hP : ∀ ch a d v w, Q (.panic ch) (a.put d v) w → Q (.panic ch) a w) (od : Ord) (hod : ordOk c.T ops od = true) (hfr : fresh s ops.toList = true)
    (hr : Rel nt m0 W0 ρ s a W) (h : xord c ops.toList od.ms s od.od K s) : (Code.region id ops true).wp c.P Q a W := by
  simp only [ordOk, Bool.and_eq_true, beq_iff_eq] at hod
  obtain ⟨⟨⟨⟨h1, h2⟩, h3⟩, h4⟩, h5⟩ := hod
  have hr' : Rel nt m0 W0 ρ s a { W with drawn := W.drawn + 1 } := ⟨hr.defers, hr.size, hr.slots, hr.len, hr.locs, hr.nodup, hr.after.drew, hr.seen⟩
  let r : RE := od.od.map fun x => (x.1, x.2, none)
  have hstrip : strip r = od.od := by
    show List.map _ (List.map _ od.od) = od.od
    rw [List.map_map]
    exact List.map_id _
  have hcnt : cnt r = od.od.length := by
    have : ∀ l : List (Nat × Ks), cnt (l.map fun x => (x.1, x.2, none)) = l.length := by
      intro l
      induction l with
      | nil => rfl
      | cons x l ih => simp only [List.map_cons, cnt, ih, List.length_cons]
    exact this od.od
  have hmr : ∀ j k b, (j, k, b) ∈ r ↔ (j, k) ∈ od.od ∧ b = none := by
    intro j k b
    simp only [r, List.mem_map, Prod.mk.injEq]
    constructor
    · rintro ⟨⟨j', k'⟩, hx, rfl, rfl, rfl⟩; exact ⟨hx, rfl⟩
    · rintro ⟨hx, rfl⟩; exact ⟨(j, k), hx, rfl, rfl, rfl⟩
  have hlt : ∀ j k, (j, k) ∈ od.od → j < ops.size := by
    intro j k hjk
    have : ∀ (l : List (Nat × Ks)), ordSt c.T ops od.ms l = true → (j, k) ∈ l → j < ops.size := by
      intro l
      induction l with
      | nil => intro _ hx; cases hx
      | cons x l ih =>
        intro hs hx
        obtain ⟨i, k'⟩ := x
        simp only [ordSt, Bool.and_eq_true] at hs
        rcases List.mem_cons.1 hx with e | hx
        · simp only [Prod.mk.injEq] at e
          obtain ⟨rfl, rfl⟩ := e
          cases ho : ops[j]? with
          | none => simp [ho] at hs
          | some o => exact (Array.getElem?_eq_some_iff.1 ho).1
        · exact ih hs.2 hx
    exact this _ h5 hjk
  have hI : RInv c nt m0 W0 ops od.od ρ r (Array.replicate ops.size false) s ρ a { W with drawn := W.drawn + 1 } := by
    refine ⟨hr', ?_, by simp, fun j hj _ => ?_, fun j k hx => ?_, fun x hx => .inl ⟨none, (hmr _ _ _).2 ⟨hx, rfl⟩⟩, fun j k b hx => ((hmr _ _ _).1 hx).1, fun j k b hx => (by have := ((hmr _ _ _).1 hx).2; cases this), fun j k j' k' b hx => (by have := ((hmr _ _ _).1 hx).2; cases this), fun j k b o d hx hal ho hdst => ?_, ⟨[], by simp⟩⟩
    · intro k o ho hk
      have hlk : k < ops.size := (Array.getElem?_eq_some_iff.1 ho).1
      simp [hlk] at hk
    · simp only [List.all_eq_true, List.mem_range] at h3
      obtain ⟨x, hx, hxj⟩ := List.any_eq_true.1 (h3 j hj)
      have : x.1 = j := by simpa using hxj
      subst this
      exact ⟨x.2, (hmr _ _ _).2 ⟨hx, rfl⟩⟩
    · have := hlt j k ((hmr _ _ _).1 hx).1
      simp [this]
    · obtain ⟨o', t, ti, d', p1, p2, p3, p4, p5⟩ := allocAt_spec hal
      rw [ho] at p1; cases p1
      exact fresh_spec hfr o (by rw [← Array.getElem?_toList] at ho; exact List.mem_of_getElem? ho) t d p2 hdst
  have hs0 : ∀ i h off, s.fr i = .p h off → h < ρ.length := by
    intro i h off e
    rcases hr.slots i with g | ⟨_, _, g⟩
    · rw [e] at g; cases g
    · rw [e] at g; exact g
  obtain ⟨Φ, _, _, hw⟩ := xord_spec (m0 := m0) (W0 := W0) hT hd h1 h2 hQ hP od.od s ρ hs0 _ r _ s ρ a _ rfl hI (by rw [hstrip]; exact h5) (by rw [hstrip]; exact h)
  rw [hcnt, h4] at hw
  exact wp_region_any hm (wpAny_of_F _ _ _ _ _ hw)
#print axioms region_drawn
end
end Go.E
