/-
  Operations that make or change memory do what was said.
-/
import Derived.Test.YtkapdbbjgpofnaaE9
namespace Go.E
section
variable {P : Program} {T : Tab} {nt : Nat} {D : List Deferred} {m0 : Mem} {W0 : World} {ρ : List Nat} {s : St} {a : Act} {W : World} {Q : Exit → Act → World → Prop}

theorem store_wp {o : Oper} {t : TypeId} {xo yo : Operand} (ho : o.op = .store t xo yo) {ad : Addr} {v : Value} (hx : a.eval xo = .pointer (some ad)) (hy : a.eval yo = v) {W' : World} (hs : (storeVar t ad v).run P W = .ok () W')
    {N : Act → World → Prop} (h : N (a.put o.dst undef) W') : o.wp P a W N Q := by
  unfold Oper.wp
  have : (execOp a.eval o).run P W = .ok .skip W' := by simp [execOp, ho, hx, hy, Instr.storeAt, Instr.sureAddr, hs]
  rw [this]; exact h

theorem nStore_spec (hT : TabOk P T) (hr : Rel nt D m0 W0 ρ s a W) {o : Oper} (hd : dstIn o.dst a.tmps.size) {t : TypeId} {xo yo : Operand} (ho : o.op = .store t xo yo) {keep : Kp} {x' : List Nat} (hkp : (keep = .none ∧ x' = []) ∨ (∃ h, keep = .but h ∧ x' = s.x ∧ atHandle h (ev s xo) = true) ∨ ∃ n, keep = .new n ∧ x' = s.x ∧ newHandle n (ev s xo) = true) {K : SV → Loc → Mem → List Nat → Prop}
    (h : nStore T s t (ev s xo) (ev s yo) fun L m => K .un L m x') : o.wp P a W (NPost nt D m0 W0 ρ s a W o.dst keep K) Q := by
  have hx := hr.fits xo
  have hy := hr.fits yo
  unfold nStore at h
  split at h
  · exact h.elim
  rename_i i hi
  have hti := hT t i hi
  -- what is stored, as cells
  have loc : ∀ (hd' off : Nat) (t' : TypeId) (c d : LB) (l : List Value), s.L[hd']? = some (t', c) → a.eval xo = .pointer (some ⟨ρ.getD hd' 0, off, none⟩) → (a.eval yo).cells = l.toArray → l.length = i.size → (∀ x ∈ l, x.oneCell' = true) →
      LB.ok d → LB.cells d = (LB.cells c).take off ++ (l ++ (LB.cells c).drop (off + l.length)) → off + l.length ≤ (LB.cells c).length → K .un (s.L.set hd' (t', d)) s.m x' → o.wp P a W (NPost nt D m0 W0 ρ s a W o.dst keep K) Q := by
    intro hd' off t' c d l hc ex hcells hl h1 hdk hdc hle hk
    obtain ⟨g1, g2, g3, g4⟩ := hr.locs hd' t' c hc
    have hrun := run_store_many (P := P) hti (off := off) (v := a.eval yo) g1 hcells hl h1 (by simpa using hle) (by intro j _; simp)
    have hset := hr.setLocal hd hc hdk
    rw [hdc] at hset
    have hlt' : hd' < ρ.length := by rw [hr.len]; exact (List.getElem?_eq_some_iff.1 hc).1
    have hout : ∀ cs : Array Value, Outs s.m ρ W s.m [] (W.setRow (ρ.getD hd' 0) cs) := fun cs b _ hm hb =>
      ⟨setRow_other W _ b _ (fun e => hb (by rw [e]; exact getD_mem hlt')), hm, by simp⟩
    rcases hkp with ⟨rfl, rfl⟩ | ⟨hh, rfl, rfl, hat⟩ | ⟨n, rfl, rfl, hat⟩
    · refine store_wp ho ex rfl hrun ⟨.un, _, _, _, [], hk, ?_, trivial, hout _, undef, rfl⟩
      rw [List.append_nil]
      have := hset.clear
      simpa using this
    · refine store_wp ho ex rfl hrun ⟨.un, _, _, _, [], hk, ?_, ?_, hout _, undef, rfl⟩
      · rw [List.append_nil]
        simpa using hset
      · have e : ρ.getD hh 0 = ρ.getD hd' 0 := by
          have hne : ev s xo ≠ .any := by intro e; rw [e] at hat; simp [atHandle] at hat
          have hcv := hx.eq hne
          rw [ex] at hcv
          cases hev : ev s xo <;> rw [hev] at hat hcv <;> simp only [atHandle] at hat
          all_goals first
            | (simp at hat; done)
            | (have := Nat.eq_of_beq_eq_true hat; subst this; simp only [conc, Value.pointer.injEq, Option.some.injEq, Addr.mk.injEq] at hcv; exact hcv.1.symm)
        exact ⟨fun b _ hb => by rw [e] at hb; exact setRow_other W _ b _ hb, fun _ hb => hb⟩
    · refine store_wp ho ex rfl hrun ⟨.un, _, _, _, [], hk, ?_, ?_, hout _, undef, rfl⟩
      · rw [List.append_nil]
        simpa using hset
      · have hne : ev s xo ≠ .any := by intro e; rw [e] at hat; simp [newHandle] at hat
        have hcv := hx.eq hne
        have hun := (hr.evalOk xo hne).2
        rw [ex] at hcv
        have far : ∀ h', h' < ρ.length → n ≤ h' → ρ.getD hd' 0 = ρ.getD h' 0 → ∀ b ∈ ρ.take n, b ≠ ρ.getD hd' 0 := by
          intro h' hl hle he b hb e2
          obtain ⟨j, hj, rfl⟩ := List.getElem_of_mem hb
          rw [List.length_take] at hj
          rw [List.getElem_take, he] at e2
          simp only [List.getD_eq_getElem?_getD, List.getElem?_eq_getElem hl, Option.getD_some] at e2
          have := nodup_inj hr.nodup (by omega) hl e2
          omega
        have key : ∀ b ∈ ρ.take n, b ≠ ρ.getD hd' 0 := by
          cases hev : ev s xo <;> rw [hev] at hat hcv hun <;> simp only [newHandle] at hat
          all_goals first
            | (simp at hat; done)
            | (simp only [conc, Value.pointer.injEq, Option.some.injEq, Addr.mk.injEq] at hcv; exact far _ hun (ble_le.1 hat) hcv.1)
        exact ⟨fun b hb => setRow_other W _ b _ (key b hb), fun _ hb => hb⟩
  have ext : ∀ (b off : Nat) (arr : Array Value) (t' : TypeId) (fr : Nat × Nat) (l : List Value) (cs : Array Value), s.m b = some (.cells arr t' fr) → a.eval xo = .pointer (some ⟨b, off, none⟩) → (a.eval yo).cells = l.toArray → l.length = i.size → (∀ x ∈ l, x.oneCell' = true) → (∀ h, atHandle h (ev s xo) = false ∧ newHandle h (ev s xo) = false) →
      off + l.length ≤ arr.size → (∀ j, j < l.length → ¬ (fr.1 ≤ off + j ∧ off + j < fr.2)) → cs = (arr.toList.take off ++ (l ++ arr.toList.drop (off + l.length))).toArray → K .un s.L (s.m.set b (.cells cs t' fr)) x' → o.wp P a W (NPost nt D m0 W0 ρ s a W o.dst keep K) Q := by
    intro b off arr t' fr l cs hb ex hcells hl h1 hnh hle hf hcs hk
    obtain ⟨rfl, rfl⟩ : keep = .none ∧ x' = [] := by
      rcases hkp with h | ⟨hh, _, _, hat⟩ | ⟨hh, _, _, hat⟩
      · exact h
      · rw [(hnh hh).1] at hat; cases hat
      · rw [(hnh hh).2] at hat; cases hat
    have hrun := run_store_many (P := P) hti (off := off) (v := a.eval yo) (hr.after.over _ _ hb) hcells hl h1 hle hf
    have hout : ∀ cs' : Array Value, Outs s.m ρ W (s.m.set b (.cells cs t' fr)) [] (W.setRow b cs') := fun cs' b' _ hm _ => by
      have hne : b' ≠ b := fun e => by rw [e, hb] at hm; cases hm
      exact ⟨setRow_other W _ b' _ hne, by rw [Mem.set_ne _ _ hne]; exact hm, by simp⟩
    refine store_wp ho ex rfl hrun ⟨.un, _, _, _, [], hk, ?_, trivial, hout _, undef, rfl⟩
    rw [List.append_nil, ← hcs]
    exact hr.setKnown hd hb cs
  have set1 : ∀ (arr : Array Value) (off : Nat) (z : Value), off < arr.size → arr.setIfInBounds off z = (arr.toList.take off ++ ([z] ++ arr.toList.drop (off + [z].length))).toArray := by
    intro arr off z hlt
    apply Array.ext'
    rw [Array.toList_setIfInBounds, set_as_put (by simpa using hlt)]
    rfl
  split at h
  · rename_i hd' off he
    rw [he] at hx
    have ex := hx.eq (by simp)
    simp only [conc] at ex
    split at h
    · exact h.elim
    rename_i t' c hc
    rw [nth_eq] at hc
    obtain ⟨_, hok, _, _⟩ := hr.locs hd' t' c hc
    have one : ∀ z, a.eval yo = z → z.oneCell' = true → (bif Nat.beq i.size 1 then (match LB.set c off z with | some d => K .un (s.L.set hd' (t', d)) s.m x' | none => False) else False) → o.wp P a W (NPost nt D m0 W0 ρ s a W o.dst keep K) Q := by
      intro z hz h1 hh
      cases hb : Nat.beq i.size 1 with
      | false => simp [hb] at hh
      | true =>
        have hsz := Nat.eq_of_beq_eq_true hb
        simp only [hb, cond_true] at hh
        cases hset : LB.set c off z with
        | none => simp [hset] at hh
        | some d =>
          simp only [hset] at hh
          obtain ⟨k1, k2, k3⟩ := LB.set_spec hok h1 hset
          exact loc hd' off t' c d [z] hc ex (by rw [hz]; exact cells_one h1) hsz.symm (by simpa using h1) k1 (by rw [k2, set_as_put k3]; rfl) (by simp; omega) hh
    split at h
    · rename_i z hz
      have hzz := hy.okay (by rw [hz]; simp)
      have hzv := hy.eq (by rw [hz]; simp)
      rw [hz] at hzz hzv
      exact one z hzv hzz.1 h
    · rename_i hz
      have hzv := hy.eq (by rw [hz]; simp)
      rw [hz] at hzv
      exact one _ hzv rfl h
    · rename_i hz
      have hzv := hy.eq (by rw [hz]; simp)
      rw [hz] at hzv
      exact one _ hzv rfl h
    · rename_i v hz
      have hzz := hy.okay (by rw [hz]; simp)
      have hzv := hy.eq (by rw [hz]; simp)
      rw [hz] at hzz hzv
      cases hb : Nat.beq i.size (LB.size v) with
      | false => simp [hb] at h
      | true =>
        have hsz := Nat.eq_of_beq_eq_true hb
        simp only [hb, cond_true] at h
        split at h
        · rename_i d hset
          obtain ⟨k1, k2, k3⟩ := LB.putW_spec hok hzz.1 hset
          exact loc hd' off t' c d (LB.cells v) hc ex (by rw [hzv]; rfl) (by rw [LB.cells_length hzz.1, hsz]) (LB.cells_one hzz.1) k1 k2 k3 h
        · exact h.elim
    · exact h.elim
  · rename_i hd' off e he
    rw [he] at hx
    have ex := hx.eq (by simp)
    simp only [conc] at ex
    split at h
    · exact h.elim
    rename_i t' c hc
    rw [nth_eq] at hc
    obtain ⟨_, hok, _, _⟩ := hr.locs hd' t' c hc
    have one : ∀ z, a.eval yo = z → z.oneCell' = true → (bif Nat.beq i.size 1 then LB.dset c off e z (fun d => K .un (s.L.set hd' (t', d)) s.m x') else False) → o.wp P a W (NPost nt D m0 W0 ρ s a W o.dst keep K) Q := by
      intro z hz h1 hh
      cases hb : Nat.beq i.size 1 with
      | false => simp [hb] at hh
      | true =>
        have hsz := Nat.eq_of_beq_eq_true hb
        simp only [hb, cond_true] at hh
        obtain ⟨d, hk, k1, k2, k3⟩ := LB.dset_spec hok h1 hh
        exact loc hd' (off + e) t' c d [z] hc ex (by rw [hz]; exact cells_one h1) hsz.symm (by simpa using h1) k1 (by rw [k2, set_as_put k3]; rfl) (by simp; omega) hk
    split at h
    · rename_i z hz
      have hzz := hy.okay (by rw [hz]; simp)
      have hzv := hy.eq (by rw [hz]; simp)
      rw [hz] at hzz hzv
      exact one z hzv hzz.1 h
    · rename_i hz
      have hzv := hy.eq (by rw [hz]; simp)
      rw [hz] at hzv
      exact one _ hzv rfl h
    · rename_i hz
      have hzv := hy.eq (by rw [hz]; simp)
      rw [hz] at hzv
      exact one _ hzv rfl h
    · rename_i v hz
      have hzz := hy.okay (by rw [hz]; simp)
      have hzv := hy.eq (by rw [hz]; simp)
      rw [hz] at hzz hzv
      cases hb : Nat.beq i.size (LB.size v) with
      | false => simp [hb] at h
      | true =>
        have hsz := Nat.eq_of_beq_eq_true hb
        simp only [hb, cond_true] at h
        obtain ⟨d, hk, k1, k2, k3⟩ := LB.dput_spec hok hzz.1 h
        exact loc hd' (off + e) t' c d (LB.cells v) hc ex (by rw [hzv]; rfl) (by rw [LB.cells_length hzz.1, hsz]) (LB.cells_one hzz.1) k1 k2 k3 hk
    · exact h.elim
  · rename_i b off he
    rw [he] at hx
    have ex := hx.eq (by simp)
    simp only [conc, CV.val] at ex
    have one : ∀ z, a.eval yo = z → z.oneCell' = true → (bif Nat.beq i.size 1 then (∃ arr t' fr, s.m b = some (.cells arr t' fr) ∧ (off < arr.size ∧ ¬ (fr.1 ≤ off ∧ off < fr.2)) ∧ K .un s.L (s.m.set b (.cells (arr.setIfInBounds off z) t' fr)) x') else False) → o.wp P a W (NPost nt D m0 W0 ρ s a W o.dst keep K) Q := by
      intro z hz h1 hh
      cases hb : Nat.beq i.size 1 with
      | false => simp [hb] at hh
      | true =>
        have hsz := Nat.eq_of_beq_eq_true hb
        simp only [hb, cond_true] at hh
        obtain ⟨arr, t', fr, hm, ⟨k1, k2⟩, hk⟩ := hh
        exact ext b off arr t' fr [z] _ hm ex (by rw [hz]; exact cells_one h1) hsz.symm (by simpa using h1) (by intro h; rw [he]; exact ⟨rfl, rfl⟩) (by simp; omega) (by intro j hj; simp at hj; subst hj; simpa using k2) (set1 arr off z k1) hk
    split at h
    · rename_i z hz
      have hzz := hy.okay (by rw [hz]; simp)
      have hzv := hy.eq (by rw [hz]; simp)
      rw [hz] at hzz hzv
      exact one z hzv hzz.1 h
    · rename_i hz
      have hzv := hy.eq (by rw [hz]; simp)
      rw [hz] at hzv
      exact one _ hzv rfl h
    · rename_i hz
      have hzv := hy.eq (by rw [hz]; simp)
      rw [hz] at hzv
      exact one _ hzv rfl h
    · rename_i v hz
      have hzz := hy.okay (by rw [hz]; simp)
      have hzv := hy.eq (by rw [hz]; simp)
      rw [hz] at hzz hzv
      have hlv := LB.cells_length hzz.1
      cases hb : Nat.beq i.size (LB.size v) with
      | false => simp [hb] at h
      | true =>
        have hsz := Nat.eq_of_beq_eq_true hb
        simp only [hb, cond_true] at h
        obtain ⟨arr, t', fr, hm, ⟨k1, k2⟩, hk⟩ := h
        exact ext b off arr t' fr (LB.cells v) _ hm ex (by rw [hzv]; rfl) (by rw [hlv, hsz]) (LB.cells_one hzz.1) (by intro h; rw [he]; exact ⟨rfl, rfl⟩) (by rw [hlv]; exact k1) (by rw [hlv]; exact k2) (by rw [hlv]) hk
    · exact h.elim
  · exact h.elim

theorem closed_spec (hr : Rel nt D m0 W0 ρ s a W) : ∀ {l : List Operand} {cs : List CV}, closed (l.map (ev s)) = some cs → l.map a.eval = cs.map CV.val ∧ ∀ x ∈ cs, x.ok
  | [], cs, h => by simp only [List.map_nil, closed, Option.some.injEq] at h; subst h; simp
  | x :: l, cs, h => by
    have hf := hr.fits x
    simp only [List.map_cons] at h
    unfold closed at h
    split at h
    · rename_i heq; simp at heq
    all_goals first
      | (simp at h; done)
      | (rename_i heq
         simp only [List.cons.injEq] at heq
         obtain ⟨e1, e2⟩ := heq
         rw [← e2] at h
         split at h
         · rename_i l' hl'
           simp only [Option.some.injEq] at h
           subst h
           have ih := closed_spec hr hl'
           have hv := hf.eq (by rw [e1]; simp)
           have hk := (hf.okay (by rw [e1]; simp)).1
           rw [e1] at hv hk
           refine ⟨by simp only [List.map_cons, ih.1, hv]; rfl, ?_⟩
           intro y hy
           rcases List.mem_cons.1 hy with rfl | hy
           · first | exact hk | rfl
           · exact ih.2 y hy
         · simp at h)

theorem zip_unzip (f : Operand → Value) : ∀ (l : List (Nat × Operand)), ((l.map (·.1)).zip ((l.map (·.2)).map f)) = l.map fun (i, x) => (i, f x)
  | [] => rfl
  | (i, x) :: l => by simp only [List.map_cons, List.zip_cons_cons, zip_unzip f l]
theorem prim_exec {o : Oper} {p : Prim} {xs : List Operand} (h : primOf o.op = some (p, xs)) : execOp a.eval o = (do let v ← p.run o.type (xs.map a.eval); if p.unit then pure .skip else pure (.value v)) := by
  unfold primOf at h
  split at h
  all_goals first
    | (simp at h; done)
    | skip
  · rename_i t len parts hop
    simp only [Option.some.injEq, Prod.mk.injEq] at h
    obtain ⟨rfl, rfl⟩ := h
    simp only [execOp, hop, Prim.run, Prim.unit, Bool.false_eq_true, if_false]
    have : ((parts.toList.map (·.1)).zip ((parts.toList.map (·.2)).map a.eval)).toArray = parts.map fun (i, x) => (i, a.eval x) := by
      apply Array.ext'
      rw [zip_unzip]; simp
    rw [this]
  · rename_i t l c hop
    simp only [Option.some.injEq, Prod.mk.injEq] at h
    obtain ⟨rfl, rfl⟩ := h
    simp [execOp, hop, Prim.run, Prim.unit]
  · rename_i b args ats hop
    split at h
    all_goals first
      | (simp at h; done)
      | (simp only [Option.some.injEq, Prod.mk.injEq] at h
         obtain ⟨rfl, rfl⟩ := h
         simp only [execOp, hop, resolve, pure_bind, invoke, builtin, Prim.run, Prim.unit, Bool.false_eq_true, if_false]
         have e1 : ((args.toList.map a.eval)).toArray = args.map a.eval := by apply Array.ext'; simp
         have e2 : ats.toList.toArray = ats := by simp
         rw [e1, e2])
  · rename_i s' d x hop
    simp only [Option.some.injEq, Prod.mk.injEq] at h
    obtain ⟨rfl, rfl⟩ := h
    simp [execOp, hop, Prim.run, Prim.unit]
  · rename_i t r hop
    simp only [Option.some.injEq, Prod.mk.injEq] at h
    obtain ⟨rfl, rfl⟩ := h
    cases r <;> simp [execOp, hop, Prim.run, Prim.unit]
  · rename_i t x k ok hop
    simp only [Option.some.injEq, Prod.mk.injEq] at h
    obtain ⟨rfl, rfl⟩ := h
    simp [execOp, hop, Prim.run, Prim.unit]
  · rename_i t x hop
    simp only [Option.some.injEq, Prod.mk.injEq] at h
    obtain ⟨rfl, rfl⟩ := h
    simp [execOp, hop, Prim.run, Prim.unit]
  · rename_i fn first captured hop
    simp only [Option.some.injEq, Prod.mk.injEq] at h
    obtain ⟨rfl, rfl⟩ := h
    have e1 : ((first.toList ++ captured.toList).map a.eval).take first.size = (first.map a.eval).toList := by simp
    have e2 : ((first.toList ++ captured.toList).map a.eval).drop first.size = (captured.map a.eval).toList := by simp
    simp only [execOp, hop, Prim.run, Prim.unit, Bool.false_eq_true, if_false, e1, e2]
  · rename_i t m' k x hop
    simp only [Option.some.injEq, Prod.mk.injEq] at h
    obtain ⟨rfl, rfl⟩ := h
    simp [execOp, hop, Prim.run, Prim.unit]
  · rename_i t m' k x hop
    simp only [Option.some.injEq, Prod.mk.injEq] at h
    obtain ⟨rfl, rfl⟩ := h
    simp [execOp, hop, Prim.run, Prim.unit]

theorem nval_spec (hT : TabOk P T) (hr : Rel nt D m0 W0 ρ s a W) {o : Oper} (hd : dstIn o.dst a.tmps.size) {ext : Bool} {keep : Kp} {K : SV → Loc → Mem → List Nat → Prop}
    (h : nval P T s o.op ext keep K) : o.wp P a W (NPost nt D m0 W0 ρ s a W o.dst keep K) Q := by
  have box : ∀ (t : TypeId) (v : Value) (c : LB), v.cells = (LB.cells c).toArray → LB.ok c → (∀ w, (execOp a.eval o).run P w = ((newVar t v).run P w).andThen fun ad w' => .ok (.value (.pointer (some ad))) w') →
      nNew s t c ext K → o.wp P a W (NPost nt D m0 W0 ρ s a W o.dst keep K) Q := by
    intro t v c hv hc hrun hk
    unfold Oper.wp
    have : (execOp a.eval o).run P W = .ok (.value (.pointer (some ⟨W.heap.size, 0, none⟩))) (W.alloc (.cells (LB.cells c).toArray t)) := by
      rw [hrun]; simp [newVar, newRow, newObj, hv, Sem.run]
    rw [this]
    cases ext with
    | false => exact ⟨_, _, _, _, [W.heap.size], hk, hr.newLocal hd t hc, keep_pres hr _ keep, outs_alloc _ _ _ (by simp), _, rfl⟩
    | true =>
      have := hk W.heap.size (hr.after.over.none (Nat.le_refl _))
      refine ⟨_, _, _, _, [], this, ?_, keep_pres hr _ keep, outs_known _ _, _, rfl⟩
      rw [List.append_nil]
      exact hr.newKnown hd _ rfl
  -- what is known behind something that keeps to what it knows
  have aft : ∀ (sv : SV) (v : Value) (m' : Mem) (W' : World) (x' : List Nat), After s.m W m' W' → sv.ok → sv.under ρ.length → v = conc ρ sv → Kept x' s.m m' → (∀ b ∈ x', b ∈ s.x) → (keep = .none ∨ (keep = .all ∧ x' = s.x)) → K sv s.L m' x' → NPost nt D m0 W0 ρ s a W o.dst keep K (a.put o.dst v) W' := by
    intro sv v m' W' x' haft hok hu hv hk2 hx' hkeep hk3
    have hlocs : ∀ b, b ∈ ρ → m' b = none ∧ W'.heap[b]? = W.heap[b]? := by
      intro b hb
      obtain ⟨i, hi, rfl⟩ := mem_getD hb
      obtain ⟨g1, g2, g3⟩ := hr.out hi
      exact haft.frame _ g3 g1
    refine ⟨_, _, _, _, [], hk3, ⟨?_, ?_, ?_, ?_, ?_, ?_, ?_, ?_⟩, ?_, fun b hb hm _ => ⟨(haft.frame b hb hm).2, (haft.frame b hb hm).1, by simp⟩, _, rfl⟩
    · rw [Act.put_defers_eq]; exact hr.defers
    · rw [Act.put_size]; exact hr.size
    · exact hr.putSlots hd (.inr ⟨hok, by simpa using hu⟩) _ (.inr (by rw [hv, List.append_nil]))
    · simpa using hr.len
    · intro h' t c hh
      have hlt : h' < ρ.length := by rw [hr.len]; exact (List.getElem?_eq_some_iff.1 hh).1
      obtain ⟨k1, k2, k3, k4⟩ := hr.locs h' t c hh
      obtain ⟨g1, g2⟩ := hlocs _ (getD_mem hlt)
      rw [List.append_nil]
      exact ⟨g2.trans k1, k2, g1, k4⟩
    · simpa using hr.nodup
    · exact hr.after.trans haft
    · intro b hb
      show ∃ ob, m' b = some ob
      rw [hk2 b hb]; exact hr.seen b (hx' b hb)
    · rcases hkeep with rfl | ⟨rfl, rfl⟩
      · trivial
      · refine ⟨fun b hb => ?_, fun _ hb => hb⟩
        rcases hb with hb | hb
        · exact (hlocs b hb).2
        · have := hk2 b hb
          obtain ⟨ob, hob⟩ := hr.seen b hb
          rw [hr.after.over b ob hob]
          exact haft.over b ob (this.trans hob)
  have call : ∀ (f : FuncId) (cs : List CV) (R : List CV → Mem → Prop), Spec P f cs s.m R → (∀ x ∈ cs, x.ok) → (execOp a.eval o).run P W = .ok (.enter f (cs.map CV.val).toArray) W → ∀ (x' : List Nat), (∀ b ∈ x', b ∈ s.x) → (∀ r m', R r m' → Kept x' s.m m' ∧ K (resSV r) s.L m' x') → (keep = .none ∨ (keep = .all ∧ x' = s.x)) → o.wp P a W (NPost nt D m0 W0 ρ s a W o.dst keep K) Q := by
    intro f cs R ⟨_, hspec⟩ c2 hrun x' hx' hR hkeep
    unfold Oper.wp
    rw [hrun]
    refine (hspec c2 W hr.after.over).mono fun e W' he => ?_
    obtain ⟨r, m', rfl, hok, hRr, haft⟩ := he
    obtain ⟨hk2, hk3⟩ := hR r m' hRr
    exact aft (resSV r) _ m' W' x' haft (resSV_ok hok) (resSV_under _ _) (conc_resSV _ _).symm hk2 hx' hkeep hk3
  have prim : ∀ (p : Prim) (xs : List Operand), primOf o.op = some (p, xs) → ∀ (cs : List CV), xs.map a.eval = cs.map CV.val → ∀ (R : List CV → Mem → Prop), PrimSpec P p cs s.m R → (∀ x ∈ cs, x.ok) → ∀ (x' : List Nat), (∀ b ∈ x', b ∈ s.x) → (∀ r m', R r m' → Kept x' s.m m' ∧ K (primSV p r) s.L m' x') → (keep = .none ∨ (keep = .all ∧ x' = s.x)) → o.wp P a W (NPost nt D m0 W0 ρ s a W o.dst keep K) Q := by
    intro p xs hp cs c1 R hs c2 x' hx' hR hkeep
    obtain ⟨r, m', W', hrun, hok, hRr, haft⟩ := hs c2 o.type W hr.after.over
    obtain ⟨hk2, hk3⟩ := hR r m' hRr
    unfold Oper.wp
    have hx := prim_exec (a := a) hp
    rw [c1] at hx
    rw [hx]
    unfold primSV at hk3
    cases hu : p.unit with
    | true =>
      simp only [hu, cond_true] at hk3
      simp only [Sem.run_bind, hrun, Result.andThen_ok, if_true, Sem.run_pure]
      exact aft .un undef m' W' x' haft trivial trivial rfl hk2 hx' hkeep hk3
    | false =>
      simp only [hu, cond_false] at hk3
      simp only [Sem.run_bind, hrun, Result.andThen_ok, Bool.false_eq_true, if_false, Sem.run_pure]
      exact aft (resSV r) _ m' W' x' haft (resSV_ok hok) (resSV_under _ _) (conc_resSV _ _).symm hk2 hx' hkeep hk3
  unfold nval at h
  split at h
  · rename_i t hop
    split at h
    · rename_i i hi
      obtain ⟨z, hz1, hz2⟩ := (hT t i hi).run_zero
      refine box t z i.zero hz1 (hT t i hi).zok (fun w => ?_) h
      simp [execOp, hop, Instr.alloc, hz2]
    · exact h.elim
  · rename_i t y hop
    have hy := hr.fits y
    split at h
    · rename_i c hc
      have hv := hy.eq (by rw [hc]; simp)
      have hk := (hy.okay (by rw [hc]; simp)).1
      rw [hc] at hv hk
      refine box t (a.eval y) c (by rw [hv]; rfl) hk (fun w => ?_) h
      simp [execOp, hop, Instr.box]
    · rename_i z hc
      have hv := hy.eq (by rw [hc]; simp)
      have hk := (hy.okay (by rw [hc]; simp)).1
      rw [hc] at hv hk
      refine box t (a.eval y) [.one z] (by rw [hv]; exact cells_one hk) ⟨hk, trivial⟩ (fun w => ?_) h
      simp [execOp, hop, Instr.box]
    · rename_i hc
      have hv := hy.eq (by rw [hc]; simp)
      rw [hc] at hv
      refine box t (a.eval y) [.one (.bool true)] (by rw [hv]; rfl) ⟨rfl, trivial⟩ (fun w => ?_) h
      simp [execOp, hop, Instr.box]
    · rename_i hc
      have hv := hy.eq (by rw [hc]; simp)
      rw [hc] at hv
      refine box t (a.eval y) [.one (.bool false)] (by rw [hv]; rfl) ⟨rfl, trivial⟩ (fun w => ?_) h
      simp [execOp, hop, Instr.box]
    · exact h.elim
  · rename_i t x y hop
    split at h
    · exact h.elim
    · exact nStore_spec hT hr hd hop (.inl ⟨rfl, rfl⟩) h
    · rename_i hh
      cases hat : atHandle hh (ev s x) with
      | false => simp [hat] at h
      | true =>
        simp only [hat, cond_true] at h
        exact nStore_spec hT hr hd hop (.inr (.inl ⟨hh, rfl, rfl, hat⟩)) h
    · rename_i hh
      cases hat : newHandle hh (ev s x) with
      | false => simp [hat] at h
      | true =>
        simp only [hat, cond_true] at h
        exact nStore_spec hT hr hd hop (.inr (.inr ⟨hh, rfl, rfl, hat⟩)) h
  · rename_i f args ats hop
    split at h
    · exact h.elim
    rename_i cs hcs
    obtain ⟨c1, c2⟩ := closed_spec hr hcs
    have hargs : args.map a.eval = (cs.map CV.val).toArray := by
      apply Array.ext'; simp [c1]
    have hrun : ∀ R, Spec P f cs s.m R → (execOp a.eval o).run P W = .ok (.enter f (cs.map CV.val).toArray) W := by
      intro R hs
      simp [execOp, hop, resolve, Act.eval, Deferred.ofValue, invoke, hargs]
      exact hs.1 _ W
    split at h
    · obtain ⟨R, hs, hR⟩ := h
      exact call f cs R hs c2 (hrun R hs) s.x (fun _ hb => hb) hR (.inr ⟨rfl, rfl⟩)
    · obtain ⟨R, hs, hR⟩ := h
      exact call f cs R hs c2 (hrun R hs) [] (by simp) (fun r m' hRr => ⟨(by intro b hb; cases hb), hR r m' hRr⟩) (.inl rfl)
    · exact h.elim
    · exact h.elim
  · rename_i t args ats hop
    split at h
    · rename_i f first captured hfr
      cases hone : (allOne first.toList && allOne captured.toList) with
      | false => simp [hone] at h
      | true =>
      simp only [hone, cond_true] at h
      simp only [Bool.and_eq_true] at hone
      split at h
      · exact h.elim
      rename_i cs hcs
      obtain ⟨c1, c2⟩ := closed_spec hr hcs
      have hf := hr.fits (.tmp t)
      simp only [ev, hfr] at hf
      have hfv := hf.eq (by simp)
      have hfk := (hf.okay (by simp)).1
      simp only [conc, CV.val] at hfv
      have hall : ∀ x ∈ first.toList.map CV.v ++ cs ++ captured.toList.map CV.v, x.ok := by
        intro x hx
        rcases List.mem_append.1 hx with hx | hx
        · rcases List.mem_append.1 hx with hx | hx
          · obtain ⟨y, hy, rfl⟩ := List.mem_map.1 hx
            exact allOne_spec hone.1 y hy
          · exact c2 x hx
        · obtain ⟨y, hy, rfl⟩ := List.mem_map.1 hx
          exact allOne_spec hone.2 y hy
      have hargs : (args.map a.eval).toList = cs.map CV.val := by simp [c1]
      have hvs : (first.toList.map CV.v ++ cs ++ captured.toList.map CV.v).map CV.val = first.toList ++ (args.map a.eval).toList ++ captured.toList := by
        simp [CV.val, Function.comp_def]
        exact c1.symm
      have hrun : ∀ R, Spec P f (first.toList.map CV.v ++ cs ++ captured.toList.map CV.v) s.m R → (execOp a.eval o).run P W = .ok (.enter f ((first.toList.map CV.v ++ cs ++ captured.toList.map CV.v).map CV.val).toArray) W := by
        intro R hs
        rw [hvs]
        have : (first.toList ++ (args.map a.eval).toList ++ captured.toList).toArray = first ++ args.map a.eval ++ captured := by
          apply Array.ext'; simp
        rw [this]
        simp only [execOp, hop, resolve, hfv, Deferred.ofValue, invoke, Sem.run_bind, Sem.run_pure, Result.andThen_ok]
        exact hs.1 _ W
      split at h
      · obtain ⟨R, hs, hR⟩ := h
        exact call f _ R hs hall (hrun R hs) s.x (fun _ hb => hb) hR (.inr ⟨rfl, rfl⟩)
      · obtain ⟨R, hs, hR⟩ := h
        exact call f _ R hs hall (hrun R hs) [] (by simp) (fun r m' hRr => ⟨(by intro b hb; cases hb), hR r m' hRr⟩) (.inl rfl)
      · exact h.elim
      · exact h.elim
    · exact h.elim
  · split at h
    · exact h.elim
    rename_i p xs hp
    split at h
    · exact h.elim
    rename_i cs hcs
    obtain ⟨c1, c2⟩ := closed_spec hr hcs
    split at h
    · obtain ⟨R, hs, hR⟩ := h
      exact prim p xs hp cs c1 R hs c2 s.x (fun _ hb => hb) hR (.inr ⟨rfl, rfl⟩)
    · obtain ⟨R, hs, hR⟩ := h
      exact prim p xs hp cs c1 R hs c2 [] (by simp) (fun r m' hRr => ⟨(by intro b hb; cases hb), hR r m' hRr⟩) (.inl rfl)
    · exact h.elim
    · exact h.elim
#print axioms nval_spec
end
end Go.E
