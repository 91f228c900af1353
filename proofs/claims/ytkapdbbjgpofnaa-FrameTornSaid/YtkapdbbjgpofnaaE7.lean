/-
  Loads, addresses, parts, literals and slices: they yield what was said; and so every operation that only reckons and reads.
-/
import Derived.Test.YtkapdbbjgpofnaaE6
import Derived.Laws.BytesString
namespace Go.E
section
variable {P : Program} {T : Tab} {nt : Nat} {D : List Deferred} {m0 : Mem} {W0 : World} {ρ : List Nat} {s : St} {a : Act} {W : World}

theorem load_one {t : TypeId} {i : TI} (hi : TOk P t i) (ha : i.k.agg = false) {xo : Operand} {b off : Nat} {arr : Array Value} {t' : TypeId} {fr : Nat × Nat} {B : List Nat} {y : Value}
    (hx : a.eval xo = .pointer (some ⟨b, off, none⟩)) (hb : b ∈ B) (hW : W.heap[b]? = some (.cells arr t' fr)) (hy : arr[off]? = some y) : Yld P a (.load t xo) B W y := by
  intro o ho W' hs
  have := run_load_one (P := P) hi ha ((hs b hb).trans hW) hy
  simp [execOp, ho, hx, Instr.loadAt, Instr.sureAddr, this]
theorem load_many {t : TypeId} {i : TI} (hi : TOk P t i) (ha : i.k.agg = true) {xo : Operand} {b off : Nat} {arr : Array Value} {t' : TypeId} {fr : Nat × Nat} {B : List Nat} {l : List Value}
    (hx : a.eval xo = .pointer (some ⟨b, off, none⟩)) (hb : b ∈ B) (hW : W.heap[b]? = some (.cells arr t' fr)) (hl : l.length = i.size) (hy : ∀ j v, l[j]? = some v → arr[off + j]? = some v) : Yld P a (.load t xo) B W (.agg l.toArray) := by
  intro o ho W' hs
  have := run_load_many (P := P) hi ha ((hs b hb).trans hW) hl hy
  simp [execOp, ho, hx, Instr.loadAt, Instr.sureAddr, this]

theorem getD_mem {ρ : List Nat} {h : Nat} (hh : h < ρ.length) : ρ.getD h 0 ∈ ρ := by
  simp only [List.getD_eq_getElem?_getD, List.getElem?_eq_getElem hh, Option.getD_some]
  exact List.getElem_mem _

/-- the block to which an address leads -/
def blkOf (ρ : List Nat) : SV → Option Nat
  | .p h _ => some (ρ.getD h 0)
  | .q h _ _ => some (ρ.getD h 0)
  | .c (.v (.pointer (some ad))) => some ad.block
  | .c (.v (.slice (some ad) _ _)) => some ad.block
  | .sl h _ _ _ _ => some (ρ.getD h 0)
  | _ => none

theorem strConv_spec (hT : TabOk P T) {src dst : TypeId} (h : strConv T src dst = true) : ∃ e, P.underlying src = some (.slice e) ∧ P.underlying e = some (.int .u8) ∧ P.underlying dst = some .string := by
  unfold strConv at h
  split at h
  · rename_i i j hi hj
    split at h
    · rename_i e hk1 hk2
      split at h
      · rename_i ei hei
        split at h
        · rename_i hk3
          obtain ⟨d1, q1, q2⟩ := (hT src i hi).desc
          obtain ⟨d2, r1, r2⟩ := (hT dst j hj).desc
          obtain ⟨d3, s1, s2⟩ := (hT e ei hei).desc
          rw [hk1] at q2; rw [hk2] at r2; rw [hk3] at s2
          refine ⟨e, ?_, ?_, ?_⟩
          · rw [q1]; cases d1 <;> simp [TK.of] at q2; rw [q2]
          · rw [s1]; cases d3 <;> simp [TK.of] at s2; rw [s2]
          · rw [r1]; cases d2 <;> simp [TK.of] at r2; rfl
        · cases h
      · cases h
    · cases h
  · cases h
theorem str_run {src dst e : TypeId} (hs : P.underlying src = some (.slice e)) (he : P.underlying e = some (.int .u8)) (hd : P.underlying dst = some .string) {w : World} {b off n c : Nat} {arr : Array Value} {t' : TypeId} {fr : Nat × Nat}
    (hb : w.heap[b]? = some (.cells arr t' fr)) {ns : List Int} (hn : ns.length = n) (hj : ∀ j v, (ns.map (Value.int .u8))[j]? = some v → arr[off + j]? = some v) :
    (convert src dst (.slice (some ⟨b, off, none⟩) n c)).run P w = .ok (.string (strOf ns)) w := by
  rw [run_convert_bytes_string w src dst e _ _ _ hs he hd]
  have h1 := run_loadCells_list (P := P) w ⟨b, off, none⟩ (ns.map (Value.int .u8)) (fun j v hv => by rw [add_none, cell_at hb]; exact hj j v hv)
  rw [List.length_map, hn] at h1
  exact run_bytesToString w _ n c ns h1
theorem fStr_spec (hT : TabOk P T) (hr : Rel nt D m0 W0 ρ s a W) {src dst : TypeId} (hc : strConv T src dst = true) {xo : Operand} {x : SV} {K : SV → List Nat → Prop} (hx : Fits ρ x (a.eval xo)) (h : fStr s.L s.m x K) :
    ∃ sv bs v B, K sv bs ∧ Fits ρ sv v ∧ (∀ b ∈ bs, ∃ o, s.m b = some o) ∧ (∀ b ∈ B, (b ∈ ρ ∨ b ∈ bs) ∧ blkOf ρ x = some b ∧ ∀ y, x = .c y → ∃ o, s.m b = some o) ∧ Yld P a (.convert src dst xo) B W v := by
  obtain ⟨e, hs, he, hd⟩ := strConv_spec hT hc
  unfold fStr at h
  split at h
  · rename_i n c
    have ex := hx.eq (by simp)
    simp only [conc, CV.val] at ex
    refine ⟨_, [], _, [], h, .v rfl, by simp, by simp, fun o ho W' _ => ?_⟩
    simp only [execOp, ho, ex, Sem.run_bind]
    rw [run_convert_bytes_string W' src dst e _ _ _ hs he hd]
    simp [Conv.bytesToString, Sem.run_pure]
  · rename_i b off n c
    have ex := hx.eq (by simp)
    simp only [conc, CV.val] at ex
    obtain ⟨ns, hn, ⟨arr, t', fr, hm, hj⟩, hk⟩ := h
    refine ⟨_, [b], _, [b], hk, .v rfl, by simp [hm], ?_, fun o ho W' hW' => ?_⟩
    · intro b' hb'
      have : b' = b := by simpa using hb'
      subst this
      exact ⟨.inr (by simp), rfl, fun _ _ => ⟨_, hm⟩⟩
    · simp only [execOp, ho, ex, Sem.run_bind]
      rw [str_run hs he hd ((hW' b (by simp)).trans (hr.after.over _ _ hm)) hn hj]
      simp [Sem.run_pure]
  · rename_i hh off d n c
    split at h
    · exact h.elim
    · rename_i t' cc hL
      have ex := hx.eq (by simp)
      have hu := (hx.okay (by simp)).2
      simp only [conc] at ex
      simp only [SV.under] at hu
      rw [nth_eq] at hL
      obtain ⟨k1, k2, k3, k4⟩ := hr.locs hh t' cc hL
      obtain ⟨ns, hn, hj, hk⟩ := h
      refine ⟨_, [], _, [ρ.getD hh 0], hk, .v rfl, by simp, ?_, fun o ho W' hW' => ?_⟩
      · intro b' hb'
        have : b' = ρ.getD hh 0 := by simpa using hb'
        subst this
        exact ⟨.inl (getD_mem hu), rfl, fun y hy => by cases hy⟩
      · simp only [execOp, ho, ex, Sem.run_bind]
        rw [str_run hs he hd ((hW' _ (by simp)).trans k1) hn (fun j v hv => by simpa using hj j v hv)]
        simp [Sem.run_pure]
  · exact h.elim

theorem fLoad_spec (hT : TabOk P T) (hr : Rel nt D m0 W0 ρ s a W) {t : TypeId} {xo : Operand} {x : SV} {K : SV → List Nat → Prop} (hx : Fits ρ x (a.eval xo)) (h : fLoad T s t x K) :
    ∃ sv bs v b, K sv bs ∧ Fits ρ sv v ∧ (∀ b ∈ bs, ∃ o, s.m b = some o) ∧ blkOf ρ x = some b ∧ (b ∈ ρ ∨ b ∈ bs) ∧ (∀ y, x = .c y → ∃ o, s.m b = some o) ∧ Yld P a (.load t xo) [b] W v := by
  unfold fLoad at h
  split at h
  · exact h.elim
  rename_i i hi
  have hti := hT t i hi
  split at h
  · rename_i hd off
    have ex := hx.eq (by simp)
    have eo := (hx.okay (by simp)).2
    simp only [SV.under] at eo
    simp only [conc] at ex
    split at h
    · exact h.elim
    rename_i t' c hc
    rw [nth_eq] at hc
    obtain ⟨hW, hok, hn, _⟩ := hr.locs hd t' c hc
    split at h
    · rename_i hagg
      split at h
      · rename_i d hd'
        obtain ⟨h1, h2, h3⟩ := LB.sub_spec hok hd'
        refine ⟨_, [], _, _, h, .mk h1 trivial, by simp, rfl, .inl (getD_mem eo), by simp, ?_⟩
        simp only [conc, CV.val]
        refine load_many hti hagg ex (by simp) hW h3 (fun j v hv => ?_)
        rw [h2, List.getElem?_take] at hv
        split at hv
        · rw [List.getElem?_drop] at hv; simpa using hv
        · simp at hv
      · exact h.elim
    · rename_i hagg
      split at h
      · rename_i y hy
        obtain ⟨h1, h2⟩ := LB.get_spec hok hy
        refine ⟨_, [], _, _, h, .v h2, by simp, rfl, .inl (getD_mem eo), by simp, ?_⟩
        exact load_one hti hagg ex (by simp) hW (by simpa using h1)
      · exact h.elim
  · rename_i hd off d
    have ex := hx.eq (by simp)
    have eo := (hx.okay (by simp)).2
    simp only [SV.under] at eo
    simp only [conc] at ex
    split at h
    · exact h.elim
    rename_i t' c hc
    rw [nth_eq] at hc
    obtain ⟨hW, hok, hn, _⟩ := hr.locs hd t' c hc
    split at h
    · rename_i hagg
      obtain ⟨e, hk, h1, h2, h3⟩ := LB.dsub_spec hok h
      refine ⟨_, [], _, _, hk, .mk h1 trivial, by simp, rfl, .inl (getD_mem eo), by simp, ?_⟩
      simp only [conc, CV.val]
      refine load_many hti hagg ex (by simp) hW h3 (fun j v hv => ?_)
      rw [h2, List.getElem?_take] at hv
      split at hv
      · rw [List.getElem?_drop] at hv; simpa using hv
      · simp at hv
    · rename_i hagg
      obtain ⟨y, hk, h1, h2⟩ := LB.dget_spec hok h
      refine ⟨_, [], _, _, hk, .v h2, by simp, rfl, .inl (getD_mem eo), by simp, ?_⟩
      exact load_one hti hagg ex (by simp) hW (by simpa using h1)
  · rename_i b off
    have ex := hx.eq (by simp)
    simp only [conc, CV.val] at ex
    split at h
    · rename_i hagg
      obtain ⟨c, h1, h2, ⟨arr, t', fr, hm, hj⟩, hk⟩ := h
      refine ⟨_, [b], _, _, hk, .mk h1 trivial, by simp [hm], rfl, .inr (by simp), fun _ _ => ⟨_, hm⟩, ?_⟩
      simp only [conc, CV.val]
      exact load_many hti hagg ex (by simp) (hr.after.over _ _ hm) (by rw [LB.cells_length h1, h2]) hj
    · rename_i hagg
      obtain ⟨y, hm, h1, hk⟩ := h
      unfold mcell at hm
      split at hm
      · rename_i arr t' fr hb
        refine ⟨_, [b], _, _, hk, .v h1, by simp [hb], rfl, .inr (by simp), fun _ _ => ⟨_, hb⟩, ?_⟩
        exact load_one hti hagg ex (by simp) (hr.after.over _ _ hb) hm
      · simp at hm
  · exact h.elim

theorem Yld.mono {op : Op} {B B' : List Nat} {v : Value} (h : Yld P a op B W v) (hs : ∀ b ∈ B, b ∈ B') : Yld P a op B' W v :=
  fun o ho W' hW => h o ho W' fun b hb => hW b (hs b hb)

theorem struct_desc {d : TypeDesc} {fs : List (Nat × TypeId)} (h : TK.of d = .struct fs) : ∃ gs : Array Field, d = .struct gs ∧ fs = gs.toList.map fun f => (f.offset, f.type) := by
  cases d <;> simp [TK.of] at h
  exact ⟨_, rfl, h.symm⟩
theorem array_desc {d : TypeDesc} {n : Nat} {e : TypeId} (h : TK.of d = .array n e) : d = .array n e := by
  cases d <;> simp [TK.of] at h
  obtain ⟨rfl, rfl⟩ := h; rfl
theorem slice_desc {d : TypeDesc} {e : TypeId} (h : TK.of d = .slice e) : d = .slice e := by
  cases d <;> simp [TK.of] at h
  subst h; rfl
theorem str_desc {d : TypeDesc} (h : TK.of d = .str) : d = .string := by
  cases d <;> simp [TK.of] at h
  rfl
theorem field_at {gs : Array Field} {f off : Nat} {ft : TypeId} (h : nth (gs.toList.map fun f => (f.offset, f.type)) f = some (off, ft)) : ∃ g, gs[f]? = some g ∧ g.offset = off ∧ g.type = ft := by
  rw [nth_eq, List.getElem?_map] at h
  cases hg : gs[f]? with
  | none => simp [hg] at h
  | some g => simp [hg] at h; exact ⟨g, rfl, h.1, h.2⟩

theorem run_part_one {t : TypeId} {i : TI} (hi : TOk P t i) (ha : i.k.agg = false) {arr : Array Value} {off : Nat} {y : Value} (hy : arr[off]? = some y) (w : World) : (part t arr off).run P w = .ok y w := by
  unfold part
  rw [Sem.run_bind, hi.run_isAgg, ha]
  simp [hy]
theorem run_part_many {t : TypeId} {i : TI} (hi : TOk P t i) (ha : i.k.agg = true) {arr : Array Value} {off : Nat} {l : List Value} (hy : l = (arr.toList.drop off).take i.size) (w : World) : (part t arr off).run P w = .ok (.agg l.toArray) w := by
  unfold part
  rw [Sem.run_bind, hi.run_isAgg, ha]
  simp only [Result.andThen_ok, if_true, Sem.run_bind, hi.run_sizeOf]
  have e : arr.extract off (off + i.size) = l.toArray := by
    rw [hy]
    apply Array.ext'
    simp [Array.toList_extract, List.extract_eq_take_drop]
  rw [e]; rfl

theorem fField_spec (hT : TabOk P T) {t : TypeId} {f : Nat} {xo : Operand} {x : SV} {K : SV → Prop} (hx : Fits ρ x (a.eval xo)) (h : fField T t x f K) : ∃ sv v, K sv ∧ Fits ρ sv v ∧ Yld P a (.field t xo f) [] W v := by
  unfold fField at h
  split at h
  · rename_i i hi
    obtain ⟨d, hdk, hdr⟩ := (hT t i hi).run_und
    split at h
    · rename_i fs c hk
      obtain ⟨gs, rfl, rfl⟩ := struct_desc (hdk.trans hk)
      have ex := hx.eq (by simp)
      have eo := (hx.okay (by simp)).1
      simp only [conc, CV.val] at ex
      split at h
      · rename_i off ft hn
        obtain ⟨g, hg, hg1, hg2⟩ := field_at hn
        split at h
        · rename_i fi hfi
          have hft := hT ft fi hfi
          split at h
          · rename_i hagg
            split at h
            · rename_i d hd
              obtain ⟨h1, h2, h3⟩ := LB.sub_spec eo hd
              refine ⟨_, _, h, .mk h1 trivial, fun o ho W' _ => ?_⟩
              have hp := run_part_many (P := P) hft hagg (arr := (LB.cells c).toArray) (off := off) (l := LB.cells d) (by simpa using h2) W'
              rw [← hg1, ← hg2] at hp
              simp [execOp, ho, ex, Instr.field, hdr, hg, asAgg, hp, conc, CV.val]
            · exact h.elim
          · rename_i hagg
            split at h
            · rename_i y hy
              obtain ⟨h1, h2⟩ := LB.get_spec eo hy
              refine ⟨_, _, h, .v h2, fun o ho W' _ => ?_⟩
              have hp := run_part_one (P := P) hft hagg (arr := (LB.cells c).toArray) (off := off) (y := y) (by simpa using h1) W'
              rw [← hg1, ← hg2] at hp
              simp [execOp, ho, ex, Instr.field, hdr, hg, asAgg, hp]
            · exact h.elim
        · exact h.elim
      · exact h.elim
    · exact h.elim
  · exact h.elim

theorem fFieldAddr_spec (hT : TabOk P T) {t : TypeId} {f : Nat} {xo : Operand} {x : SV} {K : SV → Prop} (hx : Fits ρ x (a.eval xo)) (h : fFieldAddr T t x f K) : ∃ sv v, K sv ∧ Fits ρ sv v ∧ Yld P a (.fieldAddr t xo f) [] W v := by
  unfold fFieldAddr at h
  split at h
  · rename_i i hi
    obtain ⟨d, hdk, hdr⟩ := (hT t i hi).run_und
    split at h
    · rename_i fs hk
      obtain ⟨gs, rfl, rfl⟩ := struct_desc (hdk.trans hk)
      split at h
      · rename_i off ft hn
        obtain ⟨g, hg, hg1, hg2⟩ := field_at hn
        split at h
        · rename_i fi hfi
          have hft := hT ft fi hfi
          cases hz : Nat.blt 0 fi.size with
          | false => simp [hz] at h
          | true =>
            have hz' : fi.size ≠ 0 := by have := blt_lt.1 hz; omega
            simp only [hz, cond_true] at h
            have fin : ∀ b o', a.eval xo = .pointer (some ⟨b, o', none⟩) → Yld P a (.fieldAddr t xo f) [] W (.pointer (some ⟨b, o' + off, none⟩)) := by
              intro b o' he o ho W' _
              simp [execOp, ho, he, Instr.fieldAt, hdr, hg, Instr.sureAddr, fieldPlace, hg2, hft.run_sizeOf, hz', hg1, add_none]
            split at h
            · have ex := hx.eq (by simp)
              have eo := (hx.okay (by simp)).2
              exact ⟨_, _, h, .mk trivial eo, fin _ _ ex⟩
            · have ex := hx.eq (by simp)
              have eo := (hx.okay (by simp)).2
              refine ⟨_, _, h, .mk trivial eo, ?_⟩
              have := fin _ _ ex
              simp only [conc]
              rwa [Nat.add_assoc] at this
            · have ex := hx.eq (by simp)
              exact ⟨_, _, h, .v rfl, fin _ _ ex⟩
            · exact h.elim
        · exact h.elim
      · exact h.elim
    · exact h.elim
  · exact h.elim

theorem constIx_spec {io : Operand} {n z j : Nat} (h : constIx io n z = some j) : ∃ k i, a.eval io = .int k (Int.ofNat i) ∧ i < n ∧ j = i * z := by
  cases io with
  | const v =>
    cases v with
    | int k i =>
      cases i with
      | ofNat i =>
        simp only [constIx] at h
        cases hb : Nat.blt i n with
        | false => simp [hb] at h
        | true =>
          simp only [hb, cond_true, Option.some.injEq] at h
          exact ⟨k, i, rfl, blt_lt.1 hb, h.symm⟩
      | negSucc i => simp [constIx] at h
    | _ => simp [constIx] at h
  | _ => simp [constIx] at h

theorem fIndexAddr_spec (hT : TabOk P T) {t : TypeId} {xo io : Operand} {x i : SV} {K : SV → Prop} (hx : Fits ρ x (a.eval xo)) (hi : Fits ρ i (a.eval io)) (h : fIndexAddr T t io x i K) : ∃ sv v, K sv ∧ Fits ρ sv v ∧ Yld P a (.indexAddr t xo io) [] W v := by
  unfold fIndexAddr at h
  split at h
  · exact h.elim
  rename_i ti hti
  obtain ⟨d, hdk, hdr⟩ := (hT t ti hti).run_und
  split at h
  · rename_i n e hk
    have hd := array_desc (hdk.trans hk); subst hd
    split at h
    · exact h.elim
    rename_i ei hei
    have he := hT e ei hei
    have fin : ∀ b o' k j, a.eval xo = .pointer (some ⟨b, o', none⟩) → a.eval io = .int k j → 0 ≤ j → j < n → Yld P a (.indexAddr t xo io) [] W (.pointer (some ⟨b, o' + j.toNat * ei.size, none⟩)) := by
      intro b o' k j h1 h2 h3 h4 o ho W' _
      simp [execOp, ho, h1, h2, Instr.indexAt, asIntOf, hdr, Instr.sureAddr, h3, h4, he.run_sizeOf, add_none]
    split at h
    · have ex := hx.eq (by simp)
      have eo := (hx.okay (by simp)).2
      simp only [conc] at ex
      split at h
      · rename_i j hj
        obtain ⟨k, i', h1, h2, h3⟩ := constIx_spec (a := a) hj
        refine ⟨_, _, h, .mk trivial eo, ?_⟩
        have := fin _ _ k (Int.ofNat i') ex h1 (Int.natCast_nonneg _) (Int.ofNat_lt.2 h2)
        subst h3
        exact this
      · split at h
        · rename_i k j
          have ei' := hi.eq (by simp)
          refine ⟨_, _, h.2, .mk trivial eo, ?_⟩
          have := fin _ _ k j ex ei' h.1.1 h.1.2
          simpa [conc, times_eq] using this
        · exact h.elim
    · have ex := hx.eq (by simp)
      have eo := (hx.okay (by simp)).2
      simp only [conc] at ex
      split at h
      · rename_i k j
        have ei' := hi.eq (by simp)
        refine ⟨_, _, h.2, .mk trivial eo, ?_⟩
        have := fin _ _ k j ex ei' h.1.1 h.1.2
        simpa [conc, times_eq, Nat.add_assoc] using this
      · exact h.elim
    · have ex := hx.eq (by simp)
      simp only [conc, CV.val] at ex
      split at h
      · rename_i k j
        have ei' := hi.eq (by simp)
        refine ⟨_, _, h.2, .v rfl, ?_⟩
        have := fin _ _ k j ex ei' h.1.1 h.1.2
        simpa [times_eq] using this
      · exact h.elim
    · exact h.elim
  · rename_i e hk
    have hd := slice_desc (hdk.trans hk); subst hd
    split at h
    · exact h.elim
    rename_i ei hei
    have he := hT e ei hei
    have fin : ∀ b o' len cap k j, a.eval xo = .slice (some ⟨b, o', none⟩) len cap → a.eval io = .int k j → 0 ≤ j → j < len → Yld P a (.indexAddr t xo io) [] W (.pointer (some ⟨b, o' + j.toNat * ei.size, none⟩)) := by
      intro b o' len cap k j h1 h2 h3 h4 o ho W' _
      simp [execOp, ho, h1, h2, Instr.indexAt, asIntOf, hdr, h3, h4, he.run_sizeOf, add_none]
    split at h
    · rename_i k j
      have ex := hx.eq (by simp)
      have ei' := hi.eq (by simp)
      simp only [conc, CV.val] at ex
      refine ⟨_, _, h.2, .v rfl, ?_⟩
      have := fin _ _ _ _ k j ex ei' h.1.1 h.1.2
      simpa [times_eq] using this
    · rename_i k j
      have ex := hx.eq (by simp)
      have eo := (hx.okay (by simp)).2
      have ei' := hi.eq (by simp)
      simp only [conc] at ex
      refine ⟨_, _, h.2, .mk trivial eo, ?_⟩
      have := fin _ _ _ _ k j ex ei' h.1.1 h.1.2
      simpa [conc, times_eq, Nat.add_assoc] using this
    · exact h.elim
  · exact h.elim

theorem fIndex_spec (hT : TabOk P T) {t : TypeId} {xo io : Operand} {x i : SV} {K : SV → Prop} (hx : Fits ρ x (a.eval xo)) (hi : Fits ρ i (a.eval io)) (h : fIndex T t io x i K) : ∃ sv v, K sv ∧ Fits ρ sv v ∧ Yld P a (.index t xo io) [] W v := by
  unfold fIndex at h
  split at h
  · exact h.elim
  rename_i ti hti
  obtain ⟨d, hdk, hdr⟩ := (hT t ti hti).run_und
  split at h
  · rename_i n e c hk
    have hd := array_desc (hdk.trans hk); subst hd
    have ex := hx.eq (by simp)
    have eo := (hx.okay (by simp)).1
    simp only [conc, CV.val] at ex
    split at h
    · exact h.elim
    rename_i ei hei
    have he := hT e ei hei
    have fin1 : ∀ k j y, a.eval io = .int k j → 0 ≤ j → j < n → ei.k.agg = false → (LB.cells c)[j.toNat * ei.size]? = some y → Yld P a (.index t xo io) [] W y := by
      intro k j y h2 h3 h4 ha hy o ho W' _
      have := run_part_one (P := P) he ha (arr := (LB.cells c).toArray) (off := j.toNat * ei.size) (by simpa using hy) W'
      simp [execOp, ho, ex, h2, Instr.index, asIntOf, hdr, h3, h4, he.run_sizeOf, this]
    have fin2 : ∀ k j l, a.eval io = .int k j → 0 ≤ j → j < n → ei.k.agg = true → l = ((LB.cells c).drop (j.toNat * ei.size)).take ei.size → Yld P a (.index t xo io) [] W (.agg l.toArray) := by
      intro k j y h2 h3 h4 ha hy o ho W' _
      have := run_part_many (P := P) he ha (arr := (LB.cells c).toArray) (off := j.toNat * ei.size) (by simpa using hy) W'
      simp [execOp, ho, ex, h2, Instr.index, asIntOf, hdr, h3, h4, he.run_sizeOf, this]
    split at h
    · rename_i j hj
      obtain ⟨k, i', h1, h2, h3⟩ := constIx_spec (a := a) hj
      split at h
      · rename_i hagg
        split at h
        · rename_i d hd
          obtain ⟨g1, g2, g3⟩ := LB.sub_spec eo hd
          refine ⟨_, _, h, .mk g1 trivial, ?_⟩
          exact fin2 k (Int.ofNat i') _ h1 (Int.natCast_nonneg _) (Int.ofNat_lt.2 h2) hagg (by rw [g2, h3]; simp)
        · exact h.elim
      · rename_i hagg
        split at h
        · rename_i y hy
          obtain ⟨g1, g2⟩ := LB.get_spec eo hy
          refine ⟨_, _, h, .v g2, ?_⟩
          exact fin1 k (Int.ofNat i') _ h1 (Int.natCast_nonneg _) (Int.ofNat_lt.2 h2) hagg (by rw [← g1, h3]; simp)
        · exact h.elim
    · split at h
      · rename_i k j
        have ei' := hi.eq (by simp)
        obtain ⟨hb, h⟩ := h
        split at h
        · rename_i hagg
          obtain ⟨d, hk', g1, g2, g3⟩ := LB.dsub_spec eo h
          refine ⟨_, _, hk', .mk g1 trivial, ?_⟩
          exact fin2 k j _ ei' hb.1 hb.2 hagg (by rw [g2, times_eq]; simp)
        · rename_i hagg
          obtain ⟨y, hk', g1, g2⟩ := LB.dget_spec eo h
          refine ⟨_, _, hk', .v g2, ?_⟩
          exact fin1 k j _ ei' hb.1 hb.2 hagg (by rw [← g1, times_eq]; simp)
      · exact h.elim
  · rename_i z hk
    have hd := str_desc (hdk.trans hk); subst hd
    have ex := hx.eq (by simp)
    simp only [conc, CV.val] at ex
    split at h
    · rename_i k j
      have ei' := hi.eq (by simp)
      simp only [conc, CV.val] at ei'
      refine ⟨_, _, h.2, .v rfl, fun o ho W' _ => ?_⟩
      have hlt : j.toNat < z.size := by have := h.1; omega
      have hg : z[j.toNat]? = some (z.data.toList.getD j.toNat 0) := by
        have : z[j.toNat]? = some z[j.toNat] := getElem?_pos z j.toNat hlt
        rw [this]
        have hl : j.toNat < z.data.toList.length := by rw [Array.length_toList]; exact hlt
        simp only [List.getD_eq_getElem?_getD, List.getElem?_eq_getElem hl, Option.getD_some]
        rfl
      simp [execOp, ho, ex, ei', Instr.index, asIntOf, hdr, h.1.1, hg]
    · exact h.elim
  · exact h.elim

theorem fBuiltin_spec (hT : TabOk P T) {b : Builtin} {args : Array Operand} {ats : Array TypeId} {K : SV → Prop} (hr : Rel nt D m0 W0 ρ s a W) (h : fBuiltin T b ats.toList (args.toList.map (ev s)) K) :
    ∃ sv v, K sv ∧ Fits ρ sv v ∧ Yld P a (.call ⟨.builtin b, args, ats⟩) [] W v := by
  have one : ∀ sv, args.toList.map (ev s) = [sv] → ∃ x, args = #[x] ∧ ev s x = sv := by
    intro sv e
    match hl : args.toList, e with
    | [x], e =>
      simp at e
      exact ⟨x, by rw [← Array.toArray_toList (xs := args), hl], e⟩
    | [], e => simp at e
    | _ :: _ :: _, e => simp at e
  have two : ∀ sv sv', args.toList.map (ev s) = [sv, sv'] → ∃ x y, args = #[x, y] ∧ ev s x = sv ∧ ev s y = sv' := by
    intro sv sv' e
    match hl : args.toList, e with
    | [x, y], e =>
      simp at e
      exact ⟨x, y, by rw [← Array.toArray_toList (xs := args), hl], e⟩
    | [_], e => simp at e
    | [], e => simp at e
    | _ :: _ :: _ :: _, e => simp at e
  generalize hl : args.toList.map (ev s) = l at h
  unfold fBuiltin at h
  split at h
  · obtain ⟨x, y, rfl, ex, ey⟩ := two _ _ hl
    have hx := (hr.fits x).eq (by rw [ex]; simp)
    have hy := (hr.fits y).eq (by rw [ey]; simp)
    rw [ex] at hx; rw [ey] at hy
    simp only [conc, CV.val] at hx hy
    refine ⟨_, _, h, .v rfl, fun o ho W' _ => ?_⟩
    have e : ∀ p q : Int, (if q < p then q else p) = min p q := fun p q => by rw [Int.min_def]; split <;> split <;> omega
    simp [execOp, ho, resolve, invoke, builtin, hx, hy, e, run_min_int2, run_max_int2]
  · obtain ⟨x, y, rfl, ex, ey⟩ := two _ _ hl
    have hx := (hr.fits x).eq (by rw [ex]; simp)
    have hy := (hr.fits y).eq (by rw [ey]; simp)
    rw [ex] at hx; rw [ey] at hy
    simp only [conc, CV.val] at hx hy
    refine ⟨_, _, h, .v rfl, fun o ho W' _ => ?_⟩
    have e : ∀ p q : Int, (if p < q then q else p) = max p q := fun p q => by rw [Int.max_def]; split <;> split <;> omega
    simp [execOp, ho, resolve, invoke, builtin, hx, hy, e, run_min_int2, run_max_int2]
  · obtain ⟨x, rfl, ex⟩ := one _ hl
    split at h
    · rename_i ty hats
      have hats' : ats = #[ty] := by rw [← Array.toArray_toList (xs := ats), hats]
      subst hats'
      split at h
      · rename_i i hi
        obtain ⟨d, hdk, hdr⟩ := (hT ty i hi).run_und
        have hf := hr.fits x
        rw [ex] at hf
        split at h
        · rename_i hk
          have hd := slice_desc (hdk.trans hk); subst hd
          have hx := hf.eq (by simp)
          simp only [conc, CV.val] at hx
          refine ⟨_, _, h, .v rfl, fun o ho W' _ => ?_⟩
          simp [execOp, ho, resolve, invoke, builtin, hx, Builtin.len_, hdr, goInt]
        · rename_i hk
          have hd := slice_desc (hdk.trans hk); subst hd
          have hx := hf.eq (by simp)
          simp only [conc] at hx
          refine ⟨_, _, h, .v rfl, fun o ho W' _ => ?_⟩
          simp [execOp, ho, resolve, invoke, builtin, hx, Builtin.len_, hdr, goInt]
        · rename_i hk
          have hd := str_desc (hdk.trans hk); subst hd
          have hx := hf.eq (by simp)
          simp only [conc, CV.val] at hx
          refine ⟨_, _, h, .v rfl, fun o ho W' _ => ?_⟩
          simp [execOp, ho, resolve, invoke, builtin, hx, Builtin.len_, hdr, goInt]
        · exact h.elim
      · exact h.elim
    · exact h.elim
  · exact h.elim

/-! ### literals -/
theorem fill_step {place : Nat → Option (Nat × Nat)} {cells : Array Value} {j off size : Nat} {v : Value} {rest : List (Nat × Value)} (hp : place j = some (off, size)) (hs : v.cells.size = size) (hle : off + v.cells.size ≤ cells.size) :
    Instr.fill place cells ((j, v) :: rest) = Instr.fill place (v.cells.zipIdx.foldl (fun cs (c, i) => cs.setIfInBounds (off + i) c) cells) rest := by
  simp only [Instr.fill, hp]
  rw [if_neg]
  simp [hs]; omega

theorem laid_list : ∀ (l : List Value) (k off : Nat) (cells : Array Value), off + k + l.length ≤ cells.size →
    ((l.zipIdx k).foldl (fun (cs : Array Value) (c, i) => cs.setIfInBounds (off + i) c) cells).toList = cells.toList.take (off + k) ++ (l ++ cells.toList.drop (off + k + l.length))
  | [], k, off, cells, h => by simp
  | v :: r, k, off, cells, h => by
    simp only [List.zipIdx_cons, List.foldl_cons]
    rw [laid_list r (k + 1) off _ (by simp at h ⊢; omega)]
    have hlt : off + k < cells.toList.length := by simp at h ⊢; omega
    have e1 : (cells.setIfInBounds (off + k) v).toList = cells.toList.set (off + k) v := by simp
    have e2 : off + (k + 1) = off + k + 1 := by omega
    have e3 : off + (k + 1) + r.length = off + k + (v :: r).length := by simp; omega
    rw [e1, List.take_set, List.drop_set_of_lt (by omega), e3, e2, List.take_succ_eq_append_getElem hlt, List.set_append_right _ _ (by simp; omega)]
    simp only [List.length_take, Nat.min_eq_left (Nat.le_of_lt hlt), Nat.sub_self, List.set_cons_zero, List.append_assoc, List.singleton_append, List.cons_append, List.nil_append]

theorem laid_cells (v : Value) (l : List Value) (hv : v.cells = l.toArray) (off : Nat) (cells : Array Value) (h : off + l.length ≤ cells.size) :
    v.cells.zipIdx.foldl (fun (cs : Array Value) (c, i) => cs.setIfInBounds (off + i) c) cells = (cells.toList.take off ++ (l ++ cells.toList.drop (off + l.length))).toArray := by
  apply Array.ext'
  have := laid_list l 0 off cells (by simpa using h)
  simp only [Nat.add_zero] at this
  rw [← this, hv, ← Array.foldl_toList, Array.toList_zipIdx]
end
end Go.E
