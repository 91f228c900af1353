/-
  E7, E8, E9, E10, E11
-/
import Derived.Test.YtcionccfgcnhoaaGreatDoorStoreRefusesZ1
import Derived.Laws.BytesString
import Derived.OrdersIn
import Derived.TacticsIn
import Derived.RangeFuncRecord
import Derived.OrdersHeld
namespace Go.E
section
variable {P : Program} {T : Tab} {nt : Nat} {D : List Deferred} {m0 : Mem} {W0 : World} {ρ : List Nat} {s : St} {a : Act} {W : World}
theorem load_one {t : TypeId} {i : TI} (hi : TOk P t i) (ha : i.k.agg = false) {xo : Operand} {b off : Nat} {arr : Array Value} {t' : TypeId} {fr : Nat × Nat} {B : List Nat} {y : Value}
    (hx : a.eval xo = .pointer (some ⟨b, off, none⟩)) (hb : b ∈ B) (hW : W.heap[b]? = some (.cells arr t' fr)) (hy : arr[off]? = some y) : Yld P a (.load t xo) B W y := by
  intro o ho W' hs
  have := run_load_one (P := P) hi ha ((hs b hb).trans hW) hy
  simp [execOp, ho, hx, Instr.loadAt, Instr.sureAddr, this]
theorem load_many {t : TypeId} {i : TI} (hi : TOk P t i) (ha : i.k.agg = true) {xo : Operand} {b off : Nat} {arr : Array Value} {t' : TypeId} {fr : Nat × Nat} {B : List Nat} {l : List Value}
    (hx : a.eval xo = .pointer (some ⟨b, off, none⟩)) (hb : b ∈ B) (hW : W.heap[b]? = some (.cells arr t' fr)) (hl : l.length = i.size) (hy : ∀ j v, l[j]? = some v → arr[off + j]? = some v) : Yld P a (.load t xo) B W (.agg l.toArray) := by
  intro o ho W' hs
  have := run_load_many (P := P) hi ha ((hs b hb).trans hW) hl hy
  simp [execOp, ho, hx, Instr.loadAt, Instr.sureAddr, this]
theorem getD_mem {ρ : List Nat} {h : Nat} (hh : h < ρ.length) : ρ.getD h 0 ∈ ρ := by
  simp only [List.getD_eq_getElem?_getD, List.getElem?_eq_getElem hh, Option.getD_some]
  exact List.getElem_mem _
def blkOf (ρ : List Nat) : SV → Option Nat
  | .p h _ => some (ρ.getD h 0)
  | .q h _ _ => some (ρ.getD h 0)
  | .c (.v (.pointer (some ad))) => some ad.block
  | .c (.v (.slice (some ad) _ _)) => some ad.block
  | .sl h _ _ _ _ => some (ρ.getD h 0)
  | _ => none
theorem strConv_spec (hT : TabOk P T) {src dst : TypeId} (h : strConv T src dst = true) : ∃ e, P.underlying src = some (.slice e) ∧ P.underlying e = some (.int .u8) ∧ P.underlying dst = some .string := by
  unfold strConv at h
  split at h
  · rename_i i j hi hj
    split at h
    · rename_i e hk1 hk2
      split at h
      · rename_i ei hei
        split at h
        · rename_i hk3
          obtain ⟨d1, q1, q2⟩ := (hT src i hi).desc
          obtain ⟨d2, r1, r2⟩ := (hT dst j hj).desc
          obtain ⟨d3, s1, s2⟩ := (hT e ei hei).desc
          rw [hk1] at q2; rw [hk2] at r2; rw [hk3] at s2
          refine ⟨e, ?_, ?_, ?_⟩
          · rw [q1]; cases d1 <;> simp [TK.of] at q2; rw [q2]
          · rw [s1]; cases d3 <;> simp [TK.of] at s2; rw [s2]
          · rw [r1]; cases d2 <;> simp [TK.of] at r2; rfl
        · cases h
      · cases h
    · cases h
  · cases h
theorem str_run {src dst e : TypeId} (hs : P.underlying src = some (.slice e)) (he : P.underlying e = some (.int .u8)) (hd : P.underlying dst = some .string) {w : World} {b off n c : Nat} {arr : Array Value} {t' : TypeId} {fr : Nat × Nat}
    (hb : w.heap[b]? = some (.cells arr t' fr)) {ns : List Int} (hn : ns.length = n) (hj : ∀ j v, (ns.map (Value.int .u8))[j]? = some v → arr[off + j]? = some v) :
    (convert src dst (.slice (some ⟨b, off, none⟩) n c)).run P w = .ok (.string (strOf ns)) w := by
  rw [run_convert_bytes_string w src dst e _ _ _ hs he hd]
  have h1 := run_loadCells_list (P := P) w ⟨b, off, none⟩ (ns.map (Value.int .u8)) (fun j v hv => by rw [add_none, cell_at hb]; exact hj j v hv)
  rw [List.length_map, hn] at h1
  exact run_bytesToString w _ n c ns h1
theorem fStr_spec (hT : TabOk P T) (hr : Rel nt D m0 W0 ρ s a W) {src dst : TypeId} (hc : strConv T src dst = true) {xo : Operand} {x : SV} {K : SV → List Nat → Prop} (hx : Fits ρ x (a.eval xo)) (h : fStr s.L s.m x K) :
    ∃ sv bs v B, K sv bs ∧ Fits ρ sv v ∧ (∀ b ∈ bs, ∃ o, s.m b = some o) ∧ (∀ b ∈ B, (b ∈ ρ ∨ b ∈ bs) ∧ blkOf ρ x = some b ∧ ∀ y, x = .c y → ∃ o, s.m b = some o) ∧ Yld P a (.convert src dst xo) B W v := by
  obtain ⟨e, hs, he, hd⟩ := strConv_spec hT hc
  unfold fStr at h
  split at h
  · rename_i n c
    have ex := hx.eq (by simp)
    simp only [conc, CV.val] at ex
    refine ⟨_, [], _, [], h, .v rfl, by simp, by simp, fun o ho W' _ => ?_⟩
    simp only [execOp, ho, ex, Sem.run_bind]
    rw [run_convert_bytes_string W' src dst e _ _ _ hs he hd]
    simp [Conv.bytesToString, Sem.run_pure]
  · rename_i aa n c
    have ex := hx.eq (by simp)
    simp only [conc, CV.val] at ex
    rcases h with ⟨rfl, h⟩ | h
    · refine ⟨_, [], _, [], h, .v rfl, by simp, by simp, fun o ho W' _ => ?_⟩
      simp only [execOp, ho, ex, Sem.run_bind]
      rw [run_convert_bytes_string W' src dst e _ _ _ hs he hd]
      have h1 := run_loadCells_list (P := P) W' aa [] (fun j v hv => by simp at hv)
      rw [run_bytesToString W' aa 0 c [] (by simpa using h1)]
      simp [Sem.run_pure]
    obtain ⟨ns, hn, b, off, rfl, ⟨arr, t', fr, hm, hj⟩, hk⟩ := h
    refine ⟨_, [b], _, [b], hk, .v rfl, by simp [hm], ?_, fun o ho W' hW' => ?_⟩
    · intro b' hb'
      have : b' = b := by simpa using hb'
      subst this
      exact ⟨.inr (by simp), rfl, fun _ _ => ⟨_, hm⟩⟩
    · simp only [execOp, ho, ex, Sem.run_bind]
      rw [str_run hs he hd ((hW' b (by simp)).trans (hr.after.over _ _ hm)) hn hj]
      simp [Sem.run_pure]
  · rename_i hh off d n c
    split at h
    · exact h.elim
    · rename_i t' cc hL
      have ex := hx.eq (by simp)
      have hu := (hx.okay (by simp)).2
      simp only [conc] at ex
      simp only [SV.under] at hu
      rw [nth_eq] at hL
      obtain ⟨k1, k2, k3, k4⟩ := hr.locs hh t' cc hL
      obtain ⟨ns, hn, hj, hk⟩ := h
      refine ⟨_, [], _, [ρ.getD hh 0], hk, .v rfl, by simp, ?_, fun o ho W' hW' => ?_⟩
      · intro b' hb'
        have : b' = ρ.getD hh 0 := by simpa using hb'
        subst this
        exact ⟨.inl (getD_mem hu), rfl, fun y hy => by cases hy⟩
      · simp only [execOp, ho, ex, Sem.run_bind]
        rw [str_run hs he hd ((hW' _ (by simp)).trans k1) hn (fun j v hv => by simpa using hj j v hv)]
        simp [Sem.run_pure]
  · exact h.elim
theorem fLoad_spec (hT : TabOk P T) (hr : Rel nt D m0 W0 ρ s a W) {t : TypeId} {xo : Operand} {x : SV} {K : SV → List Nat → Prop} (hx : Fits ρ x (a.eval xo)) (h : fLoad T s t x K) :
    ∃ sv bs v b, K sv bs ∧ Fits ρ sv v ∧ (∀ b ∈ bs, ∃ o, s.m b = some o) ∧ blkOf ρ x = some b ∧ (b ∈ ρ ∨ b ∈ bs) ∧ (∀ y, x = .c y → ∃ o, s.m b = some o) ∧ Yld P a (.load t xo) [b] W v := by
  unfold fLoad at h
  split at h
  · exact h.elim
  rename_i i hi
  have hti := hT t i hi
  split at h
  · rename_i hd off
    have ex := hx.eq (by simp)
    have eo := (hx.okay (by simp)).2
    simp only [SV.under] at eo
    simp only [conc] at ex
    split at h
    · exact h.elim
    rename_i t' c hc
    rw [nth_eq] at hc
    obtain ⟨hW, hok, hn, _⟩ := hr.locs hd t' c hc
    split at h
    · rename_i hagg
      split at h
      · rename_i d hd'
        obtain ⟨h1, h2, h3⟩ := LB.sub_spec hok hd'
        refine ⟨_, [], _, _, h, .mk h1 trivial, by simp, rfl, .inl (getD_mem eo), by simp, ?_⟩
        simp only [conc, CV.val]
        refine load_many hti hagg ex (by simp) hW h3 (fun j v hv => ?_)
        rw [h2, List.getElem?_take] at hv
        split at hv
        · rw [List.getElem?_drop] at hv; simpa using hv
        · simp at hv
      · exact h.elim
    · rename_i hagg
      split at h
      · rename_i y hy
        obtain ⟨h1, h2⟩ := LB.get_spec hok hy
        refine ⟨_, [], _, _, h, .v h2, by simp, rfl, .inl (getD_mem eo), by simp, ?_⟩
        exact load_one hti hagg ex (by simp) hW (by simpa using h1)
      · exact h.elim
  · rename_i hd off d
    have ex := hx.eq (by simp)
    have eo := (hx.okay (by simp)).2
    simp only [SV.under] at eo
    simp only [conc] at ex
    split at h
    · exact h.elim
    rename_i t' c hc
    rw [nth_eq] at hc
    obtain ⟨hW, hok, hn, _⟩ := hr.locs hd t' c hc
    split at h
    · rename_i hagg
      obtain ⟨e, hk, h1, h2, h3⟩ := LB.dsub_spec hok h
      refine ⟨_, [], _, _, hk, .mk h1 trivial, by simp, rfl, .inl (getD_mem eo), by simp, ?_⟩
      simp only [conc, CV.val]
      refine load_many hti hagg ex (by simp) hW h3 (fun j v hv => ?_)
      rw [h2, List.getElem?_take] at hv
      split at hv
      · rw [List.getElem?_drop] at hv; simpa using hv
      · simp at hv
    · rename_i hagg
      obtain ⟨y, hk, h1, h2⟩ := LB.dget_spec hok h
      refine ⟨_, [], _, _, hk, .v h2, by simp, rfl, .inl (getD_mem eo), by simp, ?_⟩
      exact load_one hti hagg ex (by simp) hW (by simpa using h1)
  · rename_i b off
    have ex := hx.eq (by simp)
    simp only [conc, CV.val] at ex
    split at h
    · rename_i hagg
      obtain ⟨c, h1, h2, ⟨arr, t', fr, hm, hj⟩, hk⟩ := h
      refine ⟨_, [b], _, _, hk, .mk h1 trivial, by simp [hm], rfl, .inr (by simp), fun _ _ => ⟨_, hm⟩, ?_⟩
      simp only [conc, CV.val]
      exact load_many hti hagg ex (by simp) (hr.after.over _ _ hm) (by rw [LB.cells_length h1, h2]) hj
    · rename_i hagg
      obtain ⟨y, hm, h1, hk⟩ := h
      unfold mcell at hm
      split at hm
      · rename_i arr t' fr hb
        refine ⟨_, [b], _, _, hk, .v h1, by simp [hb], rfl, .inr (by simp), fun _ _ => ⟨_, hb⟩, ?_⟩
        exact load_one hti hagg ex (by simp) (hr.after.over _ _ hb) hm
      · simp at hm
  · exact h.elim
theorem struct_desc {d : TypeDesc} {fs : List (Nat × TypeId)} (h : TK.of d = .struct fs) : ∃ gs : Array Field, d = .struct gs ∧ fs = gs.toList.map fun f => (f.offset, f.type) := by
  cases d <;> simp [TK.of] at h
  exact ⟨_, rfl, h.symm⟩
theorem array_desc {d : TypeDesc} {n : Nat} {e : TypeId} (h : TK.of d = .array n e) : d = .array n e := by
  cases d <;> simp [TK.of] at h
  obtain ⟨rfl, rfl⟩ := h; rfl
theorem slice_desc {d : TypeDesc} {e : TypeId} (h : TK.of d = .slice e) : d = .slice e := by
  cases d <;> simp [TK.of] at h
  subst h; rfl
theorem str_desc {d : TypeDesc} (h : TK.of d = .str) : d = .string := by
  cases d <;> simp [TK.of] at h
  rfl
theorem field_at {gs : Array Field} {f off : Nat} {ft : TypeId} (h : nth (gs.toList.map fun f => (f.offset, f.type)) f = some (off, ft)) : ∃ g, gs[f]? = some g ∧ g.offset = off ∧ g.type = ft := by
  rw [nth_eq, List.getElem?_map] at h
  cases hg : gs[f]? with
  | none => simp [hg] at h
  | some g => simp [hg] at h; exact ⟨g, rfl, h.1, h.2⟩
theorem run_part_one {t : TypeId} {i : TI} (hi : TOk P t i) (ha : i.k.agg = false) {arr : Array Value} {off : Nat} {y : Value} (hy : arr[off]? = some y) (w : World) : (part t arr off).run P w = .ok y w := by
  unfold part
  rw [Sem.run_bind, hi.run_isAgg, ha]
  simp [hy]
theorem run_part_many {t : TypeId} {i : TI} (hi : TOk P t i) (ha : i.k.agg = true) {arr : Array Value} {off : Nat} {l : List Value} (hy : l = (arr.toList.drop off).take i.size) (w : World) : (part t arr off).run P w = .ok (.agg l.toArray) w := by
  unfold part
  rw [Sem.run_bind, hi.run_isAgg, ha]
  simp only [Result.andThen_ok, if_true, Sem.run_bind, hi.run_sizeOf]
  have e : arr.extract off (off + i.size) = l.toArray := by
    rw [hy]
    apply Array.ext'
    simp [Array.toList_extract, List.extract_eq_take_drop]
  rw [e]; rfl
theorem fField_spec (hT : TabOk P T) {t : TypeId} {f : Nat} {xo : Operand} {x : SV} {K : SV → Prop} (hx : Fits ρ x (a.eval xo)) (h : fField T t x f K) : ∃ sv v, K sv ∧ Fits ρ sv v ∧ Yld P a (.field t xo f) [] W v := by
  unfold fField at h
  split at h
  · rename_i i hi
    obtain ⟨d, hdk, hdr⟩ := (hT t i hi).run_und
    split at h
    · rename_i fs c hk
      obtain ⟨gs, rfl, rfl⟩ := struct_desc (hdk.trans hk)
      have ex := hx.eq (by simp)
      have eo := (hx.okay (by simp)).1
      simp only [conc, CV.val] at ex
      split at h
      · rename_i off ft hn
        obtain ⟨g, hg, hg1, hg2⟩ := field_at hn
        split at h
        · rename_i fi hfi
          have hft := hT ft fi hfi
          split at h
          · rename_i hagg
            split at h
            · rename_i d hd
              obtain ⟨h1, h2, h3⟩ := LB.sub_spec eo hd
              refine ⟨_, _, h, .mk h1 trivial, fun o ho W' _ => ?_⟩
              have hp := run_part_many (P := P) hft hagg (arr := (LB.cells c).toArray) (off := off) (l := LB.cells d) (by simpa using h2) W'
              rw [← hg1, ← hg2] at hp
              simp [execOp, ho, ex, Instr.field, hdr, hg, asAgg, hp, conc, CV.val]
            · exact h.elim
          · rename_i hagg
            split at h
            · rename_i y hy
              obtain ⟨h1, h2⟩ := LB.get_spec eo hy
              refine ⟨_, _, h, .v h2, fun o ho W' _ => ?_⟩
              have hp := run_part_one (P := P) hft hagg (arr := (LB.cells c).toArray) (off := off) (y := y) (by simpa using h1) W'
              rw [← hg1, ← hg2] at hp
              simp [execOp, ho, ex, Instr.field, hdr, hg, asAgg, hp]
            · exact h.elim
        · exact h.elim
      · exact h.elim
    · exact h.elim
  · exact h.elim
theorem fFieldAddr_spec (hT : TabOk P T) {t : TypeId} {f : Nat} {xo : Operand} {x : SV} {K : SV → Prop} (hx : Fits ρ x (a.eval xo)) (h : fFieldAddr T t x f K) : ∃ sv v, K sv ∧ Fits ρ sv v ∧ Yld P a (.fieldAddr t xo f) [] W v := by
  unfold fFieldAddr at h
  split at h
  · rename_i i hi
    obtain ⟨d, hdk, hdr⟩ := (hT t i hi).run_und
    split at h
    · rename_i fs hk
      obtain ⟨gs, rfl, rfl⟩ := struct_desc (hdk.trans hk)
      split at h
      · rename_i off ft hn
        obtain ⟨g, hg, hg1, hg2⟩ := field_at hn
        split at h
        · rename_i fi hfi
          have hft := hT ft fi hfi
          cases hz : Nat.blt 0 fi.size with
          | false => simp [hz] at h
          | true =>
            have hz' : fi.size ≠ 0 := by have := blt_lt.1 hz; omega
            simp only [hz, cond_true] at h
            have fin : ∀ b o', a.eval xo = .pointer (some ⟨b, o', none⟩) → Yld P a (.fieldAddr t xo f) [] W (.pointer (some ⟨b, o' + off, none⟩)) := by
              intro b o' he o ho W' _
              simp [execOp, ho, he, Instr.fieldAt, hdr, hg, Instr.sureAddr, fieldPlace, hg2, hft.run_sizeOf, hz', hg1, add_none]
            split at h
            · have ex := hx.eq (by simp)
              have eo := (hx.okay (by simp)).2
              exact ⟨_, _, h, .mk trivial eo, fin _ _ ex⟩
            · have ex := hx.eq (by simp)
              have eo := (hx.okay (by simp)).2
              refine ⟨_, _, h, .mk trivial eo, ?_⟩
              have := fin _ _ ex
              simp only [conc]
              rwa [Nat.add_assoc] at this
            · have ex := hx.eq (by simp)
              exact ⟨_, _, h, .v rfl, fin _ _ ex⟩
            · exact h.elim
        · exact h.elim
      · exact h.elim
    · exact h.elim
  · exact h.elim
theorem constIx_spec {io : Operand} {n z j : Nat} (h : constIx io n z = some j) : ∃ k i, a.eval io = .int k (Int.ofNat i) ∧ i < n ∧ j = i * z := by
  cases io with
  | const v =>
    cases v with
    | int k i =>
      cases i with
      | ofNat i =>
        simp only [constIx] at h
        cases hb : Nat.blt i n with
        | false => simp [hb] at h
        | true =>
          simp only [hb, cond_true, Option.some.injEq] at h
          exact ⟨k, i, rfl, blt_lt.1 hb, h.symm⟩
      | negSucc i => simp [constIx] at h
    | _ => simp [constIx] at h
  | _ => simp [constIx] at h
theorem fIndexAddr_spec (hT : TabOk P T) {t : TypeId} {xo io : Operand} {x i : SV} {K : SV → Prop} (hx : Fits ρ x (a.eval xo)) (hi : Fits ρ i (a.eval io)) (h : fIndexAddr T t io x i K) : ∃ sv v, K sv ∧ Fits ρ sv v ∧ Yld P a (.indexAddr t xo io) [] W v := by
  unfold fIndexAddr at h
  split at h
  · exact h.elim
  rename_i ti hti
  obtain ⟨d, hdk, hdr⟩ := (hT t ti hti).run_und
  split at h
  · rename_i n e hk
    have hd := array_desc (hdk.trans hk); subst hd
    split at h
    · exact h.elim
    rename_i ei hei
    have he := hT e ei hei
    have fin : ∀ b o' k j, a.eval xo = .pointer (some ⟨b, o', none⟩) → a.eval io = .int k j → 0 ≤ j → j < n → Yld P a (.indexAddr t xo io) [] W (.pointer (some ⟨b, o' + j.toNat * ei.size, none⟩)) := by
      intro b o' k j h1 h2 h3 h4 o ho W' _
      simp [execOp, ho, h1, h2, Instr.indexAt, asIntOf, hdr, Instr.sureAddr, h3, h4, he.run_sizeOf, add_none]
    split at h
    · have ex := hx.eq (by simp)
      have eo := (hx.okay (by simp)).2
      simp only [conc] at ex
      split at h
      · rename_i j hj
        obtain ⟨k, i', h1, h2, h3⟩ := constIx_spec (a := a) hj
        refine ⟨_, _, h, .mk trivial eo, ?_⟩
        have := fin _ _ k (Int.ofNat i') ex h1 (Int.natCast_nonneg _) (Int.ofNat_lt.2 h2)
        subst h3
        exact this
      · split at h
        · rename_i k j
          have ei' := hi.eq (by simp)
          refine ⟨_, _, h.2, .mk trivial eo, ?_⟩
          have := fin _ _ k j ex ei' h.1.1 h.1.2
          simpa [conc, times_eq] using this
        · exact h.elim
    · have ex := hx.eq (by simp)
      have eo := (hx.okay (by simp)).2
      simp only [conc] at ex
      split at h
      · rename_i k j
        have ei' := hi.eq (by simp)
        refine ⟨_, _, h.2, .mk trivial eo, ?_⟩
        have := fin _ _ k j ex ei' h.1.1 h.1.2
        simpa [conc, times_eq, Nat.add_assoc] using this
      · exact h.elim
    · have ex := hx.eq (by simp)
      simp only [conc, CV.val] at ex
      split at h
      · rename_i k j
        have ei' := hi.eq (by simp)
        refine ⟨_, _, h.2, .v rfl, ?_⟩
        have := fin _ _ k j ex ei' h.1.1 h.1.2
        simpa [times_eq] using this
      · exact h.elim
    · exact h.elim
  · rename_i e hk
    have hd := slice_desc (hdk.trans hk); subst hd
    split at h
    · exact h.elim
    rename_i ei hei
    have he := hT e ei hei
    have fin : ∀ b o' len cap k j, a.eval xo = .slice (some ⟨b, o', none⟩) len cap → a.eval io = .int k j → 0 ≤ j → j < len → Yld P a (.indexAddr t xo io) [] W (.pointer (some ⟨b, o' + j.toNat * ei.size, none⟩)) := by
      intro b o' len cap k j h1 h2 h3 h4 o ho W' _
      simp [execOp, ho, h1, h2, Instr.indexAt, asIntOf, hdr, h3, h4, he.run_sizeOf, add_none]
    split at h
    · rename_i k j
      have ex := hx.eq (by simp)
      have ei' := hi.eq (by simp)
      simp only [conc, CV.val] at ex
      refine ⟨_, _, h.2, .v rfl, ?_⟩
      have := fin _ _ _ _ k j ex ei' h.1.1 h.1.2
      simpa [times_eq] using this
    · rename_i k j
      have ex := hx.eq (by simp)
      have eo := (hx.okay (by simp)).2
      have ei' := hi.eq (by simp)
      simp only [conc] at ex
      refine ⟨_, _, h.2, .mk trivial eo, ?_⟩
      have := fin _ _ _ _ k j ex ei' h.1.1 h.1.2
      simpa [conc, times_eq, Nat.add_assoc] using this
    · exact h.elim
  · exact h.elim
theorem fIndex_spec (hT : TabOk P T) {t : TypeId} {xo io : Operand} {x i : SV} {K : SV → Prop} (hx : Fits ρ x (a.eval xo)) (hi : Fits ρ i (a.eval io)) (h : fIndex T t io x i K) : ∃ sv v, K sv ∧ Fits ρ sv v ∧ Yld P a (.index t xo io) [] W v := by
  unfold fIndex at h
  split at h
  · exact h.elim
  rename_i ti hti
  obtain ⟨d, hdk, hdr⟩ := (hT t ti hti).run_und
  split at h
  · rename_i n e c hk
    have hd := array_desc (hdk.trans hk); subst hd
    have ex := hx.eq (by simp)
    have eo := (hx.okay (by simp)).1
    simp only [conc, CV.val] at ex
    split at h
    · exact h.elim
    rename_i ei hei
    have he := hT e ei hei
    have fin1 : ∀ k j y, a.eval io = .int k j → 0 ≤ j → j < n → ei.k.agg = false → (LB.cells c)[j.toNat * ei.size]? = some y → Yld P a (.index t xo io) [] W y := by
      intro k j y h2 h3 h4 ha hy o ho W' _
      have := run_part_one (P := P) he ha (arr := (LB.cells c).toArray) (off := j.toNat * ei.size) (by simpa using hy) W'
      simp [execOp, ho, ex, h2, Instr.index, asIntOf, hdr, h3, h4, he.run_sizeOf, this]
    have fin2 : ∀ k j l, a.eval io = .int k j → 0 ≤ j → j < n → ei.k.agg = true → l = ((LB.cells c).drop (j.toNat * ei.size)).take ei.size → Yld P a (.index t xo io) [] W (.agg l.toArray) := by
      intro k j y h2 h3 h4 ha hy o ho W' _
      have := run_part_many (P := P) he ha (arr := (LB.cells c).toArray) (off := j.toNat * ei.size) (by simpa using hy) W'
      simp [execOp, ho, ex, h2, Instr.index, asIntOf, hdr, h3, h4, he.run_sizeOf, this]
    split at h
    · rename_i j hj
      obtain ⟨k, i', h1, h2, h3⟩ := constIx_spec (a := a) hj
      split at h
      · rename_i hagg
        split at h
        · rename_i d hd
          obtain ⟨g1, g2, g3⟩ := LB.sub_spec eo hd
          refine ⟨_, _, h, .mk g1 trivial, ?_⟩
          exact fin2 k (Int.ofNat i') _ h1 (Int.natCast_nonneg _) (Int.ofNat_lt.2 h2) hagg (by rw [g2, h3]; simp)
        · exact h.elim
      · rename_i hagg
        split at h
        · rename_i y hy
          obtain ⟨g1, g2⟩ := LB.get_spec eo hy
          refine ⟨_, _, h, .v g2, ?_⟩
          exact fin1 k (Int.ofNat i') _ h1 (Int.natCast_nonneg _) (Int.ofNat_lt.2 h2) hagg (by rw [← g1, h3]; simp)
        · exact h.elim
    · split at h
      · rename_i k j
        have ei' := hi.eq (by simp)
        obtain ⟨hb, h⟩ := h
        split at h
        · rename_i hagg
          obtain ⟨d, hk', g1, g2, g3⟩ := LB.dsub_spec eo h
          refine ⟨_, _, hk', .mk g1 trivial, ?_⟩
          exact fin2 k j _ ei' hb.1 hb.2 hagg (by rw [g2, times_eq]; simp)
        · rename_i hagg
          obtain ⟨y, hk', g1, g2⟩ := LB.dget_spec eo h
          refine ⟨_, _, hk', .v g2, ?_⟩
          exact fin1 k j _ ei' hb.1 hb.2 hagg (by rw [← g1, times_eq]; simp)
      · exact h.elim
  · rename_i z hk
    have hd := str_desc (hdk.trans hk); subst hd
    have ex := hx.eq (by simp)
    simp only [conc, CV.val] at ex
    split at h
    · rename_i k j
      have ei' := hi.eq (by simp)
      simp only [conc, CV.val] at ei'
      refine ⟨_, _, h.2, .v rfl, fun o ho W' _ => ?_⟩
      have hlt : j.toNat < z.size := by have := h.1; omega
      have hg : z[j.toNat]? = some (z.data.toList.getD j.toNat 0) := by
        have : z[j.toNat]? = some z[j.toNat] := getElem?_pos z j.toNat hlt
        rw [this]
        have hl : j.toNat < z.data.toList.length := by rw [Array.length_toList]; exact hlt
        simp only [List.getD_eq_getElem?_getD, List.getElem?_eq_getElem hl, Option.getD_some]
        rfl
      simp [execOp, ho, ex, ei', Instr.index, asIntOf, hdr, h.1.1, hg]
    · exact h.elim
  · exact h.elim
theorem fBuiltin_spec (hT : TabOk P T) {b : Builtin} {args : Array Operand} {ats : Array TypeId} {K : SV → Prop} (hr : Rel nt D m0 W0 ρ s a W) (h : fBuiltin T b ats.toList (args.toList.map (ev s)) K) :
    ∃ sv v, K sv ∧ Fits ρ sv v ∧ Yld P a (.call ⟨.builtin b, args, ats⟩) [] W v := by
  have one : ∀ sv, args.toList.map (ev s) = [sv] → ∃ x, args = #[x] ∧ ev s x = sv := by
    intro sv e
    match hl : args.toList, e with
    | [x], e =>
      simp at e
      exact ⟨x, by rw [← Array.toArray_toList (xs := args), hl], e⟩
    | [], e => simp at e
    | _ :: _ :: _, e => simp at e
  have two : ∀ sv sv', args.toList.map (ev s) = [sv, sv'] → ∃ x y, args = #[x, y] ∧ ev s x = sv ∧ ev s y = sv' := by
    intro sv sv' e
    match hl : args.toList, e with
    | [x, y], e =>
      simp at e
      exact ⟨x, y, by rw [← Array.toArray_toList (xs := args), hl], e⟩
    | [_], e => simp at e
    | [], e => simp at e
    | _ :: _ :: _ :: _, e => simp at e
  generalize hl : args.toList.map (ev s) = l at h
  unfold fBuiltin at h
  split at h
  · obtain ⟨x, y, rfl, ex, ey⟩ := two _ _ hl
    have hx := (hr.fits x).eq (by rw [ex]; simp)
    have hy := (hr.fits y).eq (by rw [ey]; simp)
    rw [ex] at hx; rw [ey] at hy
    simp only [conc, CV.val] at hx hy
    refine ⟨_, _, h, .v rfl, fun o ho W' _ => ?_⟩
    have e : ∀ p q : Int, (if q < p then q else p) = min p q := fun p q => by rw [Int.min_def]; split <;> split <;> omega
    simp [execOp, ho, resolve, invoke, builtin, hx, hy, e, run_min_int2, run_max_int2]
  · obtain ⟨x, y, rfl, ex, ey⟩ := two _ _ hl
    have hx := (hr.fits x).eq (by rw [ex]; simp)
    have hy := (hr.fits y).eq (by rw [ey]; simp)
    rw [ex] at hx; rw [ey] at hy
    simp only [conc, CV.val] at hx hy
    refine ⟨_, _, h, .v rfl, fun o ho W' _ => ?_⟩
    have e : ∀ p q : Int, (if p < q then q else p) = max p q := fun p q => by rw [Int.max_def]; split <;> split <;> omega
    simp [execOp, ho, resolve, invoke, builtin, hx, hy, e, run_min_int2, run_max_int2]
  · obtain ⟨x, rfl, ex⟩ := one _ hl
    split at h
    · rename_i ty hats
      have hats' : ats = #[ty] := by rw [← Array.toArray_toList (xs := ats), hats]
      subst hats'
      split at h
      · rename_i i hi
        obtain ⟨d, hdk, hdr⟩ := (hT ty i hi).run_und
        have hf := hr.fits x
        rw [ex] at hf
        split at h
        · rename_i hk
          have hd := slice_desc (hdk.trans hk); subst hd
          have hx := hf.eq (by simp)
          simp only [conc, CV.val] at hx
          refine ⟨_, _, h, .v rfl, fun o ho W' _ => ?_⟩
          simp [execOp, ho, resolve, invoke, builtin, hx, Builtin.len_, hdr, goInt]
        · rename_i hk
          have hd := slice_desc (hdk.trans hk); subst hd
          have hx := hf.eq (by simp)
          simp only [conc] at hx
          refine ⟨_, _, h, .v rfl, fun o ho W' _ => ?_⟩
          simp [execOp, ho, resolve, invoke, builtin, hx, Builtin.len_, hdr, goInt]
        · rename_i hk
          have hd := str_desc (hdk.trans hk); subst hd
          have hx := hf.eq (by simp)
          simp only [conc, CV.val] at hx
          refine ⟨_, _, h, .v rfl, fun o ho W' _ => ?_⟩
          simp [execOp, ho, resolve, invoke, builtin, hx, Builtin.len_, hdr, goInt]
        · exact h.elim
      · exact h.elim
    · exact h.elim
  · exact h.elim
theorem fill_step {place : Nat → Option (Nat × Nat)} {cells : Array Value} {j off size : Nat} {v : Value} {rest : List (Nat × Value)} (hp : place j = some (off, size)) (hs : v.cells.size = size) (hle : off + v.cells.size ≤ cells.size) :
    Instr.fill place cells ((j, v) :: rest) = Instr.fill place (v.cells.zipIdx.foldl (fun cs (c, i) => cs.setIfInBounds (off + i) c) cells) rest := by
  simp only [Instr.fill, hp]
  rw [if_neg]
  simp [hs]; omega
theorem laid_list : ∀ (l : List Value) (k off : Nat) (cells : Array Value), off + k + l.length ≤ cells.size →
    ((l.zipIdx k).foldl (fun (cs : Array Value) (c, i) => cs.setIfInBounds (off + i) c) cells).toList = cells.toList.take (off + k) ++ (l ++ cells.toList.drop (off + k + l.length))
  | [], k, off, cells, h => by simp
  | v :: r, k, off, cells, h => by
    simp only [List.zipIdx_cons, List.foldl_cons]
    rw [laid_list r (k + 1) off _ (by simp at h ⊢; omega)]
    have hlt : off + k < cells.toList.length := by simp at h ⊢; omega
    have e1 : (cells.setIfInBounds (off + k) v).toList = cells.toList.set (off + k) v := by simp
    have e2 : off + (k + 1) = off + k + 1 := by omega
    have e3 : off + (k + 1) + r.length = off + k + (v :: r).length := by simp; omega
    rw [e1, List.take_set, List.drop_set_of_lt (by omega), e3, e2, List.take_succ_eq_append_getElem hlt, List.set_append_right _ _ (by simp; omega)]
    simp only [List.length_take, Nat.min_eq_left (Nat.le_of_lt hlt), Nat.sub_self, List.set_cons_zero, List.append_assoc, List.singleton_append, List.cons_append, List.nil_append]
theorem laid_cells (v : Value) (l : List Value) (hv : v.cells = l.toArray) (off : Nat) (cells : Array Value) (h : off + l.length ≤ cells.size) :
    v.cells.zipIdx.foldl (fun (cs : Array Value) (c, i) => cs.setIfInBounds (off + i) c) cells = (cells.toList.take off ++ (l ++ cells.toList.drop (off + l.length))).toArray := by
  apply Array.ext'
  have := laid_list l 0 off cells (by simpa using h)
  simp only [Nat.add_zero] at this
  rw [← this, hv, ← Array.foldl_toList, Array.toList_zipIdx]
end
end Go.E
namespace Go.E
section
variable {P : Program} {T : Tab} {nt : Nat} {D : List Deferred} {m0 : Mem} {W0 : World} {ρ : List Nat} {s : St} {a : Act} {W : World}
theorem set_as_put {l : List Value} {o : Nat} {x : Value} (h : o < l.length) : l.set o x = l.take o ++ ([x] ++ l.drop (o + 1)) := by
  rw [List.set_eq_take_append_cons_drop, if_pos h]; simp
theorem fill_put {place : Nat → Option (Nat × Nat)} {c : LB} {j off size : Nat} {v : Value} {l : List Value} {rest : List (Nat × Value)} (hp : place j = some (off, size)) (hv : v.cells = l.toArray) (hs : l.length = size) (hle : off + l.length ≤ (LB.cells c).length) :
    Instr.fill place (LB.cells c).toArray ((j, v) :: rest) = Instr.fill place ((LB.cells c).take off ++ (l ++ (LB.cells c).drop (off + l.length))).toArray rest := by
  rw [fill_step hp (by rw [hv]; simpa using hs) (by rw [hv]; simpa using hle), laid_cells v l hv off _ (by simpa using hle)]
theorem cells_one {x : Value} (h : x.oneCell' = true) : x.cells = [x].toArray := by
  cases x <;> first | rfl | (simp [Value.oneCell'] at h)
theorem bld_spec (hr : Rel nt D m0 W0 ρ s a W) {place : Nat → Option (Nat × Nat)} : ∀ {parts : List (Nat × Operand)} {c c' : LB}, LB.ok c → bld s place c parts = some c' →
    LB.ok c' ∧ Instr.fill place (LB.cells c).toArray (parts.map fun (i, x) => (i, a.eval x)) = some (LB.cells c').toArray
  | [], c, c', hc, h => by simp only [bld, Option.some.injEq] at h; subst h; exact ⟨hc, rfl⟩
  | (j, x) :: r, c, c', hc, h => by
    simp only [bld] at h
    have hf := hr.fits x
    have one : ∀ (y : Value) (off : Nat), place j = some (off, 1) → a.eval x = y → y.oneCell' = true → (match LB.set c off y with | some d => bld s place d r | none => none) = some c' →
        LB.ok c' ∧ Instr.fill place (LB.cells c).toArray ((j, a.eval x) :: r.map fun (i, x) => (i, a.eval x)) = some (LB.cells c').toArray := by
      intro y off hp he h1 hh
      cases hset : LB.set c off y with
      | none => simp [hset] at hh
      | some d =>
        simp only [hset] at hh
        obtain ⟨g1, g2, g3⟩ := LB.set_spec hc h1 hset
        obtain ⟨k1, k2⟩ := bld_spec hr g1 hh
        refine ⟨k1, ?_⟩
        rw [fill_put (l := [y]) hp (by rw [he]; exact cells_one h1) rfl (by simp; omega), ← k2, g2, set_as_put g3]
        simp
    split at h
    · simp at h
    · rename_i off size hp
      split at h
      · rename_i y hy
        cases hb : Nat.beq size 1 with
        | false => simp [hb] at h
        | true =>
          have := Nat.eq_of_beq_eq_true hb; subst this
          simp only [hb, cond_true] at h
          have he := hf.eq (by rw [hy]; simp)
          have hk := (hf.okay (by rw [hy]; simp)).1
          rw [hy] at he hk
          exact one y off hp he hk h
      · rename_i hy
        cases hb : Nat.beq size 1 with
        | false => simp [hb] at h
        | true =>
          have := Nat.eq_of_beq_eq_true hb; subst this
          simp only [hb, cond_true] at h
          have he := hf.eq (by rw [hy]; simp)
          rw [hy] at he
          exact one _ off hp he rfl h
      · rename_i hy
        cases hb : Nat.beq size 1 with
        | false => simp [hb] at h
        | true =>
          have := Nat.eq_of_beq_eq_true hb; subst this
          simp only [hb, cond_true] at h
          have he := hf.eq (by rw [hy]; simp)
          rw [hy] at he
          exact one _ off hp he rfl h
      · rename_i v hy
        cases hb : Nat.beq size (LB.size v) with
        | false => simp [hb] at h
        | true =>
          have hsz := Nat.eq_of_beq_eq_true hb
          simp only [hb, cond_true] at h
          have he := hf.eq (by rw [hy]; simp)
          have hk := (hf.okay (by rw [hy]; simp)).1
          rw [hy] at he hk
          cases hset : LB.putW c off v with
          | none => simp [hset] at h
          | some d =>
            simp only [hset] at h
            obtain ⟨g1, g2, g3⟩ := LB.putW_spec hc hk hset
            obtain ⟨k1, k2⟩ := bld_spec hr g1 h
            refine ⟨k1, ?_⟩
            have hlen := LB.cells_length hk
            simp only [List.map_cons]
            rw [fill_put (l := LB.cells v) hp (by rw [he]; rfl) (by rw [hlen, hsz]) g3, ← k2, g2]
      · simp at h
theorem known_places (hT : TabOk P T) : ∀ (gs : List Field), known T (gs.map fun f => (f.offset, f.type)) = true →
    ∃ places, gs.mapM (fun f => (P.info? f.type).map fun i => (f.offset, i.size)) = some places ∧ ∀ j x, placeOf T (.struct (gs.map fun f => (f.offset, f.type))) j = some x → places[j]? = some x
  | [], _ => ⟨[], by simp, fun j x h => by simp [placeOf, nth] at h⟩
  | g :: gs, h => by
    simp only [List.map_cons, known] at h
    split at h
    · rename_i i hi
      obtain ⟨places, h1, h2⟩ := known_places hT gs h
      obtain ⟨j0, hj, hs, _⟩ := (hT _ _ hi).inf
      refine ⟨(g.offset, i.size) :: places, ?_, fun j x hx => ?_⟩
      · simp [List.mapM_cons, hj, hs, h1]
      · cases j with
        | zero => simp only [placeOf, List.map_cons, nth, hi, Option.some.injEq] at hx; simp [hx]
        | succ j => simpa using h2 j x (by simpa [placeOf, nth] using hx)
    · simp at h
theorem fill_agree {pl pl' : Nat → Option (Nat × Nat)} (hpl : ∀ j x, pl j = some x → pl' j = some x) : ∀ (l : List (Nat × Value)) (cs cs' : Array Value), Instr.fill pl cs l = some cs' → Instr.fill pl' cs l = some cs'
  | [], _, _, h => h
  | (j, v) :: r, cs, cs', h => by
    simp only [Instr.fill] at h ⊢
    cases hp : pl j with
    | none => simp [hp] at h
    | some y =>
      rw [hpl j y hp]
      obtain ⟨off, size⟩ := y
      simp only [hp] at h
      simp only
      split at h
      · simp at h
      · rename_i hc
        rw [if_neg hc]
        exact fill_agree hpl r _ _ h
theorem fBuild_spec (hT : TabOk P T) (hr : Rel nt D m0 W0 ρ s a W) {t : TypeId} {parts : Array (Nat × Operand)} {K : SV → Prop} (h : fBuild T s t parts.toList K) : ∃ sv v, K sv ∧ Fits ρ sv v ∧ Yld P a (.build t parts) [] W v := by
  unfold fBuild at h
  split at h
  · rename_i i hi
    have hti := hT t i hi
    split at h
    · rename_i hagg
      cases hkn : knownK T i.k with
      | false => simp [hkn] at h
      | true =>
        simp only [hkn, cond_true] at h
        split at h
        · rename_i c hb
          obtain ⟨h1, h2⟩ := bld_spec hr hti.zok hb
          refine ⟨_, _, h, .mk h1 trivial, fun o ho W' _ => ?_⟩
          have hbuilt : P.built t (parts.map fun (i, x) => (i, a.eval x)).toList = some (LB.cells c).toArray := by
            obtain ⟨j, hj, hj1, _, z, hz, hzc⟩ := hti.inf
            obtain ⟨d, hd, hdk⟩ := hti.desc
            unfold Program.built
            cases hk : i.k with
            | struct fs =>
              obtain ⟨gs, rfl, rfl⟩ := struct_desc (hdk.trans hk)
              rw [hk] at hkn h2
              obtain ⟨places, hp1, hp2⟩ := known_places hT gs.toList hkn
              simp only [hj, hd, hz, hp1, hzc]
              have := fill_agree (pl' := fun x => places.toArray[x]?) (fun j x hx => by simpa using hp2 j x hx) _ _ _ h2
              simpa using this
            | array n e =>
              have := array_desc (hdk.trans hk); subst this
              rw [hk] at h2
              cases he : T e with
              | none => simp [hk, knownK, he] at hkn
              | some ei =>
                obtain ⟨j', hj', hjs, _⟩ := (hT e ei he).inf
                simp only [hj, hd, hz, hj', hzc, hjs]
                have := fill_agree (pl' := fun i => some (i * ei.size, ei.size)) (fun j x hx => by simpa [placeOf, he] using hx) _ _ _ h2
                simpa using this
            | _ => simp [hk, TK.agg] at hagg
          simp [execOp, ho, run_build W' t _ _ hbuilt, conc, CV.val]
        · exact h.elim
    · exact h.elim
  · exact h.elim
theorem bound_spec (hr : Rel nt D m0 W0 ρ s a W) {xo : Option Operand} {dflt most : Nat} {K : Nat → Prop} (h : bound (xo.map (ev s)) dflt most K) :
    ∃ n, K n ∧ (xo = none → n = dflt) ∧ (∀ y, xo.map a.eval = some y → (n ≤ most ∧ ∀ code w, (Instr.sliceBound y most code).run P w = .ok n w)) := by
  cases xo with
  | none => exact ⟨dflt, h, fun _ => rfl, by simp⟩
  | some x =>
    simp only [Option.map_some, bound] at h
    split at h
    · rename_i heq; simp at heq
    · rename_i k j heq
      simp only [Option.some.injEq] at heq
      have hx := (hr.fits x).eq (by rw [heq]; simp)
      rw [heq] at hx
      simp only [conc, CV.val] at hx
      refine ⟨j.toNat, h.2, by simp, fun y hy => ⟨by omega, fun code w => ?_⟩⟩
      simp only [Option.map_some, Option.some.injEq] at hy
      subst hy
      simp [Instr.sliceBound, hx, asIntOf, h.1.1, h.1.2]
    · exact h.elim
theorem bounds_run {isSlice : Bool} {len cap : Nat} {low high mx : Option Value} {l h m : Nat} (hh : ¬ (high = none ∧ mx.isSome = true))
    (hm0 : mx = none → m = cap) (hm1 : ∀ y, mx = some y → ∀ code w, (Instr.sliceBound y cap code).run P w = .ok m w)
    (hh0 : high = none → h = len) (hh1 : ∀ y, high = some y → ∀ code w, (Instr.sliceBound y m code).run P w = .ok h w)
    (hl0 : low = none → l = 0) (hl1 : ∀ y, low = some y → ∀ code w, (Instr.sliceBound y h code).run P w = .ok l w) (w : World) :
    (Instr.sliceBounds isSlice len cap low high mx).run P w = .ok (l, h, m) w := by
  unfold Instr.sliceBounds
  cases mx with
  | none =>
    have := hm0 rfl; subst this
    cases high with
    | none =>
      have := hh0 rfl; subst this
      cases low with
      | none => have := hl0 rfl; subst this; simp
      | some y => simp [hl1 y rfl]
    | some z =>
      cases low with
      | none => have := hl0 rfl; subst this; simp [hh1 z rfl]
      | some y => simp [hh1 z rfl, hl1 y rfl]
  | some u =>
    cases high with
    | none => simp at hh
    | some z =>
      cases low with
      | none => have := hl0 rfl; subst this; simp [hm1 u rfl, hh1 z rfl]
      | some y => simp [hm1 u rfl, hh1 z rfl, hl1 y rfl]
theorem fSlice_spec (hT : TabOk P T) (hr : Rel nt D m0 W0 ρ s a W) {t : TypeId} {xo : Operand} {lo hi mx : Option Operand} {K : SV → Prop} (h : fSlice T t (ev s xo) (lo.map (ev s)) (hi.map (ev s)) (mx.map (ev s)) K) :
    ∃ sv v, K sv ∧ Fits ρ sv v ∧ Yld P a (.slice t xo lo hi mx) [] W v := by
  have hx := hr.fits xo
  generalize ev s xo = x at *
  unfold fSlice at h
  cases hho : hiOk (hi.map (ev s)) (mx.map (ev s)) with
  | false => simp [hho] at h
  | true =>
    simp only [hho, cond_true] at h
    have hh : ¬ (hi.map a.eval = none ∧ (mx.map a.eval).isSome = true) := by
      cases hi <;> cases mx <;> simp [hiOk] at hho ⊢
    split at h
    · exact h.elim
    rename_i ti hti
    obtain ⟨d, hdk, hdr⟩ := (hT t ti hti).run_und
    split at h
    · rename_i e b o len cap hk
      have hd := slice_desc (hdk.trans hk); subst hd
      have ex := hx.eq (by simp)
      simp only [conc, CV.val] at ex
      split at h
      · exact h.elim
      rename_i ei hei
      obtain ⟨m, h, m0', m1⟩ := bound_spec (P := P) hr h
      obtain ⟨hh', h, h0', h1⟩ := bound_spec (P := P) hr h
      obtain ⟨l, h, l0', l1⟩ := bound_spec (P := P) hr h
      have hb := fun w => bounds_run (P := P) (isSlice := true) (len := len) (cap := cap) (low := lo.map a.eval) (high := hi.map a.eval) (mx := mx.map a.eval) (l := l) (h := hh') (m := m) hh
        (fun e => m0' (by simpa using e)) (fun y e => (m1 y e).2) (fun e => h0' (by simpa using e)) (fun y e => (h1 y e).2) (fun e => l0' (by simpa using e)) (fun y e => (l1 y e).2) w
      refine ⟨_, _, h (if m = l then o else o + l * ei.size) (fun e => by rw [if_neg e]) (fun e => by rw [if_pos e]), .v rfl, fun op ho W' _ => ?_⟩
      simp only [execOp, ho, ex, Instr.sliceAt, Instr.slice, Sem.run_bind, hdr, Result.andThen_ok, hb, (hT e ei hei).run_sizeOf]
      by_cases hml : m = l
      · simp [hml]
      · simp [hml, add_none]
    · rename_i e len cap hk
      have hd := slice_desc (hdk.trans hk); subst hd
      have ex := hx.eq (by simp)
      simp only [conc, CV.val] at ex
      split at h
      · exact h.elim
      rename_i ei hei
      obtain ⟨m, h, m0', m1⟩ := bound_spec (P := P) hr h
      obtain ⟨hh', h, h0', h1⟩ := bound_spec (P := P) hr h
      obtain ⟨l, h, l0', l1⟩ := bound_spec (P := P) hr h
      have hb := fun w => bounds_run (P := P) (isSlice := true) (len := len) (cap := cap) (low := lo.map a.eval) (high := hi.map a.eval) (mx := mx.map a.eval) (l := l) (h := hh') (m := m) hh
        (fun e => m0' (by simpa using e)) (fun y e => (m1 y e).2) (fun e => h0' (by simpa using e)) (fun y e => (h1 y e).2) (fun e => l0' (by simpa using e)) (fun y e => (l1 y e).2) w
      refine ⟨_, _, h, .v rfl, fun op ho W' _ => ?_⟩
      simp only [execOp, ho, ex, Instr.sliceAt, Instr.slice, Sem.run_bind, hdr, Result.andThen_ok, hb, (hT e ei hei).run_sizeOf]
      simp
    · rename_i n e hd' o hk
      have hd := array_desc (hdk.trans hk); subst hd
      have ex := hx.eq (by simp)
      have eo := (hx.okay (by simp)).2
      simp only [conc] at ex
      split at h
      · exact h.elim
      rename_i ei hei
      obtain ⟨m, h, m0', m1⟩ := bound_spec (P := P) hr h
      obtain ⟨hh', h, h0', h1⟩ := bound_spec (P := P) hr h
      obtain ⟨l, h, l0', l1⟩ := bound_spec (P := P) hr h
      have hb := fun w => bounds_run (P := P) (isSlice := false) (len := n) (cap := n) (low := lo.map a.eval) (high := hi.map a.eval) (mx := mx.map a.eval) (l := l) (h := hh') (m := m) hh
        (fun e => m0' (by simpa using e)) (fun y e => (m1 y e).2) (fun e => h0' (by simpa using e)) (fun y e => (h1 y e).2) (fun e => l0' (by simpa using e)) (fun y e => (l1 y e).2) w
      refine ⟨_, _, h (if m = l then 0 else l * ei.size) (fun e => by rw [if_neg e]) (fun e => by rw [if_pos e]), .mk trivial eo, fun op ho W' _ => ?_⟩
      simp only [execOp, ho, ex, Instr.sliceAt, Instr.sureAddr, Sem.run_bind, hdr, Result.andThen_ok, hb, (hT e ei hei).run_sizeOf, conc]
      by_cases hml : m = l
      · simp [hml]
      · simp [hml, add_none]
    · rename_i n e b o hk
      have hd := array_desc (hdk.trans hk); subst hd
      have ex := hx.eq (by simp)
      simp only [conc, CV.val] at ex
      split at h
      · exact h.elim
      rename_i ei hei
      obtain ⟨m, h, m0', m1⟩ := bound_spec (P := P) hr h
      obtain ⟨hh', h, h0', h1⟩ := bound_spec (P := P) hr h
      obtain ⟨l, h, l0', l1⟩ := bound_spec (P := P) hr h
      have hb := fun w => bounds_run (P := P) (isSlice := false) (len := n) (cap := n) (low := lo.map a.eval) (high := hi.map a.eval) (mx := mx.map a.eval) (l := l) (h := hh') (m := m) hh
        (fun e => m0' (by simpa using e)) (fun y e => (m1 y e).2) (fun e => h0' (by simpa using e)) (fun y e => (h1 y e).2) (fun e => l0' (by simpa using e)) (fun y e => (l1 y e).2) w
      refine ⟨_, _, h (if m = l then o else o + l * ei.size) (fun e => by rw [if_neg e]) (fun e => by rw [if_pos e]), .v rfl, fun op ho W' _ => ?_⟩
      simp only [execOp, ho, ex, Instr.sliceAt, Instr.sureAddr, Sem.run_bind, hdr, Result.andThen_ok, hb, (hT e ei hei).run_sizeOf]
      by_cases hml : m = l
      · simp [hml]
      · simp [hml, add_none]
    · rename_i z hk
      have hd := str_desc (hdk.trans hk); subst hd
      have ex := hx.eq (by simp)
      simp only [conc, CV.val] at ex
      cases mx with
      | some _ => exact h.elim
      | none =>
        obtain ⟨hh', h, h0', h1⟩ := bound_spec (P := P) hr h
        obtain ⟨l, h, l0', l1⟩ := bound_spec (P := P) hr h
        have hb := fun w => bounds_run (P := P) (isSlice := false) (len := z.size) (cap := z.size) (low := lo.map a.eval) (high := hi.map a.eval) (mx := none) (l := l) (h := hh') (m := z.size) (by simp)
          (fun e => rfl) (fun y e => by simp at e) (fun e => h0' (by simpa using e)) (fun y e => (h1 y e).2) (fun e => l0' (by simpa using e)) (fun y e => (l1 y e).2) w
        refine ⟨_, _, h, .v rfl, fun op ho W' _ => ?_⟩
        simp [execOp, ho, ex, Instr.sliceAt, Instr.slice, Sem.run_bind, hdr, hb]
    · exact h.elim
def ldArg (T : Tab) : Op → Option Operand
  | .load _ x => some x
  | .convert a b x => bif strConv T a b then some x else none
  | _ => none
def isLoad (T : Tab) (op : Op) : Bool := (ldArg T op).isSome
theorem fval_spec (hT : TabOk P T) (hr : Rel nt D m0 W0 ρ s a W) {op : Op} {K : SV → List Nat → Prop} (h : fval T s op K) :
    ∃ sv bs v B, K sv bs ∧ Fits ρ sv v ∧ (∀ b ∈ bs, ∃ o, s.m b = some o) ∧ (isLoad T op = false → B = []) ∧ (∀ b ∈ B, (b ∈ ρ ∨ b ∈ bs) ∧ ∃ x, ldArg T op = some x ∧ blkOf ρ (ev s x) = some b ∧ ∀ y, ev s x = .c y → ∃ o, s.m b = some o) ∧ Yld P a op B W v := by
  have up : ∀ {op : Op} {K : SV → List Nat → Prop}, (∃ sv v, K sv [] ∧ Fits ρ sv v ∧ Yld P a op [] W v) → ∃ sv bs v B, K sv bs ∧ Fits ρ sv v ∧ (∀ b ∈ bs, ∃ o, s.m b = some o) ∧ (isLoad T op = false → B = []) ∧ (∀ b ∈ B, (b ∈ ρ ∨ b ∈ bs) ∧ ∃ x, ldArg T op = some x ∧ blkOf ρ (ev s x) = some b ∧ ∀ y, ev s x = .c y → ∃ o, s.m b = some o) ∧ Yld P a op B W v := by
    rintro op K ⟨sv, v, h1, h2, h3⟩
    exact ⟨sv, [], v, [], h1, h2, by simp, by simp, by simp, h3⟩
  unfold fval at h
  split at h
  · rename_i x; exact up ⟨_, _, h, hr.fits x, fun o ho W' _ => by simp [execOp, ho]⟩
  · rename_i c x y
    have hc := hr.fits c
    split at h
    · rename_i e
      rw [e] at hc
      have hc := hc.eq (by simp)
      exact up ⟨_, _, h, hr.fits x, fun o ho W' _ => by simp [execOp, ho, hc, conc, asBool]⟩
    · rename_i e
      rw [e] at hc
      have hc := hc.eq (by simp)
      exact up ⟨_, _, h, hr.fits y, fun o ho W' _ => by simp [execOp, ho, hc, conc, asBool]⟩
    · rename_i b e
      rw [e] at hc
      have hc := hc.eq (by simp)
      cases b with
      | true => exact up ⟨_, _, h.1 rfl, hr.fits x, fun o ho W' _ => by simp [execOp, ho, hc, conc, CV.val, asBool]⟩
      | false => exact up ⟨_, _, h.2 rfl, hr.fits y, fun o ho W' _ => by simp [execOp, ho, hc, conc, CV.val, asBool]⟩
    · exact h.elim
  · rename_i x; exact up ⟨_, _, h, hr.fits x, fun o ho W' _ => by simp [execOp, ho]⟩
  · obtain ⟨sv, bs, v, b, h1, h2, h3, h4, h5, h5', h6⟩ := fLoad_spec hT hr (hr.fits _) h
    refine ⟨sv, bs, v, [b], h1, h2, h3, by simp [isLoad, ldArg], fun b' hb => ?_, h6⟩
    have : b' = b := by simpa using hb
    subst this
    exact ⟨h5, _, rfl, h4, h5'⟩
  · exact up (fNil_spec (hr.fits _) h)
  · exact up (fBin_spec hT (hr.fits _) (hr.fits _) h)
  · exact up (fUn_spec (hr.fits _) h)
  · rename_i src dst x
    cases hc : strConv T src dst with
    | true =>
      simp only [hc] at h
      obtain ⟨sv, bs, v, B, h1, h2, h3, h4, h5⟩ := fStr_spec hT hr hc (hr.fits x) h
      exact ⟨sv, bs, v, B, h1, h2, h3, by simp [isLoad, ldArg, hc], fun b hb => ⟨(h4 b hb).1, x, by simp [ldArg, hc], (h4 b hb).2⟩, h5⟩
    | false =>
      simp only [hc] at h
      exact up (fConv_spec hT (hr.fits _) h)
  · exact up (fField_spec hT (hr.fits _) h)
  · exact up (fFieldAddr_spec hT (hr.fits _) h)
  · exact up (fIndexAddr_spec hT (hr.fits _) (hr.fits _) h)
  · exact up (fIndex_spec hT (hr.fits _) (hr.fits _) h)
  · rename_i x j
    split at h
    · rename_i l hl
      split at h
      · rename_i y hy
        have hx := (hr.fits x).eq (by rw [hl]; simp)
        have ho := ((hr.fits x).okay (by rw [hl]; simp)).1
        rw [hl] at hx ho
        rw [nth_eq] at hy
        refine up ⟨_, _, h, .mk (ho y (List.mem_of_getElem? hy)) trivial, fun o ho' W' _ => ?_⟩
        simp only [conc] at hx
        simp [execOp, ho', hx, Instr.extract, hy, conc]
      · exact h.elim
    · exact h.elim
  · exact up (fBuild_spec hT hr h)
  · exact up (fSlice_spec hT hr h)
  · exact up (fBuiltin_spec hT hr h)
  · exact h.elim
end
end Go.E
namespace Go.E
def Enters (P : Program) (f : FuncId) : Prop := ∀ (args : Array Value) (w : World), (callFunc f args).run P w = .ok (.enter f args) w
def Spec (P : Program) (f : FuncId) (args : List CV) (m : Mem) (R : List CV → Mem → Prop) : Prop :=
  Enters P f ∧ ((∀ x ∈ args, x.ok) → ∀ W, Over m W → Calls P f (args.map CV.val).toArray W fun e W' => ∃ r m', e = .returned (resVal r) ∧ (∀ x ∈ r, x.ok) ∧ R r m' ∧ After m W m' W')
theorem Spec.mono {P : Program} {f : FuncId} {args : List CV} {m : Mem} {R R' : List CV → Mem → Prop} (h : Spec P f args m R) (hr : ∀ r m', R r m' → R' r m') : Spec P f args m R' :=
  ⟨h.1, fun ha W hW => (h.2 ha W hW).mono fun _ _ ⟨r, m', h1, h2, h3, h4⟩ => ⟨r, m', h1, h2, hr _ _ h3, h4⟩⟩
abbrev Ret (P : Program) (f : FuncId) (args : List CV) (m : Mem) (r : List CV) : Prop := Spec P f args m fun r' m' => r' = r ∧ m' = m
def resSV : List CV → SV
  | [x] => .c x
  | l => .t l
theorem conc_resSV (ρ : List Nat) (r : List CV) : conc ρ (resSV r) = resVal r := by
  match r with
  | [x] => rfl
  | [] => rfl
  | _ :: _ :: _ => rfl
theorem resSV_ok {r : List CV} (h : ∀ x ∈ r, x.ok) : (resSV r).ok := by
  unfold resSV
  split
  · rename_i x; exact h x (by simp)
  · exact h
theorem resSV_under (r : List CV) (n : Nat) : (resSV r).under n := by
  unfold resSV; split <;> trivial
def closed : List SV → Option (List CV)
  | [] => some []
  | .c x :: r => match closed r with
    | some l => some (x :: l)
    | none => none
  | .tt :: r => match closed r with
    | some l => some (.v (.bool true) :: l)
    | none => none
  | .ff :: r => match closed r with
    | some l => some (.v (.bool false) :: l)
    | none => none
  | _ => none
def ExtSpec (P : Program) (f : FuncId) (args : List CV) (m : Mem) (R : List CV → Mem → Prop) : Prop :=
  (∀ x ∈ args, x.ok) → ∀ W, Over m W → ∃ r m' W', (callFunc f (args.map CV.val).toArray).run P W = .ok (.value (resVal r)) W' ∧ (∀ x ∈ r, x.ok) ∧ R r m' ∧ After m W m' W'
inductive XCall (P : Program) (f : FuncId) (args : List CV) (m : Mem) (K : List CV → Mem → Prop) : Prop
  | mk (R : List CV → Mem → Prop) (h : Spec P f args m R) (k : ∀ r m', R r m' → K r m')
  | ext (R : List CV → Mem → Prop) (h : ExtSpec P f args m R) (k : ∀ r m', R r m' → K r m')
theorem xcall {P : Program} {f : FuncId} {args : List CV} {m : Mem} {R K : List CV → Mem → Prop} (h : Spec P f args m R) (k : ∀ r m', R r m' → K r m') : XCall P f args m K := .mk R h k
theorem xret {P : Program} {f : FuncId} {args : List CV} {m : Mem} {r : List CV} {K : List CV → Mem → Prop} (h : Ret P f args m r) (k : K r m) : XCall P f args m K := .mk _ h (by rintro _ _ ⟨rfl, rfl⟩; exact k)
abbrev Loc := List (TypeId × LB)
inductive Kp where
  | all
  | none
  | but (h : Nat)
  | new (n : Nat)
def Kept (x : List Nat) (m m' : Mem) : Prop := ∀ b ∈ x, m' b = m b
def nStore (T : Tab) (s : St) (t : TypeId) (x y : SV) (K : Loc → Mem → Prop) : Prop :=
  match T t with
  | none => False
  | some i => match x with
    | .p h off => match nth s.L h with
      | none => False
      | some (t', c) => match y with
        | .c (.v z) => bif Nat.beq i.size 1 then (match LB.set c off z with | some d => K (s.L.set h (t', d)) s.m | none => False) else False
        | .tt => bif Nat.beq i.size 1 then (match LB.set c off (.bool true) with | some d => K (s.L.set h (t', d)) s.m | none => False) else False
        | .ff => bif Nat.beq i.size 1 then (match LB.set c off (.bool false) with | some d => K (s.L.set h (t', d)) s.m | none => False) else False
        | .c (.a v) => bif Nat.beq i.size (LB.size v) then (match LB.putW c off v with | some d => K (s.L.set h (t', d)) s.m | none => False) else False
        | _ => False
    | .q h off e => match nth s.L h with
      | none => False
      | some (t', c) => match y with
        | .c (.v z) => bif Nat.beq i.size 1 then LB.dset c off e z (fun d => K (s.L.set h (t', d)) s.m) else False
        | .tt => bif Nat.beq i.size 1 then LB.dset c off e (.bool true) (fun d => K (s.L.set h (t', d)) s.m) else False
        | .ff => bif Nat.beq i.size 1 then LB.dset c off e (.bool false) (fun d => K (s.L.set h (t', d)) s.m) else False
        | .c (.a v) => bif Nat.beq i.size (LB.size v) then LB.dput c off e v (fun d => K (s.L.set h (t', d)) s.m) else False
        | _ => False
    | .c (.v (.pointer (some ⟨b, off, none⟩))) => match y with
      | .c (.v z) => bif Nat.beq i.size 1 then (∃ arr t' fr, s.m b = some (.cells arr t' fr) ∧ (off < arr.size ∧ ¬ (fr.1 ≤ off ∧ off < fr.2)) ∧ K s.L (s.m.set b (.cells (arr.setIfInBounds off z) t' fr))) else False
      | .tt => bif Nat.beq i.size 1 then (∃ arr t' fr, s.m b = some (.cells arr t' fr) ∧ (off < arr.size ∧ ¬ (fr.1 ≤ off ∧ off < fr.2)) ∧ K s.L (s.m.set b (.cells (arr.setIfInBounds off (.bool true)) t' fr))) else False
      | .ff => bif Nat.beq i.size 1 then (∃ arr t' fr, s.m b = some (.cells arr t' fr) ∧ (off < arr.size ∧ ¬ (fr.1 ≤ off ∧ off < fr.2)) ∧ K s.L (s.m.set b (.cells (arr.setIfInBounds off (.bool false)) t' fr))) else False
      | .c (.a v) => bif Nat.beq i.size (LB.size v) then (∃ arr t' fr, s.m b = some (.cells arr t' fr) ∧ (off + LB.size v ≤ arr.size ∧ ∀ j, j < LB.size v → ¬ (fr.1 ≤ off + j ∧ off + j < fr.2)) ∧ K s.L (s.m.set b (.cells (arr.toList.take off ++ (LB.cells v ++ arr.toList.drop (off + LB.size v))).toArray t' fr))) else False
      | _ => False
    | _ => False
def atHandle (h : Nat) : SV → Bool
  | .p h' _ => Nat.beq h' h
  | .q h' _ _ => Nat.beq h' h
  | _ => false
def newHandle (n : Nat) : SV → Bool
  | .p h' _ => Nat.ble n h'
  | .q h' _ _ => Nat.ble n h'
  | _ => false
def nNew (s : St) (t : TypeId) (c : LB) (ext : Bool) (K : SV → Loc → Mem → List Nat → Prop) : Prop :=
  match ext with
  | false => K (.p s.L.length 0) (s.L ++ [(t, c)]) s.m s.x
  | true => ∀ b, s.m b = none → K (.c (.v (.pointer (some ⟨b, 0, none⟩)))) s.L (s.m.set b (.cells (LB.cells c).toArray t)) s.x
inductive Prim where
  | buildSlice (t : TypeId) (len : Nat) (ix : List Nat)
  | makeSlice (t : TypeId)
  | builtin (b : Builtin) (ats : List TypeId)
  | conv (src dst : TypeId)
  | makeMap (t : TypeId)
  | lookup (t : TypeId) (ok : Bool)
  | makeInterface (t : TypeId)
  | makeFunc (fn : Fn) (n : Nat)
  | mapUpdate (t : TypeId)
  | range (t : TypeId)
  | next (str : Bool)
  | entry
def Prim.unit : Prim → Bool
  | .mapUpdate _ => true
  | _ => false
def Prim.run : Prim → TypeId → List Value → Sem Value
  | .buildSlice t len ix, _, vs => Instr.buildSlice t len (ix.zip vs).toArray
  | .makeSlice t, _, [l, c] => Instr.makeSlice t l c
  | .builtin b ats, ty, vs => match b with
    | .append => Builtin.append_ ats.toArray ty vs.toArray
    | .copy => Builtin.copy_ ats.toArray ty vs.toArray
    | .cap => Builtin.cap_ ats.toArray ty vs.toArray
    | .clear => Builtin.clear_ ats.toArray ty vs.toArray
    | .delete => Builtin.delete_ ats.toArray ty vs.toArray
    | _ => stuck ""
  | .conv s d, _, [x] => convert s d x
  | .makeMap t, _, [] => Instr.makeMap t none
  | .makeMap t, _, [x] => Instr.makeMap t (some x)
  | .lookup t ok, _, [m, k] => Instr.lookup t m k ok
  | .makeInterface t, _, [x] => Instr.makeInterface t x
  | .makeFunc fn n, _, vs => Instr.makeFunc fn (vs.take n).toArray (vs.drop n).toArray
  | .mapUpdate t, _, [m, k, x] => do Instr.mapUpdate t m k x; pure undef
  | .range t, _, [x] => Instr.range t x
  | .next b, ty, [x] => Instr.next x b ty
  | .entry, _, [x] => Instr.entry x
  | _, _, _ => stuck ""
def primOf : Op → Option (Prim × List Operand)
  | .buildSlice t len parts => some (.buildSlice t len (parts.toList.map (·.1)), parts.toList.map (·.2))
  | .makeSlice t l c => some (.makeSlice t, [l, c])
  | .call ⟨.builtin b, args, ats⟩ => match b with
    | .append => some (.builtin .append ats.toList, args.toList)
    | .copy => some (.builtin .copy ats.toList, args.toList)
    | .cap => some (.builtin .cap ats.toList, args.toList)
    | .clear => some (.builtin .clear ats.toList, args.toList)
    | .delete => some (.builtin .delete ats.toList, args.toList)
    | _ => none
  | .convert s d x => some (.conv s d, [x])
  | .makeMap t r => some (.makeMap t, r.toList)
  | .lookup t x k ok => some (.lookup t ok, [x, k])
  | .makeInterface t x => some (.makeInterface t, [x])
  | .makeFunc fn first captured => some (.makeFunc fn first.size, first.toList ++ captured.toList)
  | .mapUpdate t m k x => some (.mapUpdate t, [m, k, x])
  | .insert t m k x => some (.mapUpdate t, [m, k, x])
  | .range t x => some (.range t, [x])
  | .next x b => some (.next b, [x])
  | .entry x => some (.entry, [x])
  | _ => none
def Prim.tup : Prim → Bool
  | .next _ => true
  | _ => false
def Prim.out (p : Prim) (r : List CV) : Value := bif p.tup then .tuple (r.map CV.val).toArray else resVal r
def PrimSpec (P : Program) (p : Prim) (args : List CV) (m : Mem) (R : List CV → Mem → Prop) : Prop :=
  (∀ x ∈ args, x.ok) → ∀ ty W, Over m W → ∃ r m' W', (p.run ty (args.map CV.val)).run P W = .ok (p.out r) W' ∧ (∀ x ∈ r, x.ok) ∧ R r m' ∧ After m W m' W'
inductive XPrim (P : Program) (p : Prim) (args : List CV) (m : Mem) (K : List CV → Mem → Prop) : Prop
  | mk (R : List CV → Mem → Prop) (h : PrimSpec P p args m R) (k : ∀ r m', R r m' → K r m')
def primSV (p : Prim) (r : List CV) : SV := bif p.unit then .un else bif p.tup then .t r else resSV r
def allOne : List Value → Bool
  | [] => true
  | x :: r => x.oneCell' && allOne r
theorem allOne_spec : ∀ {l : List Value}, allOne l = true → ∀ x ∈ l, x.oneCell' = true
  | [], _, x, hx => by cases hx
  | y :: l, h, x, hx => by
    simp only [allOne, Bool.and_eq_true] at h
    rcases List.mem_cons.1 hx with rfl | hx
    · exact h.1
    · exact allOne_spec h.2 x hx
def nval (P : Program) (T : Tab) (s : St) (op : Op) (ext : Bool) (keep : Kp) (K : SV → Loc → Mem → List Nat → Prop) : Prop :=
  match op with
  | .alloc t => match T t with
    | some i => nNew s t i.zero ext K
    | none => False
  | .box t y => match ev s y with
    | .c (.a c) => nNew s t c ext K
    | .c (.v z) => nNew s t [.one z] ext K
    | .tt => nNew s t [.one (.bool true)] ext K
    | .ff => nNew s t [.one (.bool false)] ext K
    | _ => False
  | .store t x y => match keep with
    | .all => False
    | .none => nStore T s t (ev s x) (ev s y) fun L m => K .un L m []
    | .but h => bif atHandle h (ev s x) then nStore T s t (ev s x) (ev s y) (fun L m => K .un L m s.x) else False
    | .new n => bif newHandle n (ev s x) then nStore T s t (ev s x) (ev s y) (fun L m => K .un L m s.x) else False
  | .call ⟨.value (.func f), args, _⟩ => match closed (args.toList.map (ev s)) with
    | Option.none => False
    | some cs => match keep with
      | .all => XCall P f cs s.m fun r m' => Kept s.x s.m m' ∧ K (resSV r) s.L m' s.x
      | .none => XCall P f cs s.m fun r m' => K (resSV r) s.L m' []
      | .but _ => False
      | .new _ => False
  | .call ⟨.value (.tmp t), args, _⟩ => match s.fr t with
    | .c (.v (.func (.func f) first captured)) => bif allOne first.toList && allOne captured.toList then (match closed (args.toList.map (ev s)) with
      | Option.none => False
      | some cs => match keep with
        | .all => XCall P f (first.toList.map CV.v ++ cs ++ captured.toList.map CV.v) s.m fun r m' => Kept s.x s.m m' ∧ K (resSV r) s.L m' s.x
        | .none => XCall P f (first.toList.map CV.v ++ cs ++ captured.toList.map CV.v) s.m fun r m' => K (resSV r) s.L m' []
        | .but _ => False
        | .new _ => False) else False
    | _ => False
  | op => match primOf op with
    | Option.none => False
    | some (p, xs) => match closed (xs.map (ev s)) with
      | Option.none => False
      | some cs => match keep with
        | .all => XPrim P p cs s.m fun r m' => Kept s.x s.m m' ∧ K (primSV p r) s.L m' s.x
        | .none => XPrim P p cs s.m fun r m' => K (primSV p r) s.L m' []
        | .but _ => False
        | .new _ => False
def Pres (ρ : List Nat) (x : List Nat) (W W' : World) (x' : List Nat) : Kp → Prop
  | .all => (∀ b, b ∈ ρ ∨ b ∈ x → W'.heap[b]? = W.heap[b]?) ∧ ∀ b ∈ x, b ∈ x'
  | .none => True
  | .but h => (∀ b, b < W.heap.size → b ≠ ρ.getD h 0 → W'.heap[b]? = W.heap[b]?) ∧ ∀ b ∈ x, b ∈ x'
  | .new n => (∀ b, b ∈ ρ.take n → W'.heap[b]? = W.heap[b]?) ∧ ∀ b ∈ x, b ∈ x'
theorem Pres.same {ρ x : List Nat} {W W' : World} (h : ∀ b : Nat, W'.heap[b]? = W.heap[b]?) {x' : List Nat} (hx : ∀ b ∈ x, b ∈ x') : ∀ keep, Pres ρ x W W' x' keep
  | .all => ⟨fun b _ => h b, hx⟩
  | .none => trivial
  | .but _ => ⟨fun b _ _ => h b, hx⟩
  | .new _ => ⟨fun b _ => h b, hx⟩
section
variable {P : Program} {T : Tab} {nt : Nat} {D : List Deferred} {m0 : Mem} {W0 : World} {ρ : List Nat} {s : St} {a : Act} {W : World}
def Outs (m : Mem) (ρ : List Nat) (W : World) (m' : Mem) (e : List Nat) (W' : World) : Prop := ∀ b : Nat, b < W.heap.size → m b = none → b ∉ ρ → W'.heap[b]? = W.heap[b]? ∧ m' b = none ∧ b ∉ e
def NPost (nt : Nat) (D : List Deferred) (m0 : Mem) (W0 : World) (ρ : List Nat) (s : St) (a : Act) (W : World) (d : Option Nat) (keep : Kp) (K : SV → Loc → Mem → List Nat → Prop) : Act → World → Prop := fun a' W' =>
  ∃ sv L' m' x' e, K sv L' m' x' ∧ Rel nt D m0 W0 (ρ ++ e) ⟨putF s.fr d sv, L', m', x'⟩ a' W' ∧ Pres ρ s.x W W' x' keep ∧ Outs s.m ρ W m' e W' ∧ ∃ v, a' = a.put d v
theorem Rel.out (hr : Rel nt D m0 W0 ρ s a W) {h : Nat} (hh : h < ρ.length) : s.m (ρ.getD h 0) = none ∧ W0.heap.size ≤ ρ.getD h 0 ∧ ρ.getD h 0 < W.heap.size := by
  have hl : h < s.L.length := by rw [← hr.len]; exact hh
  have := hr.locs h s.L[h].1 s.L[h].2 (by rw [List.getElem?_eq_getElem hl])
  exact ⟨this.2.2.1, this.2.2.2, (Array.getElem?_eq_some_iff.1 this.1).1⟩
theorem mem_getD {b : Nat} (h : b ∈ ρ) : ∃ i, i < ρ.length ∧ ρ.getD i 0 = b := by
  obtain ⟨i, hi, he⟩ := List.getElem_of_mem h
  exact ⟨i, hi, by simp [List.getD_eq_getElem?_getD, List.getElem?_eq_getElem hi, he]⟩
theorem Rel.seen_lt (hr : Rel nt D m0 W0 ρ s a W) {b : Nat} (h : b ∈ ρ ∨ b ∈ s.x) : b < W.heap.size := by
  rcases h with h | h
  · obtain ⟨i, hi, rfl⟩ := mem_getD h; exact (hr.out hi).2.2
  · obtain ⟨o, ho⟩ := hr.seen b h; exact hr.after.over.lt ho
theorem Rel.newLocal (hr : Rel nt D m0 W0 ρ s a W) {d : Option Nat} (hd : dstIn d a.tmps.size) (t : TypeId) {c : LB} (hc : LB.ok c) :
    Rel nt D m0 W0 (ρ ++ [W.heap.size]) ⟨putF s.fr d (.p s.L.length 0), s.L ++ [(t, c)], s.m, s.x⟩ (a.put d (.pointer (some ⟨W.heap.size, 0, none⟩))) (W.alloc (.cells (LB.cells c).toArray t)) := by
  have hlen := hr.len
  refine ⟨by rw [Act.put_defers_eq]; exact hr.defers, by rw [Act.put_size]; exact hr.size, ?_, by simp [hlen], ?_, ?_, hr.after.allocOut _, hr.seen⟩
  · refine hr.putSlots hd (y := .p s.L.length 0) (.inr ⟨trivial, by simp [SV.under, hlen]⟩) _ (.inr ?_)
    simp [conc, ← hlen, List.getD_eq_getElem?_getD]
  · intro h t' c' hh
    by_cases hlt : h < s.L.length
    · rw [List.getElem?_append_left hlt] at hh
      have hg : (ρ ++ [W.heap.size]).getD h 0 = ρ.getD h 0 := by
        simp only [List.getD_eq_getElem?_getD]; rw [List.getElem?_append_left (by omega)]
      rw [hg]
      obtain ⟨h1, h2, h3, h4⟩ := hr.locs h t' c' hh
      refine ⟨?_, h2, h3, h4⟩
      rw [heap_alloc_old W _ (Array.getElem?_eq_some_iff.1 h1).1]; exact h1
    · have he : h = s.L.length := by
        have := (List.getElem?_eq_some_iff.1 hh).1
        simp at this; omega
      subst he
      simp at hh
      obtain ⟨rfl, rfl⟩ := hh
      have hg : (ρ ++ [W.heap.size]).getD s.L.length 0 = W.heap.size := by simp [← hlen, List.getD_eq_getElem?_getD]
      rw [hg]
      exact ⟨heap_alloc_new W _, hc, hr.after.over.none (Nat.le_refl _), hr.after.size⟩
  · rw [List.nodup_append]
    refine ⟨hr.nodup, by simp, ?_⟩
    intro b hb b' hb'
    simp at hb'
    subst hb'
    obtain ⟨i, hi, rfl⟩ := mem_getD hb
    have := (hr.out hi).2.2
    omega
theorem keep_alloc (hr : Rel nt D m0 W0 ρ s a W) (o : Obj) : ∀ b, b ∈ ρ ∨ b ∈ s.x → (W.alloc o).heap[b]? = W.heap[b]? :=
  fun _ hb => heap_alloc_old W o (hr.seen_lt hb)
theorem nodup_inj : ∀ {l : List Nat}, l.Nodup → ∀ {i j : Nat} (hi : i < l.length) (hj : j < l.length), l[i] = l[j] → i = j
  | [], _, _, _, hi, _, _ => by simp at hi
  | x :: l, hn, 0, 0, _, _, _ => rfl
  | x :: l, hn, 0, j + 1, _, hj, h => by
    have := (List.nodup_cons.1 hn).1
    simp at h
    exact absurd (h ▸ List.getElem_mem _) this
  | x :: l, hn, i + 1, 0, hi, _, h => by
    have := (List.nodup_cons.1 hn).1
    simp at h
    exact absurd (h ▸ List.getElem_mem _) this
  | x :: l, hn, i + 1, j + 1, hi, hj, h => by
    simp at h
    exact congrArg (· + 1) (nodup_inj (List.nodup_cons.1 hn).2 (by simpa using hi) (by simpa using hj) h)
theorem outs_alloc (o : Obj) (m : Mem) (e : List Nat) (he : ∀ b ∈ e, b = W.heap.size) : Outs m ρ W m e (W.alloc o) := fun b hb hm _ =>
  ⟨heap_alloc_old W o hb, hm, fun h => by have := he b h; omega⟩
theorem outs_known (o : Obj) (m : Mem) : Outs m ρ W (m.set W.heap.size o) [] (W.alloc o) := fun b hb hm _ =>
  ⟨heap_alloc_old W o hb, by rw [Mem.set_ne _ _ (by omega)]; exact hm, by simp⟩
theorem keep_pres (hr : Rel nt D m0 W0 ρ s a W) (o : Obj) : ∀ keep, Pres ρ s.x W (W.alloc o) s.x keep
  | .all => ⟨keep_alloc hr o, fun _ hb => hb⟩
  | .none => trivial
  | .but _ => ⟨fun _ hb _ => heap_alloc_old W o hb, fun _ hb => hb⟩
  | .new _ => ⟨fun _ hb => keep_alloc hr o _ (.inl (List.mem_of_mem_take hb)), fun _ hb => hb⟩
theorem Rel.setLocal (hr : Rel nt D m0 W0 ρ s a W) {d : Option Nat} (hd : dstIn d a.tmps.size) {h : Nat} {t : TypeId} {c c' : LB} (hh : s.L[h]? = some (t, c)) (hc' : LB.ok c') :
    Rel nt D m0 W0 ρ ⟨putF s.fr d .un, s.L.set h (t, c'), s.m, s.x⟩ (a.put d undef) (W.setRow (ρ.getD h 0) (LB.cells c').toArray) := by
  have hlen := hr.len
  have hl : h < s.L.length := (List.getElem?_eq_some_iff.1 hh).1
  have hlρ : h < ρ.length := by omega
  obtain ⟨g1, g2, g3, g4⟩ := hr.locs h t c hh
  refine ⟨by rw [Act.put_defers_eq]; exact hr.defers, by rw [Act.put_size]; exact hr.size, ?_, by simp [hlen], ?_, hr.nodup, hr.after.setRowOut g3 g4 _, hr.seen⟩
  · have := hr.putSlots hd (e := []) (y := .un) (.inr ⟨trivial, trivial⟩) undef (.inr rfl)
    simpa using this
  · intro i t' c'' hi
    by_cases e : i = h
    · subst e
      simp [hl] at hi
      obtain ⟨rfl, rfl⟩ := hi
      exact ⟨setRow_at W _ _ _ _ _ g1, hc', g3, g4⟩
    · simp only at hi
      rw [List.getElem?_set_ne (fun e' => e e'.symm)] at hi
      have hli : i < s.L.length := (List.getElem?_eq_some_iff.1 hi).1
      obtain ⟨k1, k2, k3, k4⟩ := hr.locs i t' c'' hi
      refine ⟨?_, k2, k3, k4⟩
      rw [setRow_other W _ _ _ ?_]; exact k1
      intro he
      have : ρ[i]'(by omega) = ρ[h]'hlρ := by
        simp only [List.getD_eq_getElem?_getD, List.getElem?_eq_getElem (show i < ρ.length by omega), List.getElem?_eq_getElem hlρ, Option.getD_some] at he
        exact he
      exact e (nodup_inj hr.nodup _ _ this)
theorem Rel.setKnown (hr : Rel nt D m0 W0 ρ s a W) {d : Option Nat} (hd : dstIn d a.tmps.size) {b : Nat} {arr : Array Value} {t : TypeId} {fr : Nat × Nat} (hb : s.m b = some (.cells arr t fr)) (cs : Array Value) :
    Rel nt D m0 W0 ρ ⟨putF s.fr d .un, s.L, s.m.set b (.cells cs t fr), []⟩ (a.put d undef) (W.setRow b cs) := by
  refine ⟨by rw [Act.put_defers_eq]; exact hr.defers, by rw [Act.put_size]; exact hr.size, ?_, hr.len, ?_, hr.nodup, hr.after.setRow hb cs, by simp⟩
  · have := hr.putSlots hd (e := []) (y := .un) (.inr ⟨trivial, trivial⟩) undef (.inr rfl)
    simpa using this
  · intro i t' c'' hi
    obtain ⟨k1, k2, k3, k4⟩ := hr.locs i t' c'' hi
    have hne : ρ.getD i 0 ≠ b := fun e => by rw [e, hb] at k3; cases k3
    exact ⟨by rw [setRow_other W _ _ _ hne]; exact k1, k2, by show Mem.set _ _ _ _ = _; rw [Mem.set_ne _ _ hne]; exact k3, k4⟩
theorem Rel.newKnown (hr : Rel nt D m0 W0 ρ s a W) {d : Option Nat} (hd : dstIn d a.tmps.size) (o : Obj) {v : Value} (hv : v.oneCell' = true) :
    Rel nt D m0 W0 ρ ⟨putF s.fr d (.c (.v v)), s.L, s.m.set W.heap.size o, s.x⟩ (a.put d v) (W.alloc o) := by
  refine ⟨by rw [Act.put_defers_eq]; exact hr.defers, by rw [Act.put_size]; exact hr.size, ?_, hr.len, ?_, hr.nodup, hr.after.alloc o, ?_⟩
  · have := hr.putSlots hd (e := []) (y := .c (.v v)) (.inr ⟨hv, trivial⟩) v (.inr rfl)
    simpa using this
  · intro i t' c'' hi
    obtain ⟨k1, k2, k3, k4⟩ := hr.locs i t' c'' hi
    have hlt := (Array.getElem?_eq_some_iff.1 k1).1
    exact ⟨by rw [heap_alloc_old W _ hlt]; exact k1, k2, by show Mem.set _ _ _ _ = _; rw [Mem.set_ne _ _ (by omega)]; exact k3, k4⟩
  · intro b hb
    obtain ⟨ob, hob⟩ := hr.seen b hb
    exact ⟨ob, Mem.sub_set _ (hr.after.over.none (Nat.le_refl _)) b ob hob⟩
end
end Go.E
namespace Go.E
section
variable {P : Program} {T : Tab} {nt : Nat} {D : List Deferred} {m0 : Mem} {W0 : World} {ρ : List Nat} {s : St} {a : Act} {W : World} {Q : Exit → Act → World → Prop}
theorem store_wp {o : Oper} {t : TypeId} {xo yo : Operand} (ho : o.op = .store t xo yo) {ad : Addr} {v : Value} (hx : a.eval xo = .pointer (some ad)) (hy : a.eval yo = v) {W' : World} (hs : (storeVar t ad v).run P W = .ok () W')
    {N : Act → World → Prop} (h : N (a.put o.dst undef) W') : o.wp P a W N Q := by
  unfold Oper.wp
  have : (execOp a.eval o).run P W = .ok .skip W' := by simp [execOp, ho, hx, hy, Instr.storeAt, Instr.sureAddr, hs]
  rw [this]; exact h
theorem nStore_spec (hT : TabOk P T) (hr : Rel nt D m0 W0 ρ s a W) {o : Oper} (hd : dstIn o.dst a.tmps.size) {t : TypeId} {xo yo : Operand} (ho : o.op = .store t xo yo) {keep : Kp} {x' : List Nat} (hkp : (keep = .none ∧ x' = []) ∨ (∃ h, keep = .but h ∧ x' = s.x ∧ atHandle h (ev s xo) = true) ∨ ∃ n, keep = .new n ∧ x' = s.x ∧ newHandle n (ev s xo) = true) {K : SV → Loc → Mem → List Nat → Prop}
    (h : nStore T s t (ev s xo) (ev s yo) fun L m => K .un L m x') : o.wp P a W (NPost nt D m0 W0 ρ s a W o.dst keep K) Q := by
  have hx := hr.fits xo
  have hy := hr.fits yo
  unfold nStore at h
  split at h
  · exact h.elim
  rename_i i hi
  have hti := hT t i hi
  have loc : ∀ (hd' off : Nat) (t' : TypeId) (c d : LB) (l : List Value), s.L[hd']? = some (t', c) → a.eval xo = .pointer (some ⟨ρ.getD hd' 0, off, none⟩) → (a.eval yo).cells = l.toArray → l.length = i.size → (∀ x ∈ l, x.oneCell' = true) →
      LB.ok d → LB.cells d = (LB.cells c).take off ++ (l ++ (LB.cells c).drop (off + l.length)) → off + l.length ≤ (LB.cells c).length → K .un (s.L.set hd' (t', d)) s.m x' → o.wp P a W (NPost nt D m0 W0 ρ s a W o.dst keep K) Q := by
    intro hd' off t' c d l hc ex hcells hl h1 hdk hdc hle hk
    obtain ⟨g1, g2, g3, g4⟩ := hr.locs hd' t' c hc
    have hrun := run_store_many (P := P) hti (off := off) (v := a.eval yo) g1 hcells hl h1 (by simpa using hle) (by intro j _; simp)
    have hset := hr.setLocal hd hc hdk
    rw [hdc] at hset
    have hlt' : hd' < ρ.length := by rw [hr.len]; exact (List.getElem?_eq_some_iff.1 hc).1
    have hout : ∀ cs : Array Value, Outs s.m ρ W s.m [] (W.setRow (ρ.getD hd' 0) cs) := fun cs b _ hm hb =>
      ⟨setRow_other W _ b _ (fun e => hb (by rw [e]; exact getD_mem hlt')), hm, by simp⟩
    rcases hkp with ⟨rfl, rfl⟩ | ⟨hh, rfl, rfl, hat⟩ | ⟨n, rfl, rfl, hat⟩
    · refine store_wp ho ex rfl hrun ⟨.un, _, _, _, [], hk, ?_, trivial, hout _, undef, rfl⟩
      rw [List.append_nil]
      have := hset.clear
      simpa using this
    · refine store_wp ho ex rfl hrun ⟨.un, _, _, _, [], hk, ?_, ?_, hout _, undef, rfl⟩
      · rw [List.append_nil]
        simpa using hset
      · have e : ρ.getD hh 0 = ρ.getD hd' 0 := by
          have hne : ev s xo ≠ .any := by intro e; rw [e] at hat; simp [atHandle] at hat
          have hcv := hx.eq hne
          rw [ex] at hcv
          cases hev : ev s xo <;> rw [hev] at hat hcv <;> simp only [atHandle] at hat
          all_goals first
            | (simp at hat; done)
            | (have := Nat.eq_of_beq_eq_true hat; subst this; simp only [conc, Value.pointer.injEq, Option.some.injEq, Addr.mk.injEq] at hcv; exact hcv.1.symm)
        exact ⟨fun b _ hb => by rw [e] at hb; exact setRow_other W _ b _ hb, fun _ hb => hb⟩
    · refine store_wp ho ex rfl hrun ⟨.un, _, _, _, [], hk, ?_, ?_, hout _, undef, rfl⟩
      · rw [List.append_nil]
        simpa using hset
      · have hne : ev s xo ≠ .any := by intro e; rw [e] at hat; simp [newHandle] at hat
        have hcv := hx.eq hne
        have hun := (hr.evalOk xo hne).2
        rw [ex] at hcv
        have far : ∀ h', h' < ρ.length → n ≤ h' → ρ.getD hd' 0 = ρ.getD h' 0 → ∀ b ∈ ρ.take n, b ≠ ρ.getD hd' 0 := by
          intro h' hl hle he b hb e2
          obtain ⟨j, hj, rfl⟩ := List.getElem_of_mem hb
          rw [List.length_take] at hj
          rw [List.getElem_take, he] at e2
          simp only [List.getD_eq_getElem?_getD, List.getElem?_eq_getElem hl, Option.getD_some] at e2
          have := nodup_inj hr.nodup (by omega) hl e2
          omega
        have key : ∀ b ∈ ρ.take n, b ≠ ρ.getD hd' 0 := by
          cases hev : ev s xo <;> rw [hev] at hat hcv hun <;> simp only [newHandle] at hat
          all_goals first
            | (simp at hat; done)
            | (simp only [conc, Value.pointer.injEq, Option.some.injEq, Addr.mk.injEq] at hcv; exact far _ hun (ble_le.1 hat) hcv.1)
        exact ⟨fun b hb => setRow_other W _ b _ (key b hb), fun _ hb => hb⟩
  have ext : ∀ (b off : Nat) (arr : Array Value) (t' : TypeId) (fr : Nat × Nat) (l : List Value) (cs : Array Value), s.m b = some (.cells arr t' fr) → a.eval xo = .pointer (some ⟨b, off, none⟩) → (a.eval yo).cells = l.toArray → l.length = i.size → (∀ x ∈ l, x.oneCell' = true) → (∀ h, atHandle h (ev s xo) = false ∧ newHandle h (ev s xo) = false) →
      off + l.length ≤ arr.size → (∀ j, j < l.length → ¬ (fr.1 ≤ off + j ∧ off + j < fr.2)) → cs = (arr.toList.take off ++ (l ++ arr.toList.drop (off + l.length))).toArray → K .un s.L (s.m.set b (.cells cs t' fr)) x' → o.wp P a W (NPost nt D m0 W0 ρ s a W o.dst keep K) Q := by
    intro b off arr t' fr l cs hb ex hcells hl h1 hnh hle hf hcs hk
    obtain ⟨rfl, rfl⟩ : keep = .none ∧ x' = [] := by
      rcases hkp with h | ⟨hh, _, _, hat⟩ | ⟨hh, _, _, hat⟩
      · exact h
      · rw [(hnh hh).1] at hat; cases hat
      · rw [(hnh hh).2] at hat; cases hat
    have hrun := run_store_many (P := P) hti (off := off) (v := a.eval yo) (hr.after.over _ _ hb) hcells hl h1 hle hf
    have hout : ∀ cs' : Array Value, Outs s.m ρ W (s.m.set b (.cells cs t' fr)) [] (W.setRow b cs') := fun cs' b' _ hm _ => by
      have hne : b' ≠ b := fun e => by rw [e, hb] at hm; cases hm
      exact ⟨setRow_other W _ b' _ hne, by rw [Mem.set_ne _ _ hne]; exact hm, by simp⟩
    refine store_wp ho ex rfl hrun ⟨.un, _, _, _, [], hk, ?_, trivial, hout _, undef, rfl⟩
    rw [List.append_nil, ← hcs]
    exact hr.setKnown hd hb cs
  have set1 : ∀ (arr : Array Value) (off : Nat) (z : Value), off < arr.size → arr.setIfInBounds off z = (arr.toList.take off ++ ([z] ++ arr.toList.drop (off + [z].length))).toArray := by
    intro arr off z hlt
    apply Array.ext'
    rw [Array.toList_setIfInBounds, set_as_put (by simpa using hlt)]
    rfl
  split at h
  · rename_i hd' off he
    rw [he] at hx
    have ex := hx.eq (by simp)
    simp only [conc] at ex
    split at h
    · exact h.elim
    rename_i t' c hc
    rw [nth_eq] at hc
    obtain ⟨_, hok, _, _⟩ := hr.locs hd' t' c hc
    have one : ∀ z, a.eval yo = z → z.oneCell' = true → (bif Nat.beq i.size 1 then (match LB.set c off z with | some d => K .un (s.L.set hd' (t', d)) s.m x' | none => False) else False) → o.wp P a W (NPost nt D m0 W0 ρ s a W o.dst keep K) Q := by
      intro z hz h1 hh
      cases hb : Nat.beq i.size 1 with
      | false => simp [hb] at hh
      | true =>
        have hsz := Nat.eq_of_beq_eq_true hb
        simp only [hb, cond_true] at hh
        cases hset : LB.set c off z with
        | none => simp [hset] at hh
        | some d =>
          simp only [hset] at hh
          obtain ⟨k1, k2, k3⟩ := LB.set_spec hok h1 hset
          exact loc hd' off t' c d [z] hc ex (by rw [hz]; exact cells_one h1) hsz.symm (by simpa using h1) k1 (by rw [k2, set_as_put k3]; rfl) (by simp; omega) hh
    split at h
    · rename_i z hz
      have hzz := hy.okay (by rw [hz]; simp)
      have hzv := hy.eq (by rw [hz]; simp)
      rw [hz] at hzz hzv
      exact one z hzv hzz.1 h
    · rename_i hz
      have hzv := hy.eq (by rw [hz]; simp)
      rw [hz] at hzv
      exact one _ hzv rfl h
    · rename_i hz
      have hzv := hy.eq (by rw [hz]; simp)
      rw [hz] at hzv
      exact one _ hzv rfl h
    · rename_i v hz
      have hzz := hy.okay (by rw [hz]; simp)
      have hzv := hy.eq (by rw [hz]; simp)
      rw [hz] at hzz hzv
      cases hb : Nat.beq i.size (LB.size v) with
      | false => simp [hb] at h
      | true =>
        have hsz := Nat.eq_of_beq_eq_true hb
        simp only [hb, cond_true] at h
        split at h
        · rename_i d hset
          obtain ⟨k1, k2, k3⟩ := LB.putW_spec hok hzz.1 hset
          exact loc hd' off t' c d (LB.cells v) hc ex (by rw [hzv]; rfl) (by rw [LB.cells_length hzz.1, hsz]) (LB.cells_one hzz.1) k1 k2 k3 h
        · exact h.elim
    · exact h.elim
  · rename_i hd' off e he
    rw [he] at hx
    have ex := hx.eq (by simp)
    simp only [conc] at ex
    split at h
    · exact h.elim
    rename_i t' c hc
    rw [nth_eq] at hc
    obtain ⟨_, hok, _, _⟩ := hr.locs hd' t' c hc
    have one : ∀ z, a.eval yo = z → z.oneCell' = true → (bif Nat.beq i.size 1 then LB.dset c off e z (fun d => K .un (s.L.set hd' (t', d)) s.m x') else False) → o.wp P a W (NPost nt D m0 W0 ρ s a W o.dst keep K) Q := by
      intro z hz h1 hh
      cases hb : Nat.beq i.size 1 with
      | false => simp [hb] at hh
      | true =>
        have hsz := Nat.eq_of_beq_eq_true hb
        simp only [hb, cond_true] at hh
        obtain ⟨d, hk, k1, k2, k3⟩ := LB.dset_spec hok h1 hh
        exact loc hd' (off + e) t' c d [z] hc ex (by rw [hz]; exact cells_one h1) hsz.symm (by simpa using h1) k1 (by rw [k2, set_as_put k3]; rfl) (by simp; omega) hk
    split at h
    · rename_i z hz
      have hzz := hy.okay (by rw [hz]; simp)
      have hzv := hy.eq (by rw [hz]; simp)
      rw [hz] at hzz hzv
      exact one z hzv hzz.1 h
    · rename_i hz
      have hzv := hy.eq (by rw [hz]; simp)
      rw [hz] at hzv
      exact one _ hzv rfl h
    · rename_i hz
      have hzv := hy.eq (by rw [hz]; simp)
      rw [hz] at hzv
      exact one _ hzv rfl h
    · rename_i v hz
      have hzz := hy.okay (by rw [hz]; simp)
      have hzv := hy.eq (by rw [hz]; simp)
      rw [hz] at hzz hzv
      cases hb : Nat.beq i.size (LB.size v) with
      | false => simp [hb] at h
      | true =>
        have hsz := Nat.eq_of_beq_eq_true hb
        simp only [hb, cond_true] at h
        obtain ⟨d, hk, k1, k2, k3⟩ := LB.dput_spec hok hzz.1 h
        exact loc hd' (off + e) t' c d (LB.cells v) hc ex (by rw [hzv]; rfl) (by rw [LB.cells_length hzz.1, hsz]) (LB.cells_one hzz.1) k1 k2 k3 hk
    · exact h.elim
  · rename_i b off he
    rw [he] at hx
    have ex := hx.eq (by simp)
    simp only [conc, CV.val] at ex
    have one : ∀ z, a.eval yo = z → z.oneCell' = true → (bif Nat.beq i.size 1 then (∃ arr t' fr, s.m b = some (.cells arr t' fr) ∧ (off < arr.size ∧ ¬ (fr.1 ≤ off ∧ off < fr.2)) ∧ K .un s.L (s.m.set b (.cells (arr.setIfInBounds off z) t' fr)) x') else False) → o.wp P a W (NPost nt D m0 W0 ρ s a W o.dst keep K) Q := by
      intro z hz h1 hh
      cases hb : Nat.beq i.size 1 with
      | false => simp [hb] at hh
      | true =>
        have hsz := Nat.eq_of_beq_eq_true hb
        simp only [hb, cond_true] at hh
        obtain ⟨arr, t', fr, hm, ⟨k1, k2⟩, hk⟩ := hh
        exact ext b off arr t' fr [z] _ hm ex (by rw [hz]; exact cells_one h1) hsz.symm (by simpa using h1) (by intro h; rw [he]; exact ⟨rfl, rfl⟩) (by simp; omega) (by intro j hj; simp at hj; subst hj; simpa using k2) (set1 arr off z k1) hk
    split at h
    · rename_i z hz
      have hzz := hy.okay (by rw [hz]; simp)
      have hzv := hy.eq (by rw [hz]; simp)
      rw [hz] at hzz hzv
      exact one z hzv hzz.1 h
    · rename_i hz
      have hzv := hy.eq (by rw [hz]; simp)
      rw [hz] at hzv
      exact one _ hzv rfl h
    · rename_i hz
      have hzv := hy.eq (by rw [hz]; simp)
      rw [hz] at hzv
      exact one _ hzv rfl h
    · rename_i v hz
      have hzz := hy.okay (by rw [hz]; simp)
      have hzv := hy.eq (by rw [hz]; simp)
      rw [hz] at hzz hzv
      have hlv := LB.cells_length hzz.1
      cases hb : Nat.beq i.size (LB.size v) with
      | false => simp [hb] at h
      | true =>
        have hsz := Nat.eq_of_beq_eq_true hb
        simp only [hb, cond_true] at h
        obtain ⟨arr, t', fr, hm, ⟨k1, k2⟩, hk⟩ := h
        exact ext b off arr t' fr (LB.cells v) _ hm ex (by rw [hzv]; rfl) (by rw [hlv, hsz]) (LB.cells_one hzz.1) (by intro h; rw [he]; exact ⟨rfl, rfl⟩) (by rw [hlv]; exact k1) (by rw [hlv]; exact k2) (by rw [hlv]) hk
    · exact h.elim
  · exact h.elim
theorem closed_spec (hr : Rel nt D m0 W0 ρ s a W) : ∀ {l : List Operand} {cs : List CV}, closed (l.map (ev s)) = some cs → l.map a.eval = cs.map CV.val ∧ ∀ x ∈ cs, x.ok
  | [], cs, h => by simp only [List.map_nil, closed, Option.some.injEq] at h; subst h; simp
  | x :: l, cs, h => by
    have hf := hr.fits x
    simp only [List.map_cons] at h
    unfold closed at h
    split at h
    · rename_i heq; simp at heq
    all_goals first
      | (simp at h; done)
      | (rename_i heq
         simp only [List.cons.injEq] at heq
         obtain ⟨e1, e2⟩ := heq
         rw [← e2] at h
         split at h
         · rename_i l' hl'
           simp only [Option.some.injEq] at h
           subst h
           have ih := closed_spec hr hl'
           have hv := hf.eq (by rw [e1]; simp)
           have hk := (hf.okay (by rw [e1]; simp)).1
           rw [e1] at hv hk
           refine ⟨by simp only [List.map_cons, ih.1, hv]; rfl, ?_⟩
           intro y hy
           rcases List.mem_cons.1 hy with rfl | hy
           · first | exact hk | rfl
           · exact ih.2 y hy
         · simp at h)
theorem zip_unzip (f : Operand → Value) : ∀ (l : List (Nat × Operand)), ((l.map (·.1)).zip ((l.map (·.2)).map f)) = l.map fun (i, x) => (i, f x)
  | [] => rfl
  | (i, x) :: l => by simp only [List.map_cons, List.zip_cons_cons, zip_unzip f l]
theorem prim_exec {o : Oper} {p : Prim} {xs : List Operand} (h : primOf o.op = some (p, xs)) : execOp a.eval o = (do let v ← p.run o.type (xs.map a.eval); if p.unit then pure .skip else pure (.value v)) := by
  unfold primOf at h
  split at h
  all_goals first
    | (simp at h; done)
    | skip
  · rename_i t len parts hop
    simp only [Option.some.injEq, Prod.mk.injEq] at h
    obtain ⟨rfl, rfl⟩ := h
    simp only [execOp, hop, Prim.run, Prim.unit, Bool.false_eq_true, if_false]
    have : ((parts.toList.map (·.1)).zip ((parts.toList.map (·.2)).map a.eval)).toArray = parts.map fun (i, x) => (i, a.eval x) := by
      apply Array.ext'
      rw [zip_unzip]; simp
    rw [this]
  · rename_i t l c hop
    simp only [Option.some.injEq, Prod.mk.injEq] at h
    obtain ⟨rfl, rfl⟩ := h
    simp [execOp, hop, Prim.run, Prim.unit]
  · rename_i b args ats hop
    split at h
    all_goals first
      | (simp at h; done)
      | (simp only [Option.some.injEq, Prod.mk.injEq] at h
         obtain ⟨rfl, rfl⟩ := h
         simp only [execOp, hop, resolve, pure_bind, invoke, builtin, Prim.run, Prim.unit, Bool.false_eq_true, if_false]
         have e1 : ((args.toList.map a.eval)).toArray = args.map a.eval := by apply Array.ext'; simp
         have e2 : ats.toList.toArray = ats := by simp
         rw [e1, e2])
  · rename_i s' d x hop
    simp only [Option.some.injEq, Prod.mk.injEq] at h
    obtain ⟨rfl, rfl⟩ := h
    simp [execOp, hop, Prim.run, Prim.unit]
  · rename_i t r hop
    simp only [Option.some.injEq, Prod.mk.injEq] at h
    obtain ⟨rfl, rfl⟩ := h
    cases r <;> simp [execOp, hop, Prim.run, Prim.unit]
  · rename_i t x k ok hop
    simp only [Option.some.injEq, Prod.mk.injEq] at h
    obtain ⟨rfl, rfl⟩ := h
    simp [execOp, hop, Prim.run, Prim.unit]
  · rename_i t x hop
    simp only [Option.some.injEq, Prod.mk.injEq] at h
    obtain ⟨rfl, rfl⟩ := h
    simp [execOp, hop, Prim.run, Prim.unit]
  · rename_i fn first captured hop
    simp only [Option.some.injEq, Prod.mk.injEq] at h
    obtain ⟨rfl, rfl⟩ := h
    have e1 : ((first.toList ++ captured.toList).map a.eval).take first.size = (first.map a.eval).toList := by simp
    have e2 : ((first.toList ++ captured.toList).map a.eval).drop first.size = (captured.map a.eval).toList := by simp
    simp only [execOp, hop, Prim.run, Prim.unit, Bool.false_eq_true, if_false, e1, e2]
  · rename_i t m' k x hop
    simp only [Option.some.injEq, Prod.mk.injEq] at h
    obtain ⟨rfl, rfl⟩ := h
    simp [execOp, hop, Prim.run, Prim.unit]
  · rename_i t m' k x hop
    simp only [Option.some.injEq, Prod.mk.injEq] at h
    obtain ⟨rfl, rfl⟩ := h
    simp [execOp, hop, Prim.run, Prim.unit]
  · rename_i t x hop
    simp only [Option.some.injEq, Prod.mk.injEq] at h
    obtain ⟨rfl, rfl⟩ := h
    simp [execOp, hop, Prim.run, Prim.unit]
  · rename_i x b hop
    simp only [Option.some.injEq, Prod.mk.injEq] at h
    obtain ⟨rfl, rfl⟩ := h
    simp [execOp, hop, Prim.run, Prim.unit]
  · rename_i x hop
    simp only [Option.some.injEq, Prod.mk.injEq] at h
    obtain ⟨rfl, rfl⟩ := h
    simp [execOp, hop, Prim.run, Prim.unit]
theorem nval_spec (hT : TabOk P T) (hr : Rel nt D m0 W0 ρ s a W) {o : Oper} (hd : dstIn o.dst a.tmps.size) {ext : Bool} {keep : Kp} {K : SV → Loc → Mem → List Nat → Prop}
    (h : nval P T s o.op ext keep K) : o.wp P a W (NPost nt D m0 W0 ρ s a W o.dst keep K) Q := by
  have box : ∀ (t : TypeId) (v : Value) (c : LB), v.cells = (LB.cells c).toArray → LB.ok c → (∀ w, (execOp a.eval o).run P w = ((newVar t v).run P w).andThen fun ad w' => .ok (.value (.pointer (some ad))) w') →
      nNew s t c ext K → o.wp P a W (NPost nt D m0 W0 ρ s a W o.dst keep K) Q := by
    intro t v c hv hc hrun hk
    unfold Oper.wp
    have : (execOp a.eval o).run P W = .ok (.value (.pointer (some ⟨W.heap.size, 0, none⟩))) (W.alloc (.cells (LB.cells c).toArray t)) := by
      rw [hrun]; simp [newVar, newRow, newObj, hv, Sem.run]
    rw [this]
    cases ext with
    | false => exact ⟨_, _, _, _, [W.heap.size], hk, hr.newLocal hd t hc, keep_pres hr _ keep, outs_alloc _ _ _ (by simp), _, rfl⟩
    | true =>
      have := hk W.heap.size (hr.after.over.none (Nat.le_refl _))
      refine ⟨_, _, _, _, [], this, ?_, keep_pres hr _ keep, outs_known _ _, _, rfl⟩
      rw [List.append_nil]
      exact hr.newKnown hd _ rfl
  have aft : ∀ (sv : SV) (v : Value) (m' : Mem) (W' : World) (x' : List Nat), After s.m W m' W' → sv.ok → sv.under ρ.length → v = conc ρ sv → Kept x' s.m m' → (∀ b ∈ x', b ∈ s.x) → (keep = .none ∨ (keep = .all ∧ x' = s.x)) → K sv s.L m' x' → NPost nt D m0 W0 ρ s a W o.dst keep K (a.put o.dst v) W' := by
    intro sv v m' W' x' haft hok hu hv hk2 hx' hkeep hk3
    have hlocs : ∀ b, b ∈ ρ → m' b = none ∧ W'.heap[b]? = W.heap[b]? := by
      intro b hb
      obtain ⟨i, hi, rfl⟩ := mem_getD hb
      obtain ⟨g1, g2, g3⟩ := hr.out hi
      exact haft.frame _ g3 g1
    refine ⟨_, _, _, _, [], hk3, ⟨?_, ?_, ?_, ?_, ?_, ?_, ?_, ?_⟩, ?_, fun b hb hm _ => ⟨(haft.frame b hb hm).2, (haft.frame b hb hm).1, by simp⟩, _, rfl⟩
    · rw [Act.put_defers_eq]; exact hr.defers
    · rw [Act.put_size]; exact hr.size
    · exact hr.putSlots hd (.inr ⟨hok, by simpa using hu⟩) _ (.inr (by rw [hv, List.append_nil]))
    · simpa using hr.len
    · intro h' t c hh
      have hlt : h' < ρ.length := by rw [hr.len]; exact (List.getElem?_eq_some_iff.1 hh).1
      obtain ⟨k1, k2, k3, k4⟩ := hr.locs h' t c hh
      obtain ⟨g1, g2⟩ := hlocs _ (getD_mem hlt)
      rw [List.append_nil]
      exact ⟨g2.trans k1, k2, g1, k4⟩
    · simpa using hr.nodup
    · exact hr.after.trans haft
    · intro b hb
      show ∃ ob, m' b = some ob
      rw [hk2 b hb]; exact hr.seen b (hx' b hb)
    · rcases hkeep with rfl | ⟨rfl, rfl⟩
      · trivial
      · refine ⟨fun b hb => ?_, fun _ hb => hb⟩
        rcases hb with hb | hb
        · exact (hlocs b hb).2
        · have := hk2 b hb
          obtain ⟨ob, hob⟩ := hr.seen b hb
          rw [hr.after.over b ob hob]
          exact haft.over b ob (this.trans hob)
  have call : ∀ (f : FuncId) (cs : List CV) (R : List CV → Mem → Prop), Spec P f cs s.m R → (∀ x ∈ cs, x.ok) → (execOp a.eval o).run P W = .ok (.enter f (cs.map CV.val).toArray) W → ∀ (x' : List Nat), (∀ b ∈ x', b ∈ s.x) → (∀ r m', R r m' → Kept x' s.m m' ∧ K (resSV r) s.L m' x') → (keep = .none ∨ (keep = .all ∧ x' = s.x)) → o.wp P a W (NPost nt D m0 W0 ρ s a W o.dst keep K) Q := by
    intro f cs R ⟨_, hspec⟩ c2 hrun x' hx' hR hkeep
    unfold Oper.wp
    rw [hrun]
    refine (hspec c2 W hr.after.over).mono fun e W' he => ?_
    obtain ⟨r, m', rfl, hok, hRr, haft⟩ := he
    obtain ⟨hk2, hk3⟩ := hR r m' hRr
    exact aft (resSV r) _ m' W' x' haft (resSV_ok hok) (resSV_under _ _) (conc_resSV _ _).symm hk2 hx' hkeep hk3
  have extc : ∀ (f : FuncId) (cs : List CV) (R : List CV → Mem → Prop), ExtSpec P f cs s.m R → (∀ x ∈ cs, x.ok) → (execOp a.eval o).run P W = (callFunc f (cs.map CV.val).toArray).run P W → ∀ (x' : List Nat), (∀ b ∈ x', b ∈ s.x) → (∀ r m', R r m' → Kept x' s.m m' ∧ K (resSV r) s.L m' x') → (keep = .none ∨ (keep = .all ∧ x' = s.x)) → o.wp P a W (NPost nt D m0 W0 ρ s a W o.dst keep K) Q := by
    intro f cs R hs c2 hrun x' hx' hR hkeep
    obtain ⟨r, m', W', hr1, hok, hRr, haft⟩ := hs c2 W hr.after.over
    obtain ⟨hk2, hk3⟩ := hR r m' hRr
    unfold Oper.wp
    rw [hrun, hr1]
    exact aft (resSV r) _ m' W' x' haft (resSV_ok hok) (resSV_under _ _) (conc_resSV _ _).symm hk2 hx' hkeep hk3
  have prim : ∀ (p : Prim) (xs : List Operand), primOf o.op = some (p, xs) → ∀ (cs : List CV), xs.map a.eval = cs.map CV.val → ∀ (R : List CV → Mem → Prop), PrimSpec P p cs s.m R → (∀ x ∈ cs, x.ok) → ∀ (x' : List Nat), (∀ b ∈ x', b ∈ s.x) → (∀ r m', R r m' → Kept x' s.m m' ∧ K (primSV p r) s.L m' x') → (keep = .none ∨ (keep = .all ∧ x' = s.x)) → o.wp P a W (NPost nt D m0 W0 ρ s a W o.dst keep K) Q := by
    intro p xs hp cs c1 R hs c2 x' hx' hR hkeep
    obtain ⟨r, m', W', hrun, hok, hRr, haft⟩ := hs c2 o.type W hr.after.over
    obtain ⟨hk2, hk3⟩ := hR r m' hRr
    unfold Oper.wp
    have hx := prim_exec (a := a) hp
    rw [c1] at hx
    rw [hx]
    unfold primSV at hk3
    cases hu : p.unit with
    | true =>
      simp only [hu, cond_true] at hk3
      simp only [Sem.run_bind, hrun, Result.andThen_ok, if_true, Sem.run_pure]
      exact aft .un undef m' W' x' haft trivial trivial rfl hk2 hx' hkeep hk3
    | false =>
      simp only [hu, cond_false] at hk3
      simp only [Sem.run_bind, hrun, Result.andThen_ok, Bool.false_eq_true, if_false, Sem.run_pure]
      unfold Prim.out
      cases ht : p.tup with
      | false =>
        simp only [ht, cond_false] at hk3 ⊢
        exact aft (resSV r) _ m' W' x' haft (resSV_ok hok) (resSV_under _ _) (conc_resSV _ _).symm hk2 hx' hkeep hk3
      | true =>
        simp only [ht, cond_true] at hk3 ⊢
        exact aft (.t r) _ m' W' x' haft hok trivial rfl hk2 hx' hkeep hk3
  unfold nval at h
  split at h
  · rename_i t hop
    split at h
    · rename_i i hi
      obtain ⟨z, hz1, hz2⟩ := (hT t i hi).run_zero
      refine box t z i.zero hz1 (hT t i hi).zok (fun w => ?_) h
      simp [execOp, hop, Instr.alloc, hz2]
    · exact h.elim
  · rename_i t y hop
    have hy := hr.fits y
    split at h
    · rename_i c hc
      have hv := hy.eq (by rw [hc]; simp)
      have hk := (hy.okay (by rw [hc]; simp)).1
      rw [hc] at hv hk
      refine box t (a.eval y) c (by rw [hv]; rfl) hk (fun w => ?_) h
      simp [execOp, hop, Instr.box]
    · rename_i z hc
      have hv := hy.eq (by rw [hc]; simp)
      have hk := (hy.okay (by rw [hc]; simp)).1
      rw [hc] at hv hk
      refine box t (a.eval y) [.one z] (by rw [hv]; exact cells_one hk) ⟨hk, trivial⟩ (fun w => ?_) h
      simp [execOp, hop, Instr.box]
    · rename_i hc
      have hv := hy.eq (by rw [hc]; simp)
      rw [hc] at hv
      refine box t (a.eval y) [.one (.bool true)] (by rw [hv]; rfl) ⟨rfl, trivial⟩ (fun w => ?_) h
      simp [execOp, hop, Instr.box]
    · rename_i hc
      have hv := hy.eq (by rw [hc]; simp)
      rw [hc] at hv
      refine box t (a.eval y) [.one (.bool false)] (by rw [hv]; rfl) ⟨rfl, trivial⟩ (fun w => ?_) h
      simp [execOp, hop, Instr.box]
    · exact h.elim
  · rename_i t x y hop
    split at h
    · exact h.elim
    · exact nStore_spec hT hr hd hop (.inl ⟨rfl, rfl⟩) h
    · rename_i hh
      cases hat : atHandle hh (ev s x) with
      | false => simp [hat] at h
      | true =>
        simp only [hat, cond_true] at h
        exact nStore_spec hT hr hd hop (.inr (.inl ⟨hh, rfl, rfl, hat⟩)) h
    · rename_i hh
      cases hat : newHandle hh (ev s x) with
      | false => simp [hat] at h
      | true =>
        simp only [hat, cond_true] at h
        exact nStore_spec hT hr hd hop (.inr (.inr ⟨hh, rfl, rfl, hat⟩)) h
  · rename_i f args ats hop
    split at h
    · exact h.elim
    rename_i cs hcs
    obtain ⟨c1, c2⟩ := closed_spec hr hcs
    have hargs : args.map a.eval = (cs.map CV.val).toArray := by
      apply Array.ext'; simp [c1]
    have hrun0 : (execOp a.eval o).run P W = (callFunc f (cs.map CV.val).toArray).run P W := by
      simp [execOp, hop, resolve, Act.eval, Deferred.ofValue, invoke, hargs]
    have hrun : ∀ R, Spec P f cs s.m R → (execOp a.eval o).run P W = .ok (.enter f (cs.map CV.val).toArray) W := by
      intro R hs
      rw [hrun0]
      exact hs.1 _ W
    split at h
    · rcases h with ⟨R, hs, hR⟩ | ⟨R, hs, hR⟩
      · exact call f cs R hs c2 (hrun R hs) s.x (fun _ hb => hb) hR (.inr ⟨rfl, rfl⟩)
      · exact extc f cs R hs c2 hrun0 s.x (fun _ hb => hb) hR (.inr ⟨rfl, rfl⟩)
    · rcases h with ⟨R, hs, hR⟩ | ⟨R, hs, hR⟩
      · exact call f cs R hs c2 (hrun R hs) [] (by simp) (fun r m' hRr => ⟨(by intro b hb; cases hb), hR r m' hRr⟩) (.inl rfl)
      · exact extc f cs R hs c2 hrun0 [] (by simp) (fun r m' hRr => ⟨(by intro b hb; cases hb), hR r m' hRr⟩) (.inl rfl)
    · exact h.elim
    · exact h.elim
  · rename_i t args ats hop
    split at h
    · rename_i f first captured hfr
      cases hone : (allOne first.toList && allOne captured.toList) with
      | false => simp [hone] at h
      | true =>
      simp only [hone, cond_true] at h
      simp only [Bool.and_eq_true] at hone
      split at h
      · exact h.elim
      rename_i cs hcs
      obtain ⟨c1, c2⟩ := closed_spec hr hcs
      have hf := hr.fits (.tmp t)
      simp only [ev, hfr] at hf
      have hfv := hf.eq (by simp)
      have hfk := (hf.okay (by simp)).1
      simp only [conc, CV.val] at hfv
      have hall : ∀ x ∈ first.toList.map CV.v ++ cs ++ captured.toList.map CV.v, x.ok := by
        intro x hx
        rcases List.mem_append.1 hx with hx | hx
        · rcases List.mem_append.1 hx with hx | hx
          · obtain ⟨y, hy, rfl⟩ := List.mem_map.1 hx
            exact allOne_spec hone.1 y hy
          · exact c2 x hx
        · obtain ⟨y, hy, rfl⟩ := List.mem_map.1 hx
          exact allOne_spec hone.2 y hy
      have hargs : (args.map a.eval).toList = cs.map CV.val := by simp [c1]
      have hvs : (first.toList.map CV.v ++ cs ++ captured.toList.map CV.v).map CV.val = first.toList ++ (args.map a.eval).toList ++ captured.toList := by
        simp [CV.val, Function.comp_def]
        exact c1.symm
      have hrun0 : (execOp a.eval o).run P W = (callFunc f ((first.toList.map CV.v ++ cs ++ captured.toList.map CV.v).map CV.val).toArray).run P W := by
        rw [hvs]
        have : (first.toList ++ (args.map a.eval).toList ++ captured.toList).toArray = first ++ args.map a.eval ++ captured := by
          apply Array.ext'; simp
        rw [this]
        simp only [execOp, hop, resolve, hfv, Deferred.ofValue, invoke, Sem.run_bind, Sem.run_pure, Result.andThen_ok]
      have hrun : ∀ R, Spec P f (first.toList.map CV.v ++ cs ++ captured.toList.map CV.v) s.m R → (execOp a.eval o).run P W = .ok (.enter f ((first.toList.map CV.v ++ cs ++ captured.toList.map CV.v).map CV.val).toArray) W := by
        intro R hs
        rw [hrun0]
        exact hs.1 _ W
      split at h
      · rcases h with ⟨R, hs, hR⟩ | ⟨R, hs, hR⟩
        · exact call f _ R hs hall (hrun R hs) s.x (fun _ hb => hb) hR (.inr ⟨rfl, rfl⟩)
        · exact extc f _ R hs hall hrun0 s.x (fun _ hb => hb) hR (.inr ⟨rfl, rfl⟩)
      · rcases h with ⟨R, hs, hR⟩ | ⟨R, hs, hR⟩
        · exact call f _ R hs hall (hrun R hs) [] (by simp) (fun r m' hRr => ⟨(by intro b hb; cases hb), hR r m' hRr⟩) (.inl rfl)
        · exact extc f _ R hs hall hrun0 [] (by simp) (fun r m' hRr => ⟨(by intro b hb; cases hb), hR r m' hRr⟩) (.inl rfl)
      · exact h.elim
      · exact h.elim
    · exact h.elim
  · split at h
    · exact h.elim
    rename_i p xs hp
    split at h
    · exact h.elim
    rename_i cs hcs
    obtain ⟨c1, c2⟩ := closed_spec hr hcs
    split at h
    · obtain ⟨R, hs, hR⟩ := h
      exact prim p xs hp cs c1 R hs c2 s.x (fun _ hb => hb) hR (.inr ⟨rfl, rfl⟩)
    · obtain ⟨R, hs, hR⟩ := h
      exact prim p xs hp cs c1 R hs c2 [] (by simp) (fun r m' hRr => ⟨(by intro b hb; cases hb), hR r m' hRr⟩) (.inl rfl)
    · exact h.elim
    · exact h.elim
end
end Go.E
namespace Go.E
def floaty (T : Tab) : Op → Bool
  | .move _ => true
  | .pick _ _ _ => true
  | .assign _ => true
  | .load _ _ => true
  | .nilCheck _ => true
  | .binOp _ _ _ _ _ => true
  | .unOp _ _ _ => true
  | .convert a b _ => match T a, T b with
    | some i, some j => match i.k, j.k with
      | .int _, .int _ => true
      | .str, .str => true
      | .slice _, .str => strConv T a b
      | _, _ => false
    | _, _ => false
  | .field _ _ _ => true
  | .fieldAddr _ _ _ => true
  | .indexAddr _ _ _ => true
  | .index _ _ _ => true
  | .extract _ _ => true
  | .build _ _ => true
  | .slice _ _ _ _ _ => true
  | .call ⟨.builtin b, _, _⟩ => match b with
    | .min => true
    | .max => true
    | .len => true
    | _ => false
  | _ => false
inductive Ks where
  | all
  | none
  | but (r : Nat)
  | new
inductive OT where
  | nil
  | op (i : Nat) (k : Ks) (r : OT)
  | or (a b : OT)
structure Ord where
  od : OT
  ms : List Nat
structure Cfg where
  P : Program
  T : Tab
  esc : Nat → Bool
  ord : Nat → Ord
  cut : Nat → Bool
def escOf (c : Cfg) : Option Nat → Bool
  | some d => c.esc d
  | none => false
def xact (c : Cfg) (o : Oper) (keep : Kp) (s : St) (K : St → Prop) : Prop :=
  match floaty c.T o.op with
  | true => fval c.T s o.op fun sv bs => K ⟨putF s.fr o.dst sv, s.L, s.m, bs ++ s.x⟩
  | false => nval c.P c.T s o.op (escOf c o.dst) keep fun sv L m x => K ⟨putF s.fr o.dst sv, L, m, x⟩
def gslot (ops : List Oper) (j : Nat) : Option Nat :=
  match nth ops j with
  | some oj => oj.dst
  | none => none
def xop (c : Cfg) (ops : List Oper) (o : Oper) (keep : Kp) (s : St) (K : St → Prop) : Prop :=
  match o.guard with
  | none => xact c o keep s K
  | some (j, w) => match gslot ops j with
    | none => False
    | some d => match s.fr d with
      | .tt => bif w then xact c o keep s K else K ⟨putF s.fr o.dst .un, s.L, s.m, s.x⟩
      | .ff => bif w then K ⟨putF s.fr o.dst .un, s.L, s.m, s.x⟩ else xact c o keep s K
      | .un => K ⟨putF s.fr o.dst .un, s.L, s.m, s.x⟩
      | .c (.v (.bool b)) =>
        (b = true → bif w then xact c o keep ⟨putF s.fr (some d) .tt, s.L, s.m, s.x⟩ K else K ⟨putF (putF s.fr (some d) .tt) o.dst .un, s.L, s.m, s.x⟩) ∧
        (b = false → bif w then K ⟨putF (putF s.fr (some d) .ff) o.dst .un, s.L, s.m, s.x⟩ else xact c o keep ⟨putF s.fr (some d) .ff, s.L, s.m, s.x⟩ K)
      | _ => False
section
variable {c : Cfg} {nt : Nat} {D : List Deferred} {m0 : Mem} {W0 : World} {ρ : List Nat} {s : St} {a : Act} {W : World} {Q : Exit → Act → World → Prop}
theorem Rel.decide (hr : Rel nt D m0 W0 ρ s a W) {d : Nat} {b : Bool} (h : s.fr d = .c (.v (.bool b))) : Rel nt D m0 W0 ρ ⟨putF s.fr (some d) (if b then .tt else .ff), s.L, s.m, s.x⟩ a W := by
  refine ⟨hr.defers, hr.size, fun i => ?_, hr.len, hr.locs, hr.nodup, hr.after, hr.seen⟩
  show putF s.fr (some d) _ i = .any ∨ _
  simp only [putF_at, Option.some.injEq]
  by_cases e : d = i
  · subst e
    rcases hr.slots d with h1 | ⟨h1, h2, h3⟩
    · rw [h] at h1; simp at h1
    · refine .inr ?_
      rw [if_pos rfl, h1, h]
      cases b <;> exact ⟨rfl, trivial, trivial⟩
  · rw [if_neg e]; exact hr.slots i
theorem Rel.skip (hr : Rel nt D m0 W0 ρ s a W) {d : Option Nat} (hd : dstIn d nt) : Rel nt D m0 W0 ρ ⟨putF s.fr d .un, s.L, s.m, s.x⟩ (a.put d undef) W :=
  hr.put (y := .un) (by rw [hr.size]; exact hd) (.inr ⟨trivial, trivial⟩) _ (.inr rfl) _ hr.seen
theorem yielded_at {ops : Array Oper} {tmps : Array Value} {j d : Nat} (hg : gslot ops.toList j = some d) {v : Value} (hv : tmps[d]? = some v) : yielded ops tmps j = (match v with | .bool b => some b | _ => none) := by
  unfold gslot at hg
  rw [nth_eq] at hg
  unfold yielded
  cases ho : ops[j]? with
  | none => simp [ho] at hg
  | some oj =>
    simp only [Array.getElem?_toList, ho] at hg
    simp only [Option.bind_some, hg, hv]
    cases v <;> rfl
def OPost (nt : Nat) (D : List Deferred) (m0 : Mem) (W0 : World) (ρ : List Nat) (s : St) (a : Act) (W : World) (d : Option Nat) (keep : Kp) (K : St → Prop) : Act → World → Prop := fun a' W' =>
  ∃ s' e, K s' ∧ Rel nt D m0 W0 (ρ ++ e) s' a' W' ∧ Pres ρ s.x W W' s'.x keep ∧ Outs s.m ρ W s'.m e W' ∧ (∃ v, a' = a.put d v) ∧ ∀ y, d ≠ some y → s'.fr y = s.fr y ∨ s.fr y ≠ .any
theorem putF_keep {fr : Nat → SV} {d : Option Nat} {z : SV} {y : Nat} (h : d ≠ some y) : putF fr d z y = fr y := by rw [putF_at, if_neg h]
theorem xact_spec (hT : TabOk c.P c.T) (hr : Rel nt D m0 W0 ρ s a W) {o : Oper} (hd : dstIn o.dst nt) {keep : Kp} {K : St → Prop} (h : xact c o keep s K) : o.wp c.P a W (OPost nt D m0 W0 ρ s a W o.dst keep K) Q := by
  unfold xact at h
  split at h
  · obtain ⟨sv, bs, v, B, h1, h2, h3, _, _, h5⟩ := fval_spec hT hr h
    unfold Oper.wp
    rw [h5 o rfl W (fun _ _ => rfl)]
    refine ⟨_, [], h1, ?_, Pres.same (fun _ => rfl) (fun b hb => List.mem_append_right _ hb) keep, fun b _ hb _ => ⟨rfl, hb, by simp⟩, ⟨v, rfl⟩, fun y hy => .inl (putF_keep hy)⟩
    rw [List.append_nil]
    refine hr.put (by rw [hr.size]; exact hd) ?_ v ?_ _ ?_
    · rcases h2 with h2 | h2
      · exact .inl h2
      · exact .inr ⟨h2.1, h2.2.1⟩
    · rcases h2 with h2 | h2
      · exact .inl h2
      · exact .inr h2.2.2
    · intro b hb
      rcases List.mem_append.1 hb with hb | hb
      · exact h3 b hb
      · exact hr.seen b hb
  · exact Oper.wp_mono (fun a' W' ⟨sv, L', m', x', e, h1, h2, h3, h4, h5⟩ => ⟨_, e, h1, h2, h3, h4, h5, fun y hy => .inl (putF_keep hy)⟩) (nval_spec hT hr (by rw [hr.size]; exact hd) h)
theorem xop_spec (hT : TabOk c.P c.T) (hr : Rel nt D m0 W0 ρ s a W) {ops : Array Oper} {i : Nat} {o : Oper} (ho : ops[i]? = some o) (hd : dstIn o.dst nt) {keep : Kp} {K : St → Prop} (h : xop c ops.toList o keep s K) :
    wpOp c.P ops Q i (OPost nt D m0 W0 ρ s a W o.dst keep K) a W := by
  unfold wpOp
  simp only [ho]
  have yes : ∀ s', Rel nt D m0 W0 ρ s' a W → s'.x = s.x → s'.m = s.m → (∀ y, s'.fr y = s.fr y ∨ s.fr y ≠ .any) → Region.wanted o (yielded ops a.tmps) = true → xact c o keep s' K → (if Region.wanted o (yielded ops a.tmps) = true then o.wp c.P a W (OPost nt D m0 W0 ρ s a W o.dst keep K) Q ∨ (o.asks c.P a W ∧ LetsOut Q) else OPost nt D m0 W0 ρ s a W o.dst keep K (a.put o.dst undef) W) := by
    intro s' hr' hx hmm hfr hw hh
    rw [if_pos hw]
    refine .inl ?_
    have := xact_spec (Q := Q) hT hr' hd hh
    refine Oper.wp_mono (fun a' W' hp => ?_) this
    obtain ⟨s2, e, g1, g2, g3, g4, g5, g6⟩ := hp
    rw [hx] at g3
    rw [hmm] at g4
    refine ⟨s2, e, g1, g2, g3, g4, g5, fun y hy => ?_⟩
    rcases hfr y with h' | h'
    · rcases g6 y hy with h'' | h''
      · exact .inl (h''.trans h')
      · exact .inr (by rw [← h']; exact h'')
    · exact .inr h'
  have no : ∀ s', Rel nt D m0 W0 ρ s' a W → s'.x = s.x → s'.m = s.m → (∀ y, s'.fr y = s.fr y ∨ s.fr y ≠ .any) → Region.wanted o (yielded ops a.tmps) = false → K ⟨putF s'.fr o.dst .un, s'.L, s'.m, s'.x⟩ → (if Region.wanted o (yielded ops a.tmps) = true then o.wp c.P a W (OPost nt D m0 W0 ρ s a W o.dst keep K) Q ∨ (o.asks c.P a W ∧ LetsOut Q) else OPost nt D m0 W0 ρ s a W o.dst keep K (a.put o.dst undef) W) := by
    intro s' hr' hx hmm hfr hw hh
    rw [if_neg (by rw [hw]; exact Bool.false_ne_true)]
    refine ⟨_, [], hh, ?_, Pres.same (fun _ => rfl) (fun b hb => by rw [← hx] at hb; exact hb) keep, fun b _ hb _ => ⟨rfl, by rw [hmm]; exact hb, by simp⟩, ⟨undef, rfl⟩, fun y hy => by show putF _ _ _ y = _ ∨ _; rw [putF_keep hy]; exact hfr y⟩
    rw [List.append_nil]
    exact hr'.skip hd
  have dec : ∀ (d : Nat) (b : Bool), s.fr d = .c (.v (.bool b)) → ∀ z : SV, (∀ y, putF s.fr (some d) z y = s.fr y ∨ s.fr y ≠ .any) := by
    intro d b e z y
    rw [putF_at]
    by_cases e' : some d = some y
    · simp only [Option.some.injEq] at e'; subst e'; exact .inr (by rw [e]; simp)
    · rw [if_neg e']; exact .inl rfl
  unfold xop at h
  split at h
  · rename_i hg
    exact yes s hr rfl rfl (fun _ => .inl rfl) (by simp [Region.wanted, hg]) h
  · rename_i j w hg
    split at h
    · exact h.elim
    rename_i d hgd
    have want : ∀ b, a.tmps[d]? = some (.bool b) → Region.wanted o (yielded ops a.tmps) = (b == w) := by
      intro b hb
      simp only [Region.wanted, hg, yielded_at hgd hb]
      cases b <;> cases w <;> rfl
    have hs := hr.slots d
    split at h
    · rename_i e
      rw [e] at hs
      rcases hs with hs | ⟨hs, _⟩
      · simp at hs
      have := want true hs
      cases w
      · exact no s hr rfl rfl (fun _ => .inl rfl) (by rw [this]; rfl) h
      · exact yes s hr rfl rfl (fun _ => .inl rfl) (by rw [this]; rfl) h
    · rename_i e
      rw [e] at hs
      rcases hs with hs | ⟨hs, _⟩
      · simp at hs
      have := want false hs
      cases w
      · exact yes s hr rfl rfl (fun _ => .inl rfl) (by rw [this]; rfl) h
      · exact no s hr rfl rfl (fun _ => .inl rfl) (by rw [this]; rfl) h
    · rename_i e
      rw [e] at hs
      rcases hs with hs | ⟨hs, _⟩
      · simp at hs
      refine no s hr rfl rfl (fun _ => .inl rfl) ?_ h
      simp only [Region.wanted, hg, yielded_at hgd hs]
      rfl
    · rename_i b e
      rw [e] at hs
      rcases hs with hs | ⟨hs, _⟩
      · simp at hs
      have hw := want b hs
      have hdec := hr.decide e
      cases b
      · have h' := h.2 rfl
        cases w
        · exact yes _ hdec rfl rfl (dec d _ e _) (by rw [hw]; rfl) h'
        · exact no _ hdec rfl rfl (dec d _ e _) (by rw [hw]; rfl) h'
      · have h' := h.1 rfl
        cases w
        · exact no _ hdec rfl rfl (dec d _ e _) (by rw [hw]; rfl) h'
        · exact yes _ hdec rfl rfl (dec d _ e _) (by rw [hw]; rfl) h'
    · exact h.elim
def FOk (F : Fence) : Prop := F = Fence.wide ∨ ∃ l, F = Fence.wide.inRound l
theorem FOk.fn {F : Fence} (h : FOk F) (f : FuncId) : F.fn f := by
  rcases h with rfl | ⟨l, rfl⟩ <;> trivial
theorem FOk.depth {F : Fence} (h : FOk F) : F.depth = none := by
  rcases h with rfl | ⟨l, rfl⟩ <;> rfl
theorem FOk.calls {F : Fence} (h : FOk F) {n : Nat} {P : Program} {f : FuncId} {args : Array Value} {w : World} {R : Ending → World → Prop} (k : Calls P f args w R) : CallsIn F n P f args w R := by
  rcases h with rfl | ⟨l, rfl⟩
  · exact callsIn_wide.2 k
  · exact (callsIn_wide (n := n)).2 k
theorem FOk.rows {F : Fence} (h : FOk F) {n : Nat} {P : Program} {row : String} {args : Array Value} {w : World} {R : Value → World → Prop} (k : Rows P row args w R) : RowsIn F n P row args w R := by
  have key : RowsIn Fence.wide n P row args w R := fun c cs _ => let ⟨v, w', r, s⟩ := k c cs; ⟨v, w', r, stepsIn_wide.2 s⟩
  rcases h with rfl | ⟨l, rfl⟩
  · exact key
  · exact key
theorem FOk.round {F : Fence} (h : FOk F) {n l : Nat} {P : Program} {f : FuncId} {tmps : Array Value} {asg body : Code} {w : World} {R : Ending → World → Prop} (k : RoundIn Fence.wide n P l f tmps asg body w R) : RoundIn F n P l f tmps asg body w R := by
  rcases h with rfl | ⟨l, rfl⟩
  · exact k
  · exact k
def notDefer : Op → Bool
  | .defer _ => false
  | _ => true
theorem semAt_eq {F : Fence} {o : Oper} (hd : notDefer o.op = true) (ρ : Operand → Value) : o.semAt F.round ρ = execOp ρ o := by
  cases hr : F.round with
  | none => rfl
  | some l =>
    refine Oper.semAt_some l ρ o fun c e => ?_
    rw [e] at hd; cases hd
theorem wp_in {F : Fence} (hF : FOk F) {P : Program} {o : Oper} {a : Act} {w : World} {K : Act → World → Prop} {Q : Exit → Act → World → Prop} (hd : notDefer o.op = true) (h : o.wp P a w K Q) : o.wpIn F 0 P a w K Q := by
  refine ⟨fun _ _ => hF.fn _, ?_⟩
  rw [semAt_eq hd]
  unfold Oper.wp at h
  have hdep : ∀ {p : Prop}, p → (F.depth.isSome = true → 1 ≤ 0) ∧ p := fun k => ⟨fun e => (by rw [hF.depth] at e; cases e), k⟩
  generalize (execOp a.eval o).run P w = r at *
  cases r with
  | ok x w' => cases x <;> simp only [Oper.upon, Oper.uponIn] at h ⊢ <;> first | exact h | exact hdep (hF.calls h) | exact hdep (hF.rows h) | exact h.elim
  | halt x w' => cases x <;> simp only [Oper.upon, Oper.uponIn] at h ⊢ <;> exact h
theorem wpOp_in {F : Fence} (hF : FOk F) {P : Program} {ops : Array Oper} {i : Nat} {a : Act} {w : World} {K : Act → World → Prop} {Q : Exit → Act → World → Prop} (hd : ∀ o, ops[i]? = some o → notDefer o.op = true) (hQ : ¬ LetsOut Q) (h : wpOp P ops Q i K a w) : wpOpIn F 0 P ops Q i K a w := by
  unfold wpOp at h
  unfold wpOpIn
  cases ho : ops[i]? with
  | none => simp only [ho] at h ⊢; exact h
  | some o =>
    simp only [ho] at h ⊢
    split
    · rename_i hw
      rw [if_pos hw] at h
      rcases h with h | h
      · exact wp_in hF (hd o ho) h
      · exact absurd h.2 hQ
    · rename_i hw
      rw [if_neg hw] at h
      exact ⟨fun _ _ => hF.fn _, h⟩
theorem Rel.passed {nt : Nat} {D : List Deferred} {m0 : Mem} {W0 : World} {ρ : List Nat} {s : St} {a : Act} {W : World} (hr : Rel nt D m0 W0 ρ s a W) {d : Option Nat} (hd : dstIn d a.tmps.size) {m' : Mem} {W' : World} (haft : After s.m W m' W') {sv : SV} (hok : sv.ok) (hu : sv.under ρ.length) :
    Rel nt D m0 W0 ρ ⟨putF s.fr d sv, s.L, m', []⟩ (a.put d (conc ρ sv)) W' := by
  have hlocs : ∀ b, b ∈ ρ → m' b = none ∧ W'.heap[b]? = W.heap[b]? := by
    intro b hb
    obtain ⟨i, hi, rfl⟩ := mem_getD hb
    obtain ⟨g1, g2, g3⟩ := hr.out hi
    exact haft.frame _ g3 g1
  refine ⟨?_, ?_, ?_, ?_, ?_, ?_, ?_, ?_⟩
  · rw [Act.put_defers_eq]; exact hr.defers
  · rw [Act.put_size]; exact hr.size
  · have := hr.putSlots hd (e := []) (.inr ⟨hok, by simpa using hu⟩) _ (.inr (by rw [List.append_nil]))
    simpa using this
  · exact hr.len
  · intro h' t c hh
    have hlt : h' < ρ.length := by rw [hr.len]; exact (List.getElem?_eq_some_iff.1 hh).1
    obtain ⟨k1, k2, k3, k4⟩ := hr.locs h' t c hh
    obtain ⟨g1, g2⟩ := hlocs _ (getD_mem hlt)
    exact ⟨g2.trans k1, k2, g1, k4⟩
  · exact hr.nodup
  · exact hr.after.trans haft
  · intro b hb; cases hb
theorem conc_resSV' (r : List CV) (ρ : List Nat) : resVal r = conc ρ (resSV r) := (conc_resSV ρ r).symm
def QN (nt : Nat) (D : List Deferred) (m0 : Mem) (W0 : World) (K : St → Prop) : Exit → Act → World → Prop
  | .normal, a, W => ∃ s ρ, K s ∧ Rel nt D m0 W0 ρ s a W
  | _, _, _ => False
theorem QN.out {nt : Nat} {D : List Deferred} {m0 : Mem} {W0 : World} {K : St → Prop} : ¬ LetsOut (QN nt D m0 W0 K) := fun ⟨_, _, h⟩ => h
def YSpec (P : Program) (l : Nat) (args : List CV) (m : Mem) (R : List CV → Mem → Prop) : Prop :=
  (∀ x ∈ args, x.ok) → ∀ W, Over m W → ∃ fn tmps asg body, (Instr.yield l (args.map CV.val).toArray).run P W = .ok (.round l fn tmps asg body) W ∧
    RoundIn Fence.wide 0 P l fn tmps asg body W fun e W' => ∃ r m', e = .returned (resVal r) ∧ (∀ x ∈ r, x.ok) ∧ R r m' ∧ After m W m' W'
inductive XYield (P : Program) (l : Nat) (args : List CV) (m : Mem) (K : List CV → Mem → Prop) : Prop
  | mk (R : List CV → Mem → Prop) (h : YSpec P l args m R) (k : ∀ r m', R r m' → K r m')
def guardOn (ops : List Oper) (fr : Nat → SV) (o : Oper) : Bool :=
  match o.guard with
  | none => true
  | some (j, w) => match gslot ops j with
    | none => false
    | some d => match fr d with
      | .tt => w
      | .ff => !w
      | _ => false
def yieldOf (ops : List Oper) (fr : Nat → SV) (o : Oper) : Option (Nat × List Operand) :=
  match o.op with
  | .call ⟨.value (.tmp t), args, _⟩ => match guardOn ops fr o with
    | true => match fr t with
      | .c (.v (.func (.yield l) ⟨[]⟩ ⟨[]⟩)) => some (l, args.toList)
      | _ => none
    | false => none
  | _ => none
theorem yieldOf_spec {ops : List Oper} {fr : Nat → SV} {o : Oper} {l : Nat} {args : List Operand} (h : yieldOf ops fr o = some (l, args)) : ∃ t ar ats, o.op = .call ⟨.value (.tmp t), ar, ats⟩ ∧ ar.toList = args ∧ guardOn ops fr o = true ∧ fr t = .c (.v (.func (.yield l) #[] #[])) := by
  unfold yieldOf at h
  (repeat' split at h) <;> first | (cases h; done) | skip
  rename_i t ar ats hop _ hg _ l' hfr
  simp only [Option.some.injEq, Prod.mk.injEq] at h
  obtain ⟨rfl, rfl⟩ := h
  exact ⟨t, ar, ats, hop, rfl, hg, hfr⟩
theorem guardOn_wanted (hr : Rel nt D m0 W0 ρ s a W) {ops : Array Oper} {o : Oper} (h : guardOn ops.toList s.fr o = true) : Region.wanted o (yielded ops a.tmps) = true := by
  unfold guardOn at h
  split at h
  · rename_i hg
    simp [Region.wanted, hg]
  · rename_i j w hg
    split at h
    · cases h
    rename_i d hgd
    have want : ∀ b, a.tmps[d]? = some (.bool b) → Region.wanted o (yielded ops a.tmps) = (b == w) := by
      intro b hb
      simp only [Region.wanted, hg, yielded_at hgd hb]
      cases b <;> cases w <;> rfl
    have hs := hr.slots d
    split at h
    · rename_i e
      rw [e] at hs
      rcases hs with hs | ⟨hs, _⟩
      · simp at hs
      rw [want true hs, h]; rfl
    · rename_i e
      rw [e] at hs
      rcases hs with hs | ⟨hs, _⟩
      · simp at hs
      rw [want false hs]
      cases w <;> first | rfl | cases h
    · cases h
def xops (c : Cfg) (ops : List Oper) : List Oper → (St → Prop) → St → Prop
  | [], K, s => K s
  | o :: r, K, s => match yieldOf ops s.fr o with
    | some (l, args) => match closed (args.map (ev s)) with
      | none => False
      | some cs => XYield c.P l cs s.m fun r' m' => xops c ops r K ⟨putF s.fr o.dst (resSV r'), s.L, m', []⟩
    | none => xop c ops o .none s (xops c ops r K)
theorem xops_spec (hT : TabOk c.P c.T) {F : Fence} (hF : FOk F) {ops : Array Oper} (hd : ∀ o ∈ ops.toList, dstIn o.dst nt) (hnd : ∀ o ∈ ops.toList, notDefer o.op = true) {K : St → Prop} :
    ∀ (r : List Oper) (k : Nat) (s : St) (ρ : List Nat) (a : Act) (W : World), (∀ j, r[j]? = ops[k + j]?) → xops c ops.toList r K s → Rel nt D m0 W0 ρ s a W → wpOpsIn F 0 c.P ops (QN nt D m0 W0 K) (List.range' k r.length) a W
  | [], k, s, ρ, a, W, _, h, hr => ⟨s, ρ, h, hr⟩
  | o :: r, k, s, ρ, a, W, hl, h, hr => by
    have h0 : ops[k]? = some o := by simpa using (hl 0).symm
    simp only [List.length_cons, List.range'_succ]
    rw [wpOpsIn_cons]
    have hm : o ∈ ops.toList := by
      rw [← Array.getElem?_toList] at h0; exact List.mem_of_getElem? h0
    have hl' : ∀ j, r[j]? = ops[k + 1 + j]? := fun j => by have := hl (j + 1); simpa [Nat.add_assoc, Nat.add_comm 1 j] using this
    simp only [xops] at h
    cases hy : yieldOf ops.toList s.fr o with
    | none =>
      simp only [hy] at h
      refine wpOp_in hF (fun o' ho' => by rw [h0] at ho'; cases ho'; exact hnd o hm) QN.out ?_
      refine wpOp_mono (fun a' W' ⟨s', e, h1, h2, _, _⟩ => ?_) (xop_spec hT hr h0 (hd o hm) h)
      exact xops_spec hT hF hd hnd r (k + 1) s' _ a' W' hl' h1 h2
    | some q =>
      obtain ⟨l, args⟩ := q
      simp only [hy] at h
      obtain ⟨t, ar, ats, hop, rfl, hg, hfr⟩ := yieldOf_spec hy
      cases hcs : closed (ar.toList.map (ev s)) with
      | none => simp [hcs] at h
      | some cs =>
        simp only [hcs] at h
        obtain ⟨R, hspec, hk⟩ := h
        obtain ⟨c1, c2⟩ := closed_spec hr hcs
        obtain ⟨fn, tmps, asg, body, hyl, hround⟩ := hspec c2 W hr.after.over
        have hargs : ar.map a.eval = (cs.map CV.val).toArray := by
          apply Array.ext'; simp [c1]
        have hf := hr.fits (.tmp t)
        simp only [ev, hfr] at hf
        have hfv := hf.eq (by simp)
        simp only [conc, CV.val] at hfv
        have hrun : (execOp a.eval o).run c.P W = .ok (.round l fn tmps asg body) W := by
          simp only [execOp, hop, resolve, hfv, Deferred.ofValue, invoke, Sem.run_bind, Sem.run_pure, Result.andThen_ok]
          simp [hargs, hyl]
        unfold wpOpIn
        simp only [h0]
        rw [if_pos (guardOn_wanted hr hg)]
        refine ⟨fun _ _ => hF.fn _, ?_⟩
        rw [semAt_eq (hnd o hm), hrun]
        refine ⟨fun e => (by rw [hF.depth] at e; cases e), hF.round (hround.mono ?_)⟩
        rintro e W' ⟨r', m', rfl, hrok, hR, haft⟩
        rw [conc_resSV' r' ρ]
        exact xops_spec hT hF hd hnd r (k + 1) _ ρ _ W' hl' (hk r' m' hR) (hr.passed (by rw [hr.size]; exact hd o hm) haft (resSV_ok hrok) (resSV_under _ _))
theorem region_plain (hT : TabOk c.P c.T) {F : Fence} (hF : FOk F) {id : Nat} {ops : Array Oper} (hd : ∀ o ∈ ops.toList, dstIn o.dst nt) (hnd : ∀ o ∈ ops.toList, notDefer o.op = true) {K : St → Prop}
    (hr : Rel nt D m0 W0 ρ s a W) (h : xops c ops.toList ops.toList K s) : (Code.region id ops false).wpIn F 0 c.P (QN nt D m0 W0 K) a W := by
  refine wpIn_region ?_
  have := xops_spec hT hF hd hnd ops.toList 0 s ρ a W (by simp) h hr
  rwa [Array.length_toList, ← List.range_eq_range'] at this
end
end Go.E
