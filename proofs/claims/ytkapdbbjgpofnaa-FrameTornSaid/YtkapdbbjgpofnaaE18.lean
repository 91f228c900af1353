/-
  What arguments that are slices of plain cells are.
-/
import Derived.Test.YtkapdbbjgpofnaaE16
import Derived.Test.YtkapdbbjgpofnaaE17
import Derived.ChangeArms
namespace Go.E
open Go.ChangeShapes Go.WideShapes Go.RowKit
section
variable {H : Type} {enc : TypeId × Value → H} {P : Program} {w : World} {base : Nat} {spare : Nat → Bool} {held : Bool}

theorem chunks_flat {α : Type} (l : List α) (s : Nat) : ∀ (n k : Nat), (k + n) * s ≤ l.length → ((List.range' k n).map (fun i => (l.drop (i * s)).take s)).flatten = (l.drop (k * s)).take (n * s)
  | 0, k, _ => by simp
  | n + 1, k, h => by
    have ih := chunks_flat l s n (k + 1) (by rw [show k + 1 + n = k + (n + 1) by omega]; exact h)
    simp only [List.range'_succ, List.map_cons, List.flatten_cons, ih]
    rw [show (n + 1) * s = s + n * s by rw [Nat.add_mul]; omega, show (k + 1) * s = k * s + s by rw [Nat.add_mul]; omega]
    rw [List.take_add, List.drop_drop]
/-- a slice whose elements are plain: each element's cells, as they were read -/
theorem open_slice {T : Tab} (hT : TabOk P T) {t e : TypeId} {ti ei : TI} (ht : T t = some ti) (hk : ti.k = .slice e) (he : T e = some ei) (hg : goodB P 50 e (LB.cells ei.zero) = true) (hsz : (LB.cells ei.zero).length = ei.size) (hpos : 0 < ei.size)
    (hall : ∀ z ∈ LB.cells ei.zero, ∀ x, KW z x → x.oneCell' = true) {r : Reach} {b0 : Nat} {v : Value} {d : DataW H} {ps : List MemPlace}
    (hval : Value.okWide P w r b0 t v) (hd : DataW.Trod enc P w base spare held t v d ps) :
    ∃ els : List (List Value), Lies (fun b => w.heap[b]?) ei.size v els.flatten ∧ lenV v = els.length ∧ (∀ c ∈ els, KWs (LB.cells ei.zero) c) ∧ els.length ≤ maxLen ∧ v.oneCell' = true := by
  have hsl := (hT t ti ht).slice hk
  obtain ⟨j, hj, hjs, _, z, hz, hzc⟩ := (hT e ei he).inf
  have hcell : P.cellsOf e = ei.size := by simp [Program.cellsOf, hj, hjs]
  obtain ⟨fuel, hf⟩ := hd
  have hvc : ∃ v', v = v' ∧ v.cells.toList = [v'] ∧ v.oneCell' = true := by
    unfold Value.okWide at hval
    rw [hsl] at hval
    simp only [Cell.okWide, hsl, Cell.ok] at hval
    cases v <;> simp at hval
    exact ⟨_, rfl, rfl, rfl⟩
  obtain ⟨v', rfl, hc1, hone⟩ := hvc
  have hf' : DataW.trod enc P w base spare held fuel t v.cells.toList = some (d, ps) := hf
  rw [hc1] at hf'
  rcases DataW.trod_slice hsl hf' with ⟨h0, _⟩ | ⟨a, len, cap, elems, rest, n, _, h0, _, hb, hl, hm, hlen, hel, _, _⟩
  · simp only [List.cons.injEq, and_true] at h0
    subst h0
    exact ⟨[], .inl ⟨0, rfl, rfl⟩, rfl, by simp, by simp, rfl⟩
  · simp only [List.cons.injEq, and_true] at h0
    subst h0
    have hw : w.has P r b0 a e cap := by
      unfold Value.okWide at hval
      rw [hsl] at hval
      simp only [Cell.okWide, hsl, Cell.ok] at hval
      exact hval.2.2
    obtain ⟨_, hspot, row, cells, hshape, _⟩ := hw
    obtain ⟨b, o, spot⟩ := a
    simp only at hspot
    subst hspot
    have hblk : ∃ arr t' fr, w.heap[b]? = some (.cells arr t' fr) := by
      unfold World.shape? at hshape
      simp only at hshape
      cases hx : w.heap[b]? with
      | none => simp [hx] at hshape
      | some ob => cases ob <;> simp [hx] at hshape <;> exact ⟨_, _, _, rfl⟩
    obtain ⟨arr, t', fr, harr⟩ := hblk
    rw [hcell] at hel
    have each : ∀ i, i < len → ∃ cs y, KWs (LB.cells ei.zero) cs ∧ cs = ((arr.toList.drop o).drop (i * ei.size)).take ei.size ∧ DataW.trod enc P w base spare held n e cs = some y ∧ o + i * ei.size + ei.size ≤ arr.size := by
      intro i hi
      have h1 := hel i hi
      have h2 : ∃ y, elems[i]? = some y := ⟨elems[i]'(by omega), by simp [show i < elems.length by omega]⟩
      obtain ⟨y, hy⟩ := h2
      rw [hy, Option.bind_eq_some_iff] at h1
      obtain ⟨cs, g1, g2⟩ := h1
      obtain ⟨_, g3, g4⟩ := World.cells?_some g1
      have g5 : ∀ k, k < ei.size → arr[o + i * ei.size + k]? = cs[k]? := by
        intro k hk'
        have := g4 k hk'
        rw [add_none, add_none, cell_at harr] at this
        exact this
      have hlast : o + i * ei.size + ei.size ≤ arr.size := by
        have := g5 (ei.size - 1) (by omega)
        rw [List.getElem?_eq_getElem (by omega)] at this
        have := (Array.getElem?_eq_some_iff.1 this).1
        omega
      refine ⟨cs, y, trod_kw 50 e _ _ n _ hg (by rw [hsz, hcell]) g2, ?_, g2, hlast⟩
      apply List.ext_getElem?
      intro k
      by_cases hk' : k < ei.size
      · rw [← g5 k hk', List.getElem?_take, if_pos hk', List.getElem?_drop, List.getElem?_drop, Array.getElem?_toList]
        congr 1; omega
      · rw [List.getElem?_eq_none (by omega), List.getElem?_eq_none (by simp; omega)]
    have hbound : len * ei.size ≤ (arr.toList.drop o).length ∨ len = 0 := by
      by_cases h0 : len = 0
      · exact .inr h0
      · obtain ⟨_, _, _, _, _, g⟩ := each (len - 1) (by omega)
        left
        have : len * ei.size = (len - 1) * ei.size + ei.size := by
          rw [← Nat.succ_mul]; congr 1; omega
        simp
        omega
    have hflat := chunks_flat (arr.toList.drop o) ei.size len 0 (by
      rw [Nat.zero_add]
      rcases hbound with h | h
      · exact h
      · rw [h]; simp)
    refine ⟨(List.range' 0 len).map (fun i => ((arr.toList.drop o).drop (i * ei.size)).take ei.size), .inr ⟨b, o, cap, len, arr, t', fr, rfl, harr, ?_, hl, ?_, ?_⟩, by simp [lenV], ?_, by simp; omega, rfl⟩
    · rw [hflat]
      simp only [Nat.zero_mul, List.drop_zero, List.length_take]
      rcases hbound with h | h
      · omega
      · rw [h]; simp
    · intro j' u hu
      rw [hflat] at hu
      simp only [Nat.zero_mul, List.drop_zero, List.getElem?_take] at hu
      split at hu
      · rw [List.getElem?_drop, Array.getElem?_toList] at hu; exact hu
      · simp at hu
    · intro u hu
      obtain ⟨c, hc, huc⟩ := List.mem_flatten.1 hu
      obtain ⟨i, hi, rfl⟩ := List.mem_map.1 hc
      simp at hi
      obtain ⟨cs, y, k1, k2, _⟩ := each i hi
      rw [← k2] at huc
      have : ∀ (zs cs : List Value), KWs zs cs → (∀ z ∈ zs, ∀ x, KW z x → x.oneCell' = true) → ∀ u ∈ cs, u.oneCell' = true := by
        intro zs
        induction zs with
        | nil => intro cs h _ u hu; cases cs with
          | nil => simp at hu
          | cons => exact h.elim
        | cons z zs ih => intro cs h h' u hu; cases cs with
          | nil => exact h.elim
          | cons c cs =>
            rcases List.mem_cons.1 hu with rfl | hu
            · exact h' z (by simp) _ h.1
            · exact ih cs h.2 (fun z hz => h' z (by simp [hz])) u hu
      exact this _ _ k1 hall u huc
    · intro c hc
      obtain ⟨i, hi, rfl⟩ := List.mem_map.1 hc
      simp at hi
      obtain ⟨cs, y, k1, k2, _⟩ := each i hi
      rw [← k2]; exact k1
/-- numbers -/
theorem kws_one {k : IntKind} {c : List Value} {z : Int} (h : KWs [.int k z] c) : ∃ n, c = [.int k n] ∧ (Lit.int k n).wf = true := by
  match c, h with
  | [.int k' n], h => obtain ⟨⟨rfl, h⟩, _⟩ := h; exact ⟨n, rfl, h⟩
theorem els_ints {k : IntKind} {z : Int} : ∀ {els : List (List Value)}, (∀ c ∈ els, KWs [.int k z] c) → ∃ l : List Int, els.flatten = l.map (Value.int k) ∧ l.length = els.length ∧ ∀ n ∈ l, (Lit.int k n).wf = true
  | [], _ => ⟨[], rfl, rfl, by simp⟩
  | c :: els, h => by
    obtain ⟨n, rfl, hn⟩ := kws_one (h c (by simp))
    obtain ⟨l, h1, h2, h3⟩ := els_ints (els := els) (fun c hc => h c (by simp [hc]))
    refine ⟨n :: l, by simp [h1], by simp [h2], ?_⟩
    intro x hx
    rcases List.mem_cons.1 hx with rfl | hx
    · exact hn
    · exact h3 x hx
theorem els_vecs {k : IntKind} {z : List Int} : ∀ {els : List (List Value)}, (∀ c ∈ els, KWs (z.map (Value.int k)) c) → ∃ ls : List (List Int), els = ls.map (fun l => l.map (Value.int k)) ∧ ∀ l ∈ ls, l.length = z.length ∧ ∀ n ∈ l, (Lit.int k n).wf = true
  | [], _ => ⟨[], rfl, by simp⟩
  | c :: els, h => by
    have hc := h c (by simp)
    obtain ⟨l', r, h1, h2, h3, h4⟩ := kws_ints z [] c (by simpa using hc)
    have hr : r = [] := by cases r with
      | nil => rfl
      | cons => exact h4.elim
    subst hr
    obtain ⟨ls, g1, g2⟩ := els_vecs (els := els) (fun c hc => h c (by simp [hc]))
    refine ⟨l' :: ls, by simp [h1, g1], ?_⟩
    intro x hx
    rcases List.mem_cons.1 hx with rfl | hx
    · exact ⟨h2, h3⟩
    · exact g2 x hx
end
end Go.E
