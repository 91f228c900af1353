/-
  E24, WaD
-/
import Derived.Test.YtheiididldemmaaGreatWatchNothingZ10
import Derived.ChangeArms
/-
  What arguments are that were read, by their shapes: numbers, texts, structs, arrays, and slices of these, as deep as they go.
-/
namespace Go.E
open Go.ChangeShapes Go.WideShapes Go.RowKit

inductive Sh where
  | int (k : IntKind)
  | bool
  | str
  | slice (e : Sh)
  | unit
  | pair (a b : Sh)
  | rep (n : Nat) (e : Sh)
def Sh.size : Sh → Nat
  | .unit => 0
  | .pair a b => a.size + b.size
  | .rep n e => n * e.size
  | _ => 1
def Dat (m : Mem) : Sh → List Value → Prop
  | .int k, cs => ∃ n, cs = [.int k n] ∧ (Lit.int k n).wf = true
  | .bool, cs => ∃ b, cs = [.bool b]
  | .str, cs => ∃ s, cs = [.string s] ∧ s.size ≤ maxLen
  | .slice e, cs => ∃ (v : Value) (els : List (List Value)), cs = [v] ∧ (Lies m e.size v els.flatten ∨ (els = [] ∧ ∃ a, v = .slice (some a) 0 0)) ∧ lenV v = els.length ∧ (∀ c ∈ els, Dat m e c) ∧ els.length ≤ maxLen
  | .unit, cs => cs = []
  | .pair a b, cs => ∃ x y, cs = x ++ y ∧ Dat m a x ∧ Dat m b y
  | .rep n e, cs => ∃ els : List (List Value), cs = els.flatten ∧ els.length = n ∧ ∀ c ∈ els, Dat m e c
def intB : Option TypeDesc → IntKind → Bool
  | some (.int k), q => kEq k q
  | _, _ => false
/-- is it the type's shape? and: are these fields, from an offset on? -/
def chk (P : Program) : Sh → (TypeId → Bool) × (List Field → Nat → Bool)
  | .int k => (fun t => intB (P.underlying t) k, fun _ _ => false)
  | .bool => (fun t => match P.underlying t with | some .bool => true | _ => false, fun _ _ => false)
  | .str => (fun t => match P.underlying t with | some .string => true | _ => false, fun _ _ => false)
  | .slice e => (fun t => match P.underlying t with | some (.slice et) => (chk P e).1 et && (P.cellsOf et == e.size && Nat.blt 0 e.size) | _ => false, fun _ _ => false)
  | .unit => (fun _ => false, fun fs _ => fs.isEmpty)
  | .pair a b =>
    let F : List Field → Nat → Bool := fun fs off => match fs with
      | f :: fs => f.offset == off && ((chk P a).1 f.type && (P.cellsOf f.type == a.size && (chk P b).2 fs (off + a.size)))
      | [] => false
    (fun t => match P.underlying t with | some (.struct fs) => P.cellsOf t == a.size + b.size && F fs.toList 0 | _ => false, F)
  | .rep n e => (fun t => match P.underlying t with | some (.array k et) => Nat.beq k n && ((chk P e).1 et && (P.cellsOf et == e.size && P.cellsOf t == n * e.size)) | _ => false, fun _ _ => false)

section
variable {H : Type} {enc : TypeId × Value → H} {P : Program} {w : World} {base : Nat} {spare : Nat → Bool} {held : Bool}
theorem Dat.one {m : Mem} : ∀ {sh : Sh} {cs : List Value}, Dat m sh cs → ∀ u ∈ cs, u.oneCell' = true
  | .int k, cs, h, u, hu => by obtain ⟨n, rfl, _⟩ := h; simp at hu; subst hu; rfl
  | .bool, cs, h, u, hu => by obtain ⟨n, rfl⟩ := h; simp at hu; subst hu; rfl
  | .str, cs, h, u, hu => by obtain ⟨n, rfl, _⟩ := h; simp at hu; subst hu; rfl
  | .slice e, cs, h, u, hu => by
    obtain ⟨v, els, rfl, h1, _⟩ := h
    simp at hu; subst hu
    rcases h1 with h1 | ⟨_, a, rfl⟩
    · exact h1.one
    · rfl
  | .unit, cs, h, u, hu => by simp only [Dat] at h; subst h; cases hu
  | .pair a b, cs, h, u, hu => by
    obtain ⟨x, y, rfl, h1, h2⟩ := h
    rcases List.mem_append.1 hu with hu | hu
    · exact Dat.one h1 u hu
    · exact Dat.one h2 u hu
  | .rep n e, cs, h, u, hu => by
    obtain ⟨els, rfl, _, h1⟩ := h
    obtain ⟨c, hc, huc⟩ := List.mem_flatten.1 hu
    exact Dat.one (h1 c hc) u huc
theorem flat_len {els : List (List Value)} {s : Nat} (h : ∀ c ∈ els, c.length = s) : els.flatten.length = els.length * s := by
  induction els with
  | nil => simp
  | cons a els ih =>
    simp only [List.flatten_cons, List.length_append, List.length_cons]
    rw [ih (fun c hc => h c (by simp [hc])), h a (by simp), Nat.add_mul]; omega
theorem Dat.length {m : Mem} : ∀ {sh : Sh} {cs : List Value}, Dat m sh cs → cs.length = sh.size
  | .int k, cs, h => by obtain ⟨n, rfl, _⟩ := h; rfl
  | .bool, cs, h => by obtain ⟨n, rfl⟩ := h; rfl
  | .str, cs, h => by obtain ⟨n, rfl, _⟩ := h; rfl
  | .slice e, cs, h => by obtain ⟨v, els, rfl, _⟩ := h; rfl
  | .unit, cs, h => by simp only [Dat] at h; subst h; rfl
  | .pair a b, cs, h => by
    obtain ⟨x, y, rfl, h1, h2⟩ := h
    simp only [List.length_append, Sh.size, Dat.length h1, Dat.length h2]
  | .rep n e, cs, h => by
    obtain ⟨els, rfl, h2, h1⟩ := h
    rw [flat_len (fun c hc => Dat.length (h1 c hc)), h2]; rfl

theorem chunk_list {α : Type} (l : List α) (s n : Nat) (h : l.length = n * s) : ((List.range' 0 n).map (fun i => (l.drop (i * s)).take s)).flatten = l := by
  rw [chunks_flat l s n 0 (by rw [Nat.zero_add, h]; exact Nat.le_refl _)]
  simp [← h]
theorem cell_some {a : Addr} {v : Value} (h : w.cell? a = some v) : ∃ b o arr t fr, a = ⟨b, o, none⟩ ∧ w.heap[b]? = some (.cells arr t fr) ∧ arr[o]? = some v := by
  obtain ⟨b, o, sp⟩ := a
  unfold World.cell? at h
  simp only at h
  split at h
  · rename_i arr t fr hb
    cases sp with
    | some _ => simp at h
    | none => exact ⟨b, o, arr, t, fr, rfl, hb, by simpa using h⟩
  · cases h
theorem add_zero (a : Addr) : a.add 0 = a := by simp [Addr.add]
/-- THE OPENING -/
theorem trod_dat (hsp : ∀ b, spare b = true) : ∀ (sh : Sh), (∀ (t : TypeId) (cs : List Value) (fuel : Nat) (x : DataW H × List MemPlace), (chk P sh).1 t = true → DataW.trod enc P w base spare held fuel t cs = some x → Dat (fun b => w.heap[b]?) sh cs) ∧
    (∀ (fs : List Field) (off : Nat) (cs : List Value), (chk P sh).2 fs off = true → cs.length = off + sh.size → (∀ f ∈ fs, ∃ fuel x, DataW.trod enc P w base spare held fuel f.type ((cs.drop f.offset).take (P.cellsOf f.type)) = some x) → Dat (fun b => w.heap[b]?) sh (cs.drop off)) := by
  intro sh
  induction sh with
  | int k =>
    refine ⟨fun t cs fuel x h ht => ?_, fun fs off cs h => by simp [chk] at h⟩
    simp only [chk] at h
    cases hu : P.underlying t with
    | none => rw [hu] at h; cases h
    | some d =>
      rw [hu] at h
      cases d <;> simp only [intB] at h <;> try cases h
      rename_i q
      have := kEq_eq h; subst this
      obtain ⟨n, rfl, _, hw⟩ := DataW.trod_int hu ht
      exact ⟨n, rfl, hw⟩
  | bool =>
    refine ⟨fun t cs fuel x h ht => ?_, fun fs off cs h => by simp [chk] at h⟩
    simp only [chk] at h
    split at h
    · rename_i hu; obtain ⟨b, rfl, _⟩ := DataW.trod_bool hu ht; exact ⟨b, rfl⟩
    · cases h
  | str =>
    refine ⟨fun t cs fuel x h ht => ?_, fun fs off cs h => by simp [chk] at h⟩
    simp only [chk] at h
    split at h
    · rename_i hu; obtain ⟨s, rfl, _, hs⟩ := DataW.trod_string hu ht; exact ⟨s, rfl, hs⟩
    · cases h
  | unit =>
    refine ⟨fun t cs fuel x h ht => by simp [chk] at h, fun fs off cs h hl _ => ?_⟩
    simp only [Sh.size] at hl
    exact List.drop_eq_nil_of_le (by omega)
  | pair a b iha ihb =>
    have F : ∀ (fs : List Field) (off : Nat) (cs : List Value), (chk P (.pair a b)).2 fs off = true → cs.length = off + (Sh.pair a b).size → (∀ f ∈ fs, ∃ fuel x, DataW.trod enc P w base spare held fuel f.type ((cs.drop f.offset).take (P.cellsOf f.type)) = some x) → Dat (fun b => w.heap[b]?) (.pair a b) (cs.drop off) := by
      intro fs off cs h hl hf
      cases fs with
      | nil => simp [chk] at h
      | cons f fs =>
        simp only [chk, Bool.and_eq_true, beq_iff_eq] at h
        obtain ⟨ho, h1, h2, h3⟩ := h
        simp only [Sh.size] at hl
        obtain ⟨fu, x, hx⟩ := hf f (by simp)
        rw [ho, h2] at hx
        refine ⟨(cs.drop off).take a.size, cs.drop (off + a.size), ?_, iha.1 _ _ _ _ h1 hx, ihb.2 fs (off + a.size) cs h3 (by omega) (fun g hg => hf g (by simp [hg]))⟩
        rw [← List.drop_drop, List.take_append_drop]
    refine ⟨fun t cs fuel x h ht => ?_, F⟩
    have h' : (match P.underlying t with | some (.struct fs) => P.cellsOf t == a.size + b.size && (chk P (.pair a b)).2 fs.toList 0 | _ => false) = true := h
    split at h'
    · rename_i fs hu
      simp only [Bool.and_eq_true, beq_iff_eq] at h'
      obtain ⟨xs, k, hk, _, hl, hxl, hp⟩ := DataW.trod_struct hu ht
      have := F fs.toList 0 cs h'.2 (by simp only [Sh.size]; omega) (fun f hf => by
        obtain ⟨i, hi, he⟩ := List.getElem_of_mem hf
        have hy := hp i f (by rw [← Array.getElem?_toList, List.getElem?_eq_getElem hi, he])
        rw [List.getElem?_eq_getElem (by simp at hi; omega)] at hy
        exact ⟨k, _, hy⟩)
      simpa using this
    · cases h'
  | rep n e ih =>
    refine ⟨fun t cs fuel x h ht => ?_, fun fs off cs h => by simp [chk] at h⟩
    simp only [chk] at h
    split at h
    · rename_i k et hu
      simp only [Bool.and_eq_true, beq_iff_eq] at h
      obtain ⟨hkn, h1, h2, h3⟩ := h
      have hkn := Nat.eq_of_beq_eq_true hkn
      subst hkn
      obtain ⟨xs, fu, hfu, _, hl, hxl, hp⟩ := DataW.trod_array hu ht
      rw [h2] at hp
      refine ⟨(List.range' 0 k).map (fun i => (cs.drop (i * e.size)).take e.size), (chunk_list cs e.size k (by omega)).symm, by simp, ?_⟩
      intro c hc
      obtain ⟨i, hi, rfl⟩ := List.mem_map.1 hc
      simp at hi
      have hy := hp i hi
      rw [List.getElem?_eq_getElem (by omega)] at hy
      exact ih.1 _ _ _ _ h1 hy
    · cases h
  | slice e ih =>
    refine ⟨fun t cs fuel x h ht => ?_, fun fs off cs h => by simp [chk] at h⟩
    simp only [chk] at h
    split at h
    · rename_i et hu
      simp only [Bool.and_eq_true, beq_iff_eq] at h
      obtain ⟨h1, h2, h3⟩ := h
      have hpos : 0 < e.size := by rw [Nat.blt_eq] at h3; exact h3
      rcases DataW.trod_slice hu ht with ⟨rfl, _⟩ | ⟨a, len, cap, elems, rest, n, _, rfl, _, hb, hl, hm, hlen, hel, hrest, _⟩
      · exact ⟨_, [], rfl, .inl (.inl ⟨0, rfl, rfl⟩), rfl, by simp, by simp⟩
      · rw [h2] at hel hrest
        have first : ∀ i, (∃ cs y, (w.cells? base (a.add (i * e.size)) e.size).bind (DataW.trod enc P w base spare held n et) = some y ∧ cs = y) → ∃ cs y, w.cells? base (a.add (i * e.size)) e.size = some cs ∧ DataW.trod enc P w base spare held n et cs = some y := by
          rintro i ⟨_, y, hy, _⟩
          rw [Option.bind_eq_some_iff] at hy
          obtain ⟨cs, g1, g2⟩ := hy
          exact ⟨cs, y, g1, g2⟩
        have hel' : ∀ i, i < len → ∃ cs y, w.cells? base (a.add (i * e.size)) e.size = some cs ∧ DataW.trod enc P w base spare held n et cs = some y := by
          intro i hi
          have := hel i hi
          rw [List.getElem?_eq_getElem (by omega)] at this
          exact first i ⟨_, _, this, rfl⟩
        have hblk : cap = 0 ∨ ∃ b o arr t fr, a = ⟨b, o, none⟩ ∧ w.heap[b]? = some (.cells arr t fr) := by
          by_cases hc : cap = 0
          · exact .inl hc
          · right
            have : ∃ cs y, w.cells? base (a.add (0 * e.size)) e.size = some cs ∧ DataW.trod enc P w base spare held n et cs = some y := by
              by_cases hl0 : len = 0
              · obtain ⟨hr1, hr2⟩ := hrest (hsp _)
                have h0 := hr2 0 (by omega)
                obtain ⟨z, hz⟩ : ∃ z, rest[0]? = some z := ⟨_, List.getElem?_eq_getElem (by omega)⟩
                rw [hz, hl0] at h0
                exact first 0 ⟨_, _, h0, rfl⟩
              · exact hel' 0 (by omega)
            obtain ⟨cs, y, g1, _⟩ := this
            obtain ⟨_, g3, g4⟩ := World.cells?_some g1
            have := g4 0 hpos
            rw [Nat.zero_mul, add_zero, add_zero, List.getElem?_eq_getElem (by omega)] at this
            obtain ⟨b, o, arr, t, fr, e1, e2, _⟩ := cell_some this
            exact ⟨b, o, arr, t, fr, e1, e2⟩
        rcases hblk with rfl | ⟨b, o, arr, t', fr, rfl, harr⟩
        · obtain rfl : len = 0 := by omega
          exact ⟨_, [], rfl, .inr ⟨rfl, a, rfl⟩, rfl, by simp, by simp⟩
        · have each : ∀ i, i < len → ∃ cs y, cs = ((arr.toList.drop o).drop (i * e.size)).take e.size ∧ DataW.trod enc P w base spare held n et cs = some y ∧ o + i * e.size + e.size ≤ arr.size := by
            intro i hi
            obtain ⟨cs, y, g1, g2⟩ := hel' i hi
            obtain ⟨_, g3, g4⟩ := World.cells?_some g1
            have g5 : ∀ k, k < e.size → arr[o + i * e.size + k]? = cs[k]? := by
              intro k hk'
              have := g4 k hk'
              rw [add_none, add_none, cell_at harr] at this
              exact this
            have hlast : o + i * e.size + e.size ≤ arr.size := by
              have := g5 (e.size - 1) (by omega)
              rw [List.getElem?_eq_getElem (by omega)] at this
              have := (Array.getElem?_eq_some_iff.1 this).1
              omega
            refine ⟨cs, y, ?_, g2, hlast⟩
            apply List.ext_getElem?
            intro k
            by_cases hk' : k < e.size
            · rw [← g5 k hk', List.getElem?_take, if_pos hk', List.getElem?_drop, List.getElem?_drop, Array.getElem?_toList]
              congr 1; omega
            · rw [List.getElem?_eq_none (by omega), List.getElem?_eq_none (by simp; omega)]
          have hbound : len * e.size ≤ (arr.toList.drop o).length ∨ len = 0 := by
            by_cases h0 : len = 0
            · exact .inr h0
            · obtain ⟨_, _, _, _, g⟩ := each (len - 1) (by omega)
              left
              have : len * e.size = (len - 1) * e.size + e.size := by
                rw [← Nat.succ_mul]; congr 1; omega
              simp
              omega
          have hflat := chunks_flat (arr.toList.drop o) e.size len 0 (by
            rw [Nat.zero_add]
            rcases hbound with h | h
            · exact h
            · rw [h]; simp)
          have hdat : ∀ c ∈ (List.range' 0 len).map (fun i => ((arr.toList.drop o).drop (i * e.size)).take e.size), Dat (fun b => w.heap[b]?) e c := by
            intro c hc
            obtain ⟨i, hi, rfl⟩ := List.mem_map.1 hc
            simp at hi
            obtain ⟨cs, y, k1, k2, _⟩ := each i hi
            rw [← k1]
            exact ih.1 _ _ _ _ h1 k2
          refine ⟨_, (List.range' 0 len).map (fun i => ((arr.toList.drop o).drop (i * e.size)).take e.size), rfl, .inl (.inr ⟨b, o, cap, len, arr, t', fr, rfl, harr, ?_, hl, ?_, ?_⟩), by simp [lenV], hdat, by simp; omega⟩
          · rw [flat_len (fun c hc => (hdat c hc).length)]; simp
          · intro j' u hu
            rw [hflat] at hu
            simp only [Nat.zero_mul, List.drop_zero, List.getElem?_take] at hu
            split at hu
            · rw [List.getElem?_drop, Array.getElem?_toList] at hu; exact hu
            · simp at hu
          · intro u hu
            obtain ⟨c, hc, huc⟩ := List.mem_flatten.1 hu
            exact (hdat c hc).one u huc
    · cases h
theorem flat_at : ∀ {els : List (List Value)} {s i j : Nat} {c : List Value} {u : Value}, (∀ c ∈ els, c.length = s) → els[i]? = some c → c[j]? = some u → els.flatten[i * s + j]? = some u
  | [], _, _, _, _, _, _, hi, _ => by simp at hi
  | a :: els, s, 0, j, c, u, hl, hi, hj => by
    simp at hi; subst hi
    have := (List.getElem?_eq_some_iff.1 hj).1
    rw [Nat.zero_mul, Nat.zero_add, List.flatten_cons, List.getElem?_append_left this]; exact hj
  | a :: els, s, i + 1, j, c, u, hl, hi, hj => by
    have ha := hl a (by simp)
    have ih := flat_at (els := els) (s := s) (fun c hc => hl c (by simp [hc])) (by simpa using hi) hj
    rw [List.flatten_cons, List.getElem?_append_right (by rw [ha, Nat.add_mul]; omega), ha, show (i + 1) * s + j - s = i * s + j by rw [Nat.add_mul]; omega]
    exact ih
/-- an element of a slice of equal parts -/
theorem Lies.elem {m : Mem} {s : Nat} {v : Value} {els : List (List Value)} (h : Lies m s v els.flatten) (hl : ∀ c ∈ els, c.length = s) (hp : 0 < s) (hv : lenV v = els.length) {i : Nat} (hi : i < els.length) :
    ∃ b o c, v = .slice (some ⟨b, o, none⟩) els.length c ∧ ∀ i c, els[i]? = some c → MRange m b (o + i * s) c := by
  rcases h with ⟨c, rfl, h⟩ | ⟨b, o, c, n, arr, t, fr, rfl, h1, h2, h3, h4, h5⟩
  · simp [lenV] at hv; omega
  · simp only [lenV] at hv; subst hv
    refine ⟨b, o, c, rfl, fun i c hc => ⟨arr, t, fr, h1, fun j u hu => ?_⟩⟩
    have := h4 _ u (flat_at hl hc hu)
    rw [show o + i * s + j = o + (i * s + j) by omega]; exact this
theorem dat_ints {m : Mem} {k : IntKind} {n : Nat} {cs : List Value} (h : Dat m (.rep n (.int k)) cs) : ∃ l : List Int, cs = l.map (Value.int k) ∧ l.length = n ∧ ∀ x ∈ l, (Lit.int k x).wf = true := by
  obtain ⟨els, rfl, rfl, h⟩ := h
  have := @els_ints k 0 els (fun c hc => by obtain ⟨n, rfl, hw⟩ := h c hc; exact ⟨⟨rfl, hw⟩, trivial⟩)
  obtain ⟨l, h1, h2, h3⟩ := this
  exact ⟨l, h1, h2, h3⟩
/-- a slice of numbers -/
theorem dat_sints {m : Mem} {k : IntKind} {cs : List Value} (h : Dat m (.slice (.int k)) cs) : ∃ (v : Value) (l : List Int), cs = [v] ∧ (Lies m 1 v (l.map (Value.int k)) ∨ (l = [] ∧ ∃ a, v = .slice (some a) 0 0)) ∧ lenV v = l.length ∧ (∀ x ∈ l, (Lit.int k x).wf = true) ∧ l.length ≤ maxLen := by
  obtain ⟨v, els, rfl, h1, h2, h3, h4⟩ := h
  obtain ⟨l, g1, g2, g3⟩ := @els_ints k 0 els (fun c hc => by obtain ⟨n, rfl, hw⟩ := h3 c hc; exact ⟨⟨rfl, hw⟩, trivial⟩)
  refine ⟨v, l, rfl, ?_, by omega, g3, by omega⟩
  rcases h1 with h1 | ⟨rfl, a, rfl⟩
  · rw [g1] at h1; exact .inl h1
  · exact .inr ⟨by apply List.eq_nil_of_length_eq_zero; simpa using g2, a, rfl⟩
theorem open_dat (hsp : ∀ b, spare b = true) {sh : Sh} {t : TypeId} {v : Value} {d : DataW H} {ps : List MemPlace} (hc : (chk P sh).1 t = true) (hd : DataW.Trod enc P w base spare held t v d ps) : Dat (fun b => w.heap[b]?) sh v.cells.toList := by
  obtain ⟨fuel, hf⟩ := hd
  exact (trod_dat hsp sh).1 _ _ _ _ hc hf
theorem val_slice {r : Reach} {b0 : Nat} {t e : TypeId} {v : Value} (hu : P.underlying t = some (.slice e)) (h : Value.okWide P w r b0 t v) : v.cells.toList = [v] ∧ v.oneCell' = true := by
  unfold Value.okWide at h
  rw [hu] at h
  simp only [Cell.okWide, hu, Cell.ok] at h
  cases v <;> simp at h
  exact ⟨rfl, rfl⟩
theorem val_string {r : Reach} {b0 : Nat} {t : TypeId} {v : Value} (hu : P.underlying t = some .string) (h : Value.okWide P w r b0 t v) : v.cells.toList = [v] ∧ v.oneCell' = true := by
  unfold Value.okWide at h
  rw [hu] at h
  simp only [Cell.okWide, hu, Cell.ok] at h
  cases v <;> simp at h
  exact ⟨rfl, rfl⟩
theorem val_int {k : IntKind} {r : Reach} {b0 : Nat} {t : TypeId} {v : Value} (hu : P.underlying t = some (.int k)) (h : Value.okWide P w r b0 t v) : v.cells.toList = [v] ∧ v.oneCell' = true := by
  unfold Value.okWide at h
  rw [hu] at h
  simp only [Cell.okWide, hu, Cell.ok] at h
  cases v <;> simp at h
  exact ⟨rfl, rfl⟩
theorem wf_i64 {n : Int} (h : (Lit.int .i64 n).wf = true) : -9223372036854775808 ≤ n ∧ n ≤ 9223372036854775807 := by
  simpa [Lit.wf, IntKind.min, IntKind.max, IntKind.signed, IntKind.bits] using h
theorem wf_u64 {n : Int} (h : (Lit.int .u64 n).wf = true) : 0 ≤ n ∧ n < 18446744073709551616 := by
  have : 0 ≤ n ∧ n ≤ 18446744073709551615 := by simpa [Lit.wf, IntKind.min, IntKind.max, IntKind.signed, IntKind.bits] using h
  omega
theorem wf_u8 {n : Int} (h : (Lit.int .u8 n).wf = true) : 0 ≤ n ∧ n < 256 := by
  have : 0 ≤ n ∧ n ≤ 255 := by simpa [Lit.wf, IntKind.min, IntKind.max, IntKind.signed, IntKind.bits] using h
  omega
theorem wf_u32 {n : Int} (h : (Lit.int .u32 n).wf = true) : 0 ≤ n ∧ n < 4294967296 := by
  have : 0 ≤ n ∧ n ≤ 4294967295 := by simpa [Lit.wf, IntKind.min, IntKind.max, IntKind.signed, IntKind.bits] using h
  omega
end
end Go.E

/-
  What is told, as it came in.
-/
namespace Go.E.YtheiididldemmaaGreat
open Go.Proofs
set_option maxRecDepth 100000
abbrev shDot : Sh := .pair (.int .i64) (.pair (.int .u64) .unit)
abbrev shEv : Sh := .pair (.int .i64) (.pair (.int .i64) (.pair (.int .i64) (.pair shDot (.pair (.slice shDot) .unit))))
abbrev shTold : Sh := .pair .str (.pair (.int .i64) (.pair shEv .unit))
theorem wf_U {n : Int} (h : (Lit.int .u64 n).wf = true) : U n := by
  have : 0 ≤ n ∧ n ≤ 18446744073709551615 := by simpa [Lit.wf, IntKind.min, IntKind.max, IntKind.signed, IntKind.bits] using h
  exact ⟨this.1, by omega⟩
theorem wf_I {n : Int} (h : (Lit.int .i64 n).wf = true) : I n := by
  have : -9223372036854775808 ≤ n ∧ n ≤ 9223372036854775807 := by simpa [Lit.wf, IntKind.min, IntKind.max, IntKind.signed, IntKind.bits] using h
  exact ⟨this.1, by omega⟩
theorem dat_dt {m : Mem} {cs : List Value} (h : Dat m shDot cs) : ∃ d : Dt, cs = encD d ∧ okD d := by
  obtain ⟨x, y, rfl, ⟨n, rfl, h1⟩, u, w, rfl, ⟨k, rfl, h2⟩, h3⟩ := h
  simp only [Dat] at h3
  subst h3
  exact ⟨(n, k), rfl, wf_I h1, wf_U h2⟩
theorem dat_dt_rows {m : Mem} : ∀ {els : List (List Value)}, (∀ c ∈ els, Dat m shDot c) → ∃ E : List Dt, els.flatten = E.flatMap encD ∧ E.length = els.length ∧ ∀ d ∈ E, okD d
  | [], _ => ⟨[], rfl, rfl, by simp⟩
  | c :: els, h => by
    obtain ⟨e, rfl, he⟩ := dat_dt (h c (by simp))
    obtain ⟨E, h1, h2, h3⟩ := dat_dt_rows (els := els) fun c hc => h c (by simp [hc])
    refine ⟨e :: E, by rw [List.flatten_cons, List.flatMap_cons, h1], by simp [h2], fun d hd => ?_⟩
    rcases List.mem_cons.1 hd with rfl | hd
    · exact he
    · exact h3 d hd
theorem dat_dts {m : Mem} {cs : List Value} (h : Dat m (.slice shDot) cs) : ∃ a c E, cs = [.slice a (E : List Dt).length c] ∧ Da m (.slice a E.length c) E ∧ ∀ d ∈ E, okD d := by
  obtain ⟨v, els, rfl, h1, h2, h3, h4⟩ := h
  obtain ⟨E, e1, e2, e3⟩ := dat_dt_rows h3
  have hda : Da m v E := by
    rcases h1 with h1 | ⟨rfl, a, rfl⟩
    · rw [e1] at h1; exact .inl h1
    · exact .inr ⟨List.eq_nil_of_length_eq_zero (by simpa using e2), a, rfl⟩
  obtain ⟨a, c, rfl⟩ := hda.shape
  exact ⟨a, c, E, rfl, hda, e3⟩
theorem dat_evr {m : Mem} {cs : List Value} (h : Dat m shEv cs) : ∃ (r : Rv) (e : Ev), cs = encV r ∧ EvIs m r e ∧ okD e.2.1 ∧ ∀ d ∈ e.2.2, okD d := by
  obtain ⟨x1, y1, rfl, ⟨n1, rfl, _⟩, x2, y2, rfl, ⟨n2, rfl, _⟩, x3, y3, rfl, ⟨n3, rfl, _⟩, x4, y4, rfl, hd, x5, y5, rfl, hs, h6⟩ := h
  simp only [Dat] at h6
  subst h6
  obtain ⟨d, rfl, hok⟩ := dat_dt hd
  obtain ⟨a, c, E, rfl, hE, hEo⟩ := dat_dts hs
  exact ⟨((n1, n2, n3), d, (a, E.length, c)), ((n1, n2, n3), d, E), rfl, ⟨rfl, rfl, hE⟩, hok, hEo⟩
theorem dat_told {m : Mem} {cs : List Value} (h : Dat m shTold cs) : ∃ (t : Rt) (e : Ev), cs = encT t ∧ EvIs m t.2.2 e ∧ okD e.2.1 ∧ ∀ d ∈ e.2.2, okD d := by
  obtain ⟨x1, y1, rfl, ⟨s, rfl, _⟩, x2, y2, rfl, ⟨n2, rfl, _⟩, x3, y3, rfl, he, h6⟩ := h
  simp only [Dat] at h6
  subst h6
  obtain ⟨r, e, rfl, h1, h2, h3⟩ := dat_evr he
  exact ⟨(s, n2, r), e, by simp [encT, encV], h1, h2, h3⟩
theorem dat_told_rows {m : Mem} : ∀ {els : List (List Value)}, (∀ c ∈ els, Dat m shTold c) → ∃ (R : List Rt) (E : List Ev), els.flatten = R.flatMap encT ∧ R.length = els.length ∧ EvsIs m (R.map (·.2.2)) E ∧ ∀ e ∈ E, okD e.2.1 ∧ ∀ d ∈ e.2.2, okD d
  | [], _ => ⟨[], [], rfl, rfl, EvsIs.nil _, by simp⟩
  | c :: els, h => by
    obtain ⟨t, e, rfl, he, h2, h3⟩ := dat_told (h c (by simp))
    obtain ⟨R, E, h4, h5, h6, h7⟩ := dat_told_rows (els := els) fun c hc => h c (by simp [hc])
    refine ⟨t :: R, e :: E, by rw [List.flatten_cons, List.flatMap_cons, h4], by simp [h5], ?_, fun x hx => ?_⟩
    · exact (EvsIs.one he).append h6
    · rcases List.mem_cons.1 hx with rfl | hx
      · exact ⟨h2, h3⟩
      · exact h7 x hx
theorem dat_tolds {m : Mem} {cs : List Value} (h : Dat m (.slice shTold) cs) : ∃ v R E, cs = [v] ∧ Ta m v R ∧ EvsIs m (R.map (·.2.2)) E ∧ ∀ e ∈ E, okD e.2.1 ∧ ∀ d ∈ e.2.2, okD d := by
  obtain ⟨v, els, rfl, h1, h2, h3, h4⟩ := h
  obtain ⟨R, E, e1, e2, e3, e4⟩ := dat_told_rows h3
  refine ⟨v, R, E, rfl, ?_, e3, e4⟩
  rcases h1 with h1 | ⟨rfl, a, rfl⟩
  · rw [e1] at h1; exact .inl h1
  · exact .inr ⟨List.eq_nil_of_length_eq_zero (by simpa using e2), a, rfl⟩
end Go.E.YtheiididldemmaaGreat
