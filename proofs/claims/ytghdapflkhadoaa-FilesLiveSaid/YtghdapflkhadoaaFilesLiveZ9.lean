/-
  E24, DigDat, WalkE, WalkB, WalkF, T16Dat, FiB, FiC, FiD, FiK, FiE, FiF, FiG, FiH
-/
import Derived.Test.YtghdapflkhadoaaFilesLiveZ8
import Derived.ChangeArms
import Derived.Laws.MakeOwn
/-
  What arguments are that were read, by their shapes: numbers, texts, structs, arrays, and slices of these, as deep as they go.
-/
namespace Go.E
open Go.ChangeShapes Go.WideShapes Go.RowKit

inductive Sh where
  | int (k : IntKind)
  | bool
  | str
  | slice (e : Sh)
  | unit
  | pair (a b : Sh)
  | rep (n : Nat) (e : Sh)
def Sh.size : Sh → Nat
  | .unit => 0
  | .pair a b => a.size + b.size
  | .rep n e => n * e.size
  | _ => 1
def Dat (m : Mem) : Sh → List Value → Prop
  | .int k, cs => ∃ n, cs = [.int k n] ∧ (Lit.int k n).wf = true
  | .bool, cs => ∃ b, cs = [.bool b]
  | .str, cs => ∃ s, cs = [.string s] ∧ s.size ≤ maxLen
  | .slice e, cs => ∃ (v : Value) (els : List (List Value)), cs = [v] ∧ (Lies m e.size v els.flatten ∨ (els = [] ∧ ∃ a, v = .slice (some a) 0 0)) ∧ lenV v = els.length ∧ (∀ c ∈ els, Dat m e c) ∧ els.length ≤ maxLen
  | .unit, cs => cs = []
  | .pair a b, cs => ∃ x y, cs = x ++ y ∧ Dat m a x ∧ Dat m b y
  | .rep n e, cs => ∃ els : List (List Value), cs = els.flatten ∧ els.length = n ∧ ∀ c ∈ els, Dat m e c
def intB : Option TypeDesc → IntKind → Bool
  | some (.int k), q => kEq k q
  | _, _ => false
/-- is it the type's shape? and: are these fields, from an offset on? -/
def chk (P : Program) : Sh → (TypeId → Bool) × (List Field → Nat → Bool)
  | .int k => (fun t => intB (P.underlying t) k, fun _ _ => false)
  | .bool => (fun t => match P.underlying t with | some .bool => true | _ => false, fun _ _ => false)
  | .str => (fun t => match P.underlying t with | some .string => true | _ => false, fun _ _ => false)
  | .slice e => (fun t => match P.underlying t with | some (.slice et) => (chk P e).1 et && (P.cellsOf et == e.size && Nat.blt 0 e.size) | _ => false, fun _ _ => false)
  | .unit => (fun _ => false, fun fs _ => fs.isEmpty)
  | .pair a b =>
    let F : List Field → Nat → Bool := fun fs off => match fs with
      | f :: fs => f.offset == off && ((chk P a).1 f.type && (P.cellsOf f.type == a.size && (chk P b).2 fs (off + a.size)))
      | [] => false
    (fun t => match P.underlying t with | some (.struct fs) => P.cellsOf t == a.size + b.size && F fs.toList 0 | _ => false, F)
  | .rep n e => (fun t => match P.underlying t with | some (.array k et) => Nat.beq k n && ((chk P e).1 et && (P.cellsOf et == e.size && P.cellsOf t == n * e.size)) | _ => false, fun _ _ => false)

section
variable {H : Type} {enc : TypeId × Value → H} {P : Program} {w : World} {base : Nat} {spare : Nat → Bool} {held : Bool}
theorem Dat.one {m : Mem} : ∀ {sh : Sh} {cs : List Value}, Dat m sh cs → ∀ u ∈ cs, u.oneCell' = true
  | .int k, cs, h, u, hu => by obtain ⟨n, rfl, _⟩ := h; simp at hu; subst hu; rfl
  | .bool, cs, h, u, hu => by obtain ⟨n, rfl⟩ := h; simp at hu; subst hu; rfl
  | .str, cs, h, u, hu => by obtain ⟨n, rfl, _⟩ := h; simp at hu; subst hu; rfl
  | .slice e, cs, h, u, hu => by
    obtain ⟨v, els, rfl, h1, _⟩ := h
    simp at hu; subst hu
    rcases h1 with h1 | ⟨_, a, rfl⟩
    · exact h1.one
    · rfl
  | .unit, cs, h, u, hu => by simp only [Dat] at h; subst h; cases hu
  | .pair a b, cs, h, u, hu => by
    obtain ⟨x, y, rfl, h1, h2⟩ := h
    rcases List.mem_append.1 hu with hu | hu
    · exact Dat.one h1 u hu
    · exact Dat.one h2 u hu
  | .rep n e, cs, h, u, hu => by
    obtain ⟨els, rfl, _, h1⟩ := h
    obtain ⟨c, hc, huc⟩ := List.mem_flatten.1 hu
    exact Dat.one (h1 c hc) u huc
theorem flat_len {els : List (List Value)} {s : Nat} (h : ∀ c ∈ els, c.length = s) : els.flatten.length = els.length * s := by
  induction els with
  | nil => simp
  | cons a els ih =>
    simp only [List.flatten_cons, List.length_append, List.length_cons]
    rw [ih (fun c hc => h c (by simp [hc])), h a (by simp), Nat.add_mul]; omega
theorem Dat.length {m : Mem} : ∀ {sh : Sh} {cs : List Value}, Dat m sh cs → cs.length = sh.size
  | .int k, cs, h => by obtain ⟨n, rfl, _⟩ := h; rfl
  | .bool, cs, h => by obtain ⟨n, rfl⟩ := h; rfl
  | .str, cs, h => by obtain ⟨n, rfl, _⟩ := h; rfl
  | .slice e, cs, h => by obtain ⟨v, els, rfl, _⟩ := h; rfl
  | .unit, cs, h => by simp only [Dat] at h; subst h; rfl
  | .pair a b, cs, h => by
    obtain ⟨x, y, rfl, h1, h2⟩ := h
    simp only [List.length_append, Sh.size, Dat.length h1, Dat.length h2]
  | .rep n e, cs, h => by
    obtain ⟨els, rfl, h2, h1⟩ := h
    rw [flat_len (fun c hc => Dat.length (h1 c hc)), h2]; rfl

theorem chunk_list {α : Type} (l : List α) (s n : Nat) (h : l.length = n * s) : ((List.range' 0 n).map (fun i => (l.drop (i * s)).take s)).flatten = l := by
  rw [chunks_flat l s n 0 (by rw [Nat.zero_add, h]; exact Nat.le_refl _)]
  simp [← h]
theorem cell_some {a : Addr} {v : Value} (h : w.cell? a = some v) : ∃ b o arr t fr, a = ⟨b, o, none⟩ ∧ w.heap[b]? = some (.cells arr t fr) ∧ arr[o]? = some v := by
  obtain ⟨b, o, sp⟩ := a
  unfold World.cell? at h
  simp only at h
  split at h
  · rename_i arr t fr hb
    cases sp with
    | some _ => simp at h
    | none => exact ⟨b, o, arr, t, fr, rfl, hb, by simpa using h⟩
  · cases h
theorem add_zero (a : Addr) : a.add 0 = a := by simp [Addr.add]
/-- THE OPENING -/
theorem trod_dat (hsp : ∀ b, spare b = true) : ∀ (sh : Sh), (∀ (t : TypeId) (cs : List Value) (fuel : Nat) (x : DataW H × List MemPlace), (chk P sh).1 t = true → DataW.trod enc P w base spare held fuel t cs = some x → Dat (fun b => w.heap[b]?) sh cs) ∧
    (∀ (fs : List Field) (off : Nat) (cs : List Value), (chk P sh).2 fs off = true → cs.length = off + sh.size → (∀ f ∈ fs, ∃ fuel x, DataW.trod enc P w base spare held fuel f.type ((cs.drop f.offset).take (P.cellsOf f.type)) = some x) → Dat (fun b => w.heap[b]?) sh (cs.drop off)) := by
  intro sh
  induction sh with
  | int k =>
    refine ⟨fun t cs fuel x h ht => ?_, fun fs off cs h => by simp [chk] at h⟩
    simp only [chk] at h
    cases hu : P.underlying t with
    | none => rw [hu] at h; cases h
    | some d =>
      rw [hu] at h
      cases d <;> simp only [intB] at h <;> try cases h
      rename_i q
      have := kEq_eq h; subst this
      obtain ⟨n, rfl, _, hw⟩ := DataW.trod_int hu ht
      exact ⟨n, rfl, hw⟩
  | bool =>
    refine ⟨fun t cs fuel x h ht => ?_, fun fs off cs h => by simp [chk] at h⟩
    simp only [chk] at h
    split at h
    · rename_i hu; obtain ⟨b, rfl, _⟩ := DataW.trod_bool hu ht; exact ⟨b, rfl⟩
    · cases h
  | str =>
    refine ⟨fun t cs fuel x h ht => ?_, fun fs off cs h => by simp [chk] at h⟩
    simp only [chk] at h
    split at h
    · rename_i hu; obtain ⟨s, rfl, _, hs⟩ := DataW.trod_string hu ht; exact ⟨s, rfl, hs⟩
    · cases h
  | unit =>
    refine ⟨fun t cs fuel x h ht => by simp [chk] at h, fun fs off cs h hl _ => ?_⟩
    simp only [Sh.size] at hl
    exact List.drop_eq_nil_of_le (by omega)
  | pair a b iha ihb =>
    have F : ∀ (fs : List Field) (off : Nat) (cs : List Value), (chk P (.pair a b)).2 fs off = true → cs.length = off + (Sh.pair a b).size → (∀ f ∈ fs, ∃ fuel x, DataW.trod enc P w base spare held fuel f.type ((cs.drop f.offset).take (P.cellsOf f.type)) = some x) → Dat (fun b => w.heap[b]?) (.pair a b) (cs.drop off) := by
      intro fs off cs h hl hf
      cases fs with
      | nil => simp [chk] at h
      | cons f fs =>
        simp only [chk, Bool.and_eq_true, beq_iff_eq] at h
        obtain ⟨ho, h1, h2, h3⟩ := h
        simp only [Sh.size] at hl
        obtain ⟨fu, x, hx⟩ := hf f (by simp)
        rw [ho, h2] at hx
        refine ⟨(cs.drop off).take a.size, cs.drop (off + a.size), ?_, iha.1 _ _ _ _ h1 hx, ihb.2 fs (off + a.size) cs h3 (by omega) (fun g hg => hf g (by simp [hg]))⟩
        rw [← List.drop_drop, List.take_append_drop]
    refine ⟨fun t cs fuel x h ht => ?_, F⟩
    have h' : (match P.underlying t with | some (.struct fs) => P.cellsOf t == a.size + b.size && (chk P (.pair a b)).2 fs.toList 0 | _ => false) = true := h
    split at h'
    · rename_i fs hu
      simp only [Bool.and_eq_true, beq_iff_eq] at h'
      obtain ⟨xs, k, hk, _, hl, hxl, hp⟩ := DataW.trod_struct hu ht
      have := F fs.toList 0 cs h'.2 (by simp only [Sh.size]; omega) (fun f hf => by
        obtain ⟨i, hi, he⟩ := List.getElem_of_mem hf
        have hy := hp i f (by rw [← Array.getElem?_toList, List.getElem?_eq_getElem hi, he])
        rw [List.getElem?_eq_getElem (by simp at hi; omega)] at hy
        exact ⟨k, _, hy⟩)
      simpa using this
    · cases h'
  | rep n e ih =>
    refine ⟨fun t cs fuel x h ht => ?_, fun fs off cs h => by simp [chk] at h⟩
    simp only [chk] at h
    split at h
    · rename_i k et hu
      simp only [Bool.and_eq_true, beq_iff_eq] at h
      obtain ⟨hkn, h1, h2, h3⟩ := h
      have hkn := Nat.eq_of_beq_eq_true hkn
      subst hkn
      obtain ⟨xs, fu, hfu, _, hl, hxl, hp⟩ := DataW.trod_array hu ht
      rw [h2] at hp
      refine ⟨(List.range' 0 k).map (fun i => (cs.drop (i * e.size)).take e.size), (chunk_list cs e.size k (by omega)).symm, by simp, ?_⟩
      intro c hc
      obtain ⟨i, hi, rfl⟩ := List.mem_map.1 hc
      simp at hi
      have hy := hp i hi
      rw [List.getElem?_eq_getElem (by omega)] at hy
      exact ih.1 _ _ _ _ h1 hy
    · cases h
  | slice e ih =>
    refine ⟨fun t cs fuel x h ht => ?_, fun fs off cs h => by simp [chk] at h⟩
    simp only [chk] at h
    split at h
    · rename_i et hu
      simp only [Bool.and_eq_true, beq_iff_eq] at h
      obtain ⟨h1, h2, h3⟩ := h
      have hpos : 0 < e.size := by rw [Nat.blt_eq] at h3; exact h3
      rcases DataW.trod_slice hu ht with ⟨rfl, _⟩ | ⟨a, len, cap, elems, rest, n, _, rfl, _, hb, hl, hm, hlen, hel, hrest, _⟩
      · exact ⟨_, [], rfl, .inl (.inl ⟨0, rfl, rfl⟩), rfl, by simp, by simp⟩
      · rw [h2] at hel hrest
        have first : ∀ i, (∃ cs y, (w.cells? base (a.add (i * e.size)) e.size).bind (DataW.trod enc P w base spare held n et) = some y ∧ cs = y) → ∃ cs y, w.cells? base (a.add (i * e.size)) e.size = some cs ∧ DataW.trod enc P w base spare held n et cs = some y := by
          rintro i ⟨_, y, hy, _⟩
          rw [Option.bind_eq_some_iff] at hy
          obtain ⟨cs, g1, g2⟩ := hy
          exact ⟨cs, y, g1, g2⟩
        have hel' : ∀ i, i < len → ∃ cs y, w.cells? base (a.add (i * e.size)) e.size = some cs ∧ DataW.trod enc P w base spare held n et cs = some y := by
          intro i hi
          have := hel i hi
          rw [List.getElem?_eq_getElem (by omega)] at this
          exact first i ⟨_, _, this, rfl⟩
        have hblk : cap = 0 ∨ ∃ b o arr t fr, a = ⟨b, o, none⟩ ∧ w.heap[b]? = some (.cells arr t fr) := by
          by_cases hc : cap = 0
          · exact .inl hc
          · right
            have : ∃ cs y, w.cells? base (a.add (0 * e.size)) e.size = some cs ∧ DataW.trod enc P w base spare held n et cs = some y := by
              by_cases hl0 : len = 0
              · obtain ⟨hr1, hr2⟩ := hrest (hsp _)
                have h0 := hr2 0 (by omega)
                obtain ⟨z, hz⟩ : ∃ z, rest[0]? = some z := ⟨_, List.getElem?_eq_getElem (by omega)⟩
                rw [hz, hl0] at h0
                exact first 0 ⟨_, _, h0, rfl⟩
              · exact hel' 0 (by omega)
            obtain ⟨cs, y, g1, _⟩ := this
            obtain ⟨_, g3, g4⟩ := World.cells?_some g1
            have := g4 0 hpos
            rw [Nat.zero_mul, add_zero, add_zero, List.getElem?_eq_getElem (by omega)] at this
            obtain ⟨b, o, arr, t, fr, e1, e2, _⟩ := cell_some this
            exact ⟨b, o, arr, t, fr, e1, e2⟩
        rcases hblk with rfl | ⟨b, o, arr, t', fr, rfl, harr⟩
        · obtain rfl : len = 0 := by omega
          exact ⟨_, [], rfl, .inr ⟨rfl, a, rfl⟩, rfl, by simp, by simp⟩
        · have each : ∀ i, i < len → ∃ cs y, cs = ((arr.toList.drop o).drop (i * e.size)).take e.size ∧ DataW.trod enc P w base spare held n et cs = some y ∧ o + i * e.size + e.size ≤ arr.size := by
            intro i hi
            obtain ⟨cs, y, g1, g2⟩ := hel' i hi
            obtain ⟨_, g3, g4⟩ := World.cells?_some g1
            have g5 : ∀ k, k < e.size → arr[o + i * e.size + k]? = cs[k]? := by
              intro k hk'
              have := g4 k hk'
              rw [add_none, add_none, cell_at harr] at this
              exact this
            have hlast : o + i * e.size + e.size ≤ arr.size := by
              have := g5 (e.size - 1) (by omega)
              rw [List.getElem?_eq_getElem (by omega)] at this
              have := (Array.getElem?_eq_some_iff.1 this).1
              omega
            refine ⟨cs, y, ?_, g2, hlast⟩
            apply List.ext_getElem?
            intro k
            by_cases hk' : k < e.size
            · rw [← g5 k hk', List.getElem?_take, if_pos hk', List.getElem?_drop, List.getElem?_drop, Array.getElem?_toList]
              congr 1; omega
            · rw [List.getElem?_eq_none (by omega), List.getElem?_eq_none (by simp; omega)]
          have hbound : len * e.size ≤ (arr.toList.drop o).length ∨ len = 0 := by
            by_cases h0 : len = 0
            · exact .inr h0
            · obtain ⟨_, _, _, _, g⟩ := each (len - 1) (by omega)
              left
              have : len * e.size = (len - 1) * e.size + e.size := by
                rw [← Nat.succ_mul]; congr 1; omega
              simp
              omega
          have hflat := chunks_flat (arr.toList.drop o) e.size len 0 (by
            rw [Nat.zero_add]
            rcases hbound with h | h
            · exact h
            · rw [h]; simp)
          have hdat : ∀ c ∈ (List.range' 0 len).map (fun i => ((arr.toList.drop o).drop (i * e.size)).take e.size), Dat (fun b => w.heap[b]?) e c := by
            intro c hc
            obtain ⟨i, hi, rfl⟩ := List.mem_map.1 hc
            simp at hi
            obtain ⟨cs, y, k1, k2, _⟩ := each i hi
            rw [← k1]
            exact ih.1 _ _ _ _ h1 k2
          refine ⟨_, (List.range' 0 len).map (fun i => ((arr.toList.drop o).drop (i * e.size)).take e.size), rfl, .inl (.inr ⟨b, o, cap, len, arr, t', fr, rfl, harr, ?_, hl, ?_, ?_⟩), by simp [lenV], hdat, by simp; omega⟩
          · rw [flat_len (fun c hc => (hdat c hc).length)]; simp
          · intro j' u hu
            rw [hflat] at hu
            simp only [Nat.zero_mul, List.drop_zero, List.getElem?_take] at hu
            split at hu
            · rw [List.getElem?_drop, Array.getElem?_toList] at hu; exact hu
            · simp at hu
          · intro u hu
            obtain ⟨c, hc, huc⟩ := List.mem_flatten.1 hu
            exact (hdat c hc).one u huc
    · cases h
theorem flat_at : ∀ {els : List (List Value)} {s i j : Nat} {c : List Value} {u : Value}, (∀ c ∈ els, c.length = s) → els[i]? = some c → c[j]? = some u → els.flatten[i * s + j]? = some u
  | [], _, _, _, _, _, _, hi, _ => by simp at hi
  | a :: els, s, 0, j, c, u, hl, hi, hj => by
    simp at hi; subst hi
    have := (List.getElem?_eq_some_iff.1 hj).1
    rw [Nat.zero_mul, Nat.zero_add, List.flatten_cons, List.getElem?_append_left this]; exact hj
  | a :: els, s, i + 1, j, c, u, hl, hi, hj => by
    have ha := hl a (by simp)
    have ih := flat_at (els := els) (s := s) (fun c hc => hl c (by simp [hc])) (by simpa using hi) hj
    rw [List.flatten_cons, List.getElem?_append_right (by rw [ha, Nat.add_mul]; omega), ha, show (i + 1) * s + j - s = i * s + j by rw [Nat.add_mul]; omega]
    exact ih
/-- an element of a slice of equal parts -/
theorem Lies.elem {m : Mem} {s : Nat} {v : Value} {els : List (List Value)} (h : Lies m s v els.flatten) (hl : ∀ c ∈ els, c.length = s) (hp : 0 < s) (hv : lenV v = els.length) {i : Nat} (hi : i < els.length) :
    ∃ b o c, v = .slice (some ⟨b, o, none⟩) els.length c ∧ ∀ i c, els[i]? = some c → MRange m b (o + i * s) c := by
  rcases h with ⟨c, rfl, h⟩ | ⟨b, o, c, n, arr, t, fr, rfl, h1, h2, h3, h4, h5⟩
  · simp [lenV] at hv; omega
  · simp only [lenV] at hv; subst hv
    refine ⟨b, o, c, rfl, fun i c hc => ⟨arr, t, fr, h1, fun j u hu => ?_⟩⟩
    have := h4 _ u (flat_at hl hc hu)
    rw [show o + i * s + j = o + (i * s + j) by omega]; exact this
theorem dat_ints {m : Mem} {k : IntKind} {n : Nat} {cs : List Value} (h : Dat m (.rep n (.int k)) cs) : ∃ l : List Int, cs = l.map (Value.int k) ∧ l.length = n ∧ ∀ x ∈ l, (Lit.int k x).wf = true := by
  obtain ⟨els, rfl, rfl, h⟩ := h
  have := @els_ints k 0 els (fun c hc => by obtain ⟨n, rfl, hw⟩ := h c hc; exact ⟨⟨rfl, hw⟩, trivial⟩)
  obtain ⟨l, h1, h2, h3⟩ := this
  exact ⟨l, h1, h2, h3⟩
/-- a slice of numbers -/
theorem dat_sints {m : Mem} {k : IntKind} {cs : List Value} (h : Dat m (.slice (.int k)) cs) : ∃ (v : Value) (l : List Int), cs = [v] ∧ (Lies m 1 v (l.map (Value.int k)) ∨ (l = [] ∧ ∃ a, v = .slice (some a) 0 0)) ∧ lenV v = l.length ∧ (∀ x ∈ l, (Lit.int k x).wf = true) ∧ l.length ≤ maxLen := by
  obtain ⟨v, els, rfl, h1, h2, h3, h4⟩ := h
  obtain ⟨l, g1, g2, g3⟩ := @els_ints k 0 els (fun c hc => by obtain ⟨n, rfl, hw⟩ := h3 c hc; exact ⟨⟨rfl, hw⟩, trivial⟩)
  refine ⟨v, l, rfl, ?_, by omega, g3, by omega⟩
  rcases h1 with h1 | ⟨rfl, a, rfl⟩
  · rw [g1] at h1; exact .inl h1
  · exact .inr ⟨by apply List.eq_nil_of_length_eq_zero; simpa using g2, a, rfl⟩
theorem open_dat (hsp : ∀ b, spare b = true) {sh : Sh} {t : TypeId} {v : Value} {d : DataW H} {ps : List MemPlace} (hc : (chk P sh).1 t = true) (hd : DataW.Trod enc P w base spare held t v d ps) : Dat (fun b => w.heap[b]?) sh v.cells.toList := by
  obtain ⟨fuel, hf⟩ := hd
  exact (trod_dat hsp sh).1 _ _ _ _ hc hf
theorem val_slice {r : Reach} {b0 : Nat} {t e : TypeId} {v : Value} (hu : P.underlying t = some (.slice e)) (h : Value.okWide P w r b0 t v) : v.cells.toList = [v] ∧ v.oneCell' = true := by
  unfold Value.okWide at h
  rw [hu] at h
  simp only [Cell.okWide, hu, Cell.ok] at h
  cases v <;> simp at h
  exact ⟨rfl, rfl⟩
theorem val_string {r : Reach} {b0 : Nat} {t : TypeId} {v : Value} (hu : P.underlying t = some .string) (h : Value.okWide P w r b0 t v) : v.cells.toList = [v] ∧ v.oneCell' = true := by
  unfold Value.okWide at h
  rw [hu] at h
  simp only [Cell.okWide, hu, Cell.ok] at h
  cases v <;> simp at h
  exact ⟨rfl, rfl⟩
theorem val_int {k : IntKind} {r : Reach} {b0 : Nat} {t : TypeId} {v : Value} (hu : P.underlying t = some (.int k)) (h : Value.okWide P w r b0 t v) : v.cells.toList = [v] ∧ v.oneCell' = true := by
  unfold Value.okWide at h
  rw [hu] at h
  simp only [Cell.okWide, hu, Cell.ok] at h
  cases v <;> simp at h
  exact ⟨rfl, rfl⟩
theorem wf_i64 {n : Int} (h : (Lit.int .i64 n).wf = true) : -9223372036854775808 ≤ n ∧ n ≤ 9223372036854775807 := by
  simpa [Lit.wf, IntKind.min, IntKind.max, IntKind.signed, IntKind.bits] using h
theorem wf_u64 {n : Int} (h : (Lit.int .u64 n).wf = true) : 0 ≤ n ∧ n < 18446744073709551616 := by
  have : 0 ≤ n ∧ n ≤ 18446744073709551615 := by simpa [Lit.wf, IntKind.min, IntKind.max, IntKind.signed, IntKind.bits] using h
  omega
theorem wf_u8 {n : Int} (h : (Lit.int .u8 n).wf = true) : 0 ≤ n ∧ n < 256 := by
  have : 0 ≤ n ∧ n ≤ 255 := by simpa [Lit.wf, IntKind.min, IntKind.max, IntKind.signed, IntKind.bits] using h
  omega
theorem wf_u32 {n : Int} (h : (Lit.int .u32 n).wf = true) : 0 ≤ n ∧ n < 4294967296 := by
  have : 0 ≤ n ∧ n ≤ 4294967295 := by simpa [Lit.wf, IntKind.min, IntKind.max, IntKind.signed, IntKind.bits] using h
  omega
end
end Go.E

/-
  Lists of digests and of whole numbers that are arguments.
-/
namespace Go.E.Ytghdapflkhadoaa
open Go.Proofs
set_option maxRecDepth 100000
theorem dat_dig {m : Mem} {cs : List Value} (h : Dat m (.rep 32 (.int .u8)) cs) : ∃ d : List Nat, cs = (nc d).map (Value.int .u8) ∧ d.length = 32 ∧ ∀ x ∈ d, x < 256 := by
  obtain ⟨l, rfl, h1, h2⟩ := dat_ints h
  have e : nc (l.map Int.toNat) = l := by
    simp only [nc, List.map_map]
    refine (List.map_congr_left fun x hx => ?_).trans (List.map_id l)
    have := wf_u8 (h2 x hx)
    show ((x.toNat : Nat) : Int) = x
    omega
  refine ⟨l.map Int.toNat, by rw [e], by simpa using h1, fun x hx => ?_⟩
  obtain ⟨y, hy, rfl⟩ := List.mem_map.1 hx
  have := wf_u8 (h2 y hy)
  omega
theorem dat_digs_rows {m : Mem} : ∀ {els : List (List Value)}, (∀ c ∈ els, Dat m (.rep 32 (.int .u8)) c) → ∃ D : List (List Nat), els = D.map (fun d => (nc d).map (Value.int .u8)) ∧ D32 D ∧ ∀ d ∈ D, ∀ x ∈ d, x < 256
  | [], _ => ⟨[], rfl, (by intro d hd; cases hd), (by intro d hd; cases hd)⟩
  | c :: els, h => by
    obtain ⟨d, rfl, h1, h2⟩ := dat_dig (h c (by simp))
    obtain ⟨D, rfl, h3, h4⟩ := dat_digs_rows (els := els) fun c hc => h c (by simp [hc])
    refine ⟨d :: D, rfl, fun x hx => ?_, fun x hx => ?_⟩
    · rcases List.mem_cons.1 hx with rfl | hx
      · exact h1
      · exact h3 x hx
    · rcases List.mem_cons.1 hx with rfl | hx
      · exact h2
      · exact h4 x hx
theorem dat_digs {m : Mem} {cs : List Value} (h : Dat m (.slice (.rep 32 (.int .u8))) cs) : ∃ v D, cs = [v] ∧ Da m v D ∧ ∀ d ∈ D, ∀ x ∈ d, x < 256 := by
  obtain ⟨v, els, rfl, h1, h2, h3, h4⟩ := h
  obtain ⟨D, rfl, h5, h6⟩ := dat_digs_rows h3
  refine ⟨v, D, rfl, ?_, h6⟩
  rcases h1 with h1 | ⟨h1, a, rfl⟩
  · refine .inl ⟨?_, h5⟩
    have e : (D.map fun d => (nc d).map (Value.int .u8)).flatten = dcs D := by rw [dcs, List.flatMap]
    rw [e] at h1
    exact h1
  · exact .inr ⟨by simpa using h1, a, rfl⟩
theorem dat_places {m : Mem} {cs : List Value} (h : Dat m (.slice (.int .i64)) cs) : ∃ v l, cs = [v] ∧ Ia m v l ∧ ∀ x ∈ l, -9223372036854775808 ≤ x ∧ x ≤ 9223372036854775807 := by
  obtain ⟨v, l, rfl, h1, h2, h3, h4⟩ := dat_sints h
  exact ⟨v, l, rfl, h1, fun x hx => by have := wf_i64 (h3 x hx); omega⟩
end Go.E.Ytghdapflkhadoaa

/-
  Law WalkEnds.
-/
namespace Go.E.Ytghdapflkhadoaa
open Go.Proofs
set_option maxRecDepth 100000
namespace Tr
theorem comesF_symm (a b : List Nat) : ∀ (f : Nat) (p : Int), comesF a b f p = comesF b a f p
  | 0, _ => rfl
  | f + 1, p => by
    rw [comesF, comesF, comesF_symm a b f]
    have : decide (dig a p.toNat ≠ dig b p.toNat) = decide (dig b p.toNat ≠ dig a p.toNat) := decide_eq_decide.2 ⟨Ne.symm, Ne.symm⟩
    rw [this]
theorem comes_symm (a b : List Nat) (p : Nat) : comes a b p = comes b a p := comesF_symm a b 4 p
theorem rout_symm (a b : List Nat) : ∀ k, rout a b k = rout b a k
  | 0 => rfl
  | k + 1 => by rw [rout, rout, rout_symm a b k, comes_symm]
theorem rlooks_symm (a b : List Nat) : ∀ k, rlooks a b k = rlooks b a k
  | 0 => rfl
  | k + 1 => by rw [rlooks, rlooks, rlooks_symm a b k, comes_symm]
/-- the places of the next level -/
def nxt (a b : List Nat) (l : List Int) : List Int := unl a (kidsL l) (digs b l)
theorem nxt_eq (a b : List Nat) (l : List Int) : nxt a b l = (kidsL l).filter (uu a b) := unl_filter a b (kidsL l)
theorem nxt1 (a b : List Nat) : nxt a b [0] = [1, 2, 3, 4].filter (uu a b) := nxt_eq a b [0]
theorem nxt2 (a b : List Nat) : nxt a b (nxt a b [0]) = lvs a b 1 ++ (lvs a b 2 ++ (lvs a b 3 ++ lvs a b 4)) := by rw [nxt_eq a b (nxt a b [0]), nxt1, lv2]
theorem ends {a b : List Nat} (h0 : dig a 0 ≠ dig b 0) : leaves (nxt a b (nxt a b [0])) = rout a b 21 ∧ rlooks a b 21 = 5 + (kidsL (nxt a b [0])).length ∧ (kidsL (nxt a b [0])).length = 4 * (nxt a b [0]).length ∧ (nxt a b [0]).length ≤ 4 := by
  have hu : uu a b 0 = true := by simp [uu, h0]
  have e1 := rlooks_5 a b 16
  rw [show 5 + 16 = 21 from rfl] at e1
  have hro : rlooks a b 5 = 5 + 4 * ([1, 2, 3, 4].filter (uu a b)).length := by
    simp only [rlooks, comes_0 a b, comes_1 a b (q := 1) (by decide), comes_1 a b (q := 2) (by decide), comes_1 a b (q := 3) (by decide), comes_1 a b (q := 4) (by decide), hu, Bool.and_true]
    cases h1 : uu a b 1 <;> cases h2 : uu a b 2 <;> cases h3 : uu a b 3 <;> cases h4 : uu a b 4 <;> simp [kids, h1, h2, h3, h4]
  refine ⟨?_, ?_, ?_, ?_⟩
  · rw [nxt2, rout_all hu, leaves_of lvs_ge]
  · rw [e1, hro, nxt1, lv1_len]
  · rw [nxt1, lv1_len]
  · rw [nxt1]; exact List.length_filter_le _ _
theorem nxt_pls (a b : List Nat) (l : List Int) : Pls (nxt a b l) := fun x hx => by
  have := kidsL_in x (unl_sub a x hx)
  omega
end Tr
end Go.E.Ytghdapflkhadoaa

/-
  The walk's bounds: plainly.
-/
namespace Go.E.Ytghdapflkhadoaa
open Go.Proofs
set_option maxRecDepth 100000
namespace Tr
theorem dig_at' (t : List Nat) (q i : Nat) : (dig t q)[i]? = if i < 32 then t[32 * q + i]? else none := by
  simp only [dig, List.getElem?_take, List.getElem?_drop]
theorem put_at {t d : List Nat} (ht : t.length = 672) (hd : d.length = 32) {p : Nat} (hp : p < 21) (i : Nat) : (put t p d)[i]? = if i < 32 * p then t[i]? else if i < 32 * p + 32 then d[i - 32 * p]? else t[i]? := by
  rw [put, List.append_assoc]
  by_cases h1 : i < 32 * p
  · rw [if_pos h1, List.getElem?_append_left (by rw [List.length_take]; omega), List.getElem?_take, if_pos h1]
  · rw [if_neg h1, List.getElem?_append_right (by rw [List.length_take]; omega), List.length_take, Nat.min_eq_left (by omega)]
    by_cases h2 : i < 32 * p + 32
    · rw [if_pos h2, List.getElem?_append_left (by omega)]
    · rw [if_neg h2, List.getElem?_append_right (by omega), List.getElem?_drop]
      congr 1; omega
theorem dig_put {t d : List Nat} (ht : t.length = 672) (hd : d.length = 32) {p q : Nat} (hp : p < 21) : dig (put t p d) q = if q = p then d else dig t q := by
  refine List.ext_getElem? fun i => ?_
  rw [dig_at', put_at ht hd hp]
  by_cases h : q = p
  · subst h
    rw [if_pos rfl]
    by_cases hi : i < 32
    · rw [if_pos hi, if_neg (by omega), if_pos (by omega)]; congr 1; omega
    · rw [if_neg hi, List.getElem?_eq_none (by omega)]
  · rw [if_neg h, dig_at']
    by_cases hi : i < 32
    · rw [if_pos hi, if_pos hi]
      by_cases h1 : 32 * q + i < 32 * p
      · rw [if_pos h1]
      · rw [if_neg h1, if_neg (by omega)]
    · rw [if_neg hi, if_neg hi]
theorem dig_lv (ls : List (List Nat)) : ∀ {i : Nat}, i ≤ 16 → ∀ j, j < i → dig (lv ls i) (5 + j) = leafD (ls.getD j [])
  | 0, _, j, hj => by omega
  | i + 1, hi, j, hj => by
    rw [lv, dig_put (d := leafD (ls.getD i [])) (lv_ok ls (by omega)).len (sum_len _) (by omega)]
    by_cases h : j = i
    · subst h; rw [if_pos rfl]
    · rw [if_neg (by omega)]; exact dig_lv ls (by omega) j (by omega)
theorem dig_inn {t : List Nat} (h : Ok t) {q : Nat} (hq : 5 ≤ q) : ∀ j, dig (inn t j) q = dig t q
  | 0 => rfl
  | j + 1 => by rw [inn_succ, dig_put (inn_ok h j).len (sum_len _) (by omega), if_neg (by omega)]; exact dig_inn h hq j
theorem dig_ofT (ls : List (List Nat)) {j : Nat} (hj : j < 16) : dig (ofT ls) (5 + j) = leafD (ls.getD j []) := by
  rw [ofT, dig_inn (lv_ok ls (Nat.le_refl _)) (by omega), dig_lv ls (Nat.le_refl _) j hj]
/-- the inner places that are unlike -/
def innN (a b : List Nat) (k : Nat) : Nat := (([1, 2, 3, 4].take k).filter (uu a b)).length
theorem lvs_len (a b : List Nat) (q : Nat) : (lvs a b q).length ≤ 4 * (if uu a b q then 1 else 0) := by
  unfold lvs
  split
  · exact Nat.le_trans (List.length_filter_le _ _) (kids_len _)
  · simp
theorem bounds {a b : List Nat} (h0 : dig a 0 ≠ dig b 0) : rlooks a b 21 = 5 + 4 * innN a b 4 ∧ (rout a b 21).length ≤ 4 * innN a b 4 ∧ innN a b 4 ≤ 4 := by
  obtain ⟨_, e2, e3, e4⟩ := ends h0
  have hu : uu a b 0 = true := by simp [uu, h0]
  have hn : nxt a b [0] = ([1, 2, 3, 4].take 4).filter (uu a b) := nxt1 a b
  refine ⟨by rw [e2, e3, hn]; rfl, ?_, by rw [hn] at e4; exact e4⟩
  rw [rout_all hu, List.length_map, List.length_append, List.length_append, List.length_append]
  have l1 := lvs_len a b 1
  have l2 := lvs_len a b 2
  have l3 := lvs_len a b 3
  have l4 := lvs_len a b 4
  have hi : innN a b 4 = (if uu a b 1 then 1 else 0) + (if uu a b 2 then 1 else 0) + (if uu a b 3 then 1 else 0) + (if uu a b 4 then 1 else 0) := by
    unfold innN
    cases h1 : uu a b 1 <;> cases h2 : uu a b 2 <;> cases h3 : uu a b 3 <;> cases h4 : uu a b 4 <;> simp [h1, h2, h3, h4]
  rw [hi]
  have c1 : uu a b ((1 : Nat) : Int) = uu a b 1 := rfl
  have c2 : uu a b ((2 : Nat) : Int) = uu a b 2 := rfl
  have c3 : uu a b ((3 : Nat) : Int) = uu a b 3 := rfl
  have c4 : uu a b ((4 : Nat) : Int) = uu a b 4 := rfl
  rw [c1] at l1
  rw [c2] at l2
  rw [c3] at l3
  rw [c4] at l4
  omega
theorem unlike_leaf {a b : List Nat} (h0 : dig a 0 ≠ dig b 0) : ∀ x ∈ rout a b 21, ∃ j : Nat, x = (j : Int) ∧ j < 16 ∧ dig a (5 + j) ≠ dig b (5 + j) := by
  have hu : uu a b 0 = true := by simp [uu, h0]
  intro x hx
  rw [rout_all hu, List.mem_map] at hx
  obtain ⟨p, hp, rfl⟩ := hx
  have hr := lvs_ge p hp
  have hf : uu a b p = true := by
    rw [← lv2] at hp
    exact (List.mem_filter.1 hp).2
  refine ⟨(p - 5).toNat, by omega, by omega, ?_⟩
  have e : 5 + (p - 5).toNat = p.toNat := by omega
  rw [e]
  simpa [uu] using hf
theorem rounds_le (a b : List Nat) : (walk a b).2.2 ≤ 3 := by
  rw [(walk_ref a b).2.2]
  cases rlev a b 0 21 <;> cases rlev a b 1 21 <;> cases rlev a b 2 21 <;> decide
theorem wk_pos (a b : List Nat) : ∀ (f : Nat) (l : List Int) (n r : Nat), r ≤ (wk a b f l n r).2.2
  | 0, l, n, r => Nat.le_refl _
  | f + 1, l, n, r => by
    unfold wk
    split
    · exact Nat.le_succ _
    · dsimp only
      split
      · exact Nat.le_succ _
      · exact Nat.le_trans (Nat.le_succ _) (wk_pos a b f _ _ _)
theorem rounds_0 (a b : List Nat) : (walk a b).2.2 = 0 ↔ dig a 0 = dig b 0 := by
  unfold walk
  by_cases h : dig a 0 = dig b 0
  · rw [if_pos h]; exact ⟨fun _ => h, fun _ => rfl⟩
  · rw [if_neg h]
    refine ⟨fun e => ?_, fun e => absurd e h⟩
    exfalso
    unfold wk at e
    split at e
    · cases e
    · dsimp only at e
      split at e
      · cases e
      · have := wk_pos a b 2 (unl a (kidsL [0]) (digs b [0])) (1 + (digs b [0]).length) (0 + 1)
        omega
theorem same_out {a b : List Nat} (h0 : dig a 0 = dig b 0) : rout a b 21 = [] ∧ rlooks a b 21 = 1 := by
  obtain ⟨w1, w2, _⟩ := walk_ref a b
  have hw : walk a b = ([], 1, 0) := by rw [walk, if_pos h0]
  rw [hw] at w1 w2
  exact ⟨w1.symm, w2.symm⟩
theorem innN_succ (a b : List Nat) {k : Nat} (hk : k < 4) : innN a b (k + 1) = innN a b k + (if dig a (k + 1) = dig b (k + 1) then 0 else 1) := by
  have g : ∀ j : Nat, uu a b (j : Int) = decide (dig a j ≠ dig b j) := fun j => rfl
  have g1 := g 1
  have g2 := g 2
  have g3 := g 3
  have g4 := g 4
  rw [show ((1 : Nat) : Int) = 1 from rfl] at g1
  rw [show ((2 : Nat) : Int) = 2 from rfl] at g2
  rw [show ((3 : Nat) : Int) = 3 from rfl] at g3
  rw [show ((4 : Nat) : Int) = 4 from rfl] at g4
  match k, hk with
  | 0, _ => by_cases e : dig a 1 = dig b 1 <;> simp [innN, List.filter_cons, g1, e]
  | 1, _ => cases e1 : uu a b 1 <;> by_cases e : dig a 2 = dig b 2 <;> simp [innN, List.filter_cons, g2, e, e1]
  | 2, _ => cases e1 : uu a b 1 <;> cases e2 : uu a b 2 <;> by_cases e : dig a 3 = dig b 3 <;> simp [innN, List.filter_cons, g3, e, e1, e2]
  | 3, _ => cases e1 : uu a b 1 <;> cases e2 : uu a b 2 <;> cases e3 : uu a b 3 <;> by_cases e : dig a 4 = dig b 4 <;> simp [innN, List.filter_cons, g4, e, e1, e2, e3]
theorem innN_le (a b : List Nat) (k : Nat) : innN a b k ≤ 4 := by
  unfold innN
  refine Nat.le_trans (List.length_filter_le _ _) ?_
  rw [List.length_take]; exact Nat.min_le_right _ _
end Tr
end Go.E.Ytghdapflkhadoaa

/-
  Law WalkBounds.
-/
namespace Go.E.Ytghdapflkhadoaa
open Go.Proofs
set_option maxRecDepth 100000
/-- sixteen texts -/
structure T16 (m : Mem) (vs : List Value) (ls : List (List Nat)) : Prop where
  vlen : vs.length = 16
  llen : ls.length = 16
  one : ∀ v ∈ vs, v.oneCell' = true
  la : ∀ i (h1 : i < vs.length) (h2 : i < ls.length), La m vs[i] (nc ls[i])
  byt : ∀ l ∈ ls, ∀ x ∈ l, x < 256
theorem T16.at {m : Mem} {vs : List Value} {ls : List (List Nat)} (h : T16 m vs ls) {i : Nat} (hi : i < 16) : ∃ a c, vs.getD i undef = .slice a (ls.getD i []).length c ∧ La m (.slice a (ls.getD i []).length c) (nc (ls.getD i [])) := by
  have hl := h.la i (by have := h.vlen; omega) (by have := h.llen; omega)
  have e1 : vs.getD i undef = vs[i]'(by have := h.vlen; omega) := by rw [List.getD_eq_getElem?_getD, List.getElem?_eq_getElem (by have := h.vlen; omega)]; rfl
  have e2 : ls.getD i [] = ls[i]'(by have := h.llen; omega) := by rw [List.getD_eq_getElem?_getD, List.getElem?_eq_getElem (by have := h.llen; omega)]; rfl
  rw [e1, e2]
  obtain ⟨a, c, e⟩ := hl.shape
  rw [show (nc (ls[i]'(by have := h.llen; omega))).length = (ls[i]'(by have := h.llen; omega)).length by simp [nc]] at e
  exact ⟨a, c, e, e ▸ hl⟩
theorem T16.sub {m m' : Mem} {vs : List Value} {ls : List (List Nat)} (h : T16 m vs ls) (hs : Sub m m') : T16 m' vs ls := ⟨h.vlen, h.llen, h.one, fun i h1 h2 => (h.la i h1 h2).sub hs, h.byt⟩
theorem La.cases {m : Mem} {v : Value} {l : List Int} (h : La m v l) : (∃ c, v = .slice none 0 c ∧ l = []) ∨ (∃ a, v = .slice (some a) 0 0 ∧ l = []) ∨ ∃ b o c, v = .slice (some ⟨b, o, none⟩) l.length c ∧ Lb m (.slice (some ⟨b, o, none⟩) l.length c) l := by
  rcases h with h | ⟨rfl, a, rfl⟩
  · rcases h.cases with ⟨c, rfl, rfl⟩ | ⟨b, o, c, arr, t, fr, rfl, _⟩
    · exact .inl ⟨c, rfl, rfl⟩
    · exact .inr (.inr ⟨b, o, c, rfl, h⟩)
  · exact .inr (.inl ⟨a, rfl, rfl⟩)
theorem T16.cases {m : Mem} {vs : List Value} {ls : List (List Nat)} (h : T16 m vs ls) {i : Nat} (hi : i < 16) : (∃ c, vs.getD i undef = .slice none 0 c ∧ ls.getD i [] = []) ∨ (∃ a, vs.getD i undef = .slice (some a) 0 0 ∧ ls.getD i [] = []) ∨ ∃ b o c, vs.getD i undef = .slice (some ⟨b, o, none⟩) (ls.getD i []).length c ∧ Lb m (.slice (some ⟨b, o, none⟩) (ls.getD i []).length c) (nc (ls.getD i [])) := by
  obtain ⟨a, c, e, hl⟩ := h.at hi
  rw [e]
  rcases La.cases hl with ⟨c', e1, e2⟩ | ⟨a', e1, e2⟩ | ⟨b, o, c', e1, h1⟩
  · exact .inl ⟨c', e1, by simpa [nc] using e2⟩
  · exact .inr (.inl ⟨a', e1, by simpa [nc] using e2⟩)
  · refine .inr (.inr ⟨b, o, c', ?_, ?_⟩)
    · rw [e1]; simp [nc]
    · have : (nc (ls.getD i [])).length = (ls.getD i []).length := by simp [nc]
      rw [this] at h1; exact h1
theorem strOf_nc {a b : List Nat} (ha : ∀ x ∈ a, x < 256) (hb : ∀ x ∈ b, x < 256) (h : strOf (nc a) = strOf (nc b)) : a = b := by
  have h1 := congrArg (fun s : ByteArray => s.data.toList) h
  simp only [strOf_data] at h1
  refine nc_inj (by8_inj ?_ ?_ h1)
  · intro x hx; simp only [nc, List.mem_map] at hx; obtain ⟨y, hy, rfl⟩ := hx; have := ha y hy; omega
  · intro x hx; simp only [nc, List.mem_map] at hx; obtain ⟨y, hy, rfl⟩ := hx; have := hb y hy; omega
theorem txt_ne {a b : ByteArray} (h : a ≠ b) : ¬ (a.toList == b.toList) = true := fun e => h (by
  have e := eq_of_beq e
  rw [ByteArray.toList_eq, ByteArray.toList_eq] at e
  cases a; cases b
  simp only at e
  congr 1
  exact Array.ext' e)
theorem T16.bytD {m : Mem} {vs : List Value} {ls : List (List Nat)} (h : T16 m vs ls) (j : Nat) : ∀ x ∈ ls.getD j [], x < 256 := fun x hx => by
  by_cases hj : j < ls.length
  · rw [List.getD_eq_getElem?_getD, List.getElem?_eq_getElem hj] at hx
    exact h.byt _ (List.getElem_mem hj) x hx
  · rw [List.getD_eq_getElem?_getD, List.getElem?_eq_none (by omega)] at hx; cases hx
end Go.E.Ytghdapflkhadoaa

/-
  Sixteen texts that came in.
-/
namespace Go.E.Ytghdapflkhadoaa
open Go.Proofs
set_option maxRecDepth 100000
theorem dat_text {m : Mem} {cs : List Value} (h : Dat m (.slice (.int .u8)) cs) : ∃ v l, cs = [v] ∧ La m v (nc l) ∧ ∀ x ∈ l, x < 256 := by
  obtain ⟨v, l, rfl, h1, h2, h3, h4⟩ := dat_sints h
  have hb : ∀ x ∈ l, 0 ≤ x ∧ x < 256 := fun x hx => wf_u8 (h3 x hx)
  have e : nc (l.map Int.toNat) = l := by
    simp only [nc, List.map_map]
    refine (List.map_congr_left fun x hx => ?_).trans (List.map_id _)
    have := hb x hx
    simp only [Function.comp, id]; omega
  refine ⟨v, l.map Int.toNat, rfl, ?_, fun x hx => ?_⟩
  · rw [e]
    rcases h1 with h1 | h1
    · exact .inl h1
    · exact .inr h1
  · obtain ⟨y, hy, rfl⟩ := List.mem_map.1 hx
    have := hb y hy; omega
theorem dat_texts {m : Mem} : ∀ {els : List (List Value)}, (∀ c ∈ els, Dat m (.slice (.int .u8)) c) → ∃ (vs : List Value) (ls : List (List Nat)), els.flatten = vs ∧ vs.length = els.length ∧ ls.length = els.length ∧ (∀ v ∈ vs, v.oneCell' = true) ∧ (∀ i (h1 : i < vs.length) (h2 : i < ls.length), La m vs[i] (nc ls[i])) ∧ ∀ l ∈ ls, ∀ x ∈ l, x < 256
  | [], _ => ⟨[], [], rfl, rfl, rfl, by simp, by intro i h; simp at h, by simp⟩
  | c :: els, h => by
    obtain ⟨v, l, rfl, h1, h2⟩ := dat_text (h c (by simp))
    obtain ⟨vs, ls, e1, e2, e3, e4, e5, e6⟩ := dat_texts (els := els) fun c hc => h c (by simp [hc])
    refine ⟨v :: vs, l :: ls, by simp [e1], by simp [e2], by simp [e3], ?_, ?_, ?_⟩
    · intro u hu
      rcases List.mem_cons.1 hu with rfl | hu
      · exact h1.one
      · exact e4 u hu
    · intro i hi1 hi2
      cases i with
      | zero => exact h1
      | succ i => exact e5 i (by simpa using hi1) (by simpa using hi2)
    · intro u hu
      rcases List.mem_cons.1 hu with rfl | hu
      · exact h2
      · exact e6 u hu
theorem dat_t16 {m : Mem} {cs : List Value} (h : Dat m (.rep 16 (.slice (.int .u8))) cs) : ∃ ls, T16 m cs ls := by
  obtain ⟨els, rfl, hn, h1⟩ := h
  obtain ⟨vs, ls, e1, e2, e3, e4, e5, e6⟩ := dat_texts h1
  rw [e1]
  exact ⟨ls, by omega, by omega, e4, e5, e6⟩
theorem val_agg {P : Program} {w : World} {r : Reach} {b0 k : Nat} {t e : TypeId} {v : Value} (hu : P.underlying t = some (.array k e)) (h : Value.okWide P w r b0 t v) : v = .agg (v.cells.toList ++ []).toArray := by
  unfold Value.okWide at h
  rw [hu] at h
  obtain ⟨cs, rfl, _⟩ := h
  simp [Value.cells]
end Go.E.Ytghdapflkhadoaa

/-
  Files: new ones; an op.
-/
namespace Go.E.Ytghdapflkhadoaa
open Go.Proofs
set_option maxRecDepth 100000
theorem new_neg {m : Mem} {q : Int} (h : q < 0) : Ret Try.prog 6 [i64 q] m [.v (.pointer none), i64 1] := by
  refine en6 rfl (goY ?_)
  conv => whnf
  refine ⟨fun _ => ?_, fun h => absurd h (by first | exact (by simpa using h) | (rw [decide_eq_true (by omega)] at h; cases h))⟩
  conv => whnf
  exact ⟨rfl, rfl⟩
theorem fs_new {m : Mem} {bf bm : Nat} {q : Int} (h : Split m [blk1 bf (filesO q bm 0 0), blk1 bm (mapF [] 0)]) : FA m bf q 0 0 [] := ⟨bm, 0, [], ⟨h, by simp, by simp, by simp⟩, rfl⟩
theorem new_spec {m : Mem} {q : Int} (h : 0 ≤ q) : Spec Try.prog 6 [i64 q] m fun r m' => ∃ bf p, r = [ptrB bf, i64 0] ∧ Split m' [p, m] ∧ FA p bf q 0 0 [] := by
  refine en6 rfl (goY ?_)
  conv => whnf
  refine ⟨fun h' => absurd (of_decide_eq_true h') (by omega), fun _ => ?_⟩
  conv => whnf
  refine .mk _ (makeMap_spec (enc := Value.string)) ?_
  rintro _ m1 ⟨bm, hbm, rfl, rfl⟩
  conv => whnf
  intro bf hbf
  conv => whnf
  have hs := ((Split.one m).new hbm (mapF [] 0)).new hbf (filesO q bm 0 0)
  have hs := hs.perm (l' := [m, blk1 bf (filesO q bm 0 0), blk1 bm (mapF [] 0)]) (by exact (List.Perm.cons _ (List.Perm.swap _ _ _)).trans (List.Perm.swap _ _ _))
  exact ⟨bf, _, rfl, (Split.rest hs).1, fs_new (Split.rest hs).2⟩
/-- an op -/
structure Opr where
  kind : Int
  n : Int
  name : ByteArray
  to : ByteArray
  ab : Option Addr
  cb : Nat
  b : List Nat
  al : Option Addr
  cl : Nat
  last : List Int
abbrev Opr.vb (o : Opr) : Value := .slice o.ab o.b.length o.cb
abbrev Opr.vl (o : Opr) : Value := .slice o.al o.last.length o.cl
abbrev Opr.cells (o : Opr) : List Value := [.int .i64 o.kind, .int .i64 o.n, .string o.name, .string o.to, .slice o.ab o.b.length o.cb, .slice o.al o.last.length o.cl]
abbrev Opr.cv (o : Opr) : CV := .a [.one (.int .i64 o.kind), .one (.int .i64 o.n), .one (.string o.name), .one (.string o.to), .one (.slice o.ab o.b.length o.cb), .one (.slice o.al o.last.length o.cl)]
structure Opr.Ok (m : Mem) (o : Opr) : Prop where
  b : La m o.vb (nc o.b)
  byt : ∀ x ∈ o.b, x < 256
  l : Ia m o.vl o.last
  lI : ∀ x ∈ o.last, -9223372036854775808 ≤ x ∧ x ≤ 9223372036854775807
  nI : -9223372036854775808 ≤ o.n ∧ o.n ≤ 9223372036854775807
  ll : o.last.length ≤ 9223372036854775807
theorem oOk : EncOk Opr.cells 6 := ⟨fun _ => rfl, fun x u hu => by simp [Opr.cells] at hu; rcases hu with rfl | rfl | rfl | rfl | rfl | rfl <;> rfl, by decide⟩
/-- ops that lie somewhere, or none, wherever -/
def Oa (m : Mem) (v : Value) (O : List Opr) : Prop := Lies m 6 v (O.flatMap Opr.cells) ∨ (O = [] ∧ ∃ a, v = .slice (some a) 0 0)
theorem Oa.shape {m : Mem} {v : Value} {O : List Opr} (h : Oa m v O) : ∃ a c, v = .slice a O.length c := by
  rcases h with h | ⟨rfl, a, rfl⟩
  · exact oOk.shape h
  · exact ⟨_, _, rfl⟩
theorem Oa.sub {m m' : Mem} {v : Value} {O : List Opr} (h : Oa m v O) (hs : Sub m m') : Oa m' v O := h.imp (·.sub hs) id
theorem Oa.real {m : Mem} {v : Value} {O : List Opr} (h : Oa m v O) {i : Nat} (hi : i < O.length) : ∃ b o c, v = .slice (some ⟨b, o, none⟩) O.length c ∧ ∀ j (hj : j < O.length), MRange m b (o + j * 6) O[j].cells := by
  rcases h with h | ⟨rfl, _⟩
  · exact oOk.real h hi
  · simp at hi
abbrev shOp : Sh := .pair (.int .i64) (.pair (.int .i64) (.pair .str (.pair .str (.pair (.slice (.int .u8)) (.pair (.slice (.int .i64)) .unit)))))
theorem dat_last {m : Mem} {cs : List Value} (h : Dat m (.slice (.int .i64)) cs) : ∃ v l, cs = [v] ∧ Ia m v l ∧ (∀ x ∈ l, -9223372036854775808 ≤ x ∧ x ≤ 9223372036854775807) ∧ l.length ≤ 9223372036854775807 := by
  obtain ⟨v, l, rfl, h1, h2, h3, h4⟩ := dat_sints h
  exact ⟨v, l, rfl, h1, fun x hx => wf_i64 (h3 x hx), h4⟩
theorem dat_op {m : Mem} {cs : List Value} (h : Dat m shOp cs) : ∃ o : Opr, cs = o.cells ∧ o.Ok m := by
  obtain ⟨_, _, rfl, ⟨n1, rfl, _⟩, _, _, rfl, ⟨n2, rfl, h2⟩, _, _, rfl, ⟨s1, rfl, _⟩, _, _, rfl, ⟨s2, rfl, _⟩, _, _, rfl, h5, _, _, rfl, h6, h7⟩ := h
  simp only [Dat] at h7
  subst h7
  obtain ⟨v, l, rfl, e1, e2⟩ := dat_text h5
  obtain ⟨w, k, rfl, g1, g2, g3⟩ := dat_last h6
  obtain ⟨a, c, rfl⟩ := e1.shape
  obtain ⟨a', c', rfl⟩ := g1.shape
  rw [nc_len] at e1 ⊢
  exact ⟨⟨n1, n2, s1, s2, a, c, l, a', c', k⟩, rfl, e1, e2, g1, g2, wf_i64 h2, g3⟩
theorem dat_op_rows {m : Mem} : ∀ {els : List (List Value)}, (∀ c ∈ els, Dat m shOp c) → ∃ O : List Opr, els.flatten = O.flatMap Opr.cells ∧ O.length = els.length ∧ ∀ o ∈ O, o.Ok m
  | [], _ => ⟨[], rfl, rfl, by simp⟩
  | c :: els, h => by
    obtain ⟨e, rfl, he⟩ := dat_op (h c (by simp))
    obtain ⟨E, h1, h2, h3⟩ := dat_op_rows (els := els) fun c hc => h c (by simp [hc])
    refine ⟨e :: E, by rw [List.flatten_cons, List.flatMap_cons, h1], by simp [h2], fun o ho => ?_⟩
    rcases List.mem_cons.1 ho with rfl | ho
    · exact he
    · exact h3 o ho
theorem dat_ops {m : Mem} {cs : List Value} (h : Dat m (.slice shOp) cs) : ∃ v O, cs = [v] ∧ Oa m v O ∧ (∀ o ∈ O, o.Ok m) ∧ O.length ≤ 9223372036854775807 := by
  obtain ⟨v, els, rfl, h1, h2, h3, h4⟩ := h
  obtain ⟨E, e1, e2, e3⟩ := dat_op_rows h3
  refine ⟨v, E, rfl, ?_, e3, by rw [e2]; exact h4⟩
  rcases h1 with h1 | ⟨rfl, a, rfl⟩
  · rw [e1] at h1; exact .inl h1
  · exact .inr ⟨List.eq_nil_of_length_eq_zero (by simpa using e2), a, rfl⟩
/-- of what may be small enough -/
def Opr.Small (o : Opr) : Prop := o.b.length ≤ 500 ∧ o.name.size ≤ 100 ∧ o.to.size ≤ 100
theorem great_spec {m : Mem} {o : Opr} (h : o.Ok m) : Spec Try.prog 8 [o.cv] m fun r m' => ∃ b, r = [boolV b] ∧ Sub m m' ∧ (b = false → o.Small) := by
  obtain ⟨kind, n, name, to, ab, cb, b, al, cl, last⟩ := o
  unfold Opr.Small
  refine en8 rfl (goY ?_)
  conv => whnf
  refine ⟨fun h1 => ?_, fun h1 => ?_⟩
  · conv => whnf
    exact ⟨_, rfl, Sub.refl _, fun h => (by cases h)⟩
  · conv => whnf
    refine ⟨fun h2 => ?_, fun h2 => ?_⟩
    · conv => whnf
      exact ⟨_, rfl, Sub.refl _, fun h => (by cases h)⟩
    · conv => whnf
      refine ⟨_, rfl, Sub.refl _, fun h3 => ?_⟩
      have h1 := of_decide_eq_false h1
      have h2 := of_decide_eq_false h2
      have h3 := of_decide_eq_false h3
      simp only at h1 h2 h3 ⊢
      omega
/-- what an op comes to -/
structure Did (p : Mem) (bf : Nat) (q : Int) (k nb ns : Nat) (A A' : List Af) : Prop where
  fa : FA p bf q nb ns A'
  sm : Sm (k + 1) A' nb ns
  tot : 0 < q → (totA A : Int) ≤ q → (totA A' : Int) ≤ q
set_option maxHeartbeats 4000000 in
theorem play_spec {m mm p : Mem} {o : Opr} {bf k nb ns : Nat} {q : Int} {A : List Af} (ho : o.Ok m) (hsm : o.Small) (h : FA p bf q nb ns A) (hs : Split mm [p, m]) (hk : Sm k A nb ns) (hq : 0 ≤ q ∧ q ≤ 9223372036854775807) (hk1 : k < 1000) :
    Spec Try.prog 22 [ptrB bf, o.cv] mm fun r m' => ∃ p' nb' ns' A', r = [] ∧ Split m' [p', m] ∧ Did p' bf q k nb' ns' A A' := by
  obtain ⟨kind, n, name, to, ab, cb, b, al, cl, last⟩ := o
  obtain ⟨h500, hnm, hto⟩ := hsm
  obtain ⟨hob, hby, hol, hlI, hnI, hll⟩ := ho
  simp only at h500 hnm hto hob hby hol hlI hnI hll
  refine en22 rfl (goY ?_)
  conv => whnf
  refine ⟨fun h1 => ?_, fun h1 => ?_⟩
  · clear h1
    conv => whnf
    refine xcall (append_A (name := name) h hs hk hob hby (by omega) hq (by omega)) ?_
    rintro _ m1 ⟨e, p', A', nb', rfl, hs1, h1, hr⟩
    conv => whnf
    exact ⟨p', _, _, A', rfl, hs1, h1, hk.app hr h500 hk1, app_quota hr⟩
  clear h1
  conv => whnf
  refine ⟨fun h1 => ?_, fun h1 => ?_⟩
  · clear h1
    conv => whnf
    refine xcall (Spec.frame hs (sync_A (name := name) h hk)) ?_
    rintro _ m1 ⟨p', ⟨rfl, h1⟩, hs1⟩
    conv => whnf
    exact ⟨p', _, _, _, rfl, hs1, h1, hk.les (sync_les _ _) (by split <;> omega) hk1, fun _ h => by have := (sync_les A name).t; omega⟩
  clear h1
  conv => whnf
  refine ⟨fun h1 => ?_, fun h1 => ?_⟩
  · clear h1
    conv => whnf
    refine xcall (Spec.frame hs (rename_A (name := name) (b := to) h (by omega))) ?_
    rintro _ m1 ⟨p', ⟨rfl, h1⟩, hs1⟩
    conv => whnf
    exact ⟨p', _, _, _, rfl, hs1, h1, hk.les (ren_les _ _ _) (by omega) hk1, fun _ h => by have := (ren_les A name to).t; omega⟩
  clear h1
  conv => whnf
  refine ⟨fun h1 => ?_, fun h1 => ?_⟩
  · clear h1
    conv => whnf
    refine xcall (Spec.frame hs (remove_A (name := name) h)) ?_
    rintro _ m1 ⟨p', ⟨rfl, h1⟩, hs1⟩
    conv => whnf
    exact ⟨p', _, _, _, rfl, hs1, h1, hk.les (rm_les _ _) (by omega) hk1, fun _ h => by have := (rm_les A name).t; omega⟩
  clear h1
  conv => whnf
  refine ⟨fun h1 => ?_, fun h1 => ?_⟩
  · clear h1
    conv => whnf
    refine xcall (crash_A h hs hk hol hll hlI) ?_
    rintro _ m1 ⟨p', rfl, hs1, h1⟩
    conv => whnf
    exact ⟨p', _, _, _, rfl, hs1, h1, hk.les (crash_les _ _) (by omega) hk1, fun _ h => by have := (crash_les A last).t; omega⟩
  clear h1
  conv => whnf
  refine ⟨fun h1 => ?_, fun h1 => ?_⟩
  · clear h1
    conv => whnf
    refine xcall (Spec.frame hs (cut_A (name := name) (n := n) h hk)) ?_
    rintro _ m1 ⟨p', ⟨rfl, h1⟩, hs1⟩
    conv => whnf
    exact ⟨p', _, _, _, rfl, hs1, h1, hk.les (cut_les _ _ _) (by omega) hk1, fun _ h => by have := (cut_les A name n).t; omega⟩
  clear h1
  conv => whnf
  exact ⟨p, _, _, _, rfl, hs, h, hk.les (.refl _) (by omega) hk1, fun _ h => h⟩
end Go.E.Ytghdapflkhadoaa

/-
  Files: what must come of fixed calls.
-/
namespace Go.E.Ytghdapflkhadoaa
open Go.Proofs
set_option maxRecDepth 100000
theorem make8_spec {m : Mem} : PrimSpec Try.prog (.makeSlice 34) [.v (.int .i64 8), .v (.int .i64 8)] m fun r m' => ∃ b, m b = none ∧ r = [.v (.slice (some ⟨b, 0, none⟩) 8 8)] ∧ m' = m.set b (.cells (bc (List.replicate 8 0)).toArray 5) := by
  intro _ ty W hW
  obtain ⟨j, hj, hjs, hjb, z, hz, hzc⟩ := (tt_ok _ _ hU8).inf
  have hu := (tt_ok _ _ hBs).slice rfl
  have hr := run_makeSlice W 34 5 j z hu hj hz .i64 .i64 8 8 (by decide) (by decide) (by rw [hjs]; decide) (by rw [hjb]; decide) (by decide)
  rw [hjs, hzc] at hr
  refine ⟨[.v (.slice (some ⟨W.heap.size, 0, none⟩) 8 8)], m.set W.heap.size (.cells (bc (List.replicate 8 0)).toArray 5), W.alloc (.cells (bc (List.replicate 8 0)).toArray 5), ?_, ?_, ⟨W.heap.size, hW.none (Nat.le_refl _), rfl, rfl⟩, (After.refl hW).alloc _⟩
  · simp [Prim.run, Prim.out, Prim.tup, cond_false, resVal, CV.val, hr]
    exact congrArg (fun c => W.alloc (.cells c 5)) (by kernel_rfl)
  · intro x hx
    simp at hx; subst hx; rfl
/-- what stands beside, taken with what was there -/
theorem Split.side {mm b p m : Mem} (h : Split mm [b, p, m]) : ∃ q, Sub b q ∧ Sub m q ∧ Split mm [p, q] ∧ ∀ m' p', Split m' [p', q] → Split m' [p', m] := by
  have h1 := h.perm (l' := [p, b, m]) (List.Perm.swap _ _ _)
  obtain ⟨h2, h3⟩ := Split.rest h1
  exact ⟨allM [b, m], h3.sub (by simp), h3.sub (by simp), h2.perm (List.Perm.swap _ _ _), fun m' p' h4 => by
    have h5 : Split m' [p', b, m] := Split.under (a := [p']) h4 h3
    exact (h5.perm (l' := [b, p', m]) (List.Perm.swap _ _ _)).drop⟩
abbrev nmA : ByteArray := ⟨#[97]⟩
abbrev nmB : ByteArray := ⟨#[98]⟩
abbrev nmX : ByteArray := ⟨#[98, 46, 120]⟩
theorem srtB_one (x : ByteArray) : srtB [x] = [x] := List.perm_singleton.1 (srtB_same [x])
theorem al_1 {e : Int} {A' : List Af} {nb' : Nat} (h : AppR [] nmA [97, 98] 10 e A' 0 nb') : e = 0 ∧ A' = [⟨nmA, [97, 98], 0⟩] ∧ nb' = 2 := by
  rw [AppR, if_neg (by decide +kernel), if_neg (by decide +kernel)] at h
  exact h
theorem al_2 : syncA [⟨nmA, [97, 98], 0⟩] nmA = [⟨nmA, [97, 98], 2⟩] := by simp [syncA]
theorem al_2e : errA [⟨nmA, [97, 98], 0⟩] nmA = 0 ∧ (fileA [⟨nmA, [97, 98], 0⟩] nmA).isSome = true := by simp [errA, fileA]
theorem al_3 {e : Int} {A' : List Af} {nb' : Nat} (h : AppR [⟨nmA, [97, 98], 2⟩] nmA [99, 100] 10 e A' 2 nb') : e = 0 ∧ A' = [⟨nmA, [97, 98, 99, 100], 2⟩] ∧ nb' = 4 := by
  rw [AppR, if_neg (by decide +kernel), if_neg (by decide +kernel)] at h
  obtain ⟨h1, h2, h3⟩ := h
  exact ⟨h1, by rw [h2]; simp [appA], h3⟩
theorem al_4 : crashA [⟨nmA, [97, 98, 99, 100], 2⟩] [1] = [⟨nmA, [97, 98, 99], 3⟩] := by
  simp only [crashA, List.map_cons, List.map_nil, srtB_one, List.length_cons, List.length_nil, crashTo, crash1]
  simp [lastN]
  decide
theorem al_5 : errA [⟨nmA, [97, 98, 99], 3⟩] nmA = 0 ∧ (((fileA [⟨nmA, [97, 98, 99], 3⟩] nmA).map (·.l)).getD []) = [97, 98, 99] := by simp [errA, fileA]
theorem al_6 {e : Int} {A' : List Af} {nb' : Nat} (h : AppR [⟨nmA, [97, 98, 99], 3⟩] nmB (List.replicate 8 0) 10 e A' 4 nb') : e = 5 ∧ A' = [⟨nmA, [97, 98, 99], 3⟩] ∧ nb' = 4 := by
  rw [AppR, if_neg (by decide +kernel), if_pos (by decide +kernel)] at h
  exact h
theorem al_7 : renEA [⟨nmA, [97, 98, 99], 3⟩] nmA nmX = 0 ∧ renA [⟨nmA, [97, 98, 99], 3⟩] nmA nmX = [⟨nmX, [97, 98, 99], 3⟩] := by
  have h : nameOk (chs nmX) = true := by decide +kernel
  simp [renEA, renA, fileA, h, rmA, putA]
theorem al_8 : totA [⟨nmX, [97, 98, 99], 3⟩] = 3 ∧ ((fileA [⟨nmX, [97, 98, 99], 3⟩] nmX).map (·.safe)).getD 0 = 3 ∧ errA [⟨nmX, [97, 98, 99], 3⟩] nmA = 4 := by
  have h : ¬ nmA = nmX := by decide +kernel
  simp [totA, errA, fileA, h]
theorem sm_al {k : Nat} {A : List Af} {nb ns : Nat} (h1 : A.all (fun a => decide (a.l.length ≤ 500)) = true) (h2 : A.length ≤ 1) (h3 : nb ≤ 500) (h4 : ns ≤ 1) : Sm 1 A nb ns :=
  ⟨fun a ha => by have := List.all_eq_true.1 h1 a ha; simpa using this, h2, by omega, h4, by omega⟩
set_option maxHeartbeats 4000000 in
theorem alive14_spec {m : Mem} : Spec Try.prog 7 [] m fun r m' => r = [boolV true] ∧ Sub m m' := by
  refine en7 rfl (goY ?_)
  conv => whnf
  refine xcall (new_spec (q := 10) (by decide)) ?_
  rintro _ m0 ⟨bf, p, rfl, hs, h⟩
  conv => whnf
  refine ⟨fun h => absurd h (by decide), fun _ => ?_⟩
  conv => whnf
  refine ⟨fun h => absurd h (by decide), fun _ => ?_⟩
  conv => whnf
  refine .mk _ (build2) ?_
  rintro _ _ ⟨b1, hb1, rfl, rfl⟩
  conv => whnf
  have hs := hs.new hb1 (.cells (bc [97, 98]).toArray 5)
  refine .mk _ (conv_spec (l := [97, 98]) (Mem.set_same ..)) ?_
  rintro _ _ ⟨rfl, rfl⟩
  conv => whnf
  have hs := hs.setAt (i := 0) rfl (blk1_same ..) (.cells (bc [97, 98]).toArray 5 ((bc [97, 98]).toArray.size, (bc [97, 98]).toArray.size + 1))
  obtain ⟨q, hbq, hmq, hs, back⟩ := Split.side hs
  refine xcall (append_A (name := nmA) (lb := [97, 98]) h hs (sm_al (k := 0) rfl (by decide) (by decide) (by decide)) (Lb.blkf (hbq _ _ (Mem.set_same ..)) rfl).la (by decide) (by decide) (by decide) (by decide)) ?_
  rintro _ m1 ⟨e, p, A', nb', rfl, hs, h, hr⟩
  conv => whnf
  obtain ⟨rfl, rfl, rfl⟩ := al_1 hr
  have hs := back _ _ hs
  clear hr back hmq hbq
  refine xcall (Spec.frame hs (sync_A (name := nmA) h (sm_al (k := 0) rfl (by decide) (by decide) (by decide)))) ?_
  rintro _ m2 ⟨p, ⟨rfl, h⟩, hs⟩
  conv => whnf
  rw [al_2, if_pos al_2e.2] at h
  rw [al_2e.1]
  refine .mk _ (build2) ?_
  rintro _ _ ⟨b1, hb1, rfl, rfl⟩
  conv => whnf
  have hs := hs.new hb1 (.cells (bc [99, 100]).toArray 5)
  refine .mk _ (conv_spec (l := [99, 100]) (Mem.set_same ..)) ?_
  rintro _ _ ⟨rfl, rfl⟩
  conv => whnf
  have hs := hs.setAt (i := 0) rfl (blk1_same ..) (.cells (bc [99, 100]).toArray 5 ((bc [99, 100]).toArray.size, (bc [99, 100]).toArray.size + 1))
  obtain ⟨q, hbq, hmq, hs, back⟩ := Split.side hs
  refine xcall (append_A (name := nmA) (lb := [99, 100]) h hs (sm_al (k := 0) rfl (by decide) (by decide) (by decide)) (Lb.blkf (hbq _ _ (Mem.set_same ..)) rfl).la (by decide) (by decide) (by decide) (by decide)) ?_
  rintro _ m3 ⟨e, p, A', nb', rfl, hs, h, hr⟩
  conv => whnf
  obtain ⟨rfl, rfl, rfl⟩ := al_3 hr
  have hs := back _ _ hs
  clear hr back hmq hbq
  refine .mk _ (buildI1) ?_
  rintro _ _ ⟨b1, hb1, rfl, rfl⟩
  conv => whnf
  have hs := hs.new hb1 (.cells #[.int .i64 1] 3)
  obtain ⟨q, hbq, hmq, hs, back⟩ := Split.side hs
  refine xcall (crash_A (last := [1]) h hs (sm_al (k := 0) rfl (by decide) (by decide) (by decide)) ((Io.blk (l := [1]) (blk1_same ..) rfl).il.ia.sub hbq) (by decide) (by decide)) ?_
  rintro _ m4 ⟨p, rfl, hs, h⟩
  conv => whnf
  rw [al_4] at h
  have hs := back _ _ hs
  clear back hmq hbq
  refine xcall (read_A (name := nmA) (h.grow (hs.sub (by simp))) (sm_al (k := 0) rfl (by decide) (by decide) (by decide))) ?_
  rintro _ m5 ⟨vr, pr, rfl, hs1, hvr⟩
  conv => whnf
  rw [al_5.2] at hvr
  rw [al_5.1]
  have hs : Split m5 [pr, p, m] := hs1.under (a := [pr]) hs
  obtain ⟨q, hrq, hmq, hs, _⟩ := Split.side hs
  refine .mk _ (make8_spec) ?_
  rintro _ _ ⟨b1, hb1, rfl, rfl⟩
  conv => whnf
  have hs := hs.new hb1 (.cells (bc (List.replicate 8 0)).toArray 5)
  obtain ⟨q2, hbq, hqq, hs, _⟩ := Split.side hs
  refine xcall (append_A (name := nmB) (lb := List.replicate 8 0) h hs (sm_al (k := 0) rfl (by decide) (by decide) (by decide)) (Lb.blkf (hbq _ _ (blk1_same ..)) rfl).la (by decide) (by decide) (by decide) (by decide)) ?_
  rintro _ m6 ⟨e, p, A', nb', rfl, hs, h, hr⟩
  conv => whnf
  obtain ⟨rfl, rfl, rfl⟩ := al_6 hr
  refine xcall (Spec.frame hs (rename_A (name := nmA) (b := nmX) h (by decide))) ?_
  rintro _ m7 ⟨p, ⟨rfl, h⟩, hs⟩
  conv => whnf
  rw [al_7.2] at h
  rw [al_7.1]
  first | refine xretk (counts_A (h.grow (hs.sub (by simp)))) ?_ | refine xret (counts_A (h.grow (hs.sub (by simp)))) ?_
  conv => whnf
  refine xcall (names_A (h.grow (hs.sub (by simp))) (sm_al (k := 0) rfl (by decide) (by decide) (by decide))) ?_
  rintro _ m8 ⟨vn, pn, rfl, hs2, hvn⟩
  conv => whnf
  have hn1 : srtB (([⟨nmX, [97, 98, 99], 3⟩] : List Af).map (·.name)) = [nmX] := srtB_one _
  rw [hn1] at hvn
  have hs : Split m8 [pn, p, q2] := hs2.under (a := [pn]) hs
  obtain ⟨bn, on, cn, rfl, hg⟩ := (hvn.sl.sub (hs.sub (a := pn) (by simp))).real (i := 0) (by decide)
  have hvr : Bs q2 vr (nc [97, 98, 99]) := (hvr.sub hrq).sub hqq
  obtain ⟨br, orr, cr, rfl⟩ := hvr.lb.real (by decide)
  refine ⟨fun _ => ?_, fun h => absurd h (by decide)⟩
  conv => whnf
  refine ⟨fun _ => ?_, fun h => absurd h (by decide)⟩
  conv => whnf
  refine .inr ⟨[97, 98, 99], rfl, _, _, rfl, (hvr.lb.sub (hs.sub (by simp))).range, ?_⟩
  conv => whnf
  refine ⟨fun _ => ?_, fun h => absurd h (by rw [strOf_list, ByteArray.toList_eq]; decide)⟩
  conv => whnf
  refine ⟨fun _ => ?_, fun h => absurd h (by decide)⟩
  conv => whnf
  refine ⟨fun _ => ?_, fun h => absurd h (by decide)⟩
  conv => whnf
  refine ⟨fun _ => ?_, fun h => absurd h (by decide)⟩
  conv => whnf
  refine ⟨fun _ => ?_, fun h => absurd h (by decide)⟩
  conv => whnf
  refine ⟨fun _ => ?_, fun h => absurd h (by decide)⟩
  conv => whnf
  refine ⟨fun _ => ?_, fun h => absurd h (by decide)⟩
  conv => whnf
  repeat (refine And.intro (by first | omega | (simp only [times, List.length_singleton]; omega)) ?_; conv => whnf)
  refine ⟨.string nmX, hg 0 (by decide), rfl, ?_⟩
  conv => whnf
  refine ⟨fun _ => ?_, fun h => absurd h (by simp at h)⟩
  conv => whnf
  refine xcall (used_A (h.grow (hs.sub (by simp))) (sm_al (k := 0) rfl (by decide) (by decide) (by decide))) ?_
  rintro _ m9 ⟨rfl, hu⟩
  conv => whnf
  refine ⟨fun _ => ?_, fun h => absurd h (by (simp [al_8.1] at h))⟩
  conv => whnf
  have h9 := (h.grow (hs.sub (by simp))).grow hu
  first | refine xretk (safe_A (name := nmX) h9) ?_ | refine xret (safe_A (name := nmX) h9) ?_
  conv => whnf
  refine ⟨fun _ => ?_, fun h => absurd h (by (simp [al_8.2.1] at h))⟩
  conv => whnf
  have hs9 : Split m9 [p, pn, q2] := (Split.grow hs hu).perm (List.Perm.swap _ _ _)
  refine xcall (Spec.frame hs9 (remove_A (name := nmA) h)) ?_
  rintro _ m10 ⟨p', ⟨rfl, _⟩, hs10⟩
  conv => whnf
  rw [al_8.2.2]
  conv => whnf
  exact ⟨rfl, (hmq.trans hqq).trans (hs10.sub (by simp))⟩
end Go.E.Ytghdapflkhadoaa

/-
  Law FilesQuota.
-/
namespace Go.E.Ytghdapflkhadoaa
open Go.Proofs
set_option maxRecDepth 100000
theorem Opr.Ok.sub {m m' : Mem} {o : Opr} (h : o.Ok m) (hs : Sub m m') : o.Ok m' := ⟨h.b.sub hs, h.byt, h.l.sub hs, h.lI, h.nI, h.ll⟩
theorem iadd1 {i : Nat} (h : i < 1000000000000) : IntKind.i64.wrap ((i : Int) + 1) = ((i + 1 : Nat) : Int) := by rw [wi (by omega) (by omega)]; omega
theorem mcell_rng {m : Mem} {b o j : Nat} {l : List Value} {y : Value} (h : MRange m b o l) (hj : l[j]? = some y) : mcell m b (o + j) = some y := by
  obtain ⟨arr, t, fr, h1, h2⟩ := h
  exact mcell_of h1 (h2 j y hj)
/-- files beside what came in -/
structure Qin (m mm : Mem) (bf : Nat) (q : Int) (i : Nat) : Prop where
  ex : ∃ p nb ns A, Split mm [p, m] ∧ FA p bf q nb ns A ∧ Sm i A nb ns ∧ (totA A : Int) ≤ q
set_option maxHeartbeats 8000000 in
theorem quota_spec {m : Mem} {q : Int} {v : Value} {O : List Opr} (hv : Oa m v O) (hO : ∀ o ∈ O, o.Ok m) (hq : q ≤ 9223372036854775807) (hl : O.length ≤ 9223372036854775807) :
    Spec Try.prog 5 [i64 q, .v v] m fun r m' => r = [boolV true] ∧ Sub m m' := by
  obtain ⟨a, c, rfl⟩ := hv.shape
  rcases (show q < 0 ∨ 0 ≤ q by omega) with h0 | h0
  · refine en5 rfl (goY ?_)
    conv => whnf
    first | refine xretk (new_neg h0) ?_ | refine xret (new_neg h0) ?_
    conv => whnf
    refine ⟨fun _ => ?_, fun h => absurd h (by decide)⟩
    conv => whnf
    refine xcall (alive14_spec) ?_
    rintro _ m1 ⟨rfl, hs⟩
    conv => whnf
    refine ⟨fun _ => ?_, fun h => absurd h (by decide)⟩
    conv => whnf
    refine ⟨?_, hs⟩
    rw [decide_eq_true h0]; rfl
  rcases (show q < 1 ∨ 1 ≤ q by omega) with h1 | h1
  · refine en5 rfl (goY ?_)
    conv => whnf
    refine xcall (new_spec h0) ?_
    rintro _ m0 ⟨bf, p, rfl, hs, h⟩
    conv => whnf
    refine ⟨fun h => absurd h (by decide), fun _ => ?_⟩
    conv => whnf
    refine ⟨fun h => absurd h (by decide), fun _ => ?_⟩
    conv => whnf
    refine ⟨fun _ => ?_, fun h => absurd h (by (exact absurd h1 (of_decide_eq_false h)))⟩
    conv => whnf
    refine xcall (alive14_spec) ?_
    rintro _ m1 ⟨rfl, hs1⟩
    conv => whnf
    refine ⟨fun _ => ?_, fun h => absurd h (by decide)⟩
    conv => whnf
    refine ⟨?_, (hs.sub (by simp)).trans hs1⟩
    rw [decide_eq_false (by omega)]; rfl
  refine en5 rfl (goY ?_)
  conv => whnf
  refine xcall (new_spec h0) ?_
  rintro _ m0 ⟨bf, p, rfl, hs, h⟩
  conv => whnf
  refine ⟨fun h => absurd h (by decide), fun _ => ?_⟩
  conv => whnf
  refine ⟨fun h => absurd h (by decide), fun _ => ?_⟩
  conv => whnf
  refine ⟨fun h => absurd (of_decide_eq_true h) (by omega), fun _ => ?_⟩
  conv => whnf
  refine .mk (ι := Nat) (fun i => 60 - i) (fun i mm => i ≤ O.length ∧ i ≤ 60 ∧ Qin m mm bf q i)
    (fun i => [(0, .c (i64 q)), (1, .c (.v (.slice a O.length c))), (5, .c (ptrB bf)), (7, .c (i64 i))]) (fun _ => []) 0 ⟨by omega, by omega, ⟨p, 0, 0, [], hs, h, .none, by simp [totA]; omega⟩⟩ ?_ ?_
  · conv => whnf
    repeat (refine And.intro (by first | with_reducible rfl | exact congrArg (Value.int _) (wi (by omega) (by omega)) | exact wi (by omega) (by omega) | rfl) ?_; conv => whnf)
    first | exact trivial | exact fun _ _ h => h
  rintro i mm ⟨hi, hi60, ⟨p, nb, ns, A, hs, h, hk, ht⟩⟩
  have hsm : Sub m mm := hs.sub (by simp)
  conv => whnf
  refine ⟨fun h1 => ?_, fun h1 => ?_⟩
  rotate_left
  · -- no more ops
    conv => whnf
    refine xcall (alive14_spec) ?_
    rintro _ m1 ⟨rfl, hs1⟩
    conv => whnf
    conv => whnf
    exact ⟨rfl, hsm.trans hs1⟩
  have hi1 : i < O.length := by have := of_decide_eq_true h1; omega
  clear h1
  conv => whnf
  refine ⟨fun h1 => ?_, fun h1 => ?_⟩
  rotate_left
  · conv => whnf
    refine xcall (alive14_spec) ?_
    rintro _ m1 ⟨rfl, hs1⟩
    conv => whnf
    conv => whnf
    exact ⟨rfl, hsm.trans hs1⟩
  have hi2 : i < 60 := by have := of_decide_eq_true h1; omega
  clear h1
  conv => whnf
  obtain ⟨b, o, c', e, hg⟩ := hv.real hi1
  cases e
  have hgi := hg i hi1
  have hoi := hO O[i] (List.getElem_mem hi1)
  generalize ho : O[i] = op at hgi hoi
  repeat (refine And.intro (by first | omega | (simp only [times]; omega)) ?_; conv => whnf)
  refine ⟨[.one (.int .i64 op.kind), .one (.int .i64 op.n), .one (.string op.name), .one (.string op.to), .one (.slice op.ab op.b.length op.cb), .one (.slice op.al op.last.length op.cl)], ⟨rfl, rfl, rfl, rfl, rfl, rfl, trivial⟩, rfl, by simp only [times, Int.toNat_natCast]; exact hgi.sub hsm, ?_⟩
  conv => whnf
  refine xcall (great_spec (o := op) (hoi.sub hsm)) ?_
  rintro _ m1 ⟨gr, rfl, hs1, hsmall⟩
  conv => whnf
  refine ⟨fun h1 => ?_, fun h1 => ?_⟩
  · conv => whnf
    refine xcall (alive14_spec) ?_
    rintro _ m2 ⟨rfl, hs2⟩
    conv => whnf
    conv => whnf
    exact ⟨rfl, (hsm.trans hs1).trans hs2⟩
  have hsmall := hsmall h1
  clear h1
  conv => whnf
  have hs := Split.grow hs hs1
  refine xcall (used_A (h.grow (hs.sub (by simp))) hk) ?_
  rintro _ m2 ⟨rfl, hs2⟩
  conv => whnf
  have hs := Split.grow hs hs2
  refine xcall (names_A (h.grow (hs.sub (by simp))) hk) ?_
  rintro _ m3 ⟨vn, pn, rfl, hs3, hvn⟩
  conv => whnf
  obtain ⟨an, cn, rfl⟩ := hvn.sl.shape
  have hln : (srtB (A.map (·.name))).length = A.length := by rw [srtB_len, List.length_map]
  rw [hln]
  have hs : Split m3 [pn, p, m] := hs3.under (a := [pn]) hs
  have hs := hs.drop
  have hsm : Sub m m3 := hs.sub (by simp)
  clear hs1 hs2 hs3 hvn
  have g0 : ∀ {mx : Mem} {j : Nat} {y : Value}, Sub m mx → op.cells[j]? = some y → mcell mx b (o + i * 6 + j) = some y := fun hx h => mcell_rng (hgi.sub hx) h
  have hmb : ∃ ob, m b = some ob := by obtain ⟨arr, t, fr, h1, _⟩ := hgi; exact ⟨_, h1⟩
  obtain ⟨ob, hmb⟩ := hmb
  conv => whnf
  repeat (refine And.intro (by first | omega | (simp only [times]; omega)) ?_; conv => whnf)
  refine ⟨_, by simp only [times, Int.toNat_natCast]; exact g0 hsm (j := 0) rfl, rfl, ?_⟩
  conv => whnf
  refine ⟨fun h1 => ?_, fun h1 => ?_⟩
  · have hk0 : op.kind = 0 := by simpa using h1
    clear h1
    conv => whnf
    repeat (refine And.intro (by first | omega | (simp only [times]; omega)) ?_; conv => whnf)
    refine ⟨_, by simp only [times, Int.toNat_natCast]; exact g0 hsm (j := 2) rfl, rfl, ?_⟩
    conv => whnf
    repeat (refine And.intro (by first | omega | (simp only [times]; omega)) ?_; conv => whnf)
    refine ⟨_, by simp only [times, Int.toNat_natCast]; exact g0 hsm (j := 4) rfl, rfl, ?_⟩
    conv => whnf
    refine xcall (append_A (name := op.name) h hs hk hoi.b hoi.byt (by have := hsmall.2.1; omega) ⟨h0, hq⟩ (by have := hsmall.1; omega)) ?_
    rintro _ m4 ⟨e, p, A', nb', rfl, hs, h4, hr⟩
    conv => whnf
    first | (refine ⟨keptF hmb hsm (hs.sub (by simp)) (by simp), ?_⟩; conv => whnf) | skip
    have hsm' : Sub m m4 := hs.sub (by simp)
    refine ⟨fun h1 => ?_, fun h1 => ?_⟩
    · have he : e = 5 := by simpa using h1
      clear h1
      obtain ⟨rfl, rfl, hq1, hq2⟩ := app_full hr he
      have h := h4
      conv => whnf
      refine xcall (used_A (h.grow (hs.sub (by simp))) hk) ?_
      rintro _ m5 ⟨rfl, hs5⟩
      conv => whnf
      have hs := Split.grow hs hs5
      first | (refine ⟨keptF hmb hsm' (hs.sub (by simp)) (by simp), ?_⟩; conv => whnf) | skip
      refine ⟨fun h => absurd h (by (simp at h)), fun _ => ?_⟩
      conv => whnf
      refine xcall (names_A (h.grow (hs.sub (by simp))) hk) ?_
      rintro _ m6 ⟨vn2, pn2, rfl, hs6, hvn2⟩
      obtain ⟨an2, cn2, rfl⟩ := hvn2.sl.shape
      rw [hln]
      have hs : Split m6 [pn2, p, m] := hs6.under (a := [pn2]) hs
      have hs := hs.drop
      conv => whnf
      first | (refine ⟨keptF hmb (Sub.trans hsm' hs5) (hs.sub (by simp)) (by simp), ?_⟩; conv => whnf) | skip
      refine ⟨fun h => absurd h (by (simp at h)), fun _ => ?_⟩
      conv => whnf
      have hsm := hs.sub (a := m) (by simp)
      repeat (refine And.intro (by first | omega | (simp only [times]; omega)) ?_; conv => whnf)
      refine ⟨_, by simp only [times, Int.toNat_natCast]; exact g0 hsm (j := 4) rfl, rfl, ?_⟩
      have hs500 := hsmall.1
      have ew : IntKind.i64.wrap (q - (op.b.length : Int)) = q - (op.b.length : Int) := wi (by omega) (by omega)
      conv => whnf
      rw [ew]
      refine ⟨fun h => absurd (of_decide_eq_true h) (by omega), fun _ => ?_⟩
      have hk := hk.app hr hsmall.1 (by omega)
      conv => whnf
      repeat (refine And.intro (by first | omega | (simp only [times]; omega)) ?_; conv => whnf)
      refine ⟨_, by simp only [times, Int.toNat_natCast]; exact g0 hsm (j := 0) rfl, rfl, ?_⟩
      conv => whnf
      refine ⟨fun h => absurd h (by (rw [hk0] at h; cases h)), fun _ => ?_⟩
      conv => whnf
      refine xcall (used_A (h.grow (hs.sub (by simp))) hk) ?_
      rintro _ m5 ⟨rfl, hs5⟩
      conv => whnf
      refine ⟨fun h => absurd h (by (have := of_decide_eq_true h; omega)), fun _ => ?_⟩
      conv => whnf
      have hs := Split.grow hs hs5
      refine ⟨i + 1, ⟨by omega, by omega, ⟨_, _, _, _, hs, h, hk, ht⟩⟩, by first | omega | (simp only; omega), ?_⟩
      conv => whnf
      repeat (refine And.intro (by first | with_reducible rfl | (first | exact congrArg (Value.int _) (iadd1 (by omega))) | exact congrArg (Value.int _) (wi (by omega) (by omega)) | exact wi (by omega) (by omega) | rfl) ?_; conv => whnf)
      first | exact trivial | exact fun _ _ h => h
    · clear h1
      have h := h4
      have hk := hk.app hr hsmall.1 (by omega)
      have ht := app_quota hr (by omega) ht
      have hsm := hsm'
      conv => whnf
      repeat (refine And.intro (by first | omega | (simp only [times]; omega)) ?_; conv => whnf)
      refine ⟨_, by simp only [times, Int.toNat_natCast]; exact g0 hsm (j := 0) rfl, rfl, ?_⟩
      conv => whnf
      refine ⟨fun h => absurd h (by (rw [hk0] at h; cases h)), fun _ => ?_⟩
      conv => whnf
      refine xcall (used_A (h.grow (hs.sub (by simp))) hk) ?_
      rintro _ m5 ⟨rfl, hs5⟩
      conv => whnf
      refine ⟨fun h => absurd h (by (have := of_decide_eq_true h; omega)), fun _ => ?_⟩
      conv => whnf
      have hs := Split.grow hs hs5
      refine ⟨i + 1, ⟨by omega, by omega, ⟨_, _, _, _, hs, h, hk, ht⟩⟩, by first | omega | (simp only; omega), ?_⟩
      conv => whnf
      repeat (refine And.intro (by first | with_reducible rfl | (first | exact congrArg (Value.int _) (iadd1 (by omega))) | exact congrArg (Value.int _) (wi (by omega) (by omega)) | exact wi (by omega) (by omega) | rfl) ?_; conv => whnf)
      first | exact trivial | exact fun _ _ h => h
  · have hk0 : op.kind ≠ 0 := by simpa using h1
    clear h1
    conv => whnf
    repeat (refine And.intro (by first | omega | (simp only [times]; omega)) ?_; conv => whnf)
    refine ⟨_, by simp only [times, Int.toNat_natCast]; exact g0 hsm (j := 0) rfl, rfl, ?_⟩
    conv => whnf
    refine ⟨fun _ => ?_, fun h1 => absurd (by simpa using h1) hk0⟩
    conv => whnf
    repeat (refine And.intro (by first | omega | (simp only [times]; omega)) ?_; conv => whnf)
    refine ⟨[.one (.int .i64 op.kind), .one (.int .i64 op.n), .one (.string op.name), .one (.string op.to), .one (.slice op.ab op.b.length op.cb), .one (.slice op.al op.last.length op.cl)], ⟨rfl, rfl, rfl, rfl, rfl, rfl, trivial⟩, rfl, by simp only [times, Int.toNat_natCast]; exact hgi.sub hsm, ?_⟩
    conv => whnf
    refine xcall (play_spec (o := op) hoi hsmall h hs hk ⟨h0, hq⟩ (by omega)) ?_
    rintro _ m4 ⟨p, nb', ns', A', rfl, hs, hd⟩
    conv => whnf
    have hk := hd.sm
    have ht := hd.tot (by omega) ht
    have h := hd.fa
    refine xcall (used_A (h.grow (hs.sub (by simp))) hk) ?_
    rintro _ m5 ⟨rfl, hs5⟩
    conv => whnf
    refine ⟨fun h => absurd h (by (have := of_decide_eq_true h; omega)), fun _ => ?_⟩
    conv => whnf
    have hs := Split.grow hs hs5
    refine ⟨i + 1, ⟨by omega, by omega, ⟨_, _, _, _, hs, h, hk, ht⟩⟩, by first | omega | (simp only; omega), ?_⟩
    conv => whnf
    repeat (refine And.intro (by first | with_reducible rfl | (first | exact congrArg (Value.int _) (iadd1 (by omega))) | exact congrArg (Value.int _) (wi (by omega) (by omega)) | exact wi (by omega) (by omega) | rfl) ?_; conv => whnf)
    first | exact trivial | exact fun _ _ h => h
end Go.E.Ytghdapflkhadoaa

/-
  Files: what a crash leaves.
-/
namespace Go.E.Ytghdapflkhadoaa
open Go.Proofs
set_option maxRecDepth 100000
theorem FA.safe {p : Mem} {bf : Nat} {q : Int} {nb ns : Nat} {A : List Af} (h : FA p bf q nb ns A) : ∀ a ∈ A, a.safe ≤ a.l.length := by
  obtain ⟨bm, clock, F, h1, rfl⟩ := h
  intro a ha
  obtain ⟨f, hf, rfl⟩ := List.mem_map.1 ha
  exact (h1.ok f hf).safe
theorem lastN_le (a : Af) (x : Int) (h : a.safe ≤ a.l.length) : a.safe + lastN a x ≤ a.l.length := by
  unfold lastN; omega
theorem lastN_zero (a : Af) (x : Int) (h : a.safe = a.l.length) : lastN a x = 0 := by
  unfold lastN; omega
/-- what a crash may leave of a file -/
structure Cr (a b : Af) : Prop where
  name : b.name = a.name
  lo : a.safe ≤ b.safe
  hi : b.safe ≤ b.l.length
  pre : b.l = a.l.take b.l.length
  all : a.safe = a.l.length → b = a
theorem Cr.refl {a : Af} (h : a.safe ≤ a.l.length) : Cr a a := ⟨rfl, Nat.le_refl _, h, by rw [List.take_length], fun _ => rfl⟩
theorem Cr.len {a b : Af} (h : Cr a b) : b.l.length ≤ a.l.length := by
  have := congrArg List.length h.pre
  rw [List.length_take] at this
  omega
theorem crashTo_map (N : List ByteArray) (last : List Int) (A : List Af) : ∀ i, ∃ g : Af → Af, crashTo N last A i = A.map g ∧ ∀ a : Af, a.safe ≤ a.l.length → Cr a (g a) ∧ ((∃ j, j < i ∧ N.getD j ByteArray.empty = a.name) → (g a).safe = (g a).l.length)
  | 0 => ⟨id, by simp [crashTo], fun a h => ⟨.refl h, fun ⟨j, hj, _⟩ => by omega⟩⟩
  | i + 1 => by
    obtain ⟨g, h1, h2⟩ := crashTo_map N last A i
    refine ⟨fun a => if (g a).name = N.getD i ByteArray.empty then ⟨(g a).name, (g a).l.take ((g a).safe + lastN (g a) (last.getD i 0)), (g a).safe + lastN (g a) (last.getD i 0)⟩ else g a, by rw [crashTo, h1, crash1, List.map_map]; rfl, fun a ha => ?_⟩
    obtain ⟨h3, h4⟩ := h2 a ha
    have hle := lastN_le (g a) (last.getD i 0) h3.hi
    by_cases hn : (g a).name = N.getD i ByteArray.empty
    · simp only [if_pos hn]
      refine ⟨⟨h3.name, by have := h3.lo; simp only; omega, by simp only [List.length_take]; omega, ?_, fun he => ?_⟩, fun _ => by simp only [List.length_take]; omega⟩
      · simp only [List.length_take]
        conv => lhs; rw [h3.pre]
        rw [List.take_take]
        try (congr 1; have := h3.len; omega)
      · have e := h3.all he
        rw [e] at hle ⊢
        rw [lastN_zero a _ he, Nat.add_zero, he, List.take_length]
        cases a; simp only at he ⊢; rw [he]
    · simp only [if_neg hn]
      refine ⟨h3, fun ⟨j, hj, hjn⟩ => h4 ⟨j, ?_, hjn⟩⟩
      rcases Nat.lt_or_ge j i with h | h
      · exact h
      · obtain rfl : j = i := by omega
        exact absurd (h3.name.trans hjn.symm) hn
theorem name_at {A : List Af} {a : Af} (ha : a ∈ A) : ∃ j, j < A.length ∧ (srtB (A.map (·.name))).getD j ByteArray.empty = a.name := by
  have h1 : a.name ∈ srtB (A.map (·.name)) := (srtB_same _).symm.subset (List.mem_map.2 ⟨a, ha, rfl⟩)
  obtain ⟨j, hj, e⟩ := List.getElem_of_mem h1
  have hl : (srtB (A.map (·.name))).length = A.length := by rw [(srtB_same _).length_eq, List.length_map]
  exact ⟨j, by omega, by rw [List.getD_eq_getElem?_getD, List.getElem?_eq_getElem hj, Option.getD_some, e]⟩
theorem crash_map {A : List Af} {last : List Int} (hA : ∀ a ∈ A, a.safe ≤ a.l.length) : ∃ g : Af → Af, crashA A last = A.map g ∧ ∀ a ∈ A, Cr a (g a) ∧ (g a).safe = (g a).l.length := by
  obtain ⟨g, h1, h2⟩ := crashTo_map (srtB (A.map (·.name))) last A A.length
  exact ⟨g, h1, fun a ha => by
    obtain ⟨h3, h4⟩ := h2 a (hA a ha)
    exact ⟨h3, h4 (name_at ha)⟩⟩
theorem crash_again {A : List Af} {last : List Int} (hA : ∀ a ∈ A, a.safe = a.l.length) : crashA A last = A := by
  obtain ⟨g, h1, h2⟩ := crash_map (last := last) fun a ha => Nat.le_of_eq (hA a ha)
  rw [h1]
  exact (List.map_congr_left fun a ha => (h2 a ha).1.all (hA a ha)).trans (List.map_id _)
theorem file_some {A : List Af} {i : Nat} (hi : i < (srtB (A.map (·.name))).length) : ∃ a ∈ A, fileA A (srtB (A.map (·.name)))[i] = some a := by
  have h1 := (srtB_same (A.map (·.name))).subset (List.getElem_mem hi)
  obtain ⟨a, ha, e⟩ := List.mem_map.1 h1
  cases h : fileA A (srtB (A.map (·.name)))[i] with
  | some b => exact ⟨b, List.mem_of_find?_eq_some h, rfl⟩
  | none =>
    have := List.find?_eq_none.1 h a ha
    simp [e] at this
theorem file_map {A : List Af} {g : Af → Af} (hg : ∀ a ∈ A, (g a).name = a.name) (name : ByteArray) : fileA (A.map g) name = (fileA A name).map g := by
  induction A with
  | nil => rfl
  | cons a A ih =>
    have ih := ih fun a ha => hg a (List.mem_cons_of_mem _ ha)
    simp only [fileA, List.map_cons, List.find?_cons] at ih ⊢
    rw [hg a (List.mem_cons_self ..)]
    split
    · rfl
    · exact ih
theorem names_map {A : List Af} {g : Af → Af} (hg : ∀ a ∈ A, (g a).name = a.name) : (A.map g).map (·.name) = A.map (·.name) := by
  rw [List.map_map]
  exact List.map_congr_left fun a ha => hg a ha
end Go.E.Ytghdapflkhadoaa

/-
  Law FilesCrash, from the second crash on.
-/
namespace Go.E.Ytghdapflkhadoaa
open Go.Proofs
set_option maxRecDepth 100000
/-- a file's text -/
def txt (A : List Af) (name : ByteArray) : ByteArray := strOf (nc (((fileA A name).map (·.l)).getD []))
/-- one part taken, the others as one -/
theorem Split.pick1 {mm p : Mem} {l : List Mem} (h : Split mm (p :: l)) : ∃ q, (∀ x ∈ l, Sub x q) ∧ Split mm [p, q] ∧ ∀ m' p', Split m' [p', q] → Split m' (p' :: l) := by
  obtain ⟨h2, h3⟩ := Split.rest h
  exact ⟨allM l, fun x hx => h3.sub hx, h2.perm (List.Perm.swap _ _ _), fun m' p' h4 => Split.under (a := [p']) h4 h3⟩
theorem strOf_nil : strOf [] = ByteArray.empty := by rfl
set_option maxHeartbeats 8000000 in
theorem crash_tail3 {m mm pw p pn : Mem} {bf nb ns k : Nat} {q : Int} {A : List Af} {vl vn vw : Value} {again : List Int} (hs : Split mm [p, pw, pn, m]) (h : FA p bf q nb ns A) (hk : Sm k A nb ns) (hA : ∀ a ∈ A, a.safe = a.l.length)
    (hv : Ia m vl again) (hll : again.length ≤ 9223372036854775807) (hI : ∀ x ∈ again, -9223372036854775808 ≤ x ∧ x ≤ 9223372036854775807)
    (hn : Sl pn vn (srtB (A.map (·.name)))) (hw : Sl pw vw ((srtB (A.map (·.name))).map (txt A))) :
    xwpY c4 (restAt 27 (bodyOf Try.f4)) (QRetY tt.get Try.f4.results.toList fun r m' => r = [boolV true] ∧ Sub m m')
      [(2, .c (.v vl)), (7, .c (ptrB bf)), (10, .c (.v vn)), (16, .c (.v vw))] [] mm [] := by
  have hlN : (srtB (A.map (·.name))).length ≤ 1000 := by rw [(srtB_same _).length_eq, List.length_map]; have := hk.n; have := hk.k; omega
  generalize hN : srtB (A.map (·.name)) = N at hn hw hlN
  obtain ⟨al, cl, rfl⟩ := hv.shape
  obtain ⟨an, cn, rfl⟩ := hn.shape
  obtain ⟨aw, cw, rfl⟩ := hw.shape
  rw [List.length_map] at hw ⊢
  obtain ⟨sd, hsd, hs1, back⟩ := Split.pick1 hs
  conv => whnf
  refine .at ?_
  conv => whnf
  refine xcall (crash_A h hs1 hk (hv.sub (hsd m (by simp))) hll hI) ?_
  rintro _ m1 ⟨p', rfl, hs2, h2⟩
  conv => whnf
  rw [crash_again hA] at h2
  have hsm : Sub m m1 := (hsd m (by simp)).trans (hs2.sub (by simp))
  have hn1 := hn.sub ((hsd pn (by simp)).trans (hs2.sub (a := sd) (by simp)))
  have hw1 := hw.sub ((hsd pw (by simp)).trans (hs2.sub (a := sd) (by simp)))
  have h2 := h2.grow (hs2.sub (a := p') (by simp))
  refine xcall (names_A h2 hk) ?_
  rintro _ m2 ⟨vm, pm, rfl, hs3, hvm⟩
  conv => whnf
  rw [hN] at hvm
  have hsub : Sub m1 m2 := hs3.sub (by simp)
  have h2 := h2.grow hsub
  have hn1 := hn1.sub hsub
  have hw1 := hw1.sub hsub
  have hsm := hsm.trans hsub
  have hvm := hvm.sl.sub (hs3.sub (a := pm) (by simp))
  obtain ⟨am, cm, rfl⟩ := hvm.shape
  clear hs3 hsub hs2 back hs1 hsd hs h
  refine ⟨fun h => absurd h (by (simp at h)), fun _ => ?_⟩
  conv => whnf
  refine .mk (ι := Nat) (fun i => N.length - i) (fun i mm => i ≤ N.length ∧ Sub m2 mm)
    (fun i => [(7, .c (ptrB bf)), (10, .c (.v (.slice an N.length cn))), (16, .c (.v (.slice aw N.length cw))), (20, .c (.v (.slice am N.length cm))), (21, .c (i64 i))]) (fun _ => []) 0 ⟨by omega, Sub.refl _⟩ ?_ ?_
  · conv => whnf
    repeat (refine And.intro (by first | with_reducible rfl | exact congrArg (Value.int _) (wi (by omega) (by omega)) | exact wi (by omega) (by omega) | rfl) ?_; conv => whnf)
    first | exact trivial | exact fun _ _ h => h
  rintro i mm ⟨hi, hs⟩
  conv => whnf
  refine ⟨fun h1 => ?_, fun h1 => ?_⟩
  rotate_left
  · conv => whnf
    refine xcall (alive14_spec) ?_
    rintro _ m3 ⟨rfl, hs1⟩
    conv => whnf
    conv => whnf
    exact ⟨rfl, (hsm.trans hs).trans hs1⟩
  have hi1 : i < N.length := by have := of_decide_eq_true h1; omega
  clear h1
  obtain ⟨a, ha, hfa⟩ := file_some (A := A) (i := i) (by rw [hN]; exact hi1)
  simp only [hN] at hfa
  obtain ⟨b1, o1, c1, e, g1⟩ := hn1.real hi1
  cases e
  obtain ⟨b2, o2, c2, e, g2⟩ := hvm.real hi1
  cases e
  obtain ⟨b3, o3, c3, e, g3⟩ := hw1.real (i := i) (by rw [List.length_map]; exact hi1)
  rw [List.length_map] at e
  cases e
  have g1 := g1 i hi1
  have g2 := g2 i hi1
  have g3 := g3 i (by rw [List.length_map]; exact hi1)
  rw [List.getElem_map] at g3
  generalize N[i] = name at g1 g2 g3 hfa
  conv => whnf
  repeat (refine And.intro (by first | omega | (simp only [times]; omega)) ?_; conv => whnf)
  refine ⟨_, by simp only [times, Int.toNat_natCast, Nat.mul_one]; exact mcell_sub g1 hs, rfl, ?_⟩
  conv => whnf
  refine xcall (read_A (name := name) (h2.grow hs) hk) ?_
  rintro _ m4 ⟨vr, pr, rfl, hs4, hvr⟩
  conv => whnf
  rw [hfa] at hvr
  simp only [Option.map_some, Option.getD_some] at hvr
  have hs5 : Sub m2 m4 := hs.trans (hs4.sub (by simp))
  have hvr := hvr.lb.sub (hs4.sub (a := pr) (by simp))
  obtain ⟨ar, cr, rfl⟩ := hvr.shape
  rw [nc_len] at hvr ⊢
  have htx : txt A name = strOf (nc a.l) := by rw [txt, hfa]; rfl
  repeat (refine And.intro (by first | omega | (simp only [times]; omega)) ?_; conv => whnf)
  refine ⟨_, by simp only [times, Int.toNat_natCast, Nat.mul_one]; exact mcell_sub g2 hs5, rfl, ?_⟩
  conv => whnf
  repeat (refine And.intro (by first | omega | (simp only [times]; omega)) ?_; conv => whnf)
  refine ⟨_, by simp only [times, Int.toNat_natCast, Nat.mul_one]; exact mcell_sub g1 hs5, rfl, ?_⟩
  conv => whnf
  rcases Lb.own (l := nc a.l) hvr with ⟨c', e⟩ | ⟨a', c', e⟩
  · injection e with e1 he e3
    subst e1
    have he : a.l = [] := List.eq_nil_of_length_eq_zero he
    rw [he] at htx
    refine ⟨fun h => absurd h (by (simp at h)), fun _ => ?_⟩
    conv => whnf
    repeat (refine And.intro (by first | omega | (simp only [times]; omega)) ?_; conv => whnf)
    refine ⟨_, by simp only [times, Int.toNat_natCast, Nat.mul_one]; exact mcell_sub g3 hs5, rfl, ?_⟩
    conv => whnf
    refine ⟨fun h => absurd h (by (rw [htx] at h; simp [nc, strOf_nil] at h)), fun _ => ?_⟩
    conv => whnf
    refine ⟨i + 1, ⟨by omega, hs5⟩, by first | omega | (simp only; omega), ?_⟩
    conv => whnf
    repeat (refine And.intro (by first | with_reducible rfl | (first | exact congrArg (Value.int _) (iadd1 (by omega))) | exact congrArg (Value.int _) (wi (by omega) (by omega)) | exact wi (by omega) (by omega) | rfl) ?_; conv => whnf)
    first | exact trivial | exact fun _ _ h => h
  injection e with e1 _ e3
  subst e1
  by_cases he : a.l = []
  · rw [he] at htx
    refine ⟨fun h => absurd h (by (simp at h)), fun _ => ?_⟩
    conv => whnf
    refine .inl ⟨by rw [he]; rfl, ?_⟩
    conv => whnf
    repeat (refine And.intro (by first | omega | (simp only [times]; omega)) ?_; conv => whnf)
    refine ⟨_, by simp only [times, Int.toNat_natCast, Nat.mul_one]; exact mcell_sub g3 hs5, rfl, ?_⟩
    conv => whnf
    refine ⟨fun h => absurd h (by (rw [htx] at h; simp [nc, strOf_nil] at h)), fun _ => ?_⟩
    conv => whnf
    refine ⟨i + 1, ⟨by omega, hs5⟩, by first | omega | (simp only; omega), ?_⟩
    conv => whnf
    repeat (refine And.intro (by first | with_reducible rfl | (first | exact congrArg (Value.int _) (iadd1 (by omega))) | exact congrArg (Value.int _) (wi (by omega) (by omega)) | exact wi (by omega) (by omega) | rfl) ?_; conv => whnf)
    first | exact trivial | exact fun _ _ h => h
  · obtain ⟨b4, o4, c4, e⟩ := Lb.real (l := nc a.l) hvr (by intro e; apply he; have := congrArg List.length e; rw [nc_len] at this; exact List.eq_nil_of_length_eq_zero this)
    injection e with e1 _ e3
    injection e1 with e1
    subst e1
    refine ⟨fun h => absurd h (by (simp at h)), fun _ => ?_⟩
    conv => whnf
    refine .inr ⟨nc a.l, by rw [nc_len], _, _, rfl, Lb.range (l := nc a.l) hvr, ?_⟩
    conv => whnf
    repeat (refine And.intro (by first | omega | (simp only [times]; omega)) ?_; conv => whnf)
    refine ⟨_, by simp only [times, Int.toNat_natCast, Nat.mul_one]; exact mcell_sub g3 hs5, rfl, ?_⟩
    conv => whnf
    refine ⟨fun h => absurd h (by (rw [htx] at h; simp at h)), fun _ => ?_⟩
    conv => whnf
    refine ⟨i + 1, ⟨by omega, hs5⟩, by first | omega | (simp only; omega), ?_⟩
    conv => whnf
    repeat (refine And.intro (by first | with_reducible rfl | (first | exact congrArg (Value.int _) (iadd1 (by omega))) | exact congrArg (Value.int _) (wi (by omega) (by omega)) | exact wi (by omega) (by omega) | rfl) ?_; conv => whnf)
    first | exact trivial | exact fun _ _ h => h
end Go.E.Ytghdapflkhadoaa

/-
  Law FilesCrash, from the first crash on.
-/
namespace Go.E.Ytghdapflkhadoaa
open Go.Proofs
set_option maxRecDepth 100000
theorem strOf_size (l : List Int) : (strOf l).size = l.length := by
  have := congrArg List.length (strOf_data l)
  simpa [by8] using this
theorem strOf_cut (l : List Int) (n : Nat) : (strOf (l.take n)).toList = ((strOf l).extract 0 n).toList := by
  rw [ByteArray.toList_eq, ByteArray.toList_eq, ByteArray.data_extract, Array.toList_extract, strOf_data, strOf_data]
  simp [by8, List.map_take, List.extract]
def sfe (A : List Af) (name : ByteArray) : Int := ((((fileA A name).map (·.safe)).getD 0 : Nat) : Int)
set_option maxHeartbeats 8000000 in
theorem crash_tail2 {m mm ph ps p pn : Mem} {bf nb ns k : Nat} {q : Int} {A : List Af} {vt vl vn vh vs : Value} {last again : List Int} (hs : Split mm [p, ph, ps, pn, m]) (h : FA p bf q nb ns A) (hk : Sm k A nb ns) (hk1 : k < 1000)
    (ht : Ia m vt last) (htl : last.length ≤ 9223372036854775807) (htI : ∀ x ∈ last, -9223372036854775808 ≤ x ∧ x ≤ 9223372036854775807)
    (hv : Ia m vl again) (hll : again.length ≤ 9223372036854775807) (hI : ∀ x ∈ again, -9223372036854775808 ≤ x ∧ x ≤ 9223372036854775807)
    (hn : Sl pn vn (srtB (A.map (·.name)))) (hh : Sl ph vh ((srtB (A.map (·.name))).map (txt A))) (hsa : Il ps vs ((srtB (A.map (·.name))).map (sfe A))) :
    xwpY c4 (restAt 18 (bodyOf Try.f4)) (QRetY tt.get Try.f4.results.toList fun r m' => r = [boolV true] ∧ Sub m m')
      [(1, .c (.v vt)), (2, .c (.v vl)), (7, .c (ptrB bf)), (10, .c (.v vn)), (11, .c (.v vh)), (12, .c (.v vs))] [] mm [] := by
  have hA := h.safe
  obtain ⟨g, hg1, hg2⟩ := crash_map (last := last) hA
  have hgn : ∀ a ∈ A, (g a).name = a.name := fun a ha => (hg2 a ha).1.name
  have hNm : (crashA A last).map (·.name) = A.map (·.name) := by rw [hg1]; exact names_map hgn
  have hA1 : ∀ a ∈ crashA A last, a.safe = a.l.length := fun a ha => by
    rw [hg1] at ha
    obtain ⟨x, hx, rfl⟩ := List.mem_map.1 ha
    exact (hg2 x hx).2
  have hk2 : Sm (k + 1) (crashA A last) nb ns := hk.les (crash_les _ _) (by omega) hk1
  have hlN : (srtB (A.map (·.name))).length ≤ 1000 := by rw [(srtB_same _).length_eq, List.length_map]; have := hk.n; have := hk.k; omega
  generalize hN : srtB (A.map (·.name)) = N at hn hh hsa hlN
  obtain ⟨at', ct, rfl⟩ := ht.shape
  obtain ⟨al, cl, rfl⟩ := hv.shape
  obtain ⟨an, cn, rfl⟩ := hn.shape
  obtain ⟨ah, ch, rfl⟩ := hh.shape
  obtain ⟨az, cz, rfl⟩ := hsa.ia.shape
  rw [List.length_map] at hh hsa ⊢
  obtain ⟨sd, hsd, hs1, back⟩ := Split.pick1 hs
  conv => whnf
  refine .at ?_
  conv => whnf
  refine xcall (crash_A h hs1 hk (ht.sub (hsd m (by simp))) htl htI) ?_
  rintro _ m1 ⟨p', rfl, hs2, h2⟩
  conv => whnf
  rw [List.length_map]
  have hs2 := back _ _ hs2
  clear back hs1 hsd hs h
  conv => whnf
  refine .mk (ι := Nat × Value) (fun i => N.length - i.1) (fun ⟨i, vw⟩ mm => i ≤ N.length ∧ ∃ pw, Split mm [pw, p', ph, ps, pn, m] ∧ So pw vw ((N.take i).map (txt (crashA A last))))
    (fun ⟨i, vw⟩ => [(2, .c (.v (.slice al again.length cl))), (7, .c (ptrB bf)), (10, .c (.v (.slice an N.length cn))), (11, .c (.v (.slice ah N.length ch))), (12, .c (.v (.slice az N.length cz))), (16, .c (.v vw)), (17, .c (i64 i))]) (fun _ => []) (0, .slice none 0 0) ⟨by omega, emp, hs2.addEmp, So.nil _⟩ ?_ ?_
  · conv => whnf
    repeat (refine And.intro (by first | with_reducible rfl | exact congrArg (Value.int _) (wi (by omega) (by omega)) | exact wi (by omega) (by omega) | rfl) ?_; conv => whnf)
    first | exact trivial | exact fun _ _ h => h
  rintro ⟨i, vw⟩ mm ⟨hi, pw, hs, hw⟩
  have hm : ∀ {x : Mem}, x ∈ [pw, p', ph, ps, pn, m] → Sub x mm := fun hx => hs.sub hx
  conv => whnf
  refine ⟨fun h1 => ?_, fun h1 => ?_⟩
  rotate_left
  · have : i = N.length := by have := of_decide_eq_false h1; omega
    subst this
    rw [List.take_length] at hw
    have hs3 : Split mm [p', pw, pn, m] := by
      have a1 := hs.perm (l' := [ph, ps, p', pw, pn, m]) (by
        refine (List.Perm.cons _ (List.Perm.swap _ _ _)).trans ?_
        refine (List.Perm.swap _ _ _).trans (List.Perm.cons _ ?_)
        refine (List.Perm.cons _ (List.Perm.swap _ _ _)).trans ?_
        refine (List.Perm.swap _ _ _).trans (List.Perm.cons _ ?_)
        exact List.Perm.swap _ _ _)
      exact a1.drop.drop
    have tl := crash_tail3 (again := again) (vl := .slice al again.length cl) hs3 h2 hk2 hA1 hv hll hI (by rw [hNm, hN]; exact hn) (by rw [hNm, hN]; exact hw.sl)
    conv at tl => whnf
    conv => whnf
    refine .via _ _ ?_ tl
    conv => whnf
    repeat (refine And.intro (by first | with_reducible rfl | exact congrArg (Value.int _) (wi (by omega) (by omega)) | exact wi (by omega) (by omega) | rfl) ?_; conv => whnf)
    first | exact trivial | exact fun _ _ h => h
  have hi1 : i < N.length := by have := of_decide_eq_true h1; omega
  clear h1
  obtain ⟨a, ha, hfa⟩ := file_some (A := A) (i := i) (by rw [hN]; exact hi1)
  simp only [hN] at hfa
  obtain ⟨b1, o1, c1, e, g1⟩ := (hn.sub (hm (x := pn) (by simp))).real hi1
  cases e
  obtain ⟨b2, o2, c2, e, g2⟩ := (hh.sub (hm (x := ph) (by simp))).real (i := i) (by rw [List.length_map]; exact hi1)
  rw [List.length_map] at e
  cases e
  obtain ⟨b3, o3, c3, e, g3⟩ := (hsa.sub (hm (x := ps) (by simp))).real (i := i) (by rw [List.length_map]; exact hi1)
  rw [List.length_map] at e
  cases e
  have g1 := g1 i hi1
  have g2 := g2 i (by rw [List.length_map]; exact hi1)
  have g3 := g3 i (by rw [List.length_map]; exact hi1)
  rw [List.getElem_map] at g2 g3
  have htk : N.take (i + 1) = N.take i ++ [N[i]] := by rw [List.take_succ_eq_append_getElem hi1]
  generalize N[i] = name at g1 g2 g3 hfa htk
  have hfb : fileA (crashA A last) name = some (g a) := by rw [hg1, file_map hgn, hfa]; rfl
  obtain ⟨hcr, hall⟩ := hg2 a ha
  have hlen := hcr.len
  have hlo := hcr.lo
  have h500 := hk.l a ha
  have hkk := hk.k
  have e2 : txt A name = strOf (nc a.l) := by rw [txt, hfa]; rfl
  have e3 : sfe A name = (a.safe : Int) := by rw [sfe, hfa]; rfl
  have e4 : txt (crashA A last) name = strOf (nc (g a).l) := by rw [txt, hfb]; rfl
  rw [e2] at g2
  rw [e3] at g3
  generalize g a = b at hfb hcr hall hlen hlo e4
  conv => whnf
  repeat (refine And.intro (by first | omega | (simp only [times]; omega)) ?_; conv => whnf)
  refine ⟨_, by simp only [times, Int.toNat_natCast, Nat.mul_one]; exact g1, rfl, ?_⟩
  conv => whnf
  refine xcall (read_A (name := name) (h2.grow (hm (by simp))) hk2) ?_
  rintro _ m4 ⟨vr, pr, rfl, hs4, hvr⟩
  conv => whnf
  rw [hfb] at hvr
  simp only [Option.map_some, Option.getD_some] at hvr
  have er : errA (crashA A last) name = 0 := by rw [errA, hfb]; rfl
  rw [er]
  have hs5 : Sub mm m4 := hs4.sub (by simp)
  have hvr := hvr.lb.sub (hs4.sub (a := pr) (by simp))
  obtain ⟨ar, cr, rfl⟩ := hvr.shape
  rw [nc_len] at hvr ⊢
  have hsz : ((strOf (nc a.l)).size : Int) = a.l.length := by rw [strOf_size, nc_len]
  have htk2 : N.take i ++ [name] = N.take (i + 1) := htk.symm
  have hs6 := Split.grow hs hs5
  have hli : ((N.take i).map (txt (crashA A last))).length ≤ 10000000 := by rw [List.length_map, List.length_take]; omega
  refine ⟨fun h => absurd h (by (simp at h)), fun _ => ?_⟩
  conv => whnf
  repeat (refine And.intro (by first | omega | (simp only [times]; omega)) ?_; conv => whnf)
  refine ⟨_, by simp only [times, Int.toNat_natCast, Nat.mul_one]; exact mcell_sub g3 hs5, rfl, ?_⟩
  conv => whnf
  refine ⟨fun h => absurd h (by (have := of_decide_eq_true h; omega)), fun _ => ?_⟩
  conv => whnf
  repeat (refine And.intro (by first | omega | (simp only [times]; omega)) ?_; conv => whnf)
  refine ⟨_, by simp only [times, Int.toNat_natCast, Nat.mul_one]; exact mcell_sub g2 hs5, rfl, ?_⟩
  conv => whnf
  have hpre : (strOf (nc b.l)).toList = ((strOf (nc a.l)).extract 0 b.l.length).toList := by
    rw [← strOf_cut]
    have : nc b.l = (nc a.l).take b.l.length := by
      conv => lhs; rw [hcr.pre]
      simp [nc, List.map_take]
    rw [← this]
  rcases Lb.own (l := nc b.l) hvr with ⟨c', e⟩ | ⟨a', c', e⟩
  · injection e with e1 he e3'
    subst e1
    have he : b.l = [] := List.eq_nil_of_length_eq_zero he
    have h0 : strOf (nc b.l) = ByteArray.empty := by rw [he]; rfl
    rw [h0] at hpre e4
    refine ⟨fun h => absurd h (by (have := of_decide_eq_true h; omega)), fun _ => ?_⟩
    conv => whnf
    conv => whnf
    repeat (refine And.intro (by first | omega | (simp only [times]; omega)) ?_; conv => whnf)
    refine ⟨_, by simp only [times, Int.toNat_natCast, Nat.mul_one]; exact mcell_sub g2 hs5, rfl, ?_⟩
    conv => whnf
    refine ⟨by omega, ?_⟩
    conv => whnf
    refine ⟨fun h => absurd h (by (rw [Int.toNat_natCast, ← hpre] at h; simp at h)), fun _ => ?_⟩
    conv => whnf
    repeat (refine And.intro (by first | omega | (simp only [times]; omega)) ?_; conv => whnf)
    refine ⟨_, by simp only [times, Int.toNat_natCast, Nat.mul_one]; exact mcell_sub g1 hs5, rfl, ?_⟩
    conv => whnf
    first | refine xretk (safe_A (name := name) (h2.grow ((hm (x := p') (by simp)).trans hs5))) ?_ | refine xret (safe_A (name := name) (h2.grow ((hm (x := p') (by simp)).trans hs5))) ?_
    conv => whnf
    rw [hfb]
    refine ⟨fun h => absurd h (by (rw [Option.map_some, Option.getD_some, hall] at h; simp at h)), fun _ => ?_⟩
    conv => whnf
    conv => whnf
    refine .mk _ (buildS1) ?_
    rintro _ _ ⟨bn, hbn, rfl, rfl⟩
    conv => whnf
    refine .mk _ (pushS (i := 0) hs6 rfl hbn hw hli) ?_
    rintro _ m' ⟨v', p'', rfl, hs7, hw7⟩
    conv => whnf
    refine ⟨(i + 1, v'), ⟨by omega, p'', hs7, by rw [htk, List.map_append, List.map_singleton, e4]; exact hw7⟩, by first | omega | (simp only; omega), ?_⟩
    conv => whnf
    repeat (refine And.intro (by first | with_reducible rfl | (first | exact congrArg (Value.int _) (iadd1 (by omega))) | exact congrArg (Value.int _) (wi (by omega) (by omega)) | exact wi (by omega) (by omega) | rfl) ?_; conv => whnf)
    first | exact trivial | exact fun _ _ h => h
  injection e with e1 _ e3'
  subst e1
  by_cases he : b.l = []
  · have h0 : strOf (nc b.l) = ByteArray.empty := by rw [he]; rfl
    rw [h0] at hpre e4
    refine ⟨fun h => absurd h (by (have := of_decide_eq_true h; omega)), fun _ => ?_⟩
    conv => whnf
    refine .inl ⟨by rw [he]; rfl, ?_⟩
    conv => whnf
    repeat (refine And.intro (by first | omega | (simp only [times]; omega)) ?_; conv => whnf)
    refine ⟨_, by simp only [times, Int.toNat_natCast, Nat.mul_one]; exact mcell_sub g2 hs5, rfl, ?_⟩
    conv => whnf
    refine ⟨by omega, ?_⟩
    conv => whnf
    refine ⟨fun h => absurd h (by (rw [Int.toNat_natCast, ← hpre] at h; simp at h)), fun _ => ?_⟩
    conv => whnf
    repeat (refine And.intro (by first | omega | (simp only [times]; omega)) ?_; conv => whnf)
    refine ⟨_, by simp only [times, Int.toNat_natCast, Nat.mul_one]; exact mcell_sub g1 hs5, rfl, ?_⟩
    conv => whnf
    first | refine xretk (safe_A (name := name) (h2.grow ((hm (x := p') (by simp)).trans hs5))) ?_ | refine xret (safe_A (name := name) (h2.grow ((hm (x := p') (by simp)).trans hs5))) ?_
    conv => whnf
    rw [hfb]
    refine ⟨fun h => absurd h (by (rw [Option.map_some, Option.getD_some, hall] at h; simp at h)), fun _ => ?_⟩
    conv => whnf
    refine .inl ⟨by rw [he]; rfl, ?_⟩
    conv => whnf
    refine .mk _ (buildS1) ?_
    rintro _ _ ⟨bn, hbn, rfl, rfl⟩
    conv => whnf
    refine .mk _ (pushS (i := 0) hs6 rfl hbn hw hli) ?_
    rintro _ m' ⟨v', p'', rfl, hs7, hw7⟩
    conv => whnf
    refine ⟨(i + 1, v'), ⟨by omega, p'', hs7, by rw [htk, List.map_append, List.map_singleton, e4]; exact hw7⟩, by first | omega | (simp only; omega), ?_⟩
    conv => whnf
    repeat (refine And.intro (by first | with_reducible rfl | (first | exact congrArg (Value.int _) (iadd1 (by omega))) | exact congrArg (Value.int _) (wi (by omega) (by omega)) | exact wi (by omega) (by omega) | rfl) ?_; conv => whnf)
    first | exact trivial | exact fun _ _ h => h
  · obtain ⟨b4, o4, c4, e⟩ := Lb.real (l := nc b.l) hvr (by intro e; apply he; have := congrArg List.length e; rw [nc_len] at this; exact List.eq_nil_of_length_eq_zero this)
    injection e with e1 _ e3'
    injection e1 with e1
    subst e1
    refine ⟨fun h => absurd h (by (have := of_decide_eq_true h; omega)), fun _ => ?_⟩
    conv => whnf
    refine .inr ⟨nc b.l, by rw [nc_len], _, _, rfl, Lb.range (l := nc b.l) hvr, ?_⟩
    conv => whnf
    repeat (refine And.intro (by first | omega | (simp only [times]; omega)) ?_; conv => whnf)
    refine ⟨_, by simp only [times, Int.toNat_natCast, Nat.mul_one]; exact mcell_sub g2 hs5, rfl, ?_⟩
    conv => whnf
    refine ⟨by omega, ?_⟩
    conv => whnf
    refine ⟨fun h => absurd h (by (rw [Int.toNat_natCast, ← hpre] at h; simp at h)), fun _ => ?_⟩
    conv => whnf
    repeat (refine And.intro (by first | omega | (simp only [times]; omega)) ?_; conv => whnf)
    refine ⟨_, by simp only [times, Int.toNat_natCast, Nat.mul_one]; exact mcell_sub g1 hs5, rfl, ?_⟩
    conv => whnf
    first | refine xretk (safe_A (name := name) (h2.grow ((hm (x := p') (by simp)).trans hs5))) ?_ | refine xret (safe_A (name := name) (h2.grow ((hm (x := p') (by simp)).trans hs5))) ?_
    conv => whnf
    rw [hfb]
    refine ⟨fun h => absurd h (by (rw [Option.map_some, Option.getD_some, hall] at h; simp at h)), fun _ => ?_⟩
    conv => whnf
    refine .inr ⟨nc b.l, by rw [nc_len], _, _, rfl, Lb.range (l := nc b.l) hvr, ?_⟩
    conv => whnf
    refine .mk _ (buildS1) ?_
    rintro _ _ ⟨bn, hbn, rfl, rfl⟩
    conv => whnf
    refine .mk _ (pushS (i := 0) hs6 rfl hbn hw hli) ?_
    rintro _ m' ⟨v', p'', rfl, hs7, hw7⟩
    conv => whnf
    refine ⟨(i + 1, v'), ⟨by omega, p'', hs7, by rw [htk, List.map_append, List.map_singleton, e4]; exact hw7⟩, by first | omega | (simp only; omega), ?_⟩
    conv => whnf
    repeat (refine And.intro (by first | with_reducible rfl | (first | exact congrArg (Value.int _) (iadd1 (by omega))) | exact congrArg (Value.int _) (wi (by omega) (by omega)) | exact wi (by omega) (by omega) | rfl) ?_; conv => whnf)
    first | exact trivial | exact fun _ _ h => h
end Go.E.Ytghdapflkhadoaa

/-
  Law FilesCrash, behind the ops.
-/
namespace Go.E.Ytghdapflkhadoaa
open Go.Proofs
set_option maxRecDepth 100000
theorem kept2 {p1 p2 mx my : Mem} {b1 b2 : Nat} {o1 o2 : Obj} {l : List Nat} (h1 : p1 b1 = some o1) (h2 : p2 b2 = some o2) (hx : Sub p1 mx) (hy : Sub p1 my) (kx : Sub p2 mx) (ky : Sub p2 my) (hl : ∀ x ∈ l, x = b1 ∨ x = b2) : Kept l mx my := fun x hx' => by
  rcases hl x hx' with rfl | rfl
  · rw [hx _ _ h1, hy _ _ h1]
  · rw [kx _ _ h2, ky _ _ h2]
set_option maxHeartbeats 8000000 in
theorem crash_tail1 {m mm p : Mem} {bf nb ns k : Nat} {q : Int} {A : List Af} {vt vl : Value} {last again : List Int} (hs : Split mm [p, m]) (h : FA p bf q nb ns A) (hk : Sm k A nb ns) (hk1 : k < 1000)
    (ht : Ia m vt last) (htl : last.length ≤ 9223372036854775807) (htI : ∀ x ∈ last, -9223372036854775808 ≤ x ∧ x ≤ 9223372036854775807)
    (hv : Ia m vl again) (hll : again.length ≤ 9223372036854775807) (hI : ∀ x ∈ again, -9223372036854775808 ≤ x ∧ x ≤ 9223372036854775807) :
    xwpY c4 (restAt 10 (bodyOf Try.f4)) (QRetY tt.get Try.f4.results.toList fun r m' => r = [boolV true] ∧ Sub m m')
      [(1, .c (.v vt)), (2, .c (.v vl)), (7, .c (ptrB bf))] [] mm [] := by
  have hlN : (srtB (A.map (·.name))).length ≤ 1000 := by rw [(srtB_same _).length_eq, List.length_map]; have := hk.n; have := hk.k; omega
  obtain ⟨at', ct, rfl⟩ := ht.shape
  obtain ⟨al, cl, rfl⟩ := hv.shape
  conv => whnf
  refine .at ?_
  conv => whnf
  refine xcall (names_A (h.grow (hs.sub (by simp))) hk) ?_
  rintro _ m1 ⟨vn, pn, rfl, hsn, hn⟩
  conv => whnf
  have hs : Split m1 [pn, p, m] := hsn.under (a := [pn]) hs
  generalize hN : srtB (A.map (·.name)) = N at hn hlN
  obtain ⟨an, cn, rfl⟩ := hn.sl.shape
  conv => whnf
  refine .mk (ι := Nat × Value × Value) (fun i => N.length - i.1) (fun ⟨i, vh, vs⟩ mm => i ≤ N.length ∧ ∃ ph ps, Split mm [ph, ps, pn, p, m] ∧ So ph vh ((N.take i).map (txt A)) ∧ Io ps vs ((N.take i).map (sfe A)))
    (fun ⟨i, vh, vs⟩ => [(1, .c (.v (.slice at' last.length ct))), (2, .c (.v (.slice al again.length cl))), (7, .c (ptrB bf)), (10, .c (.v (.slice an N.length cn))), (11, .c (.v vh)), (12, .c (.v vs)), (13, .c (i64 i))]) (fun _ => []) (0, .slice none 0 0, .slice none 0 0) ⟨by omega, emp, emp, hs.addEmp.addEmp, So.nil _, Io.nil _⟩ ?_ ?_
  · conv => whnf
    repeat (refine And.intro (by first | with_reducible rfl | exact congrArg (Value.int _) (wi (by omega) (by omega)) | exact wi (by omega) (by omega) | rfl) ?_; conv => whnf)
    first | exact trivial | exact fun _ _ h => h
  rintro ⟨i, vh, vs⟩ mm ⟨hi, ph, ps, hs, hh, hsa⟩
  have hm : ∀ {x : Mem}, x ∈ [ph, ps, pn, p, m] → Sub x mm := fun hx => hs.sub hx
  conv => whnf
  refine ⟨fun h1 => ?_, fun h1 => ?_⟩
  rotate_left
  · have : i = N.length := by have := of_decide_eq_false h1; omega
    subst this
    rw [List.take_length] at hh hsa
    have hs3 : Split mm [p, ph, ps, pn, m] := hs.perm (by
      refine (List.Perm.cons _ (List.Perm.cons _ (List.Perm.swap _ _ _))).trans ?_
      refine (List.Perm.cons _ (List.Perm.swap _ _ _)).trans ?_
      exact List.Perm.swap _ _ _)
    have tl := crash_tail2 (last := last) (again := again) (vt := .slice at' last.length ct) (vl := .slice al again.length cl) hs3 h hk hk1 ht htl htI hv hll hI (by rw [hN]; exact hn.sl) (by rw [hN]; exact hh.sl) (by rw [hN]; exact hsa.il)
    conv at tl => whnf
    conv => whnf
    refine .via _ _ ?_ tl
    conv => whnf
    repeat (refine And.intro (by first | with_reducible rfl | exact congrArg (Value.int _) (wi (by omega) (by omega)) | exact wi (by omega) (by omega) | rfl) ?_; conv => whnf)
    first | exact trivial | exact fun _ _ h => h
  have hi1 : i < N.length := by have := of_decide_eq_true h1; omega
  clear h1
  obtain ⟨a, ha, hfa⟩ := file_some (A := A) (i := i) (by rw [hN]; exact hi1)
  simp only [hN] at hfa
  obtain ⟨b1, o1, c1, e, g1⟩ := hn.sl.real hi1
  cases e
  have g1 := g1 i hi1
  have hob : ∃ ob, pn b1 = some ob := by
    cases hq : pn b1 with
    | some ob => exact ⟨_, rfl⟩
    | none => simp [mcell, hq] at g1
  obtain ⟨ob, hob⟩ := hob
  have g1 := mcell_sub g1 (hm (x := pn) (by simp))
  have htk : N.take (i + 1) = N.take i ++ [N[i]] := by rw [List.take_succ_eq_append_getElem hi1]
  generalize N[i] = name at g1 hfa htk
  have e2 : txt A name = strOf (nc a.l) := by rw [txt, hfa]; rfl
  have e3 : sfe A name = (a.safe : Int) := by rw [sfe, hfa]; rfl
  conv => whnf
  repeat (refine And.intro (by first | omega | (simp only [times]; omega)) ?_; conv => whnf)
  refine ⟨_, by simp only [times, Int.toNat_natCast, Nat.mul_one]; exact g1, rfl, ?_⟩
  conv => whnf
  refine xcall (read_A (name := name) (h.grow (hm (by simp))) hk) ?_
  rintro _ m4 ⟨vr, pr, rfl, hs4, hvr⟩
  conv => whnf
  rw [hfa] at hvr
  simp only [Option.map_some, Option.getD_some] at hvr
  have hs5 : Sub mm m4 := hs4.sub (by simp)
  have hvp := hvr.lb
  have hvr := hvr.lb.sub (hs4.sub (a := pr) (by simp))
  obtain ⟨ar, cr, rfl⟩ := hvr.shape
  rw [nc_len] at hvr ⊢
  have hs6 := Split.grow hs hs5
  have hli : ((N.take i).map (txt A)).length ≤ 10000000 := by rw [List.length_map, List.length_take]; omega
  have e5 : ((fileA A name).map (·.safe)).getD 0 = a.safe := by rw [hfa]; rfl
  have hli2 : ((N.take i).map (sfe A)).length + [(a.safe : Int)].length ≤ 1000000000 := by rw [List.length_map, List.length_take, List.length_singleton]; omega
  rcases Lb.own (l := nc a.l) hvr with ⟨c', e⟩ | ⟨a', c', e⟩
  · injection e with e1 he e3'
    subst e1
    have he : a.l = [] := List.eq_nil_of_length_eq_zero he
    have h0 : strOf (nc a.l) = ByteArray.empty := by rw [he]; rfl
    rw [h0] at e2
    conv => whnf
    repeat (refine And.intro (by first | omega | (simp only [times]; omega)) ?_; conv => whnf)
    refine ⟨_, by simp only [times, Int.toNat_natCast, Nat.mul_one]; exact mcell_sub g1 hs5, rfl, ?_⟩
    conv => whnf
    refine .mk _ (buildS1) ?_
    rintro _ _ ⟨bn, hbn, rfl, rfl⟩
    conv => whnf
    have hs7 := hs6.new hbn (.cells #[.string ByteArray.empty] 9)
    refine ⟨keptF hob (hs6.sub (by simp)) (hs7.sub (by simp)) (by simp), ?_⟩
    conv => whnf
    refine .mk _ (pushS (i := 0) hs6 rfl hbn hh hli) ?_
    rintro _ m' ⟨v8, ph8, rfl, hs8, hh8⟩
    conv => whnf
    have hs8 : Split _ [ph8, ps, pn, p, m] := hs8
    refine ⟨keptF hob (hs7.sub (by simp)) (hs8.sub (by simp)) (by simp), ?_⟩
    conv => whnf
    first | refine xretk (safe_A (name := name) (h.grow (hs8.sub (a := p) (by simp)))) ?_ | refine xret (safe_A (name := name) (h.grow (hs8.sub (a := p) (by simp)))) ?_
    conv => whnf
    rw [e5]
    refine .mk _ (buildI1) ?_
    rintro _ _ ⟨b9, hb9, rfl, rfl⟩
    conv => whnf
    have hs9 := hs8.new hb9 (.cells #[.int .i64 (a.safe : Int)] 3)
    first | (refine ⟨keptF hob (hs8.sub (by simp)) (hs9.sub (by simp)) (by simp), ?_⟩; conv => whnf) | skip
    refine .mk _ (appendIat (i := 2) hs9 rfl hsa (Il.blk1 (Mem.set_same ..)).ia hli2) ?_
    rintro _ m' ⟨v10, ps10, rfl, hs10, hsa10⟩
    conv => whnf
    have hs10 : Split _ [_, ph8, ps10, pn, p, m] := hs10
    have hs11 := hs10.drop
    first | (refine ⟨keptF hob (hs9.sub (by simp)) (hs11.sub (by simp)) (by simp), ?_⟩; conv => whnf) | skip
    refine ⟨(i + 1, v8, v10), ⟨by omega, ph8, ps10, hs11, by rw [htk, List.map_append, List.map_singleton, e2]; exact hh8, by rw [htk, List.map_append, List.map_singleton, e3]; exact hsa10⟩, by first | omega | (simp only; omega), ?_⟩
    conv => whnf
    repeat (refine And.intro (by first | with_reducible rfl | (first | exact congrArg (Value.int _) (iadd1 (by omega))) | exact congrArg (Value.int _) (wi (by omega) (by omega)) | exact wi (by omega) (by omega) | rfl) ?_; conv => whnf)
    first | exact trivial | exact fun _ _ h => h
  injection e with e1 _ e3'
  subst e1
  by_cases he : a.l = []
  · have h0 : strOf (nc a.l) = ByteArray.empty := by rw [he]; rfl
    rw [h0] at e2
    conv => whnf
    refine .inl ⟨by rw [he]; rfl, ?_⟩
    conv => whnf
    repeat (refine And.intro (by first | omega | (simp only [times]; omega)) ?_; conv => whnf)
    refine ⟨_, by simp only [times, Int.toNat_natCast, Nat.mul_one]; exact mcell_sub g1 hs5, rfl, ?_⟩
    conv => whnf
    refine .mk _ (buildS1) ?_
    rintro _ _ ⟨bn, hbn, rfl, rfl⟩
    conv => whnf
    have hs7 := hs6.new hbn (.cells #[.string ByteArray.empty] 9)
    refine ⟨keptF hob (hs6.sub (by simp)) (hs7.sub (by simp)) (by simp), ?_⟩
    conv => whnf
    refine .mk _ (pushS (i := 0) hs6 rfl hbn hh hli) ?_
    rintro _ m' ⟨v8, ph8, rfl, hs8, hh8⟩
    conv => whnf
    have hs8 : Split _ [ph8, ps, pn, p, m] := hs8
    refine ⟨keptF hob (hs7.sub (by simp)) (hs8.sub (by simp)) (by simp), ?_⟩
    conv => whnf
    first | refine xretk (safe_A (name := name) (h.grow (hs8.sub (a := p) (by simp)))) ?_ | refine xret (safe_A (name := name) (h.grow (hs8.sub (a := p) (by simp)))) ?_
    conv => whnf
    rw [e5]
    refine .mk _ (buildI1) ?_
    rintro _ _ ⟨b9, hb9, rfl, rfl⟩
    conv => whnf
    have hs9 := hs8.new hb9 (.cells #[.int .i64 (a.safe : Int)] 3)
    first | (refine ⟨keptF hob (hs8.sub (by simp)) (hs9.sub (by simp)) (by simp), ?_⟩; conv => whnf) | skip
    refine .mk _ (appendIat (i := 2) hs9 rfl hsa (Il.blk1 (Mem.set_same ..)).ia hli2) ?_
    rintro _ m' ⟨v10, ps10, rfl, hs10, hsa10⟩
    conv => whnf
    have hs10 : Split _ [_, ph8, ps10, pn, p, m] := hs10
    have hs11 := hs10.drop
    first | (refine ⟨keptF hob (hs9.sub (by simp)) (hs11.sub (by simp)) (by simp), ?_⟩; conv => whnf) | skip
    refine ⟨(i + 1, v8, v10), ⟨by omega, ph8, ps10, hs11, by rw [htk, List.map_append, List.map_singleton, e2]; exact hh8, by rw [htk, List.map_append, List.map_singleton, e3]; exact hsa10⟩, by first | omega | (simp only; omega), ?_⟩
    conv => whnf
    repeat (refine And.intro (by first | with_reducible rfl | (first | exact congrArg (Value.int _) (iadd1 (by omega))) | exact congrArg (Value.int _) (wi (by omega) (by omega)) | exact wi (by omega) (by omega) | rfl) ?_; conv => whnf)
    first | exact trivial | exact fun _ _ h => h
  · obtain ⟨b4, o4, c4, e⟩ := Lb.real (l := nc a.l) hvr (by intro e; apply he; have := congrArg List.length e; rw [nc_len] at this; exact List.eq_nil_of_length_eq_zero this)
    injection e with e1 _ e3'
    injection e1 with e1
    subst e1
    have hs6 : Split m4 [pr, ph, ps, pn, p, m] := hs4.under (a := [pr]) hs
    have hob4 : ∃ ob, pr b4 = some ob := by
      rcases hvp with ⟨c', e, _⟩ | ⟨b, o, c, n, arr, t, fr, e, h1, _⟩
      · cases e
      · injection e with e; injection e with e; injection e with e; subst e; exact ⟨_, h1⟩
    obtain ⟨ob4, hob4⟩ := hob4
    conv => whnf
    refine .inr ⟨nc a.l, by rw [nc_len], _, _, rfl, Lb.range (l := nc a.l) hvr, ?_⟩
    conv => whnf
    repeat (refine And.intro (by first | omega | (simp only [times]; omega)) ?_; conv => whnf)
    refine ⟨_, by simp only [times, Int.toNat_natCast, Nat.mul_one]; exact mcell_sub g1 hs5, rfl, ?_⟩
    conv => whnf
    refine .mk _ (buildS1) ?_
    rintro _ _ ⟨bn, hbn, rfl, rfl⟩
    conv => whnf
    have hs7 := hs6.new hbn (.cells #[.string (strOf (nc a.l))] 9)
    refine ⟨kept2 hob hob4 (hs6.sub (by simp)) (hs7.sub (by simp)) (hs6.sub (by simp)) (hs7.sub (by simp)) (by simp), ?_⟩
    conv => whnf
    refine .mk _ (pushS (i := 1) hs6 rfl hbn hh hli) ?_
    rintro _ m' ⟨v8, ph8, rfl, hs8, hh8⟩
    conv => whnf
    have hs8 : Split _ [pr, ph8, ps, pn, p, m] := hs8
    refine ⟨kept2 hob hob4 (hs7.sub (by simp)) (hs8.sub (by simp)) (hs7.sub (by simp)) (hs8.sub (by simp)) (by simp), ?_⟩
    conv => whnf
    first | refine xretk (safe_A (name := name) (h.grow (hs8.sub (a := p) (by simp)))) ?_ | refine xret (safe_A (name := name) (h.grow (hs8.sub (a := p) (by simp)))) ?_
    conv => whnf
    rw [e5]
    refine .mk _ (buildI1) ?_
    rintro _ _ ⟨b9, hb9, rfl, rfl⟩
    conv => whnf
    have hs9 := hs8.new hb9 (.cells #[.int .i64 (a.safe : Int)] 3)
    first | (refine ⟨kept2 hob hob4 (hs8.sub (by simp)) (hs9.sub (by simp)) (hs8.sub (by simp)) (hs9.sub (by simp)) (by simp), ?_⟩; conv => whnf) | skip
    refine .mk _ (appendIat (i := 3) hs9 rfl hsa (Il.blk1 (Mem.set_same ..)).ia hli2) ?_
    rintro _ m' ⟨v10, ps10, rfl, hs10, hsa10⟩
    conv => whnf
    have hs10 : Split _ [_, pr, ph8, ps10, pn, p, m] := hs10
    have hs11 := hs10.drop
    first | (refine ⟨kept2 hob hob4 (hs9.sub (by simp)) (hs11.sub (by simp)) (hs9.sub (by simp)) (hs11.sub (by simp)) (by simp), ?_⟩; conv => whnf) | skip
    refine ⟨(i + 1, v8, v10), ⟨by omega, ph8, ps10, hs11.drop, by rw [htk, List.map_append, List.map_singleton, e2]; exact hh8, by rw [htk, List.map_append, List.map_singleton, e3]; exact hsa10⟩, by first | omega | (simp only; omega), ?_⟩
    conv => whnf
    repeat (refine And.intro (by first | with_reducible rfl | (first | exact congrArg (Value.int _) (iadd1 (by omega))) | exact congrArg (Value.int _) (wi (by omega) (by omega)) | exact wi (by omega) (by omega) | rfl) ?_; conv => whnf)
    first | exact trivial | exact fun _ _ h => h
end Go.E.Ytghdapflkhadoaa

/-
  Law FilesCrash, whole: the ops.
-/
namespace Go.E.Ytghdapflkhadoaa
open Go.Proofs
set_option maxRecDepth 100000
set_option maxHeartbeats 8000000 in
theorem filesCrash_spec {m : Mem} {v vt vl : Value} {O : List Opr} {last again : List Int} (hv : Oa m v O) (hO : ∀ o ∈ O, o.Ok m) (hl : O.length ≤ 9223372036854775807)
    (ht : Ia m vt last) (htl : last.length ≤ 9223372036854775807) (htI : ∀ x ∈ last, -9223372036854775808 ≤ x ∧ x ≤ 9223372036854775807)
    (hg : Ia m vl again) (hll : again.length ≤ 9223372036854775807) (hI : ∀ x ∈ again, -9223372036854775808 ≤ x ∧ x ≤ 9223372036854775807) :
    Spec Try.prog 4 [.v v, .v vt, .v vl] m fun r m' => r = [boolV true] ∧ Sub m m' := by
  obtain ⟨a, c, rfl⟩ := hv.shape
  obtain ⟨at', ct, rfl⟩ := ht.shape
  obtain ⟨al, cl, rfl⟩ := hg.shape
  refine en4 rfl (goY ?_)
  conv => whnf
  refine xcall (new_spec (q := 0) (by decide)) ?_
  rintro _ m0 ⟨bf, p, rfl, hs, h⟩
  conv => whnf
  refine ⟨fun h => absurd h (by decide), fun _ => ?_⟩
  conv => whnf
  refine ⟨fun h => absurd h (by decide), fun _ => ?_⟩
  conv => whnf
  refine .mk (ι := Nat) (fun i => 60 - i) (fun i mm => i ≤ O.length ∧ i ≤ 60 ∧ ∃ p nb ns A, Split mm [p, m] ∧ FA p bf 0 nb ns A ∧ Sm i A nb ns)
    (fun i => [(0, .c (.v (.slice a O.length c))), (1, .c (.v (.slice at' last.length ct))), (2, .c (.v (.slice al again.length cl))), (7, .c (ptrB bf)), (9, .c (i64 i))]) (fun _ => []) 0 ⟨by omega, by omega, p, 0, 0, [], hs, h, .none⟩ ?_ ?_
  · conv => whnf
    repeat (refine And.intro (by first | with_reducible rfl | exact congrArg (Value.int _) (wi (by omega) (by omega)) | exact wi (by omega) (by omega) | rfl) ?_; conv => whnf)
    first | exact trivial | exact fun _ _ h => h
  rintro i mm ⟨hi, hi60, p, nb, ns, A, hs, h, hk⟩
  have hsm : Sub m mm := hs.sub (by simp)
  have fin := crash_tail1 (vt := .slice at' last.length ct) (vl := .slice al again.length cl) hs h hk (by omega) ht htl htI hg hll hI
  conv => whnf
  refine ⟨fun h1 => ?_, fun h1 => ?_⟩
  rotate_left
  · have tl := fin
    conv at tl => whnf
    conv => whnf
    refine .via _ _ ?_ tl
    conv => whnf
    repeat (refine And.intro (by first | with_reducible rfl | exact congrArg (Value.int _) (wi (by omega) (by omega)) | exact wi (by omega) (by omega) | rfl) ?_; conv => whnf)
    first | exact trivial | exact fun _ _ h => h
  have hi1 : i < O.length := by have := of_decide_eq_true h1; omega
  clear h1
  conv => whnf
  refine ⟨fun h1 => ?_, fun h1 => ?_⟩
  rotate_left
  · have tl := fin
    conv at tl => whnf
    conv => whnf
    refine .via _ _ ?_ tl
    conv => whnf
    repeat (refine And.intro (by first | with_reducible rfl | exact congrArg (Value.int _) (wi (by omega) (by omega)) | exact wi (by omega) (by omega) | rfl) ?_; conv => whnf)
    first | exact trivial | exact fun _ _ h => h
  have hi2 : i < 60 := by have := of_decide_eq_true h1; omega
  clear h1 fin
  conv => whnf
  obtain ⟨b, o, c', e, hgo⟩ := hv.real hi1
  cases e
  have hgi := hgo i hi1
  have hoi := hO O[i] (List.getElem_mem hi1)
  generalize ho : O[i] = op at hgi hoi
  repeat (refine And.intro (by first | omega | (simp only [times]; omega)) ?_; conv => whnf)
  refine ⟨[.one (.int .i64 op.kind), .one (.int .i64 op.n), .one (.string op.name), .one (.string op.to), .one (.slice op.ab op.b.length op.cb), .one (.slice op.al op.last.length op.cl)], ⟨rfl, rfl, rfl, rfl, rfl, rfl, trivial⟩, rfl, by simp only [times, Int.toNat_natCast]; exact hgi.sub hsm, ?_⟩
  conv => whnf
  refine xcall (great_spec (o := op) (hoi.sub hsm)) ?_
  rintro _ m1 ⟨gr, rfl, hs1, hsmall⟩
  conv => whnf
  refine ⟨fun h1 => ?_, fun h1 => ?_⟩
  · conv => whnf
    refine xcall (alive14_spec) ?_
    rintro _ m2 ⟨rfl, hs2⟩
    conv => whnf
    conv => whnf
    exact ⟨rfl, (hsm.trans hs1).trans hs2⟩
  have hsmall := hsmall h1
  clear h1
  have hs := Split.grow hs hs1
  have hsm := hsm.trans hs1
  conv => whnf
  repeat (refine And.intro (by first | omega | (simp only [times]; omega)) ?_; conv => whnf)
  refine ⟨[.one (.int .i64 op.kind), .one (.int .i64 op.n), .one (.string op.name), .one (.string op.to), .one (.slice op.ab op.b.length op.cb), .one (.slice op.al op.last.length op.cl)], ⟨rfl, rfl, rfl, rfl, rfl, rfl, trivial⟩, rfl, by simp only [times, Int.toNat_natCast]; exact hgi.sub hsm, ?_⟩
  conv => whnf
  refine xcall (play_spec (o := op) hoi hsmall h hs hk ⟨by decide, by decide⟩ (by omega)) ?_
  rintro _ m4 ⟨p, nb', ns', A', rfl, hs, hd⟩
  conv => whnf
  conv => whnf
  refine ⟨i + 1, ⟨by omega, by omega, p, _, _, _, hs, hd.fa, hd.sm⟩, by first | omega | (simp only; omega), ?_⟩
  conv => whnf
  repeat (refine And.intro (by first | with_reducible rfl | (first | exact congrArg (Value.int _) (iadd1 (by omega))) | exact congrArg (Value.int _) (wi (by omega) (by omega)) | exact wi (by omega) (by omega) | rfl) ?_; conv => whnf)
  first | exact trivial | exact fun _ _ h => h
end Go.E.Ytghdapflkhadoaa
