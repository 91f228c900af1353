/-
  Contracts of operations that make slices.
-/
import Derived.Test.YtkapdbbjgpofnaaE14
import Derived.Great.BuildSlice
namespace Go.E
section
variable {P : Program} {T : Tab}

def CV.cs : CV → List Value
  | .v x => [x]
  | .a c => LB.cells c
theorem CV.cs_val {x : CV} (h : x.ok) : x.val.cells = x.cs.toArray := by
  cases x with
  | v z => exact cells_one h
  | a c => rfl

theorem TOk.slice {t e : TypeId} {i : TI} (h : TOk P t i) (hk : i.k = .slice e) : P.underlying t = some (.slice e) := by
  obtain ⟨d, h1, h2⟩ := h.desc
  rw [hk] at h2
  cases d <;> simp [TK.of] at h2
  rw [h1, h2]

def fl (args : List CV) : List Value := (args.map CV.cs).flatten

theorem fill_dense {size : Nat} : ∀ (args : List CV) (k : Nat) (cells : Array Value), (∀ x ∈ args, x.ok) → (∀ x ∈ args, x.cs.length = size) → (k + args.length) * size ≤ cells.size →
    Instr.fill (fun i => some (i * size, size)) cells ((List.range' k args.length).zip (args.map CV.val)) = some (cells.toList.take (k * size) ++ (fl args ++ cells.toList.drop ((k + args.length) * size))).toArray
  | [], k, cells, _, _, _ => by simp [Instr.fill, fl]
  | x :: r, k, cells, h1, h2, h3 => by
    have hx := h1 x (by simp)
    have hl := h2 x (by simp)
    have hcv := CV.cs_val hx
    simp only [List.length_cons] at h3
    have h3' : k * size + size ≤ cells.size := by
      have : (k + (r.length + 1)) * size = k * size + size + r.length * size := by simp [Nat.add_mul]; omega
      omega
    simp only [List.length_cons, List.range'_succ, List.map_cons, List.zip_cons_cons]
    rw [fill_step (off := k * size) (size := size) rfl (by rw [hcv]; simpa using hl) (by rw [hcv]; simp [hl]; exact h3')]
    rw [laid_cells _ _ hcv _ _ (by rw [hl]; exact h3')]
    rw [fill_dense r (k + 1) _ (fun y hy => h1 y (by simp [hy])) (fun y hy => h2 y (by simp [hy])) (by simp [hl]; simp [Nat.add_mul] at h3 ⊢; omega)]
    congr 2
    have e1 : (k + 1) * size = k * size + size := by rw [Nat.add_mul, Nat.one_mul]
    have e2 : k + 1 + r.length = k + (r.length + 1) := by omega
    have ht : (List.take (k * size) cells.toList).length = k * size := by simp; omega
    simp only [fl, List.map_cons, List.flatten_cons, e1, e2]
    rw [List.take_append, ht, List.take_append, hl]
    rw [List.drop_append, ht, List.drop_append, hl]
    have d1 : List.take (k * size + size) (List.take (k * size) cells.toList) = List.take (k * size) cells.toList := by rw [List.take_take]; congr 1; omega
    have d2 : List.drop ((k + (r.length + 1)) * size) (List.take (k * size) cells.toList) = [] := by
      apply List.drop_eq_nil_of_le; rw [ht]; simp [Nat.add_mul]
    have d3 : k * size + size - k * size = size := by omega
    have d4 : List.take size x.cs = x.cs := by rw [← hl]; exact List.take_length
    have hge : k * size + size ≤ (k + (r.length + 1)) * size := by simp [Nat.add_mul]
    have d5 : List.drop ((k + (r.length + 1)) * size - k * size) x.cs = [] := by apply List.drop_eq_nil_of_le; rw [hl]; omega
    rw [d1, d2, d3, d4, d5, Nat.sub_self, List.take_zero, List.append_nil, List.nil_append, List.nil_append, List.drop_drop]
    have d6 : k * size + size + ((k + (r.length + 1)) * size - k * size - size) = (k + (r.length + 1)) * size := by omega
    rw [d6]
    simp [List.append_assoc]

/-- a slice literal all of whose parts are told, in order -/
theorem buildSlice_spec (hT : TabOk P T) {t e : TypeId} {ti ei : TI} (ht : T t = some ti) (hk : ti.k = .slice e) (he : T e = some ei) {n : Nat} {ix : List Nat} (hix : ix = List.range' 0 n) {args : List CV} (hn : args.length = n)
    (hsz : ∀ x ∈ args, x.cs.length = ei.size) (hb : n * ei.size ≤ 16777216) (hp : 0 < n * ei.size) {m : Mem} :
    PrimSpec P (.buildSlice t n ix) args m fun r m' => ∃ b, m b = none ∧ r = [.v (.slice (some ⟨b, 0, none⟩) n n)] ∧ m' = m.set b (.cells (fl args).toArray e) := by
  intro hok ty W hW
  obtain ⟨j, hj, hjs, _, z, hz, hzc⟩ := (hT e ei he).inf
  refine ⟨[.v (.slice (some ⟨W.heap.size, 0, none⟩) n n)], m.set W.heap.size (.cells (fl args).toArray e), W.alloc (.cells (fl args).toArray e), ?_, ?_, ⟨W.heap.size, hW.none (Nat.le_refl _), rfl, rfl⟩, (After.refl hW).alloc _⟩
  · subst hix
    simp only [Prim.run, resVal]
    subst hn
    refine run_buildSlice W t e _ _ _ j z ((hT t ti ht).slice hk) hj hz (by rw [hjs]; omega) (by rw [hjs]; omega) ?_
    rw [hjs]
    have := fill_dense args 0 ((Array.range (args.length * ei.size)).map (z.cells[· % z.cells.size]!)) hok hsz (by simp)
    simp only [CV.val]
    rw [this]
    congr 2
    simp
  · intro x hx
    simp at hx; subst hx; rfl
end
end Go.E
