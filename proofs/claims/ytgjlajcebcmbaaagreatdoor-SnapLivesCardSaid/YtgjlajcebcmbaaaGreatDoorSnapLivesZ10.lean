/-
  E16, E18, E24, FrameL, ByDat, ListsDat, FrameN, Lg1, Sn3, Fr3, Fr4, Fr6, E32, Fr7
-/
import Derived.Test.YtgjlajcebcmbaaaGreatDoorSnapLivesZ9
import Derived.ProofKit
import Derived.OpenShut
import Derived.ChangeArms
/-
  From a contract to a law's row: what arguments are that were read; that they read the same behind the call.
-/
namespace Go.E
open Go.ChangeShapes Go.WideShapes Go.RowKit

/-- a cell that was read: of the kind of z, and as such a cell may be -/
def KW : Value → Value → Prop
  | .int k _, .int k' n => k = k' ∧ (Lit.int k n).wf = true
  | .bool _, .bool _ => True
  | .string _, .string s => s.size ≤ maxLen
  | _, _ => False
def KWs : List Value → List Value → Prop
  | [], [] => True
  | z :: zs, x :: xs => KW z x ∧ KWs zs xs
  | _, _ => False
theorem KWs.length : ∀ {z x : List Value}, KWs z x → z.length = x.length
  | [], [], _ => rfl
  | _ :: _, _ :: _, h => by simp [KWs.length h.2]
  | [], _ :: _, h => h.elim
  | _ :: _, [], h => h.elim
theorem KWs.append : ∀ {z x z' x' : List Value}, KWs z x → KWs z' x' → KWs (z ++ z') (x ++ x')
  | [], [], _, _, _, h => h
  | _ :: _, _ :: _, _, _, h, h' => ⟨h.1, KWs.append h.2 h'⟩
  | [], _ :: _, _, _, h, _ => h.elim
  | _ :: _, [], _, _, h, _ => h.elim

section
variable {H : Type} {enc : TypeId × Value → H} {P : Program} {w : World} {base : Nat} {spare : Nat → Bool} {held : Bool}

theorem kws_items {D : Nat} {e : TypeId} {s : Nat} {z cs : List Value} (IH : ∀ i, goodB P D e ((z.drop (i * s)).take s) = true → KWs ((z.drop (i * s)).take s) ((cs.drop (i * s)).take s)) : ∀ (n k : Nat), (n + k) * s = z.length → cs.length = z.length →
    (∀ i, i < n + k → goodB P D e ((z.drop (i * s)).take s) = true) → KWs (z.drop (k * s)) (cs.drop (k * s))
  | 0, k, hl, hc, _ => by
    have h1 : z.drop (k * s) = [] := List.drop_eq_nil_of_le (by rw [← hl]; simp)
    have h2 : cs.drop (k * s) = [] := List.drop_eq_nil_of_le (by rw [hc, ← hl]; simp)
    rw [h1, h2]; trivial
  | n + 1, k, hl, hc, hg => by
    have ih := kws_items IH n (k + 1) (by rw [← hl]; congr 1; omega) hc (fun i hi => hg i (by omega))
    have := (IH k (hg k (by omega))).append ih
    have e1 : (k + 1) * s = k * s + s := by rw [Nat.add_mul, Nat.one_mul]
    rw [e1, ← List.drop_drop, ← List.drop_drop, List.take_append_drop, List.take_append_drop] at this
    exact this
theorem kws_fields {D : Nat} {z cs : List Value} (IH : ∀ (f : TypeId) (off : Nat), off + P.cellsOf f ≤ z.length → goodB P D f ((z.drop off).take (P.cellsOf f)) = true → (∃ fuel x, DataW.trod enc P w base spare held fuel f ((cs.drop off).take (P.cellsOf f)) = some x) → KWs ((z.drop off).take (P.cellsOf f)) ((cs.drop off).take (P.cellsOf f))) :
    ∀ (fs : List Field) (off : Nat), cs.length = z.length → goodF P (goodB P D) fs z off = true → (∀ f ∈ fs, ∃ fuel x, DataW.trod enc P w base spare held fuel f.type ((cs.drop f.offset).take (P.cellsOf f.type)) = some x) → KWs (z.drop off) (cs.drop off)
  | [], off, hc, hg, _ => by
    simp only [goodF, beq_iff_eq] at hg
    have h1 : z.drop off = [] := List.drop_eq_nil_of_le (by omega)
    have h2 : cs.drop off = [] := List.drop_eq_nil_of_le (by omega)
    rw [h1, h2]; trivial
  | f :: fs, off, hc, hg, ht => by
    simp only [goodF, Bool.and_eq_true, bne_iff_ne, ne_eq, beq_iff_eq] at hg
    obtain ⟨⟨⟨⟨_, ho⟩, hle⟩, hgf⟩, hr⟩ := hg
    have hle := of_decide_eq_true hle
    have h0 := ht f (by simp)
    rw [ho] at h0
    have := (IH f.type off hle hgf h0).append (kws_fields IH fs (off + P.cellsOf f.type) hc hr (fun f' hf => ht f' (by simp [hf])))
    rw [← List.drop_drop, ← List.drop_drop, List.take_append_drop, List.take_append_drop] at this
    exact this

theorem mapM_all {α β : Type} {f : α → Option β} : ∀ {l : List α} {r : List β}, l.mapM f = some r → ∀ x ∈ l, ∃ y, f x = some y
  | [], _, _, x, hx => by cases hx
  | a :: l, r, h, x, hx => by
    rw [List.mapM_cons] at h
    simp only [bind, Option.bind_eq_some_iff, pure, Option.some.injEq] at h
    obtain ⟨y, hy, ys, hys, _⟩ := h
    rcases List.mem_cons.1 hx with rfl | hx
    · exact ⟨y, hy⟩
    · exact mapM_all hys x hx

theorem trod_kw : ∀ (D : Nat) (t : TypeId) (z cs : List Value) (fuel : Nat) (x : DataW H × List MemPlace), goodB P D t z = true → z.length = P.cellsOf t → DataW.trod enc P w base spare held fuel t cs = some x → KWs z cs
  | 0, _, _, _, _, _, h, _, _ => by simp [goodB] at h
  | D + 1, t, z, cs, 0, x, h, hz, ht => by simp [DataW.trod] at ht
  | D + 1, t, z, cs, fuel + 1, x, h, hz, ht => by
    have IH := trod_kw D
    unfold goodB at h
    cases hu : P.underlying t with
    | none => simp [hu] at h
    | some kd =>
      rw [hu] at h
      cases kd with
      | bool =>
        simp only at h
        split at h
        · obtain ⟨b, rfl, _⟩ := DataW.trod_bool hu ht
          exact ⟨trivial, trivial⟩
        · cases h
      | int q =>
        simp only at h
        split at h
        · rename_i k' v
          have := kEq_eq h; subst this
          obtain ⟨n, rfl, _, hw⟩ := DataW.trod_int hu ht
          exact ⟨⟨rfl, hw⟩, trivial⟩
        · cases h
      | string =>
        simp only at h
        split at h
        · obtain ⟨s, rfl, _, hs⟩ := DataW.trod_string hu ht
          exact ⟨hs, trivial⟩
        · cases h
      | array n e =>
        simp only [Bool.and_eq_true, beq_iff_eq, List.all_eq_true, List.mem_range] at h
        obtain ⟨⟨hi, hlen⟩, hall⟩ := h
        obtain ⟨xs, k, hk, _, hl, hxl, hp⟩ := DataW.trod_array hu ht
        have := kws_items (P := P) (D := D) (e := e) (s := P.cellsOf e) (z := z) (cs := cs) (fun i hg => by
          by_cases hin : i < n
          · have hy := hp i hin
            rw [List.getElem?_eq_getElem (by omega)] at hy
            refine IH e _ _ k _ hg ?_ hy
            simp only [List.length_take, List.length_drop]
            have hle : i * P.cellsOf e + P.cellsOf e ≤ z.length := by
              rw [hlen, show i * P.cellsOf e + P.cellsOf e = (i + 1) * P.cellsOf e by rw [Nat.add_mul, Nat.one_mul]]
              exact Nat.mul_le_mul_right _ hin
            omega
          · have hge : z.length ≤ i * P.cellsOf e := by
              rw [hlen]; exact Nat.mul_le_mul_right _ (Nat.le_of_not_lt hin)
            rw [List.drop_eq_nil_of_le hge, List.drop_eq_nil_of_le (by omega)]
            simp [KWs]) n 0 (by simp; omega) (by omega) (fun i hi => hall i (by omega))
        simpa using this
      | struct fs =>
        simp only [Bool.and_eq_true, Bool.not_eq_true'] at h
        obtain ⟨_, hf⟩ := h
        obtain ⟨xs, k, hk, _, hl, hxl, hp⟩ := DataW.trod_struct hu ht
        have hfit : ∀ (f : TypeId) (off : Nat), off + P.cellsOf f ≤ z.length → goodB P D f ((z.drop off).take (P.cellsOf f)) = true → (∃ fuel x, DataW.trod enc P w base spare held fuel f ((cs.drop off).take (P.cellsOf f)) = some x) → KWs ((z.drop off).take (P.cellsOf f)) ((cs.drop off).take (P.cellsOf f)) := by
          intro f off hle hg ⟨fu, y, hy⟩
          exact IH f _ _ fu y hg (by simp only [List.length_take, List.length_drop]; omega) hy
        have := kws_fields hfit fs.toList 0 (by omega) hf (fun f hf' => by
          obtain ⟨i, hi, he⟩ := List.getElem_of_mem hf'
          have hy := hp i f (by rw [← Array.getElem?_toList, List.getElem?_eq_getElem hi, he])
          rw [List.getElem?_eq_getElem (by simp at hi; omega)] at hy
          exact ⟨k, _, hy⟩)
        simpa using this
      | _ => simp at h

def InLB : LB → LB → Prop
  | [], [] => True
  | .one z :: zs, .one x :: xs => KW z x ∧ InLB zs xs
  | .ints k n _ :: zs, .ints k' n' l :: xs => (k' = k ∧ n' = n ∧ l.length = n ∧ ∀ x ∈ l, (Lit.int k x).wf = true) ∧ InLB zs xs
  | _, _ => False
def plainLB : LB → Bool
  | [] => true
  | .one _ :: r => plainLB r
  | .ints _ _ _ :: r => plainLB r
  | .vals _ _ :: _ => false
theorem kws_ints {k : IntKind} : ∀ (l : List Int) (z' cs : List Value), KWs (l.map (Value.int k) ++ z') cs → ∃ (l' : List Int) (r : List Value), cs = l'.map (Value.int k) ++ r ∧ l'.length = l.length ∧ (∀ x ∈ l', (Lit.int k x).wf = true) ∧ KWs z' r
  | [], z', cs, h => ⟨[], cs, rfl, rfl, by simp, h⟩
  | a :: l, z', [], h => h.elim
  | a :: l, z', c :: cs, h => by
    obtain ⟨h1, h2⟩ := h
    obtain ⟨l', r, rfl, h3, h4, h5⟩ := kws_ints l z' cs h2
    cases c <;> simp only [KW] at h1
    obtain ⟨rfl, h1⟩ := h1
    rename_i n
    refine ⟨n :: l', r, rfl, by simp [h3], ?_, h5⟩
    intro x hx
    rcases List.mem_cons.1 hx with rfl | hx
    · exact h1
    · exact h4 x hx
theorem KW.one {z x : Value} (h : KW z x) : x.oneCell' = true := by
  cases z <;> cases x <;> simp only [KW] at h <;> rfl
theorem inLB_of : ∀ {z : LB} {cs : List Value}, plainLB z = true → LB.ok z → KWs (LB.cells z) cs → ∃ c, LB.cells c = cs ∧ LB.ok c ∧ InLB z c
  | [], [], _, _, _ => ⟨[], rfl, trivial, trivial⟩
  | [], _ :: _, _, _, h => h.elim
  | .one z :: zs, [], _, _, h => h.elim
  | .one z :: zs, x :: xs, hp, hz, h => by
    obtain ⟨h1, h2⟩ := h
    obtain ⟨c, rfl, hc, h3⟩ := inLB_of (z := zs) hp hz.2 h2
    exact ⟨.one x :: c, rfl, ⟨h1.one, hc⟩, h1, h3⟩
  | .ints k n l :: zs, cs, hp, hz, h => by
    obtain ⟨l', r, rfl, h1, h2, h3⟩ := kws_ints l (LB.cells zs) cs h
    obtain ⟨c, rfl, hc, h4⟩ := inLB_of (z := zs) hp hz.2 h3
    have hl : l.length = n := hz.1
    exact ⟨.ints k n l' :: c, rfl, ⟨(by show l'.length = n; omega), hc⟩, ⟨rfl, rfl, by omega, h2⟩, h4⟩
  | .vals _ _ :: _, _, hp, _, _ => by simp [plainLB] at hp

/-- an argument that is a struct or an array of plain cells -/
theorem open_flat {T : Tab} (hT : TabOk P T) {t : TypeId} {ti : TI} (ht : T t = some ti) (he : ti.eq = true) (hp : plainLB ti.zero = true) {r : Reach} {b0 : Nat} {v : Value} {d : DataW H} {ps : List MemPlace}
    (hval : Value.okWide P w r b0 t v) (hd : DataW.Trod enc P w base spare held t v d ps) : ∃ c, v = .agg (LB.cells c).toArray ∧ LB.ok c ∧ InLB ti.zero c := by
  have ho := hT t ti ht
  obtain ⟨ha, hg, _, hsz⟩ := ho.eqOk he
  obtain ⟨ds, hds, hk⟩ := ho.desc
  obtain ⟨j, hj, hjs, _, z, hz, hzc⟩ := ho.inf
  have hv : ∃ cs, v = .agg cs := by
    unfold Value.okWide at hval
    rw [← hk] at ha
    rw [hds] at hval
    cases ds <;> simp [TK.of, TK.agg] at ha <;> (obtain ⟨cs, h, _⟩ := hval; exact ⟨cs, h⟩)
  obtain ⟨cs, rfl⟩ := hv
  obtain ⟨fuel, hf⟩ := hd
  have hf' : DataW.trod enc P w base spare held fuel t cs.toList = some (d, ps) := hf
  have hlen : (LB.cells ti.zero).length = P.cellsOf t := by
    rw [hsz, ← hjs]; simp [Program.cellsOf, hj]
  obtain ⟨c, h1, h2, h3⟩ := inLB_of hp ho.zok (trod_kw 50 t _ _ fuel _ hg hlen hf')
  exact ⟨c, by rw [h1], h2, h3⟩

theorem trodAll_stays (hl : laidOutB P = true) {W W' : World} (hb : Below W.heap.size W W') {sp : Nat → Bool} : ∀ {ts : List TypeId} {vs : List Value} {ds : List (DataW H)} {ps : List MemPlace}, (∀ t ∈ ts, P.readableRec t = true ∧ t < P.types.size) →
    DataW.TrodAll enc P W 0 (fun _ => true) true ts vs ds ps → (∀ p ∈ ps, p.block < W.heap.size) → (∀ p ∈ ps, sp p.block = true) → DataW.TrodAll enc P W' 0 sp true ts vs ds ps
  | [], [], [], ps, _, h, _, _ => h
  | t :: ts, v :: vs, d :: ds, ps, hr, h, hlt, hs => by
    obtain ⟨p, q, h1, h2, rfl⟩ := h
    refine ⟨p, q, WideElems.Trod_stays hl (hr t (by simp)).1 (hr t (by simp)).2 h1 (fun x hx => hb.same (hlt x (by simp [hx]))) (fun x hx => hs x (by simp [hx])),
      trodAll_stays hl hb (fun t' ht' => hr t' (by simp [ht'])) h2 (fun x hx => hlt x (by simp [hx])) (fun x hx => hs x (by simp [hx])), rfl⟩
  | [], _ :: _, _, _, _, h, _, _ => h.elim
  | [], [], _ :: _, _, _, h, _, _ => h.elim
  | _ :: _, [], _, _, _, h, _, _ => h.elim
  | _ :: _, _ :: _, [], _, _, h, _, _ => h.elim

/-- THE LAW's ROW IS SHUT: it returned true, and below the heap's old size nothing has turned. -/
theorem lawPost (hl : laidOutB P = true) {f : Func} {s : ChangeSpec} {W W' : World} {args : Array Value} {ds gs : List (DataW H)} {before : List MemPlace} {tb : TypeId} (hvars : s.vars = [])
    (hfn : s.fn H (ds ++ gs) = { results := [.lit (.bool true)], args := ds }) (hres : f.resultTypes = #[tb]) (hbool : P.underlying tb = some .bool) (hread : f.params.toList.all (fun t => P.readableRec t && decide (t < P.types.size)) = true)
    (hW : DataW.Whole enc P f.params.toList s.vars false W args.toList ds gs before) (hb : Below W.heap.size W W') : s.post enc P f false true false false W args (.bool true) W' := by
  have hlt := hW.lt
  have hW' := hW
  obtain ⟨p, q, hA, hV, rfl, hfz, hnd⟩ := hW
  rw [hvars] at hV
  obtain ⟨rfl, rfl⟩ := trodVars_none hV
  have hread' : ∀ t ∈ f.params.toList, P.readableRec t = true ∧ t < P.types.size := fun t ht => by
    have := List.all_eq_true.1 hread t ht
    simpa using this
  have hA' : DataW.TrodAll enc P W' 0 (fun b => decide (b < W.heap.size)) true f.params.toList args.toList ds p :=
    trodAll_stays hl hb hread' hA (fun x hx => hlt x (by simp [hx])) (fun x hx => by simpa using hlt x (by simp [hx]))
  refine ⟨ds, [], p ++ [], [], p, [], hW', ?_, ?_, ?_, World.keptBut_mono (fun x hx => ⟨hx, .inr (.inl (by simpa using hx))⟩) (hb.frame _), fun h => by cases h⟩
  · rw [hfn, hres]
    exact trodAll_cons_mk (shut_bool hbool _) trodAll_mk0
  · rw [hfn]; exact hA'
  · rw [hfn, hvars]; rfl
end
end Go.E

/-
  What arguments that are slices of plain cells are.
-/
namespace Go.E
open Go.ChangeShapes Go.WideShapes Go.RowKit
section
variable {H : Type} {enc : TypeId × Value → H} {P : Program} {w : World} {base : Nat} {spare : Nat → Bool} {held : Bool}

theorem chunks_flat {α : Type} (l : List α) (s : Nat) : ∀ (n k : Nat), (k + n) * s ≤ l.length → ((List.range' k n).map (fun i => (l.drop (i * s)).take s)).flatten = (l.drop (k * s)).take (n * s)
  | 0, k, _ => by simp
  | n + 1, k, h => by
    have ih := chunks_flat l s n (k + 1) (by rw [show k + 1 + n = k + (n + 1) by omega]; exact h)
    simp only [List.range'_succ, List.map_cons, List.flatten_cons, ih]
    rw [show (n + 1) * s = s + n * s by rw [Nat.add_mul]; omega, show (k + 1) * s = k * s + s by rw [Nat.add_mul]; omega]
    rw [List.take_add, List.drop_drop]
/-- a slice whose elements are plain: each element's cells, as they were read -/
theorem open_slice {T : Tab} (hT : TabOk P T) {t e : TypeId} {ti ei : TI} (ht : T t = some ti) (hk : ti.k = .slice e) (he : T e = some ei) (hg : goodB P 50 e (LB.cells ei.zero) = true) (hsz : (LB.cells ei.zero).length = ei.size) (hpos : 0 < ei.size)
    (hall : ∀ z ∈ LB.cells ei.zero, ∀ x, KW z x → x.oneCell' = true) {r : Reach} {b0 : Nat} {v : Value} {d : DataW H} {ps : List MemPlace}
    (hval : Value.okWide P w r b0 t v) (hd : DataW.Trod enc P w base spare held t v d ps) :
    ∃ els : List (List Value), Lies (fun b => w.heap[b]?) ei.size v els.flatten ∧ lenV v = els.length ∧ (∀ c ∈ els, KWs (LB.cells ei.zero) c) ∧ els.length ≤ maxLen ∧ v.oneCell' = true := by
  have hsl := (hT t ti ht).slice hk
  obtain ⟨j, hj, hjs, _, z, hz, hzc⟩ := (hT e ei he).inf
  have hcell : P.cellsOf e = ei.size := by simp [Program.cellsOf, hj, hjs]
  obtain ⟨fuel, hf⟩ := hd
  have hvc : ∃ v', v = v' ∧ v.cells.toList = [v'] ∧ v.oneCell' = true := by
    unfold Value.okWide at hval
    rw [hsl] at hval
    simp only [Cell.okWide, hsl, Cell.ok] at hval
    cases v <;> simp at hval
    exact ⟨_, rfl, rfl, rfl⟩
  obtain ⟨v', rfl, hc1, hone⟩ := hvc
  have hf' : DataW.trod enc P w base spare held fuel t v.cells.toList = some (d, ps) := hf
  rw [hc1] at hf'
  rcases DataW.trod_slice hsl hf' with ⟨h0, _⟩ | ⟨a, len, cap, elems, rest, n, _, h0, _, hb, hl, hm, hlen, hel, _, _⟩
  · simp only [List.cons.injEq, and_true] at h0
    subst h0
    exact ⟨[], .inl ⟨0, rfl, rfl⟩, rfl, by simp, by simp, rfl⟩
  · simp only [List.cons.injEq, and_true] at h0
    subst h0
    have hw : w.has P r b0 a e cap := by
      unfold Value.okWide at hval
      rw [hsl] at hval
      simp only [Cell.okWide, hsl, Cell.ok] at hval
      exact hval.2.2
    obtain ⟨_, hspot, row, cells, hshape, _⟩ := hw
    obtain ⟨b, o, spot⟩ := a
    simp only at hspot
    subst hspot
    have hblk : ∃ arr t' fr, w.heap[b]? = some (.cells arr t' fr) := by
      unfold World.shape? at hshape
      simp only at hshape
      cases hx : w.heap[b]? with
      | none => simp [hx] at hshape
      | some ob => cases ob <;> simp [hx] at hshape <;> exact ⟨_, _, _, rfl⟩
    obtain ⟨arr, t', fr, harr⟩ := hblk
    rw [hcell] at hel
    have each : ∀ i, i < len → ∃ cs y, KWs (LB.cells ei.zero) cs ∧ cs = ((arr.toList.drop o).drop (i * ei.size)).take ei.size ∧ DataW.trod enc P w base spare held n e cs = some y ∧ o + i * ei.size + ei.size ≤ arr.size := by
      intro i hi
      have h1 := hel i hi
      have h2 : ∃ y, elems[i]? = some y := ⟨elems[i]'(by omega), by simp [show i < elems.length by omega]⟩
      obtain ⟨y, hy⟩ := h2
      rw [hy, Option.bind_eq_some_iff] at h1
      obtain ⟨cs, g1, g2⟩ := h1
      obtain ⟨_, g3, g4⟩ := World.cells?_some g1
      have g5 : ∀ k, k < ei.size → arr[o + i * ei.size + k]? = cs[k]? := by
        intro k hk'
        have := g4 k hk'
        rw [add_none, add_none, cell_at harr] at this
        exact this
      have hlast : o + i * ei.size + ei.size ≤ arr.size := by
        have := g5 (ei.size - 1) (by omega)
        rw [List.getElem?_eq_getElem (by omega)] at this
        have := (Array.getElem?_eq_some_iff.1 this).1
        omega
      refine ⟨cs, y, trod_kw 50 e _ _ n _ hg (by rw [hsz, hcell]) g2, ?_, g2, hlast⟩
      apply List.ext_getElem?
      intro k
      by_cases hk' : k < ei.size
      · rw [← g5 k hk', List.getElem?_take, if_pos hk', List.getElem?_drop, List.getElem?_drop, Array.getElem?_toList]
        congr 1; omega
      · rw [List.getElem?_eq_none (by omega), List.getElem?_eq_none (by simp; omega)]
    have hbound : len * ei.size ≤ (arr.toList.drop o).length ∨ len = 0 := by
      by_cases h0 : len = 0
      · exact .inr h0
      · obtain ⟨_, _, _, _, _, g⟩ := each (len - 1) (by omega)
        left
        have : len * ei.size = (len - 1) * ei.size + ei.size := by
          rw [← Nat.succ_mul]; congr 1; omega
        simp
        omega
    have hflat := chunks_flat (arr.toList.drop o) ei.size len 0 (by
      rw [Nat.zero_add]
      rcases hbound with h | h
      · exact h
      · rw [h]; simp)
    refine ⟨(List.range' 0 len).map (fun i => ((arr.toList.drop o).drop (i * ei.size)).take ei.size), .inr ⟨b, o, cap, len, arr, t', fr, rfl, harr, ?_, hl, ?_, ?_⟩, by simp [lenV], ?_, by simp; omega, rfl⟩
    · rw [hflat]
      simp only [Nat.zero_mul, List.drop_zero, List.length_take]
      rcases hbound with h | h
      · omega
      · rw [h]; simp
    · intro j' u hu
      rw [hflat] at hu
      simp only [Nat.zero_mul, List.drop_zero, List.getElem?_take] at hu
      split at hu
      · rw [List.getElem?_drop, Array.getElem?_toList] at hu; exact hu
      · simp at hu
    · intro u hu
      obtain ⟨c, hc, huc⟩ := List.mem_flatten.1 hu
      obtain ⟨i, hi, rfl⟩ := List.mem_map.1 hc
      simp at hi
      obtain ⟨cs, y, k1, k2, _⟩ := each i hi
      rw [← k2] at huc
      have : ∀ (zs cs : List Value), KWs zs cs → (∀ z ∈ zs, ∀ x, KW z x → x.oneCell' = true) → ∀ u ∈ cs, u.oneCell' = true := by
        intro zs
        induction zs with
        | nil => intro cs h _ u hu; cases cs with
          | nil => simp at hu
          | cons => exact h.elim
        | cons z zs ih => intro cs h h' u hu; cases cs with
          | nil => exact h.elim
          | cons c cs =>
            rcases List.mem_cons.1 hu with rfl | hu
            · exact h' z (by simp) _ h.1
            · exact ih cs h.2 (fun z hz => h' z (by simp [hz])) u hu
      exact this _ _ k1 hall u huc
    · intro c hc
      obtain ⟨i, hi, rfl⟩ := List.mem_map.1 hc
      simp at hi
      obtain ⟨cs, y, k1, k2, _⟩ := each i hi
      rw [← k2]; exact k1
/-- numbers -/
theorem kws_one {k : IntKind} {c : List Value} {z : Int} (h : KWs [.int k z] c) : ∃ n, c = [.int k n] ∧ (Lit.int k n).wf = true := by
  match c, h with
  | [.int k' n], h => obtain ⟨⟨rfl, h⟩, _⟩ := h; exact ⟨n, rfl, h⟩
theorem els_ints {k : IntKind} {z : Int} : ∀ {els : List (List Value)}, (∀ c ∈ els, KWs [.int k z] c) → ∃ l : List Int, els.flatten = l.map (Value.int k) ∧ l.length = els.length ∧ ∀ n ∈ l, (Lit.int k n).wf = true
  | [], _ => ⟨[], rfl, rfl, by simp⟩
  | c :: els, h => by
    obtain ⟨n, rfl, hn⟩ := kws_one (h c (by simp))
    obtain ⟨l, h1, h2, h3⟩ := els_ints (els := els) (fun c hc => h c (by simp [hc]))
    refine ⟨n :: l, by simp [h1], by simp [h2], ?_⟩
    intro x hx
    rcases List.mem_cons.1 hx with rfl | hx
    · exact hn
    · exact h3 x hx
theorem els_vecs {k : IntKind} {z : List Int} : ∀ {els : List (List Value)}, (∀ c ∈ els, KWs (z.map (Value.int k)) c) → ∃ ls : List (List Int), els = ls.map (fun l => l.map (Value.int k)) ∧ ∀ l ∈ ls, l.length = z.length ∧ ∀ n ∈ l, (Lit.int k n).wf = true
  | [], _ => ⟨[], rfl, by simp⟩
  | c :: els, h => by
    have hc := h c (by simp)
    obtain ⟨l', r, h1, h2, h3, h4⟩ := kws_ints z [] c (by simpa using hc)
    have hr : r = [] := by cases r with
      | nil => rfl
      | cons => exact h4.elim
    subst hr
    obtain ⟨ls, g1, g2⟩ := els_vecs (els := els) (fun c hc => h c (by simp [hc]))
    refine ⟨l' :: ls, by simp [h1, g1], ?_⟩
    intro x hx
    rcases List.mem_cons.1 hx with rfl | hx
    · exact ⟨h2, h3⟩
    · exact g2 x hx
end
end Go.E

/-
  What arguments are that were read, by their shapes: numbers, texts, structs, arrays, and slices of these, as deep as they go.
-/
namespace Go.E
open Go.ChangeShapes Go.WideShapes Go.RowKit

inductive Sh where
  | int (k : IntKind)
  | bool
  | str
  | slice (e : Sh)
  | unit
  | pair (a b : Sh)
  | rep (n : Nat) (e : Sh)
def Sh.size : Sh → Nat
  | .unit => 0
  | .pair a b => a.size + b.size
  | .rep n e => n * e.size
  | _ => 1
def Dat (m : Mem) : Sh → List Value → Prop
  | .int k, cs => ∃ n, cs = [.int k n] ∧ (Lit.int k n).wf = true
  | .bool, cs => ∃ b, cs = [.bool b]
  | .str, cs => ∃ s, cs = [.string s] ∧ s.size ≤ maxLen
  | .slice e, cs => ∃ (v : Value) (els : List (List Value)), cs = [v] ∧ (Lies m e.size v els.flatten ∨ (els = [] ∧ ∃ a, v = .slice (some a) 0 0)) ∧ lenV v = els.length ∧ (∀ c ∈ els, Dat m e c) ∧ els.length ≤ maxLen
  | .unit, cs => cs = []
  | .pair a b, cs => ∃ x y, cs = x ++ y ∧ Dat m a x ∧ Dat m b y
  | .rep n e, cs => ∃ els : List (List Value), cs = els.flatten ∧ els.length = n ∧ ∀ c ∈ els, Dat m e c
def intB : Option TypeDesc → IntKind → Bool
  | some (.int k), q => kEq k q
  | _, _ => false
/-- is it the type's shape? and: are these fields, from an offset on? -/
def chk (P : Program) : Sh → (TypeId → Bool) × (List Field → Nat → Bool)
  | .int k => (fun t => intB (P.underlying t) k, fun _ _ => false)
  | .bool => (fun t => match P.underlying t with | some .bool => true | _ => false, fun _ _ => false)
  | .str => (fun t => match P.underlying t with | some .string => true | _ => false, fun _ _ => false)
  | .slice e => (fun t => match P.underlying t with | some (.slice et) => (chk P e).1 et && (P.cellsOf et == e.size && Nat.blt 0 e.size) | _ => false, fun _ _ => false)
  | .unit => (fun _ => false, fun fs _ => fs.isEmpty)
  | .pair a b =>
    let F : List Field → Nat → Bool := fun fs off => match fs with
      | f :: fs => f.offset == off && ((chk P a).1 f.type && (P.cellsOf f.type == a.size && (chk P b).2 fs (off + a.size)))
      | [] => false
    (fun t => match P.underlying t with | some (.struct fs) => P.cellsOf t == a.size + b.size && F fs.toList 0 | _ => false, F)
  | .rep n e => (fun t => match P.underlying t with | some (.array k et) => Nat.beq k n && ((chk P e).1 et && (P.cellsOf et == e.size && P.cellsOf t == n * e.size)) | _ => false, fun _ _ => false)

section
variable {H : Type} {enc : TypeId × Value → H} {P : Program} {w : World} {base : Nat} {spare : Nat → Bool} {held : Bool}
theorem Dat.one {m : Mem} : ∀ {sh : Sh} {cs : List Value}, Dat m sh cs → ∀ u ∈ cs, u.oneCell' = true
  | .int k, cs, h, u, hu => by obtain ⟨n, rfl, _⟩ := h; simp at hu; subst hu; rfl
  | .bool, cs, h, u, hu => by obtain ⟨n, rfl⟩ := h; simp at hu; subst hu; rfl
  | .str, cs, h, u, hu => by obtain ⟨n, rfl, _⟩ := h; simp at hu; subst hu; rfl
  | .slice e, cs, h, u, hu => by
    obtain ⟨v, els, rfl, h1, _⟩ := h
    simp at hu; subst hu
    rcases h1 with h1 | ⟨_, a, rfl⟩
    · exact h1.one
    · rfl
  | .unit, cs, h, u, hu => by simp only [Dat] at h; subst h; cases hu
  | .pair a b, cs, h, u, hu => by
    obtain ⟨x, y, rfl, h1, h2⟩ := h
    rcases List.mem_append.1 hu with hu | hu
    · exact Dat.one h1 u hu
    · exact Dat.one h2 u hu
  | .rep n e, cs, h, u, hu => by
    obtain ⟨els, rfl, _, h1⟩ := h
    obtain ⟨c, hc, huc⟩ := List.mem_flatten.1 hu
    exact Dat.one (h1 c hc) u huc
theorem flat_len {els : List (List Value)} {s : Nat} (h : ∀ c ∈ els, c.length = s) : els.flatten.length = els.length * s := by
  induction els with
  | nil => simp
  | cons a els ih =>
    simp only [List.flatten_cons, List.length_append, List.length_cons]
    rw [ih (fun c hc => h c (by simp [hc])), h a (by simp), Nat.add_mul]; omega
theorem Dat.length {m : Mem} : ∀ {sh : Sh} {cs : List Value}, Dat m sh cs → cs.length = sh.size
  | .int k, cs, h => by obtain ⟨n, rfl, _⟩ := h; rfl
  | .bool, cs, h => by obtain ⟨n, rfl⟩ := h; rfl
  | .str, cs, h => by obtain ⟨n, rfl, _⟩ := h; rfl
  | .slice e, cs, h => by obtain ⟨v, els, rfl, _⟩ := h; rfl
  | .unit, cs, h => by simp only [Dat] at h; subst h; rfl
  | .pair a b, cs, h => by
    obtain ⟨x, y, rfl, h1, h2⟩ := h
    simp only [List.length_append, Sh.size, Dat.length h1, Dat.length h2]
  | .rep n e, cs, h => by
    obtain ⟨els, rfl, h2, h1⟩ := h
    rw [flat_len (fun c hc => Dat.length (h1 c hc)), h2]; rfl

theorem chunk_list {α : Type} (l : List α) (s n : Nat) (h : l.length = n * s) : ((List.range' 0 n).map (fun i => (l.drop (i * s)).take s)).flatten = l := by
  rw [chunks_flat l s n 0 (by rw [Nat.zero_add, h]; exact Nat.le_refl _)]
  simp [← h]
theorem cell_some {a : Addr} {v : Value} (h : w.cell? a = some v) : ∃ b o arr t fr, a = ⟨b, o, none⟩ ∧ w.heap[b]? = some (.cells arr t fr) ∧ arr[o]? = some v := by
  obtain ⟨b, o, sp⟩ := a
  unfold World.cell? at h
  simp only at h
  split at h
  · rename_i arr t fr hb
    cases sp with
    | some _ => simp at h
    | none => exact ⟨b, o, arr, t, fr, rfl, hb, by simpa using h⟩
  · cases h
theorem add_zero (a : Addr) : a.add 0 = a := by simp [Addr.add]
/-- THE OPENING -/
theorem trod_dat (hsp : ∀ b, spare b = true) : ∀ (sh : Sh), (∀ (t : TypeId) (cs : List Value) (fuel : Nat) (x : DataW H × List MemPlace), (chk P sh).1 t = true → DataW.trod enc P w base spare held fuel t cs = some x → Dat (fun b => w.heap[b]?) sh cs) ∧
    (∀ (fs : List Field) (off : Nat) (cs : List Value), (chk P sh).2 fs off = true → cs.length = off + sh.size → (∀ f ∈ fs, ∃ fuel x, DataW.trod enc P w base spare held fuel f.type ((cs.drop f.offset).take (P.cellsOf f.type)) = some x) → Dat (fun b => w.heap[b]?) sh (cs.drop off)) := by
  intro sh
  induction sh with
  | int k =>
    refine ⟨fun t cs fuel x h ht => ?_, fun fs off cs h => by simp [chk] at h⟩
    simp only [chk] at h
    cases hu : P.underlying t with
    | none => rw [hu] at h; cases h
    | some d =>
      rw [hu] at h
      cases d <;> simp only [intB] at h <;> try cases h
      rename_i q
      have := kEq_eq h; subst this
      obtain ⟨n, rfl, _, hw⟩ := DataW.trod_int hu ht
      exact ⟨n, rfl, hw⟩
  | bool =>
    refine ⟨fun t cs fuel x h ht => ?_, fun fs off cs h => by simp [chk] at h⟩
    simp only [chk] at h
    split at h
    · rename_i hu; obtain ⟨b, rfl, _⟩ := DataW.trod_bool hu ht; exact ⟨b, rfl⟩
    · cases h
  | str =>
    refine ⟨fun t cs fuel x h ht => ?_, fun fs off cs h => by simp [chk] at h⟩
    simp only [chk] at h
    split at h
    · rename_i hu; obtain ⟨s, rfl, _, hs⟩ := DataW.trod_string hu ht; exact ⟨s, rfl, hs⟩
    · cases h
  | unit =>
    refine ⟨fun t cs fuel x h ht => by simp [chk] at h, fun fs off cs h hl _ => ?_⟩
    simp only [Sh.size] at hl
    exact List.drop_eq_nil_of_le (by omega)
  | pair a b iha ihb =>
    have F : ∀ (fs : List Field) (off : Nat) (cs : List Value), (chk P (.pair a b)).2 fs off = true → cs.length = off + (Sh.pair a b).size → (∀ f ∈ fs, ∃ fuel x, DataW.trod enc P w base spare held fuel f.type ((cs.drop f.offset).take (P.cellsOf f.type)) = some x) → Dat (fun b => w.heap[b]?) (.pair a b) (cs.drop off) := by
      intro fs off cs h hl hf
      cases fs with
      | nil => simp [chk] at h
      | cons f fs =>
        simp only [chk, Bool.and_eq_true, beq_iff_eq] at h
        obtain ⟨ho, h1, h2, h3⟩ := h
        simp only [Sh.size] at hl
        obtain ⟨fu, x, hx⟩ := hf f (by simp)
        rw [ho, h2] at hx
        refine ⟨(cs.drop off).take a.size, cs.drop (off + a.size), ?_, iha.1 _ _ _ _ h1 hx, ihb.2 fs (off + a.size) cs h3 (by omega) (fun g hg => hf g (by simp [hg]))⟩
        rw [← List.drop_drop, List.take_append_drop]
    refine ⟨fun t cs fuel x h ht => ?_, F⟩
    have h' : (match P.underlying t with | some (.struct fs) => P.cellsOf t == a.size + b.size && (chk P (.pair a b)).2 fs.toList 0 | _ => false) = true := h
    split at h'
    · rename_i fs hu
      simp only [Bool.and_eq_true, beq_iff_eq] at h'
      obtain ⟨xs, k, hk, _, hl, hxl, hp⟩ := DataW.trod_struct hu ht
      have := F fs.toList 0 cs h'.2 (by simp only [Sh.size]; omega) (fun f hf => by
        obtain ⟨i, hi, he⟩ := List.getElem_of_mem hf
        have hy := hp i f (by rw [← Array.getElem?_toList, List.getElem?_eq_getElem hi, he])
        rw [List.getElem?_eq_getElem (by simp at hi; omega)] at hy
        exact ⟨k, _, hy⟩)
      simpa using this
    · cases h'
  | rep n e ih =>
    refine ⟨fun t cs fuel x h ht => ?_, fun fs off cs h => by simp [chk] at h⟩
    simp only [chk] at h
    split at h
    · rename_i k et hu
      simp only [Bool.and_eq_true, beq_iff_eq] at h
      obtain ⟨hkn, h1, h2, h3⟩ := h
      have hkn := Nat.eq_of_beq_eq_true hkn
      subst hkn
      obtain ⟨xs, fu, hfu, _, hl, hxl, hp⟩ := DataW.trod_array hu ht
      rw [h2] at hp
      refine ⟨(List.range' 0 k).map (fun i => (cs.drop (i * e.size)).take e.size), (chunk_list cs e.size k (by omega)).symm, by simp, ?_⟩
      intro c hc
      obtain ⟨i, hi, rfl⟩ := List.mem_map.1 hc
      simp at hi
      have hy := hp i hi
      rw [List.getElem?_eq_getElem (by omega)] at hy
      exact ih.1 _ _ _ _ h1 hy
    · cases h
  | slice e ih =>
    refine ⟨fun t cs fuel x h ht => ?_, fun fs off cs h => by simp [chk] at h⟩
    simp only [chk] at h
    split at h
    · rename_i et hu
      simp only [Bool.and_eq_true, beq_iff_eq] at h
      obtain ⟨h1, h2, h3⟩ := h
      have hpos : 0 < e.size := by rw [Nat.blt_eq] at h3; exact h3
      rcases DataW.trod_slice hu ht with ⟨rfl, _⟩ | ⟨a, len, cap, elems, rest, n, _, rfl, _, hb, hl, hm, hlen, hel, hrest, _⟩
      · exact ⟨_, [], rfl, .inl (.inl ⟨0, rfl, rfl⟩), rfl, by simp, by simp⟩
      · rw [h2] at hel hrest
        have first : ∀ i, (∃ cs y, (w.cells? base (a.add (i * e.size)) e.size).bind (DataW.trod enc P w base spare held n et) = some y ∧ cs = y) → ∃ cs y, w.cells? base (a.add (i * e.size)) e.size = some cs ∧ DataW.trod enc P w base spare held n et cs = some y := by
          rintro i ⟨_, y, hy, _⟩
          rw [Option.bind_eq_some_iff] at hy
          obtain ⟨cs, g1, g2⟩ := hy
          exact ⟨cs, y, g1, g2⟩
        have hel' : ∀ i, i < len → ∃ cs y, w.cells? base (a.add (i * e.size)) e.size = some cs ∧ DataW.trod enc P w base spare held n et cs = some y := by
          intro i hi
          have := hel i hi
          rw [List.getElem?_eq_getElem (by omega)] at this
          exact first i ⟨_, _, this, rfl⟩
        have hblk : cap = 0 ∨ ∃ b o arr t fr, a = ⟨b, o, none⟩ ∧ w.heap[b]? = some (.cells arr t fr) := by
          by_cases hc : cap = 0
          · exact .inl hc
          · right
            have : ∃ cs y, w.cells? base (a.add (0 * e.size)) e.size = some cs ∧ DataW.trod enc P w base spare held n et cs = some y := by
              by_cases hl0 : len = 0
              · obtain ⟨hr1, hr2⟩ := hrest (hsp _)
                have h0 := hr2 0 (by omega)
                obtain ⟨z, hz⟩ : ∃ z, rest[0]? = some z := ⟨_, List.getElem?_eq_getElem (by omega)⟩
                rw [hz, hl0] at h0
                exact first 0 ⟨_, _, h0, rfl⟩
              · exact hel' 0 (by omega)
            obtain ⟨cs, y, g1, _⟩ := this
            obtain ⟨_, g3, g4⟩ := World.cells?_some g1
            have := g4 0 hpos
            rw [Nat.zero_mul, add_zero, add_zero, List.getElem?_eq_getElem (by omega)] at this
            obtain ⟨b, o, arr, t, fr, e1, e2, _⟩ := cell_some this
            exact ⟨b, o, arr, t, fr, e1, e2⟩
        rcases hblk with rfl | ⟨b, o, arr, t', fr, rfl, harr⟩
        · obtain rfl : len = 0 := by omega
          exact ⟨_, [], rfl, .inr ⟨rfl, a, rfl⟩, rfl, by simp, by simp⟩
        · have each : ∀ i, i < len → ∃ cs y, cs = ((arr.toList.drop o).drop (i * e.size)).take e.size ∧ DataW.trod enc P w base spare held n et cs = some y ∧ o + i * e.size + e.size ≤ arr.size := by
            intro i hi
            obtain ⟨cs, y, g1, g2⟩ := hel' i hi
            obtain ⟨_, g3, g4⟩ := World.cells?_some g1
            have g5 : ∀ k, k < e.size → arr[o + i * e.size + k]? = cs[k]? := by
              intro k hk'
              have := g4 k hk'
              rw [add_none, add_none, cell_at harr] at this
              exact this
            have hlast : o + i * e.size + e.size ≤ arr.size := by
              have := g5 (e.size - 1) (by omega)
              rw [List.getElem?_eq_getElem (by omega)] at this
              have := (Array.getElem?_eq_some_iff.1 this).1
              omega
            refine ⟨cs, y, ?_, g2, hlast⟩
            apply List.ext_getElem?
            intro k
            by_cases hk' : k < e.size
            · rw [← g5 k hk', List.getElem?_take, if_pos hk', List.getElem?_drop, List.getElem?_drop, Array.getElem?_toList]
              congr 1; omega
            · rw [List.getElem?_eq_none (by omega), List.getElem?_eq_none (by simp; omega)]
          have hbound : len * e.size ≤ (arr.toList.drop o).length ∨ len = 0 := by
            by_cases h0 : len = 0
            · exact .inr h0
            · obtain ⟨_, _, _, _, g⟩ := each (len - 1) (by omega)
              left
              have : len * e.size = (len - 1) * e.size + e.size := by
                rw [← Nat.succ_mul]; congr 1; omega
              simp
              omega
          have hflat := chunks_flat (arr.toList.drop o) e.size len 0 (by
            rw [Nat.zero_add]
            rcases hbound with h | h
            · exact h
            · rw [h]; simp)
          have hdat : ∀ c ∈ (List.range' 0 len).map (fun i => ((arr.toList.drop o).drop (i * e.size)).take e.size), Dat (fun b => w.heap[b]?) e c := by
            intro c hc
            obtain ⟨i, hi, rfl⟩ := List.mem_map.1 hc
            simp at hi
            obtain ⟨cs, y, k1, k2, _⟩ := each i hi
            rw [← k1]
            exact ih.1 _ _ _ _ h1 k2
          refine ⟨_, (List.range' 0 len).map (fun i => ((arr.toList.drop o).drop (i * e.size)).take e.size), rfl, .inl (.inr ⟨b, o, cap, len, arr, t', fr, rfl, harr, ?_, hl, ?_, ?_⟩), by simp [lenV], hdat, by simp; omega⟩
          · rw [flat_len (fun c hc => (hdat c hc).length)]; simp
          · intro j' u hu
            rw [hflat] at hu
            simp only [Nat.zero_mul, List.drop_zero, List.getElem?_take] at hu
            split at hu
            · rw [List.getElem?_drop, Array.getElem?_toList] at hu; exact hu
            · simp at hu
          · intro u hu
            obtain ⟨c, hc, huc⟩ := List.mem_flatten.1 hu
            exact (hdat c hc).one u huc
    · cases h
theorem flat_at : ∀ {els : List (List Value)} {s i j : Nat} {c : List Value} {u : Value}, (∀ c ∈ els, c.length = s) → els[i]? = some c → c[j]? = some u → els.flatten[i * s + j]? = some u
  | [], _, _, _, _, _, _, hi, _ => by simp at hi
  | a :: els, s, 0, j, c, u, hl, hi, hj => by
    simp at hi; subst hi
    have := (List.getElem?_eq_some_iff.1 hj).1
    rw [Nat.zero_mul, Nat.zero_add, List.flatten_cons, List.getElem?_append_left this]; exact hj
  | a :: els, s, i + 1, j, c, u, hl, hi, hj => by
    have ha := hl a (by simp)
    have ih := flat_at (els := els) (s := s) (fun c hc => hl c (by simp [hc])) (by simpa using hi) hj
    rw [List.flatten_cons, List.getElem?_append_right (by rw [ha, Nat.add_mul]; omega), ha, show (i + 1) * s + j - s = i * s + j by rw [Nat.add_mul]; omega]
    exact ih
/-- an element of a slice of equal parts -/
theorem Lies.elem {m : Mem} {s : Nat} {v : Value} {els : List (List Value)} (h : Lies m s v els.flatten) (hl : ∀ c ∈ els, c.length = s) (hp : 0 < s) (hv : lenV v = els.length) {i : Nat} (hi : i < els.length) :
    ∃ b o c, v = .slice (some ⟨b, o, none⟩) els.length c ∧ ∀ i c, els[i]? = some c → MRange m b (o + i * s) c := by
  rcases h with ⟨c, rfl, h⟩ | ⟨b, o, c, n, arr, t, fr, rfl, h1, h2, h3, h4, h5⟩
  · simp [lenV] at hv; omega
  · simp only [lenV] at hv; subst hv
    refine ⟨b, o, c, rfl, fun i c hc => ⟨arr, t, fr, h1, fun j u hu => ?_⟩⟩
    have := h4 _ u (flat_at hl hc hu)
    rw [show o + i * s + j = o + (i * s + j) by omega]; exact this
theorem dat_ints {m : Mem} {k : IntKind} {n : Nat} {cs : List Value} (h : Dat m (.rep n (.int k)) cs) : ∃ l : List Int, cs = l.map (Value.int k) ∧ l.length = n ∧ ∀ x ∈ l, (Lit.int k x).wf = true := by
  obtain ⟨els, rfl, rfl, h⟩ := h
  have := @els_ints k 0 els (fun c hc => by obtain ⟨n, rfl, hw⟩ := h c hc; exact ⟨⟨rfl, hw⟩, trivial⟩)
  obtain ⟨l, h1, h2, h3⟩ := this
  exact ⟨l, h1, h2, h3⟩
/-- a slice of numbers -/
theorem dat_sints {m : Mem} {k : IntKind} {cs : List Value} (h : Dat m (.slice (.int k)) cs) : ∃ (v : Value) (l : List Int), cs = [v] ∧ (Lies m 1 v (l.map (Value.int k)) ∨ (l = [] ∧ ∃ a, v = .slice (some a) 0 0)) ∧ lenV v = l.length ∧ (∀ x ∈ l, (Lit.int k x).wf = true) ∧ l.length ≤ maxLen := by
  obtain ⟨v, els, rfl, h1, h2, h3, h4⟩ := h
  obtain ⟨l, g1, g2, g3⟩ := @els_ints k 0 els (fun c hc => by obtain ⟨n, rfl, hw⟩ := h3 c hc; exact ⟨⟨rfl, hw⟩, trivial⟩)
  refine ⟨v, l, rfl, ?_, by omega, g3, by omega⟩
  rcases h1 with h1 | ⟨rfl, a, rfl⟩
  · rw [g1] at h1; exact .inl h1
  · exact .inr ⟨by apply List.eq_nil_of_length_eq_zero; simpa using g2, a, rfl⟩
theorem open_dat (hsp : ∀ b, spare b = true) {sh : Sh} {t : TypeId} {v : Value} {d : DataW H} {ps : List MemPlace} (hc : (chk P sh).1 t = true) (hd : DataW.Trod enc P w base spare held t v d ps) : Dat (fun b => w.heap[b]?) sh v.cells.toList := by
  obtain ⟨fuel, hf⟩ := hd
  exact (trod_dat hsp sh).1 _ _ _ _ hc hf
theorem val_slice {r : Reach} {b0 : Nat} {t e : TypeId} {v : Value} (hu : P.underlying t = some (.slice e)) (h : Value.okWide P w r b0 t v) : v.cells.toList = [v] ∧ v.oneCell' = true := by
  unfold Value.okWide at h
  rw [hu] at h
  simp only [Cell.okWide, hu, Cell.ok] at h
  cases v <;> simp at h
  exact ⟨rfl, rfl⟩
theorem val_string {r : Reach} {b0 : Nat} {t : TypeId} {v : Value} (hu : P.underlying t = some .string) (h : Value.okWide P w r b0 t v) : v.cells.toList = [v] ∧ v.oneCell' = true := by
  unfold Value.okWide at h
  rw [hu] at h
  simp only [Cell.okWide, hu, Cell.ok] at h
  cases v <;> simp at h
  exact ⟨rfl, rfl⟩
theorem val_int {k : IntKind} {r : Reach} {b0 : Nat} {t : TypeId} {v : Value} (hu : P.underlying t = some (.int k)) (h : Value.okWide P w r b0 t v) : v.cells.toList = [v] ∧ v.oneCell' = true := by
  unfold Value.okWide at h
  rw [hu] at h
  simp only [Cell.okWide, hu, Cell.ok] at h
  cases v <;> simp at h
  exact ⟨rfl, rfl⟩
theorem wf_i64 {n : Int} (h : (Lit.int .i64 n).wf = true) : -9223372036854775808 ≤ n ∧ n ≤ 9223372036854775807 := by
  simpa [Lit.wf, IntKind.min, IntKind.max, IntKind.signed, IntKind.bits] using h
theorem wf_u64 {n : Int} (h : (Lit.int .u64 n).wf = true) : 0 ≤ n ∧ n < 18446744073709551616 := by
  have : 0 ≤ n ∧ n ≤ 18446744073709551615 := by simpa [Lit.wf, IntKind.min, IntKind.max, IntKind.signed, IntKind.bits] using h
  omega
theorem wf_u8 {n : Int} (h : (Lit.int .u8 n).wf = true) : 0 ≤ n ∧ n < 256 := by
  have : 0 ≤ n ∧ n ≤ 255 := by simpa [Lit.wf, IntKind.min, IntKind.max, IntKind.signed, IntKind.bits] using h
  omega
theorem wf_u32 {n : Int} (h : (Lit.int .u32 n).wf = true) : 0 ≤ n ∧ n < 4294967296 := by
  have : 0 ≤ n ∧ n ≤ 4294967295 := by simpa [Lit.wf, IntKind.min, IntKind.max, IntKind.signed, IntKind.bits] using h
  omega
end
end Go.E

/-
  Laws of chapter 15.
-/
namespace Go.E.YtgjlajcebcmbaaaGreatDoor
open Go.Proofs
set_option maxRecDepth 100000
theorem read_nil {m : Mem} {c : Nat} : Spec Tryz.prog 37 [.v (.slice none 0 c)] m fun r m' => ∃ v' ps p, r = [.v v', i64 ((Fr.read (([] : List Int).length + 1) []).2.1 : Nat), i64 (Fr.read (([] : List Int).length + 1) []).2.2] ∧ Split m' [p, m] ∧ Lists p v' ps ∧ ps.map (·.2) = (Fr.read (([] : List Int).length + 1) []).1 := by
  have hst := (Got.start []).stop (by simp [Fr.next_nil])
  refine en37 rfl (goY ?_)
  conv => whnf
  refine .mk 0 _ rfl (ι := Nat) (fun i => i) (fun _ _ => False) (fun _ => []) (fun _ => []) ?_ ?_
  · conv => whnf
    repeat (refine And.intro (by first | omega | (simp only [times]; omega)) ?_; conv => whnf)
    refine xcall (next_spec (l := []) (.inl (Lb.nil _ _)) (fun x hx => by cases hx) (by simp)) ?_
    rintro _ m1 ⟨v1, p1, rfl, hs1, hv1⟩
    conv => whnf
    rw [Fr.next_nil]
    refine ⟨fun h => absurd h (by first | decide | simp), fun _ => ?_⟩
    conv => whnf
    rw [hst]
    exact ⟨_, [], emp, rfl, (hs1.erase 0).addEmp, ⟨.inl ⟨_, rfl, rfl⟩, by simp⟩, rfl⟩
  · rintro i mm h; exact h.elim
theorem strOf_inj {a b : List Int} (ha : Byt a) (hb : Byt b) (h : strOf a = strOf b) : a = b := by
  have h1 := congrArg (fun s : ByteArray => s.data.toList) h
  simp only [strOf_data] at h1
  exact by8_inj ha hb h1
def Ls (m : Mem) (v : Value) (ls : List (List Int)) : Prop := ∃ ps, Lists m v ps ∧ ps.map (·.2) = ls
theorem build9 {m : Mem} {x1 x2 x3 x4 x5 x6 x7 x8 x9 : Int} : PrimSpec Tryz.prog (.buildSlice 37 9 [0, 1, 2, 3, 4, 5, 6, 7, 8]) [.v (.int .u8 x1), .v (.int .u8 x2), .v (.int .u8 x3), .v (.int .u8 x4), .v (.int .u8 x5), .v (.int .u8 x6), .v (.int .u8 x7), .v (.int .u8 x8), .v (.int .u8 x9)] m fun r m' => ∃ b, m b = none ∧ r = [.v (.slice (some ⟨b, 0, none⟩) 9 9)] ∧ m' = m.set b (.cells (bc [x1, x2, x3, x4, x5, x6, x7, x8, x9]).toArray 5) :=
  buildSlice_spec (n := 9) tt_ok hBs rfl hU8 rfl rfl (by simp [CV.cs]) (by simp) (by simp)
end Go.E.YtgjlajcebcmbaaaGreatDoor

/-
  Bytes that are arguments.
-/
namespace Go.E
theorem dat_la {m : Mem} {cs : List Value} (h : Dat m (.slice (.int .u8)) cs) : ∃ v l, cs = [v] ∧ La m v l ∧ Byt l ∧ l.length ≤ maxLen := by
  obtain ⟨v, l, rfl, h1, h2, h3, h4⟩ := dat_sints h
  exact ⟨v, l, rfl, h1, fun x hx => wf_u8 (h3 x hx), h4⟩
end Go.E

/-
  Lists of bytes that are arguments.
-/
namespace Go.E.YtgjlajcebcmbaaaGreatDoor
open Go.Proofs
set_option maxRecDepth 100000
/-- a list of bytes; or none, wherever -/
def LsA (m : Mem) (v : Value) (ps : List (Value × List Int)) : Prop := Lists m v ps ∨ (ps = [] ∧ ∃ a, v = .slice (some a) 0 0)
theorem LsA.shape {m : Mem} {v : Value} {ps : List (Value × List Int)} (h : LsA m v ps) : ∃ a c, v = .slice a ps.length c := by
  rcases h with h | ⟨rfl, a, rfl⟩
  · exact h.shape
  · exact ⟨_, _, rfl⟩
theorem LsA.lists {m : Mem} {v : Value} {ps : List (Value × List Int)} (h : LsA m v ps) (hl : 0 < ps.length) : Lists m v ps := by
  rcases h with h | ⟨rfl, _⟩
  · exact h
  · simp at hl
theorem LsA.sub {m m' : Mem} {v : Value} {ps : List (Value × List Int)} (h : LsA m v ps) (hs : Sub m m') : LsA m' v ps := h.imp (·.sub hs) id
theorem LsA.real {m : Mem} {v : Value} {ps : List (Value × List Int)} (h : LsA m v ps) {i : Nat} (hi : i < ps.length) : ∃ b o c, v = .slice (some ⟨b, o, none⟩) ps.length c ∧ ∀ (i : Nat) (hi : i < ps.length), mcell m b (o + i) = some ps[i].1 := (h.lists (by omega)).real hi
theorem LsA.la {m : Mem} {v : Value} {ps : List (Value × List Int)} (h : LsA m v ps) : ∀ p ∈ ps, La m p.1 p.2 := by
  rcases h with h | ⟨rfl, _⟩
  · exact h.la
  · simp
theorem dat_rows {m : Mem} : ∀ {els : List (List Value)}, (∀ c ∈ els, Dat m (.slice (.int .u8)) c) → ∃ ps : List (Value × List Int), els = ps.map (fun p => [p.1]) ∧ (∀ p ∈ ps, La m p.1 p.2) ∧ ∀ p ∈ ps, Byt p.2
  | [], _ => ⟨[], rfl, by simp, by simp⟩
  | c :: els, h => by
    obtain ⟨v, l, rfl, h1, h2, _⟩ := dat_la (h c (by simp))
    obtain ⟨ps, rfl, h3, h4⟩ := dat_rows (els := els) fun c hc => h c (by simp [hc])
    exact ⟨(v, l) :: ps, rfl, fun p hp => (List.mem_cons.1 hp).elim (fun e => e ▸ h1) (h3 p), fun p hp => (List.mem_cons.1 hp).elim (fun e => e ▸ h2) (h4 p)⟩
theorem dat_lists {m : Mem} {cs : List Value} (h : Dat m (.slice (.slice (.int .u8))) cs) : ∃ v ps, cs = [v] ∧ LsA m v ps ∧ (∀ p ∈ ps, Byt p.2) ∧ ps.length ≤ maxLen := by
  obtain ⟨v, els, rfl, h1, h2, h3, h4⟩ := h
  obtain ⟨ps, rfl, h5, h6⟩ := dat_rows h3
  refine ⟨v, ps, rfl, ?_, h6, by simpa using h4⟩
  rcases h1 with h1 | ⟨h1, a, rfl⟩
  · refine .inl ⟨?_, h5⟩
    have e : (ps.map fun p => [p.1]).flatten = ps.map (·.1) := by
      clear h1 h2 h3 h4 h5 h6
      induction ps with
      | nil => rfl
      | cons p ps ih => simp [ih]
    rw [e] at h1
    exact h1
  · exact .inr ⟨by simpa using h1, a, rfl⟩
end Go.E.YtgjlajcebcmbaaaGreatDoor

/-
  Law FrameTorn: behind the records.
-/
namespace Go.E.YtgjlajcebcmbaaaGreatDoor
open Go.Proofs
set_option maxRecDepth 100000
/-- the ends of frames -/
def ends (rs : List (List Int)) : List Value := (List.range rs.length).map fun j => Value.int .i64 (((Fr.cat (rs.take (j + 1))).length : Nat) : Int)
theorem ends_snoc (rs : List (List Int)) (r : List Int) : ends (rs ++ [r]) = ends rs ++ [.int .i64 (((Fr.cat (rs ++ [r])).length : Nat) : Int)] := by
  simp only [ends, List.length_append, List.length_singleton, List.range_succ, List.map_append, List.map_singleton]
  congr 1
  · refine List.map_congr_left fun j hj => ?_
    have := List.mem_range.1 hj
    rw [List.take_append_of_le_length (by omega)]
  · rw [List.take_of_length_le (by simp)]
/-- what is known of the records told -/
structure Told (m : Mem) (n : Nat) (ts : List (Value × List Int)) : Prop where
  len : ts.length ≤ n
  la : ∀ q ∈ ts, La m q.1 q.2
  byt : ∀ q ∈ ts, Byt q.2
  isr : ∀ q ∈ ts, Fr.isRec q.2.length = true
  sm : ∀ q ∈ ts, q.2.length ≤ 600
theorem Told.catlen : ∀ {m : Mem} {n : Nat} {ts : List (Value × List Int)}, Told m n ts → (Fr.cat (ts.map (·.2))).length ≤ 613 * ts.length
  | _, _, [], _ => by simp [Fr.cat]
  | m, n, q :: ts, h => by
    have := Told.catlen (m := m) (n := n) (ts := ts) ⟨by have := h.len; simp at this; omega, fun q hq => h.la q (by simp [hq]), fun q hq => h.byt q (by simp [hq]), fun q hq => h.isr q (by simp [hq]), fun q hq => h.sm q (by simp [hq])⟩
    have h6 := h.sm q (by simp)
    have h9 := numB_len (q.2.length : Int)
    simp only [Fr.cat, List.map_cons, List.flatten_cons, List.length_append, List.length_cons, Fr.wr, Fr.four, List.length_nil] at this ⊢
    omega
theorem kept_of {m mx my : Mem} {b : Nat} {ob : Obj} (h : m b = some ob) (hx : Sub m mx) (hy : Sub m my) : Kept [b] mx my := fun x hx' => by
  rw [List.mem_singleton.1 hx', hx _ _ h, hy _ _ h]
theorem mcell_blk {m : Mem} {b o : Nat} {v : Value} (h : mcell m b o = some v) : ∃ ob, m b = some ob := by
  unfold mcell at h
  cases hb : m b with
  | none => simp [hb] at h
  | some u => exact ⟨u, rfl⟩
theorem pushIat {m : Mem} {ls : List Mem} {p : Mem} {b' i : Nat} {x : Int} {y : Value} {vs : List Value} (hs : Split m ls) (hi : ls[i]? = some p) (hb : m b' = some (.cells #[.int .i64 x] 3)) (hy : Own p 3 1 y vs) (hl : vs.length ≤ 100000000) :
    PrimSpec Tryz.prog (.builtin .append [38, 38]) [.v y, .v (.slice (some ⟨b', 0, none⟩) 1 1)] m fun r m' => ∃ y' p', r = [.v y'] ∧ Split m' (ls.set i p') ∧ Own p' 3 1 y' (vs ++ [.int .i64 x]) := by
  have e1 := hy.lies.len
  have e2 : lenV (.slice (some ⟨b', 0, none⟩) 1 1) = 1 := rfl
  have g : Gives m 1 (.slice 3) (.slice (some ⟨b', 0, none⟩) 1 1) [.int .i64 x] :=
    .inl ⟨_, rfl, .inl (.inr ⟨b', 0, 1, 1, _, _, _, rfl, hb, rfl, Nat.le_refl _, fun j u hu => by simpa using hu, by simp [Value.oneCell']⟩)⟩
  exact (append_at tt_ok hIs rfl hI hIs rfl hs hi hy g (by rw [e2]; simp only; omega) (by rw [e2]; omega)).mono fun r m' ⟨v', p', h1, h2, h3⟩ => ⟨v', p', h1, h2, h3.own⟩
theorem pushLat {m : Mem} {ls : List Mem} {p : Mem} {b' i : Nat} {x : Value} {y : Value} {vs : List Value} (hs : Split m ls) (hi : ls[i]? = some p) (hb : m b' = some (.cells #[x] 37)) (hx : x.oneCell' = true) (hy : Own p 37 1 y vs) (hl : vs.length ≤ 100000000) :
    PrimSpec Tryz.prog (.builtin .append [35, 35]) [.v y, .v (.slice (some ⟨b', 0, none⟩) 1 1)] m fun r m' => ∃ y' p', r = [.v y'] ∧ Split m' (ls.set i p') ∧ Own p' 37 1 y' (vs ++ [x]) := by
  have e1 := hy.lies.len
  have e2 : lenV (.slice (some ⟨b', 0, none⟩) 1 1) = 1 := rfl
  have g : Gives m 1 (.slice 37) (.slice (some ⟨b', 0, none⟩) 1 1) [x] :=
    .inl ⟨_, rfl, .inl (.inr ⟨b', 0, 1, 1, _, _, _, rfl, hb, rfl, Nat.le_refl _, fun j u hu => by simpa using hu, by simpa using hx⟩)⟩
  exact (append_at tt_ok hLs rfl hBs hLs rfl hs hi hy g (by rw [e2]; simp only; omega) (by rw [e2]; omega)).mono fun r m' ⟨v', p', h1, h2, h3⟩ => ⟨v', p', h1, h2, h3.own⟩
theorem read_spec' {m : Mem} {b o c n : Nat} {l : List Int} (hn : l.length = n) (hv : La m (.slice (some ⟨b, o, none⟩) n c) l) (hb : Byt l) (hl : n ≤ 1000000) (hc : n ≤ c) : Spec Tryz.prog 37 [.v (.slice (some ⟨b, o, none⟩) n c)] m fun r m' => ∃ v' ps p, r = [.v v', i64 ((Fr.read (l.length + 1) l).2.1 : Nat), i64 (Fr.read (l.length + 1) l).2.2] ∧ Split m' [p, m] ∧ Lists p v' ps ∧ ps.map (·.2) = (Fr.read (l.length + 1) l).1 := by
  subst hn; exact read_spec hv hb hl hc
end Go.E.YtgjlajcebcmbaaaGreatDoor

/-
  A log: what stands in its file; it is opened.
-/
namespace Go.E.Fr
theorem whole_end : ∀ {l : List (List Int)} {k : Nat}, (whole l k).2 = (cat (l.take (whole l k).1)).length ∧ (whole l k).2 ≤ k ∧ (cat l).take (whole l k).2 = cat (l.take (whole l k).1)
  | [], k => by simp [whole, cat]
  | r :: l, k => by
    have ih := whole_end (l := l) (k := k - (wr r).length)
    unfold whole
    by_cases h : (wr r).length ≤ k
    · rw [if_pos h]
      dsimp only
      obtain ⟨h1, h2, h3⟩ := ih
      have e : ∀ j, cat ((r :: l).take (j + 1)) = wr r ++ cat (l.take j) := fun j => by simp [cat]
      have e0 : cat (r :: l) = wr r ++ cat l := by simp [cat]
      refine ⟨by rw [e, List.length_append, ← h1], by omega, ?_⟩
      rw [e, e0, List.take_append, List.take_of_length_le (by omega), show (wr r).length + (whole l (k - (wr r).length)).2 - (wr r).length = (whole l (k - (wr r).length)).2 by omega, h3]
    · rw [if_neg h]; simp [cat]
/-- whole ones within are found -/
theorem whole_ge : ∀ {l : List (List Int)} {k s : Nat}, s ≤ l.length → (cat (l.take s)).length ≤ k → s ≤ (whole l k).1
  | _, _, 0, _, _ => Nat.zero_le _
  | [], k, s + 1, h, _ => by simp at h
  | r :: l, k, s + 1, h, hk => by
    have e : (cat ((r :: l).take (s + 1))).length = (wr r).length + (cat (l.take s)).length := by simp [cat]
    have ih := whole_ge (l := l) (k := k - (wr r).length) (s := s) (by simpa using h) (by omega)
    unfold whole
    rw [if_pos (by omega)]
    simp only; omega
end Go.E.Fr
namespace Go.E.YtgjlajcebcmbaaaGreatDoor
open Go.Proofs
set_option maxRecDepth 100000
def toN (l : List Int) : List Nat := l.map Int.toNat
theorem nc_toN {l : List Int} (h : Byt l) : nc (toN l) = l := by
  rw [nc, toN, List.map_map]
  refine (List.map_congr_left fun x hx => ?_).trans (List.map_id l)
  have := h x hx
  simp only [Function.comp, id]; omega
theorem toN_len (l : List Int) : (toN l).length = l.length := by simp [toN]
theorem toN_byt {l : List Int} (h : Byt l) : ∀ x ∈ toN l, x < 256 := fun x hx => by
  obtain ⟨y, hy, rfl⟩ := List.mem_map.1 hx
  have := h y hy
  omega
theorem toN_take (l : List Int) (n : Nat) : toN (l.take n) = (toN l).take n := by simp [toN, List.map_take]
theorem toN_append (l k : List Int) : toN (l ++ k) = toN l ++ toN k := by simp [toN]
theorem byt_take {l : List Int} (h : Byt l) (n : Nat) : Byt (l.take n) := fun x hx => h x (List.mem_of_mem_take hx)
/-- one file, or none -/
def lgA (name : ByteArray) (pr : Bool) (l : List Nat) (sf : Nat) : List Af := if pr then [⟨name, l, sf⟩] else []
theorem lg_sm {name : ByteArray} {pr : Bool} {l : List Nat} {sf nb ns : Nat} (h1 : l.length ≤ 50000) (h2 : nb ≤ 50000) (h3 : ns ≤ 100) : Sm 100 (lgA name pr l sf) nb ns := by
  refine ⟨fun a ha => ?_, ?_, by omega, by omega, by omega⟩
  · unfold lgA at ha
    split at ha
    · rw [List.mem_singleton.1 ha]; simp only; omega
    · cases ha
  · unfold lgA; split <;> simp
theorem read_any {m : Mem} {v : Value} {l : List Int} (hv : Lb m v l) (hb : Byt l) (hl : l.length ≤ 1000000) : Spec Tryz.prog 37 [.v v] m fun r m' => ∃ v' ps p, r = [.v v', i64 ((Fr.read (l.length + 1) l).2.1 : Nat), i64 (Fr.read (l.length + 1) l).2.2] ∧ Split m' [p, m] ∧ Lists p v' ps ∧ ps.map (·.2) = (Fr.read (l.length + 1) l).1 := by
  rcases Lb.cases hv with ⟨c, rfl, rfl⟩ | ⟨b, o, c, arr, t, fr, rfl, _, hc, _⟩
  · exact read_nil
  · exact read_spec hv.la hb hl hc
theorem lg_file (name : ByteArray) (l : List Nat) (sf : Nat) : fileA (lgA name true l sf) name = some ⟨name, l, sf⟩ := by simp [fileA, lgA]
end Go.E.YtgjlajcebcmbaaaGreatDoor

/-
  The numbers of snapshots among files; the last one is read.
-/
namespace Go.E.YtgjlajcebcmbaaaGreatDoor
open Go.Proofs
set_option maxRecDepth 100000
noncomputable def numsN (L : List ByteArray) : List Nat := L.filterMap numOf
noncomputable def numsA (A : List Af) : List Nat := numsN (srtB (A.map (·.name)))
theorem numsN_take {L : List ByteArray} {i : Nat} (hi : i < L.length) : numsN (L.take (i + 1)) = numsN (L.take i) ++ (numOf L[i]).toList := by
  rw [numsN, List.take_succ_eq_append_getElem hi, List.filterMap_append]
  cases h : numOf L[i] <;> simp [h, numsN]
theorem numsN_len (L : List ByteArray) : (numsN L).length ≤ L.length := List.length_filterMap_le _ _
theorem nc_byt {l : List Nat} (h : ∀ x ∈ l, x < 256) : Byt (nc l) := fun x hx => by
  obtain ⟨y, hy, rfl⟩ := List.mem_map.1 hx
  have := h y hy
  omega
def NmS (A : List Af) : Prop := ∀ a ∈ A, a.name.size ≤ 1000000
set_option maxHeartbeats 4000000 in
theorem numbers_A {m : Mem} {bf nb ns k : Nat} {q : Int} {A : List Af} (hg : Glob m) (h : FA m bf q nb ns A) (hk : Sm k A nb ns) (hn : NmS A) : Spec Tryz.prog 18 [ptrB bf] m fun r m' => ∃ v p, r = [.v v] ∧ Split m' [p, m] ∧ Io p v (nc (numsA A)) := by
  refine en18 rfl (goY ?_)
  conv => whnf
  refine xcall (names_A h hk) ?_
  rintro _ m1 ⟨v, p, rfl, hs, hv⟩
  conv => whnf
  have hsz : ∀ x ∈ srtB (A.map (·.name)), x.size ≤ 1000000 := fun x hx => by
    obtain ⟨a, ha, rfl⟩ := List.mem_map.1 ((srtB_same _).subset hx)
    exact hn a ha
  have hl : (srtB (A.map (·.name))).length ≤ 1000 := by
    rw [(srtB_same _).length_eq, List.length_map]
    have := hk.n
    have := hk.k
    omega
  unfold numsA
  generalize srtB (A.map (·.name)) = L at *
  obtain ⟨a, c, rfl⟩ := hv.sl.shape
  conv => whnf
  refine .mk (ι := Nat × Value) (fun i => L.length - i.1) (fun ⟨i, y⟩ mm => i ≤ L.length ∧ ∃ p', Split mm [p', p, m] ∧ Io p' y (nc (numsN (L.take i)))) (fun ⟨i, y⟩ => [(3, .c (.v y)), (9, .c (.v (.slice a L.length c))), (10, .c (i64 L.length)), (11, .c (i64 i))]) (fun _ => []) (0, .slice none 0 0) ⟨by simp, emp, hs.addEmp, Io.nil _⟩ ?_ ?_
  · conv => whnf
    repeat (refine And.intro (by first | with_reducible rfl | exact congrArg (Value.int _) (wi (by omega) (by omega)) | exact wi (by omega) (by omega) | rfl) ?_; conv => whnf)
    first | exact trivial | exact fun _ _ h => h
  rintro ⟨i, y⟩ mm ⟨hi, p', hs', hy⟩
  conv => whnf
  refine ⟨fun h => ?_, fun h => ?_⟩
  · have hlt : i < L.length := by have := of_decide_eq_true h; omega
    clear h
    obtain ⟨b, o, cc, e1, hel⟩ := (hv.sl.sub (hs'.sub (a := p) (by simp))).real hlt
    injection e1 with e1 e2 e3
    subst e1
    have hl' := numsN_len (L.take i)
    rw [List.length_take] at hl'
    conv => whnf
    refine ⟨by omega, ?_⟩
    conv => whnf
    refine ⟨_, hel i hlt, rfl, ?_⟩
    conv => whnf
    first | refine xretk (number_spec (hg.sub (hs'.sub (a := m) (by simp))) (hsz _ (List.getElem_mem hlt))) ?_ | refine xret (number_spec (hg.sub (hs'.sub (a := m) (by simp))) (hsz _ (List.getElem_mem hlt))) ?_
    conv => whnf
    have ht := numsN_take hlt
    cases hno : numOf L[i] with
    | none =>
      rw [hno] at ht
      rw [Option.toList_none, List.append_nil] at ht
      refine ⟨fun h => absurd h (by first | decide | simp), fun _ => ?_⟩
      conv => whnf
      refine ⟨(i + 1, y), ⟨by omega, p', hs', by rw [ht]; exact hy⟩, by simp; omega, ?_⟩
      conv => whnf
      repeat (refine And.intro (by first | with_reducible rfl | (first | exact congrArg (Value.int _) (iadd1 (by omega))) | exact congrArg (Value.int _) (wi (by omega) (by omega)) | exact wi (by omega) (by omega) | rfl) ?_; conv => whnf)
      first | exact trivial | exact fun _ _ h => h
    | some n =>
      rw [hno] at ht
      rw [Option.toList_some] at ht
      refine ⟨fun _ => ?_, fun h => absurd h (by simp at h)⟩
      conv => whnf
      refine .mk _ (buildI1) ?_
      rintro _ _ ⟨b', hb', rfl, rfl⟩
      conv => whnf
      refine .mk _ (pushI (l := nc (numsN (L.take i))) hs' hb' hy (by rw [nc_len]; omega)) ?_
      rintro _ m' ⟨y', p2, rfl, hs2, hy2⟩
      conv => whnf
      refine ⟨(i + 1, y'), ⟨by omega, p2, hs2, by rw [ht, nc, List.map_append]; exact hy2⟩, by simp; omega, ?_⟩
      conv => whnf
      repeat (refine And.intro (by first | with_reducible rfl | (first | exact congrArg (Value.int _) (iadd1 (by omega))) | exact congrArg (Value.int _) (wi (by omega) (by omega)) | exact wi (by omega) (by omega) | rfl) ?_; conv => whnf)
      first | exact trivial | exact fun _ _ h => h
  · have h' := of_decide_eq_false h
    obtain rfl : i = L.length := by omega
    rw [List.take_length] at hy
    conv => whnf
    exact ⟨y, p', rfl, hs'.erase 1, hy⟩
theorem madeS_nil {m : Mem} : Ret Tryz.prog 35 [.v (.pointer none)] m [boolV false] := by
  refine en35 rfl (goY ?_)
  conv => whnf
  first | refine xretk (readF_nil) ?_ | refine xret (readF_nil) ?_
  conv => whnf
  exact ⟨rfl, rfl⟩
theorem madeS_spec {m : Mem} {bf nb ns k : Nat} {q : Int} {A : List Af} (h : FA m bf q nb ns A) (hk : Sm k A nb ns) : Spec Tryz.prog 35 [ptrB bf] m fun r m' => r = [boolV true] ∧ Sub m m' := by
  refine en35 rfl (goY ?_)
  conv => whnf
  refine xcall (read_A (name := ByteArray.empty) h hk) ?_
  rintro _ m1 ⟨v, p, rfl, hs, hv⟩
  conv => whnf
  refine ⟨?_, hs.sub (a := m) (by simp)⟩
  rw [errA]
  cases (fileA A ByteArray.empty).isSome <;> rfl
theorem FA.byt {p : Mem} {bf nb ns : Nat} {q : Int} {A : List Af} (h : FA p bf q nb ns A) : ∀ a ∈ A, ∀ x ∈ a.l, x < 256 := by
  obtain ⟨bm, clock, F, h1, rfl⟩ := h
  intro a ha
  obtain ⟨f, hf, rfl⟩ := List.mem_map.1 ha
  exact (h1.ok f hf).byt
/-- the bytes of a file; none, where there is none -/
def bytesA (A : List Af) (name : ByteArray) : List Nat := ((fileA A name).map (·.l)).getD []
theorem bytesA_p {A : List Af} {name : ByteArray} {P : List Nat → Prop} (h : ∀ a ∈ A, P a.l) (h0 : P []) : P (bytesA A name) := by
  unfold bytesA
  cases e : fileA A name with
  | none => exact h0
  | some a => exact h a (List.mem_of_find?_eq_some e)
/-- what is read of bytes -/
def readB (l : List Int) : List (List Int) × Nat × Int := Fr.read (l.length + 1) l
noncomputable def loadA (A : List Af) : Nat × List (List Int) × Int := match (numsA A).getLast? with
  | none => (0, [], 0)
  | some n => let r := readB (nc (bytesA A (Sn.nm n))); if r.2.2 = 0 ∧ r.2.1 = (bytesA A (Sn.nm n)).length then (n, r.1, 0) else (0, [], 9)
theorem loadA_none {A : List Af} (h : numsA A = []) : loadA A = (0, [], 0) := by
  unfold loadA; rw [h]; rfl
theorem loadA_some {A : List Af} {n : Nat} (h : (numsA A).getLast? = some n) : loadA A = if (readB (nc (bytesA A (Sn.nm n)))).2.2 = 0 ∧ (readB (nc (bytesA A (Sn.nm n)))).2.1 = (bytesA A (Sn.nm n)).length then (n, (readB (nc (bytesA A (Sn.nm n)))).1, 0) else (0, [], 9) := by
  unfold loadA; rw [h]
theorem numsN_rng {L : List ByteArray} : ∀ n ∈ numsN L, 1 ≤ n ∧ n ≤ 999999 := fun n hn => by
  obtain ⟨s, _, e⟩ := List.mem_filterMap.1 hn
  exact ⟨(numOf_some e).1, (numOf_some e).2.1⟩
theorem numsA_len (A : List Af) : (numsA A).length ≤ A.length := by
  have := numsN_len (srtB (A.map (·.name)))
  rw [srtB_len, List.length_map] at this
  exact this
theorem load_nil {m : Mem} : Ret Tryz.prog 15 [.v (.pointer none)] m [i64 0, .v (.slice none 0 0), i64 6] := by
  refine en15 rfl (goY ?_)
  conv => whnf
  first | refine xretk (madeS_nil) ?_ | refine xret (madeS_nil) ?_
  conv => whnf
  refine ⟨fun _ => ?_, fun h => absurd h (by first | decide | simp)⟩
  conv => whnf
  exact ⟨rfl, rfl⟩
set_option maxHeartbeats 4000000 in
theorem load_A {m : Mem} {bf nb ns k : Nat} {q : Int} {A : List Af} (hg : Glob m) (h : FA m bf q nb ns A) (hk : Sm k A nb ns) (hn : NmS A) : Spec Tryz.prog 15 [ptrB bf] m fun r m' => ∃ v ps p, r = [i64 (loadA A).1, .v v, i64 (loadA A).2.2] ∧ Split m' [p, m] ∧ Lists p v ps ∧ ps.map (·.2) = (loadA A).2.1 := by
  have hlen := numsA_len A
  have hkn := hk.n
  have hkk := hk.k
  have hrng : ∀ n ∈ numsA A, 1 ≤ n ∧ n ≤ 999999 := numsN_rng
  refine en15 rfl (goY ?_)
  conv => whnf
  refine xcall (madeS_spec h hk) ?_
  rintro _ m0 ⟨rfl, hs0⟩
  conv => whnf
  refine ⟨fun h => absurd h (by first | decide | simp), fun _ => ?_⟩
  conv => whnf
  refine xcall (numbers_A (hg.sub hs0) (h.grow hs0) hk hn) ?_
  rintro _ m1 ⟨v, p, rfl, hs, hv⟩
  conv => whnf
  have hs : Split m1 [p, m] := hs.under (a := [p]) ((Split.one m).grow hs0)
  obtain ⟨a, c, rfl⟩ := hv.il.shape
  rw [nc_len]
  conv => whnf
  refine ⟨fun h1 => ?_, fun h1 => ?_⟩
  · have h0 : numsA A = [] := by simpa using h1
    conv => whnf
    rw [loadA_none h0]
    exact ⟨_, [], emp, rfl, (hs.drop).addEmp, ⟨.inl ⟨_, rfl, rfl⟩, by simp⟩, rfl⟩
  have h0 : 0 < (numsA A).length := List.length_pos_iff.2 (by simpa using h1)
  clear h1
  have hne : numsA A ≠ [] := by intro e; rw [e] at h0; simp at h0
  have hlast : (numsA A).getLast? = some ((numsA A).getLast hne) := List.getLast?_eq_some_getLast hne
  have hat : (numsA A)[(numsA A).length - 1]? = some ((numsA A).getLast hne) := by rw [← hlast, List.getLast?_eq_getElem?]
  obtain ⟨hr1, hr2⟩ := hrng _ (List.getLast_mem hne)
  generalize (numsA A).getLast hne = n at *
  have hld := loadA_some hlast
  have hncl : (nc (numsA A)).length = (numsA A).length := nc_len _
  obtain ⟨b, o, cc, e1, hel⟩ := (hv.il.sub (hs.sub (a := p) (by simp))).real (i := 0) (by omega)
  injection e1 with e1 e2 e3
  subst e1
  have hel := hel ((numsA A).length - 1) (by omega)
  have ee : (nc (numsA A))[(numsA A).length - 1]'(by omega) = (n : Int) := by
    have : (nc (numsA A))[(numsA A).length - 1]? = some (n : Int) := by rw [nc, List.getElem?_map, hat]; rfl
    exact (List.getElem?_eq_some_iff.1 this).2
  rw [ee] at hel
  have ew : IntKind.i64.wrap (((numsA A).length : Int) - 1) = (((numsA A).length - 1 : Nat) : Int) := by rw [wi (by omega) (by omega)]; omega
  conv => whnf
  rw [ew]
  refine ⟨by omega, ?_⟩
  conv => whnf
  refine ⟨_, hel, rfl, ?_⟩
  conv => whnf
  first | refine xretk (name_ok (hg.sub (hs.sub (a := m) (by simp))) hr1 hr2) ?_ | refine xret (name_ok (hg.sub (hs.sub (a := m) (by simp))) hr1 hr2) ?_
  conv => whnf
  refine xcall (read_A (name := Sn.nm n) (h.grow (hs.sub (a := m) (by simp))) hk) ?_
  rintro _ m2 ⟨v2, p2, rfl, hs2, hv2⟩
  conv => whnf
  have hs2 : Split m2 [p2, m] := hs2.under (a := [p2]) ((Split.one m).grow (hs.sub (a := m) (by simp)))
  have hbl : (bytesA A (Sn.nm n)).length ≤ 500000 := bytesA_p (P := fun l => l.length ≤ 500000) (fun a ha => by have := hk.l a ha; omega) (by simp)
  have hby : Byt (nc (bytesA A (Sn.nm n))) := nc_byt (bytesA_p (P := fun l => ∀ x ∈ l, x < 256) h.byt (by simp))
  have hv2 : Bs p2 v2 (nc (bytesA A (Sn.nm n))) := hv2
  have hncb : (nc (bytesA A (Sn.nm n))).length = (bytesA A (Sn.nm n)).length := nc_len _
  generalize bytesA A (Sn.nm n) = l at *
  refine xcall (read_any (hv2.lb.sub (hs2.sub (a := p2) (by simp))) hby (by omega)) ?_
  rintro _ m3 ⟨v', ps, pv, rfl, hs3, hps, hpr⟩
  conv => whnf
  have hs3 : Split m3 [pv, p2, m] := hs3.under (a := [pv]) hs2
  obtain ⟨a2, c2, rfl⟩ := hv2.lb.shape
  have er : Fr.read ((nc l).length + 1) (nc l) = readB (nc l) := rfl
  rw [er] at hpr ⊢
  rw [hncb]
  generalize readB (nc l) = r at *
  obtain ⟨rr, t, e⟩ := r
  dsimp only at hpr ⊢
  conv => whnf
  refine ⟨fun h1 => ?_, fun h1 => ?_⟩
  · have h2 : ¬ e = 0 := by simpa using h1
    rw [if_neg (by simp [h2])] at hld
    rw [hld]
    conv => whnf
    exact ⟨_, [], emp, rfl, (hs3.drop.drop).addEmp, ⟨.inl ⟨_, rfl, rfl⟩, by simp⟩, rfl⟩
  have h2 : e = 0 := by simpa using h1
  clear h1
  subst h2
  conv => whnf
  refine ⟨fun h1 => ?_, fun h1 => ?_⟩
  · have h2 : ¬ t = l.length := by simp at h1; omega
    rw [if_neg (by simp [h2])] at hld
    rw [hld]
    conv => whnf
    exact ⟨_, [], emp, rfl, (hs3.drop.drop).addEmp, ⟨.inl ⟨_, rfl, rfl⟩, by simp⟩, rfl⟩
  · have h2 : t = l.length := by simp at h1; omega
    rw [if_pos ⟨rfl, h2⟩] at hld
    rw [hld]
    conv => whnf
    exact ⟨v', ps, pv, rfl, hs3.erase 1, hps, hpr⟩
end Go.E.YtgjlajcebcmbaaaGreatDoor

/-
  The document's files: lists of them, owned; one put in, one gone.
-/
namespace Go.E.YtgjlajcebcmbaaaGreatDoor
open Go.Proofs
set_option maxRecDepth 100000
abbrev rfV (r : Rf) : CV := .a [.one (.string r.name), .one (.string r.b), .one (.int .i64 (r.safe : Int))]
theorem hRs : ∃ ti, tt.get 56 = some ti ∧ ti.k = .slice 112 := ⟨_, rfl, rfl⟩
theorem hRn : ∃ ti, tt.get 112 = some ti ∧ ti.size = 3 ∧ ti.bytes = 40 ∧ LB.cells ti.zero = rfC ⟨ByteArray.empty, ByteArray.empty, 0⟩ := ⟨_, rfl, rfl, rfl, rfl⟩
def Rl (m : Mem) (v : Value) (E : List Rf) : Prop := Lies m 3 v (E.flatMap rfC)
def Ro (m : Mem) (v : Value) (E : List Rf) : Prop := Own m 112 3 v (E.flatMap rfC)
def Ra (m : Mem) (v : Value) (E : List Rf) : Prop := Rl m v E ∨ (E = [] ∧ ∃ a, v = .slice (some a) 0 0)
theorem Rl.sub {m m' : Mem} {v : Value} {E : List Rf} (h : Rl m v E) (hs : Sub m m') : Rl m' v E := Lies.sub h hs
theorem Ro.sub {m m' : Mem} {v : Value} {E : List Rf} (h : Ro m v E) (hs : Sub m m') : Ro m' v E := Own.sub h hs
theorem Ro.el {m : Mem} {v : Value} {E : List Rf} (h : Ro m v E) : Rl m v E := Own.lies h
theorem Rl.ea {m : Mem} {v : Value} {E : List Rf} (h : Rl m v E) : Ra m v E := .inl h
theorem Ra.sub {m m' : Mem} {v : Value} {E : List Rf} (h : Ra m v E) (hs : Sub m m') : Ra m' v E := h.imp (·.sub hs) id
theorem Ro.nil (m : Mem) : Ro m (.slice none 0 0) [] := .inl ⟨rfl, rfl⟩
theorem Ra.shape {m : Mem} {v : Value} {E : List Rf} (h : Ra m v E) : ∃ a c, v = .slice a E.length c := by
  rcases h with h | ⟨rfl, a, rfl⟩
  · exact rfOk.shape h
  · exact ⟨_, _, rfl⟩
theorem Ra.lenV {m : Mem} {v : Value} {E : List Rf} (h : Ra m v E) : lenV v = E.length := by obtain ⟨a, c, rfl⟩ := h.shape; rfl
theorem Ra.one {m : Mem} {v : Value} {E : List Rf} (h : Ra m v E) : v.oneCell' = true := by obtain ⟨a, c, rfl⟩ := h.shape; rfl
theorem Ra.gives {m : Mem} {v : Value} {E : List Rf} {e : TypeId} (h : Ra m v E) : Gives m 3 (.slice e) v (E.flatMap rfC) := .inl ⟨e, rfl, h.imp id fun ⟨h1, h2⟩ => ⟨by rw [h1]; rfl, h2⟩⟩
/-- append of files onto the i-th part -/
theorem appendRat {m p : Mem} {ls : List Mem} {i : Nat} {v x : Value} {E news : List Rf} (hs : Split m ls) (hi : ls[i]? = some p) (hv : Ro p v E) (hg : Ra m x news) (hb : E.length + news.length ≤ 100000000) :
    PrimSpec Tryz.prog (.builtin .append [56, 56]) [.v v, .v x] m fun r m' => ∃ v' p', r = [.v v'] ∧ Split m' (ls.set i p') ∧ Ro p' v' (E ++ news) := by
  obtain ⟨ti, h1, h2⟩ := hRs
  obtain ⟨ei, g1, g2, g3, g4⟩ := hRn
  have e1 := hv.el.ea.lenV
  have e2 := hg.lenV
  have hv' : Own p 112 ei.size v (E.flatMap rfC) := by rw [g2]; exact hv
  refine (append_at (news := news.flatMap rfC) tt_ok h1 h2 g1 h1 (by rw [g4, g2]; rfl) hs hi hv' (by rw [h2, g2]; exact hg.gives) (by rw [e1, e2, g3]; omega) (by rw [e1, e2]; omega)).mono fun r m' ⟨v', p', q1, q2, q3⟩ => ⟨v', p', q1, q2, ?_⟩
  have := q3.own
  rw [g2, ← List.flatMap_append] at this
  exact this
theorem buildR0 {m : Mem} : PrimSpec Tryz.prog (.buildSlice 56 0 []) [] m fun r m' => ∃ b, m b = none ∧ r = [.v (.slice (some ⟨b, 0, none⟩) 0 0)] ∧ m' = m.set b (.cells #[] 112) := by
  obtain ⟨ti, h1, h2⟩ := hRs
  obtain ⟨ei, g1, g2, g3, g4⟩ := hRn
  exact buildSlice0_spec tt_ok h1 h2 g1
theorem buildR1 {m : Mem} {e : Rf} : PrimSpec Tryz.prog (.buildSlice 56 1 [0]) [rfV e] m fun r m' => ∃ b, m b = none ∧ r = [.v (.slice (some ⟨b, 0, none⟩) 1 1)] ∧ m' = m.set b (.cells (rfC e).toArray 112) := by
  obtain ⟨ti, h1, h2⟩ := hRs
  obtain ⟨ei, g1, g2, g3, g4⟩ := hRn
  exact (buildSlice_spec (n := 1) tt_ok h1 h2 g1 rfl rfl (by simp [CV.cs, LB.cells, Seg.cells, g2]) (by omega) (by omega)).mono fun r m' ⟨b, e1, e2, e3⟩ => ⟨b, e1, e2, e3⟩
theorem Ro.blk1 {m : Mem} {b : Nat} {e : Rf} (h : m b = some (.cells (rfC e).toArray 112)) : Ro m (.slice (some ⟨b, 0, none⟩) 1 1) [e] :=
  .inr ⟨b, 0, 1, 1, _, rfl, h, rfl, Nat.le_refl _, Nat.le_refl _, fun j u hu => by rw [Nat.zero_add, List.getElem?_toArray]; exact hu, rfOk.fone⟩
theorem Ro.blk0 {m : Mem} {b : Nat} (h : m b = some (.cells #[] 112)) : Ro m (.slice (some ⟨b, 0, none⟩) 0 0) [] :=
  .inr ⟨b, 0, 0, 0, _, rfl, h, rfl, Nat.le_refl _, Nat.le_refl _, fun j u hu => by simp at hu, rfOk.fone⟩
/-- one file more -/
theorem pushR {m p : Mem} {ls : List Mem} {i b' : Nat} {x : Rf} {y : Value} {E : List Rf} (hs : Split m ls) (hi : ls[i]? = some p) (hb : m b' = none) (hy : Ro p y E) (hl : E.length ≤ 10000000) :
    PrimSpec Tryz.prog (.builtin .append [56, 56]) [.v y, .v (.slice (some ⟨b', 0, none⟩) 1 1)] (m.set b' (.cells (rfC x).toArray 112)) fun r m' => ∃ y' p', r = [.v y'] ∧ Split m' (ls.set i p') ∧ Ro p' y' (E ++ [x]) := by
  have hs1 := hs.new hb (.cells (rfC x).toArray 112)
  exact (appendRat (i := i + 1) hs1 (by simpa using hi) hy (Ro.blk1 (Mem.set_same ..)).el.ea (by simp; omega)).mono fun r m' ⟨v', p', h1, h2, h3⟩ => ⟨v', p', h1, h2.erase 0, h3⟩
/-- the document's files, in a memory of their own -/
def FR (p : Mem) (bx : Nat) (q : Int) (nb ns : Nat) (L : List Rf) : Prop := ∃ v pl, Split p [blk1 bx (refO q v nb ns), pl] ∧ Ro pl v L
theorem FR.rm {p : Mem} {bx : Nat} {q : Int} {nb ns : Nat} {L : List Rf} (h : FR p bx q nb ns L) : ∃ v, RM p bx q nb ns L v := by
  obtain ⟨v, pl, h1, h2⟩ := h
  exact ⟨v, h1.sub (a := blk1 bx (refO q v nb ns)) (by simp) _ _ (blk1_same ..), (h2.sub (h1.sub (by simp))).el⟩
set_option maxHeartbeats 4000000 in
theorem refCut_spec {p : Mem} {bx i : Nat} {q : Int} {nb ns : Nat} {L : List Rf} (h : FR p bx q nb ns L) (hi : i < L.length) (hl : L.length ≤ 1000000) : Spec Tryz.prog 87 [ptrB bx, i64 i] p fun r m' => r = [] ∧ FR m' bx q nb ns (L.eraseIdx i) := by
  obtain ⟨v, pl, hs, hv⟩ := h
  have ho : p bx = some (refO q v nb ns) := hs.sub (a := blk1 bx (refO q v nb ns)) (by simp) _ _ (blk1_same ..)
  have hvp : Rl p v L := (hv.sub (hs.sub (by simp))).el
  obtain ⟨b, o, c, rfl, hg⟩ := rfOk.real hvp hi
  refine en87 rfl (goY ?_)
  conv => whnf
  refine ⟨_, mcell_of ho rfl, rfl, ?_⟩
  conv => whnf
  obtain ⟨arr, _, _, hc, _, _⟩ := rfOk.row hv
  refine ⟨by omega, ?_⟩
  conv => whnf
  intro o1 ho1 ho2
  obtain rfl : o1 = o := by have := ho1 (by omega); simpa using this
  have ew : IntKind.i64.wrap ((i : Int) + 1) = ((i + 1 : Nat) : Int) := iadd1 (by omega)
  conv => whnf
  refine ⟨_, mcell_of ho rfl, rfl, ?_⟩
  conv => whnf
  rw [ew]
  refine ⟨by omega, ?_⟩
  conv => whnf
  intro o2 ho2 _
  have hpre : Rl pl (.slice (some ⟨b, o1, none⟩) i c) (L.take i) := rfOk.pre hv.el (by omega) (by omega)
  have hpost : Rl pl (.slice (some ⟨b, o2, none⟩) (L.length - (i + 1)) (c - (i + 1))) (L.drop (i + 1)) := rfOk.post hv.el (by omega) (fun h => by have := ho2 (by rw [Int.toNat_natCast]; omega); simpa using this)
  conv => whnf
  refine .mk _ (appendRat (i := 0) hs.addEmp rfl (Ro.nil _) (hpre.sub (hs.sub (by simp))).ea (by rw [List.length_take, List.length_nil]; omega)) ?_
  rintro _ m1 ⟨v1, p1, rfl, hs1, hv1⟩
  conv => whnf
  have hs1 : Split m1 [p1, blk1 bx (refO q (.slice (some ⟨b, o1, none⟩) L.length c) nb ns), pl] := hs1
  have ho1 : m1 bx = some (refO q (.slice (some ⟨b, o1, none⟩) L.length c) nb ns) := hs1.sub (a := blk1 bx (refO q (.slice (some ⟨b, o1, none⟩) L.length c) nb ns)) (by simp) _ _ (blk1_same ..)
  refine ⟨keptF (m := blk1 bx (refO q (.slice (some ⟨b, o1, none⟩) L.length c) nb ns)) (blk1_same ..) (hs.sub (by simp)) (hs1.sub (by simp)) (by simp), ?_⟩
  conv => whnf
  refine .mk _ (appendRat (i := 0) hs1 rfl hv1 (hpost.sub (hs1.sub (a := pl) (by simp))).ea (by rw [List.nil_append, List.length_take, List.length_drop]; omega)) ?_
  rintro _ m2 ⟨v2, p2, rfl, hs2, hv2⟩
  conv => whnf
  have hs2 : Split m2 [p2, blk1 bx (refO q (.slice (some ⟨b, o1, none⟩) L.length c) nb ns), pl] := hs2
  have ho2 : m2 bx = some (refO q (.slice (some ⟨b, o1, none⟩) L.length c) nb ns) := hs2.sub (a := blk1 bx (refO q (.slice (some ⟨b, o1, none⟩) L.length c) nb ns)) (by simp) _ _ (blk1_same ..)
  first | (refine ⟨keptF (m := blk1 bx (refO q (.slice (some ⟨b, o1, none⟩) L.length c) nb ns)) (blk1_same ..) (hs1.sub (by simp)) (hs2.sub (by simp)) (by simp), ?_⟩; conv => whnf) | skip
  refine ⟨_, _, _, ho2, ⟨by simp, by simp⟩, ?_⟩
  have hs3 := hs2.setAt (i := 1) rfl (blk1_same ..) (refO q v2 nb ns)
  rw [blk1_set] at hs3
  conv => whnf
  refine ⟨rfl, v2, p2, ?_, by rw [List.eraseIdx_eq_take_drop_succ]; exact hv2⟩
  have hs4 : Split _ [p2, blk1 bx (refO q v2 nb ns), pl] := hs3
  exact (hs4.perm (l' := [pl, blk1 bx (refO q v2 nb ns), p2]) (by
    refine (List.Perm.swap _ _ _).trans ?_
    refine (List.Perm.cons _ (List.Perm.swap _ _ _)).trans ?_
    exact List.Perm.swap _ _ _)).drop
end Go.E.YtgjlajcebcmbaaaGreatDoor

/-
  The document's files: one put in.
-/
namespace Go.E.YtgjlajcebcmbaaaGreatDoor
open Go.Proofs
set_option maxRecDepth 100000
/-- how many stand ahead of a name -/
def aheadR (L : List Rf) (x : ByteArray) : Nat := (L.takeWhile fun r => decide (encB r.name < encB x)).length
def putR (L : List Rf) (x : Rf) : List Rf := L.take (aheadR L x.name) ++ [x] ++ L.drop (aheadR L x.name)
theorem ahead_le (L : List Rf) (x : ByteArray) : aheadR L x ≤ L.length := (List.takeWhile_prefix _).length_le
theorem ahead_at {x : ByteArray} : ∀ {L : List Rf} {k : Nat} (hk : k < L.length), (∀ j (hj : j < L.length), j < k → encB L[j].name < encB x) → ¬ encB L[k].name < encB x → aheadR L x = k
  | r :: L, 0, _, _, h => by
    simp only [List.getElem_cons_zero] at h
    rw [aheadR, List.takeWhile_cons, if_neg (by simpa using h)]; rfl
  | r :: L, k + 1, hk, ha, h => by
    have h0 := ha 0 (by simp) (by omega)
    simp only [List.getElem_cons_zero] at h0
    have ih := ahead_at (L := L) (k := k) (by simpa using hk) (fun j hj hjk => by have := ha (j + 1) (by simpa using hj) (by omega); rw [List.getElem_cons_succ] at this; exact this) (by rw [List.getElem_cons_succ] at h; exact h)
    rw [aheadR] at ih ⊢
    rw [List.takeWhile_cons, if_pos (by simpa using h0), List.length_cons, ih]
theorem ahead_all {x : ByteArray} : ∀ {L : List Rf}, (∀ j (hj : j < L.length), encB L[j].name < encB x) → aheadR L x = L.length
  | [], _ => rfl
  | r :: L, ha => by
    have h0 := ha 0 (by simp)
    simp only [List.getElem_cons_zero] at h0
    have ih := ahead_all (L := L) (fun j hj => by have := ha (j + 1) (by simpa using hj); rw [List.getElem_cons_succ] at this; exact this)
    rw [aheadR] at ih ⊢
    rw [List.takeWhile_cons, if_pos (by simpa using h0), List.length_cons, ih, List.length_cons]
theorem Ro.cases {p : Mem} {a : Option Addr} {n c : Nat} {L : List Rf} (h : Ro p (.slice a n c) L) : (a = none ∧ L = [] ∧ n = 0 ∧ c = 0) ∨ ∃ b o, a = some ⟨b, o, none⟩ := by
  rcases h with ⟨h1, h2⟩ | ⟨b, o, c', n', arr, h1, _⟩
  · injection h1 with h3 h4 h5
    have : (L.flatMap rfC).length = 0 := by rw [h2]; rfl
    rw [rfOk.flen] at this
    exact .inl ⟨h3, List.eq_nil_of_length_eq_zero (by omega), h4, h5⟩
  · injection h1 with h3
    exact .inr ⟨b, o, h3⟩
set_option maxHeartbeats 4000000 in
theorem put_tail {p pl : Mem} {bx k : Nat} {a : Option Addr} {c : Nat} {q : Int} {nb ns : Nat} {L : List Rf} {x : Rf} (hs : Split p [blk1 bx (refO q (.slice a L.length c) nb ns), pl]) (hv : Ro pl (.slice a L.length c) L) (hl : L.length ≤ 1000000) (hk : k ≤ L.length) :
    xwpY c89 (restAt 4 (bodyOf Tryz.f89)) (QRetY tt.get Tryz.f89.results.toList fun r m' => r = [] ∧ FR m' bx q nb ns (L.take k ++ [x] ++ L.drop k))
      [(0, .c (ptrB bx)), (3, .p 0 0), (4, .c (i64 k))] [(112, [.one (.string x.name), .one (.string x.b), .one (.int .i64 (x.safe : Int))])] p [] := by
  have ho : p bx = some (refO q (.slice a L.length c) nb ns) := hs.sub (a := blk1 bx (refO q (.slice a L.length c) nb ns)) (by simp) _ _ (blk1_same ..)
  rcases hv.cases with ⟨rfl, rfl, hn, rfl⟩ | ⟨b, o, rfl⟩
  · obtain rfl : k = 0 := by simpa using hk
    conv => whnf
    refine .at ?_
    conv => whnf
    refine ⟨_, mcell_of ho rfl, rfl, ?_⟩
    conv => whnf
    repeat (refine And.intro (by first | omega | (simp only [times]; omega)) ?_; conv => whnf)
    refine ⟨_, mcell_of ho rfl, rfl, ?_⟩
    conv => whnf
    repeat (refine And.intro (by first | omega | (simp only [times]; omega)) ?_; conv => whnf)
    refine ⟨?_, ?_⟩
    · conv => whnf
      refine .mk _ (appendRat (i := 0) hs.addEmp rfl (Ro.nil _) (Rl.ea (.inl ⟨_, rfl, rfl⟩ : Rl _ (.slice none 0 0) [])) (by first | (simp; done) | (rw [List.length_take, List.length_nil]; omega))) ?_
      rintro _ m1 ⟨v1, p1, rfl, hs1, hv1⟩
      conv => whnf
      have hs1 : Split m1 [p1, blk1 bx (refO q (.slice none ([] : List Rf).length 0) nb ns), pl] := hs1
      first | (refine ⟨keptF (m := blk1 bx (refO q (.slice none ([] : List Rf).length 0) nb ns)) (blk1_same ..) (hs.sub (by simp)) (hs1.sub (by simp)) (by simp), ?_⟩; conv => whnf) | skip
      refine .mk _ (buildR1 (e := x)) ?_
      rintro _ _ ⟨b1, hb1, rfl, rfl⟩
      conv => whnf
      have hs2 := hs1.new hb1 (.cells (rfC x).toArray 112)
      first | (refine ⟨keptF (m := blk1 bx (refO q (.slice none ([] : List Rf).length 0) nb ns)) (blk1_same ..) (hs1.sub (by simp)) (hs2.sub (by simp)) (by simp), ?_⟩; conv => whnf) | skip
      refine .mk _ (pushR (x := x) (i := 0) hs1 rfl hb1 hv1 (by simp only [List.nil_append, List.length_take]; omega)) ?_
      rintro _ m2 ⟨v2, p2, rfl, hs3, hv2⟩
      conv => whnf
      have hs3 : Split m2 [p2, blk1 bx (refO q (.slice none ([] : List Rf).length 0) nb ns), pl] := hs3
      first | (refine ⟨keptF (m := blk1 bx (refO q (.slice none ([] : List Rf).length 0) nb ns)) (blk1_same ..) (hs2.sub (by simp)) (hs3.sub (by simp)) (by simp), ?_⟩; conv => whnf) | skip
      refine .mk _ (appendRat (i := 0) hs3 rfl hv2 (((Rl.ea (.inl ⟨_, rfl, rfl⟩ : Rl pl (.slice none 0 0) []))).sub (hs3.sub (a := pl) (by simp))) (by simp only [List.nil_append, List.length_append, List.length_take, List.length_drop, List.length_cons, List.length_nil]; omega)) ?_
      rintro _ m3 ⟨v3, p3, rfl, hs4, hv3⟩
      conv => whnf
      have hs4 : Split m3 [p3, blk1 bx (refO q (.slice none ([] : List Rf).length 0) nb ns), pl] := hs4
      first | (refine ⟨keptF (m := blk1 bx (refO q (.slice none ([] : List Rf).length 0) nb ns)) (blk1_same ..) (hs3.sub (by simp)) (hs4.sub (by simp)) (by simp), ?_⟩; conv => whnf) | skip
      have ho4 : m3 bx = some (refO q (.slice none ([] : List Rf).length 0) nb ns) := hs4.sub (a := blk1 bx (refO q (.slice none ([] : List Rf).length 0) nb ns)) (by simp) _ _ (blk1_same ..)
      refine ⟨_, _, _, ho4, ⟨by simp, by simp⟩, ?_⟩
      have hs5 := hs4.setAt (i := 1) rfl (blk1_same ..) (refO q v3 nb ns)
      rw [blk1_set] at hs5
      conv => whnf
      refine ⟨rfl, v3, p3, ?_, hv3⟩
      have hs6 : Split _ [p3, blk1 bx (refO q v3 nb ns), pl] := hs5
      exact (hs6.perm (l' := [pl, blk1 bx (refO q v3 nb ns), p3]) (by
        refine (List.Perm.swap _ _ _).trans ?_
        refine (List.Perm.cons _ (List.Perm.swap _ _ _)).trans ?_
        exact List.Perm.swap _ _ _)).drop
    · conv => whnf
      refine .mk _ (buildR1 (e := x)) ?_
      rintro _ _ ⟨b1, hb1, rfl, rfl⟩
      conv => whnf
      have hs0 := (hs.new hb1 (.cells (rfC x).toArray 112)).addEmp
      first | (refine ⟨keptF (m := blk1 bx (refO q (.slice none ([] : List Rf).length 0) nb ns)) (blk1_same ..) (hs.sub (by simp)) (hs0.sub (by simp)) (by simp), ?_⟩; conv => whnf) | skip
      refine .mk _ (appendRat (i := 0) hs0 rfl (Ro.nil _) ((Rl.ea (.inl ⟨_, rfl, rfl⟩ : Rl _ (.slice none 0 0) [])).sub (Mem.sub_set _ hb1)) (by first | (simp; done) | (rw [List.length_take, List.length_nil]; omega))) ?_
      rintro _ m1 ⟨v1, p1, rfl, hs1, hv1⟩
      conv => whnf
      have hs1 : Split m1 [p1, blk1 b1 (.cells (rfC x).toArray 112), blk1 bx (refO q (.slice none ([] : List Rf).length 0) nb ns), pl] := hs1
      first | (refine ⟨keptF (m := blk1 bx (refO q (.slice none ([] : List Rf).length 0) nb ns)) (blk1_same ..) (hs0.sub (by simp)) (hs1.sub (by simp)) (by simp), ?_⟩; conv => whnf) | skip
      refine .mk _ (appendRat (i := 0) hs1 rfl hv1 (Ro.blk1 (hs1.sub (a := blk1 b1 (.cells (rfC x).toArray 112)) (by simp) _ _ (blk1_same ..))).el.ea (by simp only [List.nil_append, List.length_take, List.length_cons, List.length_nil]; omega)) ?_
      rintro _ m2 ⟨v2, p2, rfl, hs3, hv2⟩
      conv => whnf
      have hs3 : Split m2 [p2, blk1 b1 (.cells (rfC x).toArray 112), blk1 bx (refO q (.slice none ([] : List Rf).length 0) nb ns), pl] := hs3
      have hs3 : Split m2 [p2, blk1 bx (refO q (.slice none ([] : List Rf).length 0) nb ns), pl] := (hs3.perm (List.Perm.swap _ _ _)).drop
      first | (refine ⟨keptF (m := blk1 bx (refO q (.slice none ([] : List Rf).length 0) nb ns)) (blk1_same ..) (hs1.sub (by simp)) (hs3.sub (by simp)) (by simp), ?_⟩; conv => whnf) | skip
      refine .mk _ (appendRat (i := 0) hs3 rfl hv2 (((Rl.ea (.inl ⟨_, rfl, rfl⟩ : Rl pl (.slice none 0 0) []))).sub (hs3.sub (a := pl) (by simp))) (by simp only [List.nil_append, List.length_append, List.length_take, List.length_drop, List.length_cons, List.length_nil]; omega)) ?_
      rintro _ m3 ⟨v3, p3, rfl, hs4, hv3⟩
      conv => whnf
      have hs4 : Split m3 [p3, blk1 bx (refO q (.slice none ([] : List Rf).length 0) nb ns), pl] := hs4
      first | (refine ⟨keptF (m := blk1 bx (refO q (.slice none ([] : List Rf).length 0) nb ns)) (blk1_same ..) (hs3.sub (by simp)) (hs4.sub (by simp)) (by simp), ?_⟩; conv => whnf) | skip
      have ho4 : m3 bx = some (refO q (.slice none ([] : List Rf).length 0) nb ns) := hs4.sub (a := blk1 bx (refO q (.slice none ([] : List Rf).length 0) nb ns)) (by simp) _ _ (blk1_same ..)
      refine ⟨_, _, _, ho4, ⟨by simp, by simp⟩, ?_⟩
      have hs5 := hs4.setAt (i := 1) rfl (blk1_same ..) (refO q v3 nb ns)
      rw [blk1_set] at hs5
      conv => whnf
      refine ⟨rfl, v3, p3, ?_, hv3⟩
      have hs6 : Split _ [p3, blk1 bx (refO q v3 nb ns), pl] := hs5
      exact (hs6.perm (l' := [pl, blk1 bx (refO q v3 nb ns), p3]) (by
        refine (List.Perm.swap _ _ _).trans ?_
        refine (List.Perm.cons _ (List.Perm.swap _ _ _)).trans ?_
        exact List.Perm.swap _ _ _)).drop
  · have hc : L.length ≤ c := by obtain ⟨arr, _, _, hc, _, _⟩ := rfOk.row hv; omega
    conv => whnf
    refine .at ?_
    conv => whnf
    refine ⟨_, mcell_of ho rfl, rfl, ?_⟩
    conv => whnf
    repeat (refine And.intro (by first | omega | (simp only [times]; omega)) ?_; conv => whnf)
    intro o1 ho1 ho2
    obtain rfl : o1 = o := by
      by_cases e : c = 0
      · exact ho2 e
      · have := ho1 e; simpa using this
    conv => whnf
    refine ⟨_, mcell_of ho rfl, rfl, ?_⟩
    conv => whnf
    repeat (refine And.intro (by first | omega | (simp only [times]; omega)) ?_; conv => whnf)
    intro o2 ho2 _
    have hpre : Rl pl (.slice (some ⟨b, o1, none⟩) k c) (L.take k) := rfOk.pre hv.el (by omega) (by omega)
    have hpost : Rl pl (.slice (some ⟨b, o2, none⟩) (L.length - k) (c - k)) (L.drop k) := rfOk.post hv.el (by omega) (fun h => by have := ho2 (by rw [Int.toNat_natCast]; omega); simpa using this)
    refine ⟨?_, ?_⟩
    · conv => whnf
      refine .mk _ (appendRat (i := 0) hs.addEmp rfl (Ro.nil _) (hpre.sub (hs.sub (by simp))).ea (by first | (simp; done) | (rw [List.length_take, List.length_nil]; omega))) ?_
      rintro _ m1 ⟨v1, p1, rfl, hs1, hv1⟩
      conv => whnf
      have hs1 : Split m1 [p1, blk1 bx (refO q (.slice (some ⟨b, o1, none⟩) L.length c) nb ns), pl] := hs1
      first | (refine ⟨keptF (m := blk1 bx (refO q (.slice (some ⟨b, o1, none⟩) L.length c) nb ns)) (blk1_same ..) (hs.sub (by simp)) (hs1.sub (by simp)) (by simp), ?_⟩; conv => whnf) | skip
      refine .mk _ (buildR1 (e := x)) ?_
      rintro _ _ ⟨b1, hb1, rfl, rfl⟩
      conv => whnf
      have hs2 := hs1.new hb1 (.cells (rfC x).toArray 112)
      first | (refine ⟨keptF (m := blk1 bx (refO q (.slice (some ⟨b, o1, none⟩) L.length c) nb ns)) (blk1_same ..) (hs1.sub (by simp)) (hs2.sub (by simp)) (by simp), ?_⟩; conv => whnf) | skip
      refine .mk _ (pushR (x := x) (i := 0) hs1 rfl hb1 hv1 (by simp only [List.nil_append, List.length_take]; omega)) ?_
      rintro _ m2 ⟨v2, p2, rfl, hs3, hv2⟩
      conv => whnf
      have hs3 : Split m2 [p2, blk1 bx (refO q (.slice (some ⟨b, o1, none⟩) L.length c) nb ns), pl] := hs3
      first | (refine ⟨keptF (m := blk1 bx (refO q (.slice (some ⟨b, o1, none⟩) L.length c) nb ns)) (blk1_same ..) (hs2.sub (by simp)) (hs3.sub (by simp)) (by simp), ?_⟩; conv => whnf) | skip
      refine .mk _ (appendRat (i := 0) hs3 rfl hv2 ((hpost.ea).sub (hs3.sub (a := pl) (by simp))) (by simp only [List.nil_append, List.length_append, List.length_take, List.length_drop, List.length_cons, List.length_nil]; omega)) ?_
      rintro _ m3 ⟨v3, p3, rfl, hs4, hv3⟩
      conv => whnf
      have hs4 : Split m3 [p3, blk1 bx (refO q (.slice (some ⟨b, o1, none⟩) L.length c) nb ns), pl] := hs4
      first | (refine ⟨keptF (m := blk1 bx (refO q (.slice (some ⟨b, o1, none⟩) L.length c) nb ns)) (blk1_same ..) (hs3.sub (by simp)) (hs4.sub (by simp)) (by simp), ?_⟩; conv => whnf) | skip
      have ho4 : m3 bx = some (refO q (.slice (some ⟨b, o1, none⟩) L.length c) nb ns) := hs4.sub (a := blk1 bx (refO q (.slice (some ⟨b, o1, none⟩) L.length c) nb ns)) (by simp) _ _ (blk1_same ..)
      refine ⟨_, _, _, ho4, ⟨by simp, by simp⟩, ?_⟩
      have hs5 := hs4.setAt (i := 1) rfl (blk1_same ..) (refO q v3 nb ns)
      rw [blk1_set] at hs5
      conv => whnf
      refine ⟨rfl, v3, p3, ?_, hv3⟩
      have hs6 : Split _ [p3, blk1 bx (refO q v3 nb ns), pl] := hs5
      exact (hs6.perm (l' := [pl, blk1 bx (refO q v3 nb ns), p3]) (by
        refine (List.Perm.swap _ _ _).trans ?_
        refine (List.Perm.cons _ (List.Perm.swap _ _ _)).trans ?_
        exact List.Perm.swap _ _ _)).drop
    · conv => whnf
      refine .mk _ (buildR1 (e := x)) ?_
      rintro _ _ ⟨b1, hb1, rfl, rfl⟩
      conv => whnf
      have hs0 := (hs.new hb1 (.cells (rfC x).toArray 112)).addEmp
      first | (refine ⟨keptF (m := blk1 bx (refO q (.slice (some ⟨b, o1, none⟩) L.length c) nb ns)) (blk1_same ..) (hs.sub (by simp)) (hs0.sub (by simp)) (by simp), ?_⟩; conv => whnf) | skip
      refine .mk _ (appendRat (i := 0) hs0 rfl (Ro.nil _) ((hpre.sub (hs.sub (by simp))).ea.sub (Mem.sub_set _ hb1)) (by first | (simp; done) | (rw [List.length_take, List.length_nil]; omega))) ?_
      rintro _ m1 ⟨v1, p1, rfl, hs1, hv1⟩
      conv => whnf
      have hs1 : Split m1 [p1, blk1 b1 (.cells (rfC x).toArray 112), blk1 bx (refO q (.slice (some ⟨b, o1, none⟩) L.length c) nb ns), pl] := hs1
      first | (refine ⟨keptF (m := blk1 bx (refO q (.slice (some ⟨b, o1, none⟩) L.length c) nb ns)) (blk1_same ..) (hs0.sub (by simp)) (hs1.sub (by simp)) (by simp), ?_⟩; conv => whnf) | skip
      refine .mk _ (appendRat (i := 0) hs1 rfl hv1 (Ro.blk1 (hs1.sub (a := blk1 b1 (.cells (rfC x).toArray 112)) (by simp) _ _ (blk1_same ..))).el.ea (by simp only [List.nil_append, List.length_take, List.length_cons, List.length_nil]; omega)) ?_
      rintro _ m2 ⟨v2, p2, rfl, hs3, hv2⟩
      conv => whnf
      have hs3 : Split m2 [p2, blk1 b1 (.cells (rfC x).toArray 112), blk1 bx (refO q (.slice (some ⟨b, o1, none⟩) L.length c) nb ns), pl] := hs3
      have hs3 : Split m2 [p2, blk1 bx (refO q (.slice (some ⟨b, o1, none⟩) L.length c) nb ns), pl] := (hs3.perm (List.Perm.swap _ _ _)).drop
      first | (refine ⟨keptF (m := blk1 bx (refO q (.slice (some ⟨b, o1, none⟩) L.length c) nb ns)) (blk1_same ..) (hs1.sub (by simp)) (hs3.sub (by simp)) (by simp), ?_⟩; conv => whnf) | skip
      refine .mk _ (appendRat (i := 0) hs3 rfl hv2 ((hpost.ea).sub (hs3.sub (a := pl) (by simp))) (by simp only [List.nil_append, List.length_append, List.length_take, List.length_drop, List.length_cons, List.length_nil]; omega)) ?_
      rintro _ m3 ⟨v3, p3, rfl, hs4, hv3⟩
      conv => whnf
      have hs4 : Split m3 [p3, blk1 bx (refO q (.slice (some ⟨b, o1, none⟩) L.length c) nb ns), pl] := hs4
      first | (refine ⟨keptF (m := blk1 bx (refO q (.slice (some ⟨b, o1, none⟩) L.length c) nb ns)) (blk1_same ..) (hs3.sub (by simp)) (hs4.sub (by simp)) (by simp), ?_⟩; conv => whnf) | skip
      have ho4 : m3 bx = some (refO q (.slice (some ⟨b, o1, none⟩) L.length c) nb ns) := hs4.sub (a := blk1 bx (refO q (.slice (some ⟨b, o1, none⟩) L.length c) nb ns)) (by simp) _ _ (blk1_same ..)
      refine ⟨_, _, _, ho4, ⟨by simp, by simp⟩, ?_⟩
      have hs5 := hs4.setAt (i := 1) rfl (blk1_same ..) (refO q v3 nb ns)
      rw [blk1_set] at hs5
      conv => whnf
      refine ⟨rfl, v3, p3, ?_, hv3⟩
      have hs6 : Split _ [p3, blk1 bx (refO q v3 nb ns), pl] := hs5
      exact (hs6.perm (l' := [pl, blk1 bx (refO q v3 nb ns), p3]) (by
        refine (List.Perm.swap _ _ _).trans ?_
        refine (List.Perm.cons _ (List.Perm.swap _ _ _)).trans ?_
        exact List.Perm.swap _ _ _)).drop
set_option maxHeartbeats 4000000 in
theorem refPut_spec {p : Mem} {bx : Nat} {q : Int} {nb ns : Nat} {L : List Rf} {x : Rf} (h : FR p bx q nb ns L) (hl : L.length ≤ 1000000) (hn : ∀ r ∈ L, r.name.size ≤ 1000000) (hx : x.name.size ≤ 1000000) : Spec Tryz.prog 89 [ptrB bx, rfV x] p fun r m' => r = [] ∧ FR m' bx q nb ns (putR L x) := by
  obtain ⟨v, pl, hs, hv⟩ := h
  obtain ⟨a, c, rfl⟩ := rfOk.shape hv.el
  have ho : p bx = some (refO q (.slice a L.length c) nb ns) := hs.sub (a := blk1 bx (refO q (.slice a L.length c) nb ns)) (by simp) _ _ (blk1_same ..)
  have hvp : Rl p (.slice a L.length c) L := (hv.sub (hs.sub (by simp))).el
  refine en89 rfl (goY ?_)
  conv => whnf
  refine .mk (ι := Nat) (fun k => L.length - k) (fun k mm => k ≤ L.length ∧ (∀ j (hj : j < L.length), j < k → encB L[j].name < encB x.name) ∧ mm = p) (fun k => [(0, .c (ptrB bx)), (3, .p 0 0), (4, .c (i64 k))]) (fun _ => [(112, [.one (.string x.name), .one (.string x.b), .one (.int .i64 (x.safe : Int))])]) 0 ⟨by omega, fun j _ h => by omega, rfl⟩ ?_ ?_
  · conv => whnf
    repeat (refine And.intro (by first | with_reducible rfl | exact congrArg (Value.int _) (wi (by omega) (by omega)) | exact wi (by omega) (by omega) | rfl) ?_; conv => whnf)
    first | exact trivial | exact fun _ _ h => h
  rintro k mm ⟨hk, hall, he⟩
  subst mm
  conv => whnf
  refine ⟨_, mcell_of ho rfl, rfl, ?_⟩
  conv => whnf
  refine ⟨fun h1 => ?_, fun h1 => ?_⟩
  · have hk1 : k < L.length := by have := of_decide_eq_true h1; omega
    clear h1
    obtain ⟨b, o, c', e, hg⟩ := rfOk.real hv.el hk1
    injection e with e1 _ _
    subst e1
    have hgk := (hg k hk1).sub (hs.sub (a := pl) (by simp))
    conv => whnf
    refine ⟨_, mcell_of ho rfl, rfl, ?_⟩
    conv => whnf
    repeat (refine And.intro (by first | omega | (simp only [times]; omega)) ?_; conv => whnf)
    refine ⟨_, by simp only [times, Int.toNat_natCast]; exact mcell_rng (j := 0) hgk rfl, rfl, ?_⟩
    conv => whnf
    first | refine xretk (refLess_spec (hn _ (List.getElem_mem hk1)) hx) ?_ | refine xret (refLess_spec (hn _ (List.getElem_mem hk1)) hx) ?_
    conv => whnf
    refine ⟨fun h2 => ?_, fun h2 => ?_⟩
    · have h2 := of_decide_eq_true h2
      conv => whnf
      refine ⟨k + 1, ⟨by omega, fun j hj hjk => ?_, rfl⟩, by first | omega | (simp only; omega), ?_⟩
      · by_cases e : j = k
        · subst e; exact h2
        · exact hall j hj (by omega)
      conv => whnf
      repeat (refine And.intro (by first | with_reducible rfl | (first | exact congrArg (Value.int _) (iadd1 (by omega))) | exact congrArg (Value.int _) (wi (by omega) (by omega)) | exact wi (by omega) (by omega) | rfl) ?_; conv => whnf)
      first | exact trivial | exact fun _ _ h => h
    · have h2 := of_decide_eq_false h2
      have hah := ahead_at hk1 hall h2
      have tl := put_tail (x := x) hs hv hl (show k ≤ L.length by omega)
      rw [show L.take k ++ [x] ++ L.drop k = putR L x by rw [putR, hah]] at tl
      conv at tl => whnf
      conv => whnf
      refine .via _ _ ?_ tl
      conv => whnf
      repeat (refine And.intro (by first | with_reducible rfl | exact congrArg (Value.int _) (wi (by omega) (by omega)) | exact wi (by omega) (by omega) | rfl) ?_; conv => whnf)
      first | exact trivial | exact fun _ _ h => h
  · have : k = L.length := by have := of_decide_eq_false h1; omega
    subst this
    have hah := ahead_all (x := x.name) (L := L) fun j hj => hall j hj hj
    have tl := put_tail (x := x) hs hv hl (Nat.le_refl _)
    rw [show L.take L.length ++ [x] ++ L.drop L.length = putR L x by rw [putR, hah]] at tl
    conv at tl => whnf
    conv => whnf
    refine .via _ _ ?_ tl
    conv => whnf
    repeat (refine And.intro (by first | with_reducible rfl | exact congrArg (Value.int _) (wi (by omega) (by omega)) | exact wi (by omega) (by omega) | rfl) ?_; conv => whnf)
    first | exact trivial | exact fun _ _ h => h
end Go.E.YtgjlajcebcmbaaaGreatDoor

/-
  The document's files: Read, Remove, Sync.
-/
namespace Go.E.YtgjlajcebcmbaaaGreatDoor
open Go.Proofs
set_option maxRecDepth 100000
def fileR (L : List Rf) (name : ByteArray) : Option Nat := L.findIdx? fun r => decide (r.name = name)
theorem atR_some {L : List Rf} {name : ByteArray} {i : Nat} (h : fileR L name = some i) : atR L name = i ∧ i < L.length := by
  refine ⟨by unfold atR; rw [show L.findIdx? (fun r => decide (r.name = name)) = some i from h], ?_⟩
  obtain ⟨h1, _⟩ := List.findIdx?_eq_some_iff_getElem.1 h
  exact h1
theorem atR_none {L : List Rf} {name : ByteArray} (h : fileR L name = none) : atR L name = -1 := by
  unfold atR; rw [show L.findIdx? (fun r => decide (r.name = name)) = none from h]
def errR (L : List Rf) (name : ByteArray) : Int := if (fileR L name).isSome then 0 else 4
theorem refRead_spec {m : Mem} {bx : Nat} {q : Int} {nb ns : Nat} {L : List Rf} {v : Value} {name : ByteArray} (h : RM m bx q nb ns L v) (hl : L.length ≤ 1000000) : Ret Tryz.prog 51 [ptrB bx, .v (.string name)] m [.v (.string (((fileR L name).bind fun i => L[i]?.map (·.b)).getD ByteArray.empty)), i64 (errR L name)] := by
  have hat := refAt_spec (name := name) h hl
  obtain ⟨ho, hv⟩ := h
  obtain ⟨a, c, rfl⟩ := rfOk.shape hv
  refine en51 rfl (goY ?_)
  conv => whnf
  first | refine xretk (hat) ?_ | refine xret (hat) ?_
  conv => whnf
  cases hf : fileR L name with
  | none =>
    rw [atR_none hf]
    refine ⟨fun _ => ?_, fun h => absurd h (by first | decide | simp)⟩
    conv => whnf
    exact ⟨by simp [errR, hf]; rfl, rfl⟩
  | some i =>
    obtain ⟨e1, hi⟩ := atR_some hf
    rw [e1]
    refine ⟨fun h => absurd (of_decide_eq_true h) (by omega), fun _ => ?_⟩
    obtain ⟨b, o, c', e, hg⟩ := rfOk.real hv hi
    injection e with e2 _ _
    subst e2
    conv => whnf
    refine ⟨_, mcell_of ho rfl, rfl, ?_⟩
    conv => whnf
    repeat (refine And.intro (by first | omega | (simp only [times]; omega)) ?_; conv => whnf)
    refine ⟨_, by simp only [times, Int.toNat_natCast]; exact mcell_rng (j := 1) (hg i hi) rfl, rfl, ?_⟩
    conv => whnf
    exact ⟨by simp [errR, hf, List.getElem?_eq_getElem hi], rfl⟩
theorem refRemove_spec {p : Mem} {bx : Nat} {q : Int} {nb ns : Nat} {L : List Rf} {name : ByteArray} (h : FR p bx q nb ns L) (hl : L.length ≤ 1000000) : Spec Tryz.prog 47 [ptrB bx, .v (.string name)] p fun r m' => r = [i64 (errR L name)] ∧ FR m' bx q nb ns (match fileR L name with | some i => L.eraseIdx i | none => L) := by
  obtain ⟨v, hrm⟩ := h.rm
  have hat := refAt_spec (name := name) hrm hl
  refine en47 rfl (goY ?_)
  conv => whnf
  first | refine xretk (hat) ?_ | refine xret (hat) ?_
  conv => whnf
  cases hf : fileR L name with
  | none =>
    rw [atR_none hf]
    refine ⟨fun _ => ?_, fun h => absurd h (by first | decide | simp)⟩
    conv => whnf
    exact ⟨by simp [errR, hf], h⟩
  | some i =>
    obtain ⟨e1, hi⟩ := atR_some hf
    rw [e1]
    refine ⟨fun h => absurd (of_decide_eq_true h) (by omega), fun _ => ?_⟩
    conv => whnf
    refine xcall (refCut_spec h hi hl) ?_
    rintro _ m1 ⟨rfl, h2⟩
    conv => whnf
    exact ⟨by simp [errR, hf], h2⟩
end Go.E.YtgjlajcebcmbaaaGreatDoor

/-
  A store of some of an element's cells.
-/
namespace Go.E
section
variable {α : Type} {enc : α → List Value} {s : Nat}
theorem put_part {arr : Array Value} {a j : Nat} {old cs : List Value} (hfit : a + old.length ≤ arr.size) (hold : ∀ k u, old[k]? = some u → arr[a + k]? = some u) (hj : j + cs.length ≤ old.length) :
    arr.toList.take a ++ ((old.take j ++ cs ++ old.drop (j + cs.length)) ++ arr.toList.drop (a + old.length)) = arr.toList.take (a + j) ++ (cs ++ arr.toList.drop (a + j + cs.length)) := by
  have hlen : (old.take j ++ cs ++ old.drop (j + cs.length)).length = old.length := by
    simp only [List.length_append, List.length_take, List.length_drop]; omega
  have h1 := fun k u => put_cells (arr := arr) (cs := old.take j ++ cs ++ old.drop (j + cs.length)) (a := a) (j := k) (u := u) (by rw [hlen]; exact hfit)
  have h2 := fun k u => put_cells (arr := arr) (cs := cs) (a := a + j) (j := k) (u := u) (by omega)
  rw [hlen] at h1
  refine List.ext_getElem? fun k => Option.ext fun u => ?_
  have h1 := h1 k u
  have h2 := h2 k u
  rw [List.getElem?_toArray] at h1 h2
  rw [h1, h2]
  by_cases k1 : k < a
  · rw [if_pos k1, if_pos (by omega)]
  rw [if_neg k1]
  by_cases k2 : k < a + old.length
  · rw [if_pos k2]
    have hin : ∃ w, old[k - a]? = some w := ⟨_, List.getElem?_eq_getElem (by omega)⟩
    obtain ⟨w, hw⟩ := hin
    have hw' := hold _ _ hw
    rw [show a + (k - a) = k by omega] at hw'
    by_cases k3 : k < a + j
    · rw [if_pos k3, List.append_assoc, List.getElem?_append_left (by rw [List.length_take]; omega), List.getElem?_take, if_pos (by omega), hw, hw']
    · rw [if_neg k3]
      by_cases k4 : k < a + j + cs.length
      · rw [if_pos k4, List.append_assoc, List.getElem?_append_right (by rw [List.length_take]; omega), List.length_take, List.getElem?_append_left (by omega), show k - a - min j old.length = k - (a + j) by omega]
      · rw [if_neg k4, List.getElem?_append_right (by rw [List.length_append, List.length_take]; omega), List.length_append, List.length_take, List.getElem?_drop, show j + cs.length + (k - a - (min j old.length + cs.length)) = k - a by omega, hw, hw']
  · rw [if_neg k2, if_neg (by omega), if_neg (by omega)]
/-- some of an element's cells are stored -/
theorem EncOk.setPart (h : EncOk enc s) {p : Mem} {T : TypeId} {b o n c : Nat} {E : List α} (hl : Own p T s (.slice (some ⟨b, o, none⟩) n c) (E.flatMap enc)) {i j : Nat} (hi : i < E.length) {cs : List Value} {x : α} (hj : j + cs.length ≤ s) (hx : enc x = (enc E[i]).take j ++ cs ++ (enc E[i]).drop (j + cs.length)) :
    ∃ arr, p b = some (.cells arr T (0, 0)) ∧ o + i * s + j + cs.length ≤ arr.size ∧ Own (p.set b (.cells (arr.toList.take (o + i * s + j) ++ (cs ++ arr.toList.drop (o + i * s + j + cs.length))).toArray T (0, 0))) T s (.slice (some ⟨b, o, none⟩) n c) ((E.set i x).flatMap enc) := by
  obtain ⟨arr, h1, h2, h3⟩ := h.set hl hi x
  obtain ⟨arr', g1, _, _, _, g5⟩ := h.row hl
  rw [h1] at g1
  cases g1
  refine ⟨arr, h1, by omega, ?_⟩
  have hold : ∀ k u, (enc E[i])[k]? = some u → arr[o + i * s + k]? = some u := fun k u hu => by
    rw [Nat.add_assoc]
    exact g5 _ _ (h.at hi hu)
  rw [hx] at h3
  have := put_part (arr := arr) (a := o + i * s) (j := j) (old := enc E[i]) (cs := cs) (by rw [h.len]; exact h2) hold (by rw [h.len]; exact hj)
  rw [h.len] at this
  rw [this] at h3
  exact h3
theorem setIf_eq {arr : Array Value} {a : Nat} {u : Value} (h : a < arr.size) : (arr.toList.take a ++ ([u] ++ arr.toList.drop (a + 1))).toArray = arr.setIfInBounds a u := by
  apply Array.toList_inj.1
  rw [Array.toList_setIfInBounds, List.set_eq_take_append_cons_drop, if_pos (by rw [Array.length_toList]; exact h)]
  rfl
/-- one cell of an element is stored -/
theorem EncOk.setCell (h : EncOk enc s) {p : Mem} {T : TypeId} {b o n c : Nat} {E : List α} (hl : Own p T s (.slice (some ⟨b, o, none⟩) n c) (E.flatMap enc)) {i j : Nat} (hi : i < E.length) {u : Value} {x : α} (hj : j < s) (hx : enc x = (enc E[i]).take j ++ [u] ++ (enc E[i]).drop (j + 1)) :
    ∃ arr, p b = some (.cells arr T (0, 0)) ∧ o + i * s + j < arr.size ∧ Own (p.set b (.cells (arr.setIfInBounds (o + i * s + j) u) T (0, 0))) T s (.slice (some ⟨b, o, none⟩) n c) ((E.set i x).flatMap enc) := by
  obtain ⟨arr, h1, h2, h3⟩ := h.setPart (cs := [u]) hl hi (by simp only [List.length_cons, List.length_nil]; omega) hx
  simp only [List.length_cons, List.length_nil] at h2 h3
  rw [setIf_eq (by omega)] at h3
  exact ⟨arr, h1, by omega, h3⟩
end
end Go.E

/-
  The document's files: Append, Sync, Cut, Rename.
-/
namespace Go.E.YtgjlajcebcmbaaaGreatDoor
open Go.Proofs
set_option maxRecDepth 100000
theorem fileR_lt {L : List Rf} {name : ByteArray} {i : Nat} (h : fileR L name = some i) : i < L.length := (atR_some h).2
theorem Ro.storeAt {p pb pl : Mem} {b o n c i : Nat} (j : Nat) {L : List Rf} {u : Value} {x : Rf} (hs : Split p [pb, pl]) (hv : Ro pl (.slice (some ⟨b, o, none⟩) n c) L) (hi : i < L.length) (hj : j < 3) (hx : rfC x = (rfC L[i]).take j ++ [u] ++ (rfC L[i]).drop (j + 1)) :
    ∃ arr, p b = some (.cells arr 112 (0, 0)) ∧ o + i * 3 + j < arr.size ∧ ∃ pl', Split (p.set b (.cells (arr.setIfInBounds (o + i * 3 + j) u) 112 (0, 0))) [pb, pl'] ∧ Ro pl' (.slice (some ⟨b, o, none⟩) n c) (L.set i x) := by
  obtain ⟨arr, h1, h2, h3⟩ := rfOk.setCell hv hi hj hx
  exact ⟨arr, hs.sub (a := pl) (by simp) _ _ h1, h2, _, hs.setAt (i := 1) rfl h1 _, h3⟩
set_option maxHeartbeats 4000000 in
theorem app_tailR {p : Mem} {bx i : Nat} {q : Int} {nb ns : Nat} {L : List Rf} {name s : ByteArray} (h : FR p bx q nb ns L) (hl : L.length ≤ 1000000) (hf : fileR L name = some i) (hi : i < L.length) (hb : L[i].b.size ≤ 1000000000) (hs : s.size ≤ 1000000) (hnb : nb ≤ 1000000000) {R : List CV → Mem → Prop} (hR : ∀ m', FR m' bx q (nb + s.size) ns (L.set i { L[i] with b := L[i].b ++ s }) → R [i64 0] m') :
    xwpY c48 (restAt 7 (bodyOf Tryz.f48)) (QRetY tt.get Tryz.f48.results.toList R)
      [(0, .c (ptrB bx)), (1, .c (.v (.string name))), (2, .c (.v (.string s))), (6, .c (i64 0))] [] p [] := by
  obtain ⟨v0, hrm⟩ := h.rm
  have hat := refAt_spec (name := name) hrm hl
  rw [(atR_some hf).1] at hat
  obtain ⟨v, pl, hs1, hv⟩ := h
  obtain ⟨b, o, c, rfl, hg⟩ := rfOk.real hv.el hi
  have ho : p bx = some (refO q (.slice (some ⟨b, o, none⟩) L.length c) nb ns) := hs1.sub (a := blk1 bx (refO q (.slice (some ⟨b, o, none⟩) L.length c) nb ns)) (by simp) _ _ (blk1_same ..)
  have hgi := (hg i hi).sub (hs1.sub (a := pl) (by simp))
  conv => whnf
  refine .at ?_
  first | refine xretk (hat) ?_ | refine xret (hat) ?_
  conv => whnf
  refine ⟨_, mcell_of ho rfl, rfl, ?_⟩
  conv => whnf
  refine ⟨_, mcell_of ho rfl, rfl, ?_⟩
  conv => whnf
  repeat (refine And.intro (by first | omega | (simp only [times]; omega)) ?_; conv => whnf)
  refine ⟨_, by simp only [times, Int.toNat_natCast]; exact mcell_rng (j := 1) hgi rfl, rfl, ?_⟩
  conv => whnf
  repeat (refine And.intro (by first | omega | (simp only [times]; omega)) ?_; conv => whnf)
  obtain ⟨arr, g1, g2, pl', g3, g4⟩ := Ro.storeAt 1 (u := .string (L[i].b ++ s)) (x := { L[i] with b := L[i].b ++ s }) hs1 hv hi (by decide) rfl
  refine ⟨_, _, _, g1, ⟨by simp only [times, Int.toNat_natCast]; omega, by simp⟩, ?_⟩
  simp only [times, Int.toNat_natCast]
  have ho1 := g3.sub (a := blk1 bx (refO q (.slice (some ⟨b, o, none⟩) L.length c) nb ns)) (by simp) _ _ (blk1_same ..)
  conv => whnf
  refine ⟨_, mcell_of ho1 rfl, rfl, ?_⟩
  conv => whnf
  refine ⟨_, _, _, ho1, ⟨by simp, by simp⟩, ?_⟩
  have ew : IntKind.u64.wrap ((nb : Int) + IntKind.u64.wrap (s.size : Int)) = ((nb + s.size : Nat) : Int) := by
    have e1 : IntKind.u64.wrap (s.size : Int) = s.size := wu (by omega) (by omega)
    rw [e1, wu (by omega) (by omega)]; omega
  have hs5 := g3.setAt (i := 0) rfl (blk1_same ..) (refO q (.slice (some ⟨b, o, none⟩) L.length c) (nb + s.size) ns)
  rw [blk1_set] at hs5
  conv => whnf
  rw [ew]
  exact hR _ ⟨_, pl', hs5, g4⟩
theorem fileR_none {L : List Rf} {name : ByteArray} : fileR L name = none ↔ ∀ r ∈ L, r.name ≠ name := by
  rw [fileR, List.findIdx?_eq_none_iff]
  exact ⟨fun h r hr => by simpa using h r hr, fun h r hr => by simpa using h r hr⟩
theorem put_get (L : List Rf) (x : Rf) : (putR L x)[aheadR L x.name]? = some x := by
  have hk := ahead_le L x.name
  rw [putR, List.getElem?_append_left (by simp; omega), List.getElem?_append_right (by rw [List.length_take]; omega), List.length_take, Nat.min_eq_left hk, Nat.sub_self]
  rfl
theorem put_len (L : List Rf) (x : Rf) : (putR L x).length = L.length + 1 := by
  have hk := ahead_le L x.name
  simp only [putR, List.length_append, List.length_take, List.length_drop, List.length_cons, List.length_nil]; omega
theorem put_mem {L : List Rf} {x r : Rf} : r ∈ putR L x ↔ r = x ∨ r ∈ L := by
  rw [putR, List.mem_append, List.mem_append, List.mem_singleton]
  have := List.take_append_drop (aheadR L x.name) L
  constructor
  · rintro ((h | h) | h)
    · exact .inr (List.mem_of_mem_take h)
    · exact .inl h
    · exact .inr (List.mem_of_mem_drop h)
  · rintro (h | h)
    · exact .inl (.inr h)
    · rw [← this, List.mem_append] at h
      rcases h with h | h
      · exact .inl (.inl h)
      · exact .inr h
theorem fileR_put {L : List Rf} {x : Rf} (h : fileR L x.name = none) : fileR (putR L x) x.name = some (aheadR L x.name) := by
  have h1 := fileR_none.1 h
  have hk := ahead_le L x.name
  have hlt : aheadR L x.name < (putR L x).length := by rw [put_len]; omega
  have hg := List.getElem?_eq_some_iff.1 (put_get L x)
  rw [fileR, List.findIdx?_eq_some_iff_getElem]
  refine ⟨hlt, by obtain ⟨_, hg⟩ := hg; rw [hg]; simp, fun j hj => ?_⟩
  have e : (putR L x)[j]'(by omega) = L[j]'(by omega) := by
    have : (putR L x)[j]? = L[j]? := by
      rw [putR, List.append_assoc, List.getElem?_append_left (by simp; omega), List.getElem?_take, if_pos hj]
    rw [List.getElem?_eq_getElem (by omega), List.getElem?_eq_getElem (by omega)] at this
    exact Option.some.inj this
  rw [e]
  simpa using h1 _ (List.getElem_mem (by omega : j < L.length))
/-- how Append's answer comes -/
def addR (L : List Rf) (name : ByteArray) : List Rf := if (fileR L name).isSome then L else putR L ⟨name, ByteArray.empty, 0⟩
theorem app_mid {p : Mem} {bx : Nat} {q : Int} {nb ns : Nat} {L : List Rf} {name s : ByteArray} (h : FR p bx q nb ns L) (hl : L.length ≤ 100000) (hn : ∀ r ∈ L, r.name.size ≤ 1000000 ∧ r.b.size ≤ 1000000000) (hx : name.size ≤ 1000000) (hs : s.size ≤ 1000000) (hnb : nb ≤ 1000000000) {R : List CV → Mem → Prop}
    (hR : ∀ m' i x, fileR (addR L name) name = some i → (addR L name)[i]? = some x → FR m' bx q (nb + s.size) ns ((addR L name).set i { x with b := x.b ++ s }) → R [i64 0] m') :
    xwpY c48 (restAt 5 (bodyOf Tryz.f48)) (QRetY tt.get Tryz.f48.results.toList R)
      [(0, .c (ptrB bx)), (1, .c (.v (.string name))), (2, .c (.v (.string s))), (6, .c (i64 0))] [] p [] := by
  obtain ⟨v, hrm⟩ := h.rm
  have hat := refAt_spec (name := name) hrm (by omega)
  conv => whnf
  refine .at ?_
  first | refine xretk (hat) ?_ | refine xret (hat) ?_
  conv => whnf
  cases hf : fileR L name with
  | none =>
    rw [atR_none hf]
    have ea : addR L name = putR L ⟨name, ByteArray.empty, 0⟩ := by rw [addR, hf]; rfl
    have hg := put_get L ⟨name, ByteArray.empty, 0⟩
    have hfp := fileR_put (x := ⟨name, ByteArray.empty, 0⟩) hf
    have hln := put_len L ⟨name, ByteArray.empty, 0⟩
    rw [ea] at hR
    obtain ⟨hi, hgi⟩ := List.getElem?_eq_some_iff.1 hg
    refine ⟨fun _ => ?_, fun h => absurd h (by first | decide | simp)⟩
    conv => whnf
    refine xcall (refPut_spec (x := ⟨name, ByteArray.empty, 0⟩) h (by omega) (fun r hr => (hn r hr).1) hx) ?_
    rintro _ m1 ⟨rfl, h2⟩
    conv => whnf
    have tl := app_tailR (s := s) h2 (by omega) hfp hi (by rw [hgi]; exact Nat.zero_le _) hs hnb (R := R) fun m' h3 => hR m' _ _ hfp hg (by rw [hgi] at h3; exact h3)
    conv at tl => whnf
    conv => whnf
    refine .via _ _ ?_ tl
    conv => whnf
    repeat (refine And.intro (by first | with_reducible rfl | exact congrArg (Value.int _) (wi (by omega) (by omega)) | exact wi (by omega) (by omega) | rfl) ?_; conv => whnf)
    first | exact trivial | exact fun _ _ h => h
  | some i =>
    obtain ⟨e1, hi⟩ := atR_some hf
    have ea : addR L name = L := by rw [addR, hf]; rfl
    rw [ea] at hR
    rw [e1]
    refine ⟨fun h => absurd (of_decide_eq_true h) (by omega), fun _ => ?_⟩
    have tl := app_tailR (s := s) h (by omega) hf hi (hn _ (List.getElem_mem hi)).2 hs hnb (R := R) fun m' h3 => hR m' _ _ hf (List.getElem?_eq_getElem hi) h3
    conv at tl => whnf
    conv => whnf
    refine .via _ _ ?_ tl
    conv => whnf
    repeat (refine And.intro (by first | with_reducible rfl | exact congrArg (Value.int _) (wi (by omega) (by omega)) | exact wi (by omega) (by omega) | rfl) ?_; conv => whnf)
    first | exact trivial | exact fun _ _ h => h
set_option maxHeartbeats 4000000 in
theorem refAppend_spec {p : Mem} {bx : Nat} {q : Int} {nb ns : Nat} {L : List Rf} {name s : ByteArray} (h : FR p bx q nb ns L) (hl : L.length ≤ 100000) (hu : usedR L ≤ 1000000000) (hn : ∀ r ∈ L, r.name.size ≤ 1000000 ∧ r.b.size ≤ 1000000000) (hx : name.size ≤ 1000000) (hs : s.size ≤ 1000000) (hq : 0 ≤ q ∧ q ≤ 9223372036854775807) (hnb : nb ≤ 1000000000) :
    Spec Tryz.prog 48 [ptrB bx, .v (.string name), .v (.string s)] p fun r m' => ∃ e L' nb', r = [i64 e] ∧ FR m' bx q nb' ns L' ∧
      (if nameOk (chs name) = false then e = 1 ∧ L' = L ∧ nb' = nb else if 0 < q ∧ q < usedR L + s.size then e = 5 ∧ L' = L ∧ nb' = nb else e = 0 ∧ nb' = nb + s.size ∧ ∃ i x, fileR (addR L name) name = some i ∧ (addR L name)[i]? = some x ∧ L' = (addR L name).set i { x with b := x.b ++ s }) := by
  obtain ⟨v, hrm⟩ := h.rm
  have huse := refUsed_spec hrm (by omega) (by omega)
  have hat := refAt_spec (name := name) hrm (by omega)
  have hnm := refIsName_spec (m := p) hx
  have ho := hrm.obj
  have ew : IntKind.i64.wrap ((usedR L : Int) + (s.size : Int)) = ((usedR L + s.size : Nat) : Int) := by rw [wi (by omega) (by omega)]; omega
  refine en48 rfl (goY ?_)
  conv => whnf
  first | refine xretk (hnm) ?_ | refine xret (hnm) ?_
  conv => whnf
  refine ⟨fun h1 => ?_, fun h1 => ?_⟩
  · have h1 : nameOk (chs name) = false := by simpa using h1
    conv => whnf
    exact ⟨_, L, nb, rfl, h, by rw [if_pos h1]; exact ⟨rfl, rfl, rfl⟩⟩
  have h1 : nameOk (chs name) = true := by simpa using h1
  conv => whnf
  refine ⟨_, mcell_of ho rfl, rfl, ?_⟩
  have tl := fun (hq : ¬ (0 < q ∧ q < usedR L + s.size)) => app_mid (name := name) (s := s) h hl hn hx hs hnb (R := fun r m' => ∃ e L' nb', r = [i64 e] ∧ FR m' bx q nb' ns L' ∧
      (if nameOk (chs name) = false then e = 1 ∧ L' = L ∧ nb' = nb else if 0 < q ∧ q < usedR L + s.size then e = 5 ∧ L' = L ∧ nb' = nb else e = 0 ∧ nb' = nb + s.size ∧ ∃ i x, fileR (addR L name) name = some i ∧ (addR L name)[i]? = some x ∧ L' = (addR L name).set i { x with b := x.b ++ s })) fun m' i x g1 g2 g3 => ⟨0, _, _, rfl, g3, by rw [if_neg (by simp [h1]), if_neg hq]; exact ⟨rfl, rfl, i, x, g1, g2, rfl⟩⟩
  conv => whnf
  refine ⟨fun h2 => ?_, fun h2 => ?_⟩
  · have h2 := of_decide_eq_true h2
    conv => whnf
    refine ⟨_, mcell_of ho rfl, rfl, ?_⟩
    conv => whnf
    first | refine xretk (huse) ?_ | refine xret (huse) ?_
    conv => whnf
    rw [ew]
    refine ⟨fun h3 => ?_, fun h3 => ?_⟩
    · have h3 := of_decide_eq_true h3
      conv => whnf
      exact ⟨_, L, nb, rfl, h, by rw [if_neg (by simp [h1]), if_pos (by omega)]; exact ⟨rfl, rfl, rfl⟩⟩
    · have h3 := of_decide_eq_false h3
      have tl := tl (by omega)
      conv at tl => whnf
      conv => whnf
      refine .via _ _ ?_ tl
      conv => whnf
      repeat (refine And.intro (by first | with_reducible rfl | exact congrArg (Value.int _) (wi (by omega) (by omega)) | exact wi (by omega) (by omega) | rfl) ?_; conv => whnf)
      first | exact trivial | exact fun _ _ h => h
  · have h2 := of_decide_eq_false h2
    have tl := tl (by omega)
    conv at tl => whnf
    conv => whnf
    refine .via _ _ ?_ tl
    conv => whnf
    repeat (refine And.intro (by first | with_reducible rfl | exact congrArg (Value.int _) (wi (by omega) (by omega)) | exact wi (by omega) (by omega) | rfl) ?_; conv => whnf)
    first | exact trivial | exact fun _ _ h => h
end Go.E.YtgjlajcebcmbaaaGreatDoor
