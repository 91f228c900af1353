/-
  Slices that are owned: append; make; what lies in them; copies.
-/
import Derived.Test.YtkapdbbjgpofnaaE15
import Derived.Deep.AppendSrc
namespace Go.E
section
variable {P : Program} {T : Tab}

/-- A slice's cells lie in memory that is known. -/
def Lies (m : Mem) (size : Nat) (v : Value) (l : List Value) : Prop :=
  (∃ c, v = .slice none 0 c ∧ l = []) ∨ ∃ b o c n arr t fr, v = .slice (some ⟨b, o, none⟩) n c ∧ m b = some (.cells arr t fr) ∧ l.length = n * size ∧ n ≤ c ∧ (∀ j u, l[j]? = some u → arr[o + j]? = some u) ∧ (∀ u ∈ l, u.oneCell' = true)
/-- A slice whose whole row is known, and may be written. -/
def Own (m : Mem) (e : TypeId) (size : Nat) (v : Value) (l : List Value) : Prop :=
  (v = .slice none 0 0 ∧ l = []) ∨ ∃ b o c n arr, v = .slice (some ⟨b, o, none⟩) n c ∧ m b = some (.cells arr e (0, 0)) ∧ l.length = n * size ∧ n ≤ c ∧ o + c * size ≤ arr.size ∧ (∀ j u, l[j]? = some u → arr[o + j]? = some u) ∧ (∀ u ∈ l, u.oneCell' = true)
theorem Own.lies {m : Mem} {e : TypeId} {size : Nat} {v : Value} {l : List Value} (h : Own m e size v l) : Lies m size v l := by
  rcases h with ⟨rfl, rfl⟩ | ⟨b, o, c, n, arr, rfl, h1, h2, h5, _, h3, h4⟩
  · exact .inl ⟨0, rfl, rfl⟩
  · exact .inr ⟨b, o, c, n, arr, e, (0, 0), rfl, h1, h2, h5, h3, h4⟩
theorem Lies.sub {m m' : Mem} {size : Nat} {v : Value} {l : List Value} (h : Lies m size v l) (hs : Sub m m') : Lies m' size v l := by
  rcases h with h | ⟨b, o, c, n, arr, t, fr, rfl, h1, h2⟩
  · exact .inl h
  · exact .inr ⟨b, o, c, n, arr, t, fr, rfl, hs _ _ h1, h2⟩
theorem Own.sub {m m' : Mem} {e : TypeId} {size : Nat} {v : Value} {l : List Value} (h : Own m e size v l) (hs : Sub m m') : Own m' e size v l := by
  rcases h with h | ⟨b, o, c, n, arr, rfl, h1, h2⟩
  · exact .inl h
  · exact .inr ⟨b, o, c, n, arr, rfl, hs _ _ h1, h2⟩
/-- the block of a slice -/
def blkV : Value → Option Nat
  | .slice (some a) _ _ => some a.block
  | _ => none
theorem Lies.keep {m m' : Mem} {size : Nat} {v : Value} {l : List Value} (h : Lies m size v l) (hs : ∀ b, blkV v = some b → m' b = m b) : Lies m' size v l := by
  rcases h with h | ⟨b, o, c, n, arr, t, fr, rfl, h1, h2⟩
  · exact .inl h
  · exact .inr ⟨b, o, c, n, arr, t, fr, rfl, by rw [hs b rfl]; exact h1, h2⟩
theorem Own.keep {m m' : Mem} {e : TypeId} {size : Nat} {v : Value} {l : List Value} (h : Own m e size v l) (hs : ∀ b, blkV v = some b → m' b = m b) : Own m' e size v l := by
  rcases h with h | ⟨b, o, c, n, arr, rfl, h1, h2⟩
  · exact .inl h
  · exact .inr ⟨b, o, c, n, arr, rfl, by rw [hs b rfl]; exact h1, h2⟩
/-- how many -/
def lenV : Value → Nat
  | .slice _ n _ => n
  | .string s => s.size
  | _ => 0
theorem Lies.one {m : Mem} {size : Nat} {v : Value} {l : List Value} (h : Lies m size v l) : v.oneCell' = true := by
  rcases h with ⟨c, rfl, _⟩ | ⟨b, o, c, n, arr, t, fr, rfl, _⟩ <;> rfl
theorem Lies.cellsOne {m : Mem} {size : Nat} {v : Value} {l : List Value} (h : Lies m size v l) : ∀ u ∈ l, u.oneCell' = true := by
  rcases h with ⟨c, rfl, rfl⟩ | ⟨b, o, c, n, arr, t, fr, rfl, _, _, _, _, h1⟩
  · simp
  · exact h1
theorem Lies.len {m : Mem} {size : Nat} {v : Value} {l : List Value} (h : Lies m size v l) : l.length = lenV v * size := by
  rcases h with ⟨c, rfl, rfl⟩ | ⟨b, o, c, n, arr, t, fr, rfl, _, h1, _⟩
  · simp [lenV]
  · exact h1

/-- What a second argument of append gives: a slice that lies there, or a string's bytes. -/
def Gives (m : Mem) (size : Nat) (k : TK) (x : Value) (news : List Value) : Prop :=
  (∃ e, k = .slice e ∧ (Lies m size x news ∨ (news = [] ∧ ∃ a, x = .slice (some a) 0 0))) ∨ (k = .str ∧ size = 1 ∧ ∃ s, x = .string s ∧ news = byteCells s)

theorem Gives.src (hT : TabOk P T) {tx : TypeId} {xi : TI} (hx : T tx = some xi) {m : Mem} {size : Nat} {x : Value} {news : List Value} (h : Gives m size xi.k x news) {W : World} (hW : Over m W) : Src P size tx x (lenV x) news W := by
  obtain ⟨d, h1, h2⟩ := (hT tx xi hx).desc
  rcases h with ⟨e, hk, hl⟩ | ⟨hk, rfl, s, rfl, rfl⟩
  · rw [hk] at h2
    have hd := slice_desc h2
    subst hd
    rcases hl with (⟨c, rfl, rfl⟩ | ⟨b, o, c, n, arr, t, fr, rfl, g1, g2, _, g3, g4⟩) | ⟨rfl, a, rfl⟩
    rotate_left 2
    · exact Src.ofSlice W h1 a 0 0 [] (by simp) (by simp) (by simp)
    · exact Src.ofNil W h1 c
    · refine Src.ofSlice W h1 _ n c news g2 (fun j u hu => ?_) g4
      rw [add_none, cell_at (hW _ _ g1)]
      exact g3 j u hu
  · rw [hk] at h2
    have hd := str_desc h2
    subst hd
    exact Src.ofString W h1 s

theorem growBy_le (k : Nat) : ∀ (r c : Nat), c ≤ k → Builtin.growBy k r c ≤ 2 * k + 768
  | 0, c, h => by simp only [Builtin.growBy]; omega
  | r + 1, c, h => by
    simp only [Builtin.growBy]
    split
    · omega
    · by_cases h2 : c + (c + 768) / 4 ≤ k
      · exact growBy_le k r _ h2
      · cases r with
        | zero => simp only [Builtin.growBy]; omega
        | succ r => simp only [Builtin.growBy]; rw [if_pos (by omega)]; omega
theorem nextcap_le {need cap : Nat} (h : cap < need) : Builtin.nextslicecap need cap ≤ 2 * need + 768 := by
  unfold Builtin.nextslicecap
  split
  · omega
  · split
    · omega
    · exact growBy_le need 4 cap (by omega)

theorem drew_eq (W : World) : W.drew = { W with drawn := W.drawn + 1 } := rfl
theorem zeroCells_size (z : Array Value) (n : Nat) : (Builtin.zeroCells z n).size = n * z.size := by simp [Builtin.zeroCells]

theorem getElem?_app_left {α : Type} {l r : List α} {j : Nat} {u : α} (h : l[j]? = some u) : (l ++ r)[j]? = some u := by
  rw [List.getElem?_append_left (List.getElem?_eq_some_iff.1 h).1]; exact h

/-- what an append leaves: v' is the slice behind it -/
structure Apd (m : Mem) (e : TypeId) (size : Nat) (v : Value) (l : List Value) (k : Nat) (v' : Value) (m' : Mem) : Prop where
  own : Own m' e size v' l
  keep : ∀ b o, m b = some o → blkV v ≠ some b → m' b = some o
  new : ∀ b, blkV v' = some b → blkV v = some b ∨ m b = none
  len : lenV v' = lenV v + k
/-- append onto a slice that is owned -/
theorem append_spec (hT : TabOk P T) {t e tx : TypeId} {ti ei xi : TI} (ht : T t = some ti) (hk : ti.k = .slice e) (he : T e = some ei) (hx : T tx = some xi) (hz : (LB.cells ei.zero).length = ei.size) {v x : Value} {l news : List Value} {m : Mem}
    (hv : Own m e ei.size v l) (hg : Gives m ei.size xi.k x news) (hbig : (2 * (lenV v + lenV x) + 768) * ei.bytes ≤ 281474976710656) (hb1 : lenV v + lenV x ≤ 9223372036854775807) :
    PrimSpec P (.builtin .append [t, tx]) [.v v, .v x] m fun r m' => ∃ v', r = [.v v'] ∧ Apd m e ei.size v (l ++ news) (lenV x) v' m' := by
  intro _ ty W hW
  obtain ⟨j, hj, hjs, hjb, z, hjz, hzc⟩ := (hT e ei he).inf
  have hsl := (hT t ti ht).slice hk
  have src := hg.src hT hx hW
  have hzsz : z.cells.size = ei.size := by rw [hzc]; simpa using hz
  have hlies := hv.lies
  -- the arm that grows
  have grow : ∀ (base : Option Addr) (n c : Nat), v = .slice base n c → c < n + lenV x → (Builtin.firstCells ei.size n (.slice base n c)).run P W.drew = .ok l.toArray W.drew → l.length = n * ei.size → (∀ u ∈ l, u.oneCell' = true) →
      ∃ r m' W', (Prim.run (.builtin .append [t, tx]) ty ([CV.v v, CV.v x].map CV.val)).run P W = .ok (resVal r) W' ∧ (∀ x ∈ r, x.ok) ∧
        (∃ v', r = [.v v'] ∧ Apd m e ei.size v (l ++ news) (lenV x) v' m') ∧ After m W m' W' := by
    rintro base n c rfl hlt hold hln hone
    have hbig' : (2 * (n + lenV x) + 768) * ei.bytes ≤ 281474976710656 := hbig
    have hb1' : n + lenV x ≤ 9223372036854775807 := hb1
    have hrun := run_append_grow_src W t tx ty e j z hsl hj hjz base n c l (by rw [hjs]; exact hold) x (lenV x) news (by rw [hjs]; exact src) hlt (by omega)
      (by rw [hjb]; exact Nat.le_trans (Nat.mul_le_mul_right _ (nextcap_le hlt)) hbig')
    have hcap := grownCap_ge W (n + lenV x) c e
    generalize hC : grownCap W (n + lenV x) c e = C at hrun hcap
    refine ⟨[.v (.slice (some ⟨W.heap.size, 0, none⟩) (n + lenV x) C)], m.set W.heap.size (.cells ((l ++ news).toArray ++ Builtin.zeroCells z.cells (C - (n + lenV x))) e), _, ?_, ?_, ⟨_, rfl, ?_, ?_, ?_, rfl⟩, (After.refl hW).drew.alloc _⟩
    · exact hrun
    · intro y hy; simp at hy; subst hy; rfl
    · refine .inr ⟨W.heap.size, 0, C, n + lenV x, _, rfl, Mem.set_same .., ?_, hcap, ?_, ?_, ?_⟩
      · rw [List.length_append, hln, src.newsLen, Nat.add_mul]
      · have e1 : (C - (n + lenV x)) * ei.size + (n + lenV x) * ei.size = C * ei.size := by rw [← Nat.add_mul]; congr 1; omega
        have e2 : (l ++ news).length = (n + lenV x) * ei.size := by rw [List.length_append, hln, src.newsLen, Nat.add_mul]
        simp only [Array.size_append, List.size_toArray, zeroCells_size, hzsz, e2]
        omega
      · intro i u hu
        rw [Nat.zero_add]
        rw [Array.getElem?_append_left (by simpa using (List.getElem?_eq_some_iff.1 hu).1)]
        simpa using hu
      · intro u hu
        rcases List.mem_append.1 hu with h | h
        · exact hone u h
        · exact src.one u h
    · intro b o hb _
      exact Mem.sub_set _ (hW.none (Nat.le_refl _)) b o hb
    · intro b hb
      simp only [blkV, Option.some.injEq] at hb
      subst hb
      exact .inr (hW.none (Nat.le_refl _))
  have len : ∀ w', (Builtin.lenOf x).run P w' = .ok (lenV x) w' := src.len
  rcases hv with ⟨rfl, rfl⟩ | ⟨b, o, c, n, arr, rfl, g1, g2, g3, g4, g5, g6⟩
  · by_cases h0 : lenV x = 0
    · -- nothing onto nothing
      have hn0 : news = [] := by
        have := src.newsLen; rw [h0, Nat.zero_mul] at this; exact List.length_eq_zero_iff.1 this
      subst hn0
      refine ⟨[.v (.slice none 0 0)], m, W, ?_, ?_, ⟨_, rfl, .inl ⟨rfl, rfl⟩, fun b o h _ => h, fun b hb => by simp [blkV] at hb, by rw [h0]; rfl⟩, After.refl hW⟩
      · have hc : (Builtin.firstCells ei.size 0 x).run P W = .ok #[] W := by have := src.cells; rw [h0] at this; exact this
        have len0 : ∀ w', (Builtin.lenOf x).run P w' = .ok 0 w' := by rw [← h0]; exact len
        rcases src.kind with ⟨e', hk'⟩ | hk' <;>
          simp [Prim.run, CV.val, resVal, Builtin.append_, run_underlying hsl, run_underlying hk', sizeOf, typeInfo, hj, len0, hjs, hc]
      · intro y hy; simp at hy; subst hy; rfl
    · exact grow none 0 0 rfl (by omega) (by simp [Builtin.firstCells]) (by simp) (by simp)
  · by_cases hroom : n + lenV x ≤ c
    · have hW1 := hW _ _ g1
      have hnl := src.newsLen
      have hle : o + n * ei.size + news.length ≤ arr.size := by
        have : n * ei.size + lenV x * ei.size ≤ c * ei.size := by rw [← Nat.add_mul]; exact Nat.mul_le_mul_right _ hroom
        omega
      have hst := run_storeCells_gen (P := P) b (o + n * ei.size) e (0, 0) news 0 arr W hW1 (by simpa using hle) src.one (by intro j _ h; omega)
      simp only [Nat.add_zero] at hst
      generalize hA : (arr.toList.take (o + n * ei.size) ++ (news ++ arr.toList.drop (o + n * ei.size + news.length))).toArray = A at hst
      have hAs : A.size = arr.size := by rw [← hA]; simp; omega
      have hAat : ∀ i, i < o + n * ei.size → A[i]? = arr[i]? := by
        intro i hi
        rw [← hA]
        simp only [List.getElem?_toArray]
        rw [List.getElem?_append_left (by simp; omega), List.getElem?_take, if_pos hi]
        simp
      have hAnew : ∀ i u, news[i]? = some u → A[o + n * ei.size + i]? = some u := by
        intro i u hu
        have hi := (List.getElem?_eq_some_iff.1 hu).1
        rw [← hA]
        simp only [List.getElem?_toArray]
        have hl1 : (arr.toList.take (o + n * ei.size)).length = o + n * ei.size := by simp; omega
        rw [List.getElem?_append_right (by omega), hl1, Nat.add_sub_cancel_left, List.getElem?_append_left hi]
        exact hu
      refine ⟨[.v (.slice (some ⟨b, o, none⟩) (n + lenV x) c)], m.set b (.cells A e (0, 0)), W.setRow b A, ?_, ?_, ⟨_, rfl, .inr ⟨b, o, c, n + lenV x, A, rfl, Mem.set_same .., ?_, hroom, by rw [hAs]; exact g4, ?_, ?_⟩, ?_, fun b' hb' => .inl hb', rfl⟩, (After.refl hW).setRow g1 A⟩
      · have hc := src.cells
        rcases src.kind with ⟨e', hk'⟩ | hk' <;>
          simp [Prim.run, CV.val, resVal, Builtin.append_, run_underlying hsl, run_underlying hk', sizeOf, typeInfo, hj, len, hjs, hroom, hc, add_none, hst]
      · intro y hy; simp at hy; subst hy; rfl
      · rw [List.length_append, g2, hnl, Nat.add_mul]
      · intro i u hu
        by_cases hi : i < l.length
        · rw [List.getElem?_append_left hi] at hu
          rw [hAat _ (by omega)]
          exact g5 i u hu
        · rw [List.getElem?_append_right (by omega)] at hu
          have := hAnew _ _ hu
          rw [show o + i = o + n * ei.size + (i - l.length) by omega]
          exact this
      · intro u hu
        rcases List.mem_append.1 hu with h | h
        · exact g6 u h
        · exact src.one u h
      · intro b' o' hb' hne
        rw [Mem.set_ne _ _ (fun e => hne (by rw [e]; rfl))]
        exact hb'
    · refine grow (some ⟨b, o, none⟩) n c rfl (by omega) ?_ g2 g6
      refine run_firstCells_some W.drew ei.size n _ n c l g2 (fun i u hu => ?_)
      rw [add_none]
      have hW1 : W.drew.heap[b]? = some (.cells arr e (0, 0)) := hW _ _ g1
      rw [cell_at hW1]
      exact g5 i u hu
#print axioms append_spec
end
end Go.E
