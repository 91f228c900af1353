/-
  Bytes: what is owned, appended.
-/
import Derived.Test.YtmfjdgdiccfecaaE23
import Derived.Test.YtmfjdgdiccfecaaCfg
import Derived.Test.YtmfjdgdiccfecaaH
namespace Go.E.Ytmfjdgdiccfecaa
open Go.Proofs
set_option maxRecDepth 100000

/-- bytes that are owned -/
def Bs (m : Mem) (v : Value) (l : List Int) : Prop := Own m 5 1 v (bc l)
theorem Bs.lb {p : Mem} {v : Value} {l : List Int} (h : Bs p v l) : Lb p v l := Own.lies h
theorem Bs.len {p : Mem} {v : Value} {l : List Int} (h : Bs p v l) : lenV v = l.length := h.lb.len
theorem Bs.sub {m m' : Mem} {v : Value} {l : List Int} (h : Bs m v l) (hs : Sub m m') : Bs m' v l := Own.sub h hs
theorem Bs.keep {m m' : Mem} {v : Value} {l : List Int} (h : Bs m v l) (hs : ∀ b, blkV v = some b → m' b = m b) : Bs m' v l := Own.keep h hs
theorem Bs.nil (m : Mem) : Bs m (.slice none 0 0) [] := .inl ⟨rfl, rfl⟩
theorem Bs.blk {m : Mem} {b : Nat} {l : List Int} {n : Nat} (hb : m b = some (.cells (bc l).toArray 5)) (hn : l.length = n) : Bs m (.slice (some ⟨b, 0, none⟩) n n) l := by
  subst hn
  refine .inr ⟨b, 0, l.length, l.length, _, rfl, hb, by simp [bc], Nat.le_refl _, by simp [bc], ?_, bc_one⟩
  intro j u hu; rw [Nat.zero_add, List.getElem?_toArray]; exact hu
theorem hU8 : tt.get 5 = some ⟨.int .u8, 1, 1, [.one (.int .u8 0)], false⟩ := by rfl
theorem hBs : tt.get 33 = some ⟨.slice 5, 1, 24, [.one (.slice none 0 0)], false⟩ := by rfl
/-- what an append of bytes leaves -/
structure BApd (m : Mem) (v : Value) (l : List Int) (v' : Value) (m' : Mem) : Prop where
  own : Bs m' v' l
  keep : ∀ b o, m b = some o → blkV v ≠ some b → m' b = some o
  new : ∀ b, blkV v' = some b → blkV v = some b ∨ m b = none
theorem appendB {m : Mem} {v x : Value} {l news : List Int} (hv : Bs m v l) (hg : La m x news) (hb : l.length + news.length ≤ 1000000000) :
    PrimSpec Try.prog (.builtin .append [33, 33]) [.v v, .v x] m fun r m' => ∃ v', r = [.v v'] ∧ BApd m v (l ++ news) v' m' := by
  have e1 := hv.len
  have e2 := hg.len
  refine (append_spec tt_ok hBs rfl hU8 hBs rfl hv hg.gives (by rw [e1, e2]; simp only; omega) (by rw [e1, e2]; omega)).mono fun r m' ⟨v', h1, h2⟩ => ⟨v', h1, ?_⟩
  rw [← bc_append] at h2
  exact ⟨h2.own, h2.keep, h2.new⟩
theorem appendBat {m p : Mem} {ls : List Mem} {i : Nat} {v x : Value} {l news : List Int} (hs : Split m ls) (hi : ls[i]? = some p) (hv : Bs p v l) (hg : La m x news) (hb : l.length + news.length ≤ 1000000000) :
    PrimSpec Try.prog (.builtin .append [33, 33]) [.v v, .v x] m fun r m' => ∃ v' p', r = [.v v'] ∧ Split m' (ls.set i p') ∧ BApd p v (l ++ news) v' p' := by
  have e1 := hv.len
  have e2 := hg.len
  refine (append_at tt_ok hBs rfl hU8 hBs rfl hs hi hv hg.gives (by rw [e1, e2]; simp only; omega) (by rw [e1, e2]; omega)).mono fun r m' ⟨v', p', h1, h2, h3⟩ => ⟨v', p', h1, h2, ?_⟩
  rw [← bc_append] at h3
  exact ⟨h3.own, h3.keep, h3.new⟩
theorem build1 {m : Mem} {x : Int} : PrimSpec Try.prog (.buildSlice 33 1 [0]) [.v (.int .u8 x)] m fun r m' => ∃ b, m b = none ∧ r = [.v (.slice (some ⟨b, 0, none⟩) 1 1)] ∧ m' = m.set b (.cells (bc [x]).toArray 5) :=
  buildSlice_spec (n := 1) tt_ok hBs rfl hU8 rfl rfl (by simp [CV.cs]) (by simp) (by simp)
/-- one byte, onto a slice: both operations' memory -/
theorem push_mem {m m' : Mem} {b' : Nat} {o : Obj} {v v' : Value} {l : List Int} (hb : m b' = none) (h : BApd (m.set b' o) v l v' m') : BApd m v l v' m' :=
  ⟨h.own, fun b u hm hn => h.keep b u (Mem.sub_set _ hb _ _ hm) hn, fun b hv => (h.new b hv).imp id fun hx => by
    by_cases e : b = b'
    · subst e; exact hb
    · rw [Mem.set_ne _ _ e] at hx; exact hx⟩
theorem Lb.blk {m : Mem} {b : Nat} {l : List Int} {n : Nat} (hb : m b = some (.cells (bc l).toArray 5)) (hn : l.length = n) : Lb m (.slice (some ⟨b, 0, none⟩) n n) l := (Bs.blk hb hn).lb
theorem Lb.own {m : Mem} {v : Value} {l : List Int} (h : Lb m v l) : (∃ c, v = .slice none 0 c) ∨ ∃ a c, v = .slice (some a) l.length c := by
  rcases h.cases with ⟨c, rfl, _⟩ | ⟨b, o, c, arr, t, fr, rfl, _⟩
  · exact .inl ⟨c, rfl⟩
  · exact .inr ⟨_, c, rfl⟩
end Go.E.Ytmfjdgdiccfecaa
