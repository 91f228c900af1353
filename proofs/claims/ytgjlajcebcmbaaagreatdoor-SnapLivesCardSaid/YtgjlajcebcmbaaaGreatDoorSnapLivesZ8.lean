/-
  Fi4, By, Fi5, Fi6, Fi7, Fi8, Ints, Fi9, FiA, FiQ, FiK, Fr1, Fr2
-/
import Derived.Test.YtgjlajcebcmbaaaGreatDoorSnapLivesZ7
/-
  Files: what changes them.
-/
namespace Go.E.YtgjlajcebcmbaaaGreatDoor
open Go.Proofs
set_option maxRecDepth 100000
section
variable {p : Mem} {bf bm : Nat} {q : Int} {nb ns clock : Nat} {A B : List Fl} {f g : Fl}
/-- one file taken out of the parts -/
theorem partsPerm (A B : List Fl) (f : Fl) (X Y : Mem) : (X :: Y :: (A ++ f :: B).flatMap Fl.parts).Perm (blk1 f.bx (fileO f.v f.safe) :: f.p :: X :: Y :: (A ++ B).flatMap Fl.parts) := by
  rw [List.flatMap_append, List.flatMap_cons, List.flatMap_append]
  have h1 : (A.flatMap Fl.parts ++ (f.parts ++ B.flatMap Fl.parts)).Perm (f.parts ++ (A.flatMap Fl.parts ++ B.flatMap Fl.parts)) := by
    rw [← List.append_assoc, ← List.append_assoc]
    exact List.Perm.append_right _ List.perm_append_comm
  refine (List.Perm.cons X (List.Perm.cons Y h1)).trans ?_
  show (X :: Y :: (blk1 f.bx (fileO f.v f.safe) :: f.p :: (A.flatMap Fl.parts ++ B.flatMap Fl.parts))).Perm _
  exact (List.perm_append_comm (l₁ := [X, Y]) (l₂ := [blk1 f.bx (fileO f.v f.safe), f.p])).append_right _
theorem FS.pick (h : FS p bf bm q nb ns clock (A ++ f :: B)) : Split p (blk1 f.bx (fileO f.v f.safe) :: f.p :: blk1 bf (filesO q bm nb ns) :: blk1 bm (mapF (A ++ f :: B) clock) :: (A ++ B).flatMap Fl.parts) := h.sp.perm (partsPerm A B f _ _)
theorem men_same (h1 : g.name = f.name) (h2 : g.bx = f.bx) (h3 : g.born = f.born) : (A ++ g :: B).map Fl.men = (A ++ f :: B).map Fl.men := by
  simp only [List.map_append, List.map_cons, Fl.men, h1, h2, h3]
/-- a file that was changed put back -/
theorem FS.put (h : FS p bf bm q nb ns clock (A ++ f :: B)) {p' : Mem} {nb' ns' : Nat} (h1 : g.name = f.name) (h2 : g.bx = f.bx) (h3 : g.born = f.born) (hok : g.Ok clock)
    (hs : Split p' (blk1 f.bx (fileO g.v g.safe) :: g.p :: blk1 bf (filesO q bm nb' ns') :: blk1 bm (mapF (A ++ f :: B) clock) :: (A ++ B).flatMap Fl.parts)) : FS p' bf bm q nb' ns' clock (A ++ g :: B) := by
  refine ⟨?_, ?_, ?_, ?_⟩
  · have e : mapF (A ++ g :: B) clock = mapF (A ++ f :: B) clock := by rw [mapF, mapF, men_same h1 h2 h3]
    rw [e]
    rw [← h2] at hs
    exact hs.perm (partsPerm A B g _ _).symm
  · intro x hx
    rcases List.mem_append.1 hx with hx | hx
    · exact h.ok x (by simp [hx])
    · rcases List.mem_cons.1 hx with rfl | hx
      · exact hok
      · exact h.ok x (by simp [hx])
  · have := h.names
    have e : (A ++ g :: B).map (·.name) = (A ++ f :: B).map (·.name) := by simp [h1]
    have h4 := List.pairwise_map.2 this
    rw [← e] at h4
    exact List.pairwise_map.1 h4
  · have := h.borns
    have e : (A ++ g :: B).map (·.born) = (A ++ f :: B).map (·.born) := by simp [h3]
    have h4 := List.pairwise_map.2 this
    rw [← e] at h4
    exact List.pairwise_map.1 h4
end
/-- files with one changed -/
def mapAt (F : List Fl) (name : ByteArray) (k : Fl → Fl) : List Fl := F.map fun f => if f.name = name then k f else f
theorem mapAt_split {A B : List Fl} {f : Fl} {k : Fl → Fl} (hn : (A ++ f :: B).Pairwise fun a b => a.name ≠ b.name) : mapAt (A ++ f :: B) f.name k = A ++ k f :: B := by
  obtain ⟨h1, h2, h3⟩ := List.pairwise_append.1 hn
  obtain ⟨h4, _⟩ := List.pairwise_cons.1 h2
  have ea : A.map (fun g => if g.name = f.name then k g else g) = A := by
    refine (List.map_congr_left fun g hg => ?_).trans (List.map_id A)
    rw [if_neg (h3 g hg f (by simp))]; rfl
  have eb : B.map (fun g => if g.name = f.name then k g else g) = B := by
    refine (List.map_congr_left fun g hg => ?_).trans (List.map_id B)
    rw [if_neg (Ne.symm (h4 g hg))]; rfl
  rw [mapAt, List.map_append, List.map_cons, ea, eb, if_pos rfl]
theorem cells4 {q : Int} {bm nb ns x : Nat} : (#[.int .i64 q, .map (some bm), .int .u64 (nb : Int), .int .u64 (ns : Int)] : Array Value).setIfInBounds 3 (.int .u64 (x : Int)) = #[.int .i64 q, .map (some bm), .int .u64 (nb : Int), .int .u64 (x : Int)] := rfl
theorem cells3 {q : Int} {bm nb ns x : Nat} : (#[.int .i64 q, .map (some bm), .int .u64 (nb : Int), .int .u64 (ns : Int)] : Array Value).setIfInBounds 2 (.int .u64 (x : Int)) = #[.int .i64 q, .map (some bm), .int .u64 (x : Int), .int .u64 (ns : Int)] := rfl
/-- Sync -/
def syncF (F : List Fl) (name : ByteArray) : List Fl := mapAt F name fun f => { f with safe := f.l.length }
set_option maxHeartbeats 1000000 in
theorem sync_spec {m : Mem} {bf bm : Nat} {q : Int} {nb ns clock : Nat} {F : List Fl} {name : ByteArray} (h : FS m bf bm q nb ns clock F) (hns : ns ≤ 1000000000000000000) :
    Spec Tryz.prog 44 [ptrB bf, .v (.string name)] m fun r m' => (r = [i64 (if (fileOf F name).isSome then 0 else 4)]) ∧ FS m' bf bm q nb (if (fileOf F name).isSome then ns + 1 else ns) clock (syncF F name) := by
  have hf := find_spec (name := name) h
  refine en44 rfl (goY ?_)
  conv => whnf
  cases e : fileOf F name with
  | none =>
    rw [e] at hf
    first | refine xretk (hf) ?_ | refine xret (hf) ?_
    conv => whnf
    refine ⟨fun h => absurd h (by first | decide | simp), fun _ => ?_⟩
    conv => whnf
    refine ⟨rfl, ?_⟩
    have : syncF F name = F := by
      refine (List.map_congr_left fun f hf => ?_).trans (List.map_id F)
      have := List.find?_eq_none.1 e f hf
      rw [if_neg (fun e => this (by simp [e]))]; rfl
    rw [this]; exact h
  | some f =>
    rw [e] at hf
    obtain ⟨A, B, rfl, _, rfl⟩ := fileOf_split e
    have hm := h.mem (fileOf_mem e).1
    obtain ⟨a, c, hfv⟩ := (h.bytes (fileOf_mem e).1).lb.shape
    have hok := h.ok f (by simp)
    have hsp := h.pick
    rw [nc_len] at hfv
    first | refine xretk (hf) ?_ | refine xret (hf) ?_
    conv => whnf
    refine ⟨fun _ => ?_, fun h => absurd h (by first | decide | simp)⟩
    conv => whnf
    rw [hfv] at hm
    refine ⟨_, mcell_of hm rfl, rfl, ?_⟩
    conv => whnf
    refine ⟨_, _, _, hm, ⟨Nat.le_refl 2, by simp⟩, ?_⟩
    have hs1 := hsp.setAt (i := 0) rfl (blk1_same ..) (fileO f.v f.l.length)
    rw [blk1_set] at hs1
    have hs1 : Split (m.set f.bx (fileO f.v f.l.length)) (blk1 f.bx (fileO f.v f.l.length) :: f.p :: blk1 bf (filesO q bm nb ns) :: blk1 bm (mapF (A ++ f :: B) clock) :: (A ++ B).flatMap Fl.parts) := hs1
    have hb1 : (m.set f.bx (fileO f.v f.l.length)) bf = some (filesO q bm nb ns) := hs1.sub (a := blk1 bf (filesO q bm nb ns)) (by simp) _ _ (blk1_same ..)
    rw [hfv] at hs1 hb1
    conv => whnf
    refine xcall (aadd_at (y := 1) hb1 rfl (by omega)) ?_
    rintro _ m2 ⟨rfl, rfl⟩
    conv => whnf
    have hs2 := hs1.setAt (i := 2) rfl (blk1_same ..) (filesO q bm nb (ns + 1))
    rw [blk1_set] at hs2
    refine ⟨rfl, ?_⟩
    rw [syncF, mapAt_split h.names]
    refine h.put (g := { f with safe := f.l.length }) rfl rfl rfl ⟨hok.bs, hok.byt, Nat.le_refl _, hok.born⟩ ?_
    rw [show ({ f with safe := f.l.length } : Fl).v = Value.slice a f.l.length c from hfv]
    exact hs2
/-- Cut -/
def cutF (F : List Fl) (name : ByteArray) (n : Nat) (v : Value) : List Fl := mapAt F name fun f => { f with l := f.l.take n, v := v, safe := min f.safe n }
def CutR (F : List Fl) (name : ByteArray) (n : Int) (e : Int) (F' : List Fl) : Prop := match fileOf F name with
  | none => e = 4 ∧ F' = F
  | some f => if 0 ≤ n ∧ n ≤ f.l.length then e = 0 ∧ ∃ v, F' = cutF F name n.toNat v else e = 1 ∧ F' = F
/-- a beginning of bytes that are owned, with no room behind -/
theorem Bs.cutCap' {p : Mem} {b o c n k : Nat} {l : List Int} (h : Bs p (.slice (some ⟨b, o, none⟩) k c) l) (_ : l.length = k) (hn : n ≤ l.length) : Bs p (.slice (some ⟨b, o, none⟩) n n) (l.take n) := by
  rcases h with ⟨e, _⟩ | ⟨b', o', c', n', arr, e, h1, h2, h3, h4, h5, h6⟩
  · cases e
  · cases e
    refine .inr ⟨b, o, n, n, arr, rfl, h1, by simp [bc]; omega, Nat.le_refl _, by omega, fun j u hu => h5 j u ?_, bc_one⟩
    rw [bc, List.getElem?_map, List.getElem?_take] at hu
    rw [bc, List.getElem?_map]
    split at hu
    · exact hu
    · cases hu
set_option maxHeartbeats 1000000 in
theorem cut_spec {m : Mem} {bf bm : Nat} {q : Int} {nb ns clock : Nat} {F : List Fl} {name : ByteArray} {n : Int} (h : FS m bf bm q nb ns clock F) (hl : ∀ f ∈ F, f.l.length ≤ 100000000) :
    Spec Tryz.prog 56 [ptrB bf, .v (.string name), i64 n] m fun r m' => ∃ e F', r = [i64 e] ∧ FS m' bf bm q nb ns clock F' ∧ CutR F name n e F' := by
  have hf := find_spec (name := name) h
  refine en56 rfl (goY ?_)
  conv => whnf
  cases e : fileOf F name with
  | none =>
    rw [e] at hf
    first | refine xretk (hf) ?_ | refine xret (hf) ?_
    conv => whnf
    refine ⟨fun _ => ?_, fun h => absurd h (by first | decide | simp)⟩
    conv => whnf
    exact ⟨4, F, rfl, h, by simp [CutR, e]⟩
  | some f =>
    rw [e] at hf
    have hmem := (fileOf_mem e).1
    have hm := h.mem hmem
    have hbs := h.bytes hmem
    have hok := h.ok f hmem
    have hlf := hl f hmem
    obtain ⟨a, c, hfv⟩ := hbs.lb.shape
    rw [nc_len] at hfv
    first | refine xretk (hf) ?_ | refine xret (hf) ?_
    conv => whnf
    refine ⟨fun h => absurd h (by first | decide | simp), fun _ => ?_⟩
    conv => whnf
    refine ⟨fun h1 => ?_, fun h1 => ?_⟩
    · have h1' := of_decide_eq_true h1
      conv => whnf
      exact ⟨1, F, rfl, h, by simp [CutR, e, show ¬ (0 ≤ n ∧ n ≤ (f.l.length : Int)) by omega]⟩
    have h1' := of_decide_eq_false h1
    clear h1
    rw [hfv] at hm
    conv => whnf
    refine ⟨_, mcell_of hm rfl, rfl, ?_⟩
    conv => whnf
    refine ⟨fun h2 => ?_, fun h2 => ?_⟩
    · have h2' := of_decide_eq_true h2
      conv => whnf
      exact ⟨1, F, rfl, h, by simp [CutR, e, show ¬ (0 ≤ n ∧ n ≤ (f.l.length : Int)) by omega]⟩
    have h2' := of_decide_eq_false h2
    clear h2
    obtain ⟨k, rfl⟩ : ∃ k : Nat, n = (k : Int) := ⟨n.toNat, by omega⟩
    have hk : k ≤ f.l.length := by omega
    have hcr : ∀ v, CutR F name k 0 (cutF F name k v) := fun v => by
      have hc : (0 ≤ (k : Int) ∧ (k : Int) ≤ (f.l.length : Int)) := by omega
      simp only [CutR, e]; rw [if_pos hc, Int.toNat_natCast]; exact ⟨trivial, v, rfl⟩
    obtain ⟨A, B, rfl, _, rfl⟩ := fileOf_split e
    have hsp := h.pick
    have hmin : ((min f.safe k : Nat) : Int) = if (f.safe : Int) < (k : Int) then (f.safe : Int) else (k : Int) := by split <;> omega
    have fin : ∀ v, Bs f.p v (nc (f.l.take k)) → ∀ m', m' = m.set f.bx (fileO v (min f.safe k)) → FS m' bf bm q nb ns clock (cutF (A ++ f :: B) f.name k v) := fun v hv m' hm' => by
      subst hm'
      have hs1 := hsp.setAt (i := 0) rfl (blk1_same ..) (fileO v (min f.safe k))
      rw [blk1_set] at hs1
      rw [cutF, mapAt_split h.names]
      exact h.put (g := { f with l := f.l.take k, v := v, safe := min f.safe k }) rfl rfl rfl ⟨hv, fun x hx => hok.byt x (List.mem_of_mem_take hx), by simp only [List.length_take]; have := hok.safe; omega, hok.born⟩ hs1
    conv => whnf
    refine ⟨.slice a f.l.length c, mcell_of hm rfl, rfl, ?_⟩
    conv => whnf
    have ek : (k : Int).toNat = k := by omega
    cases a with
    | none =>
      have hz : f.l.length = 0 ∧ c = 0 := by
        rcases hok.bs with ⟨e1, e2⟩ | ⟨b, o, c', n, arr, e1, _⟩
        · rw [hfv] at e1
          injection e1 with _ e3 e4
          exact ⟨e3, e4⟩
        · rw [hfv] at e1; cases e1
      obtain ⟨hz1, rfl⟩ := hz
      obtain rfl : k = 0 := by omega
      rw [hz1] at hm hfv ⊢
      conv => whnf
      repeat (refine And.intro (by first | omega | (simp only [times]; omega)) ?_; conv => whnf)
      refine ⟨.int .i64 f.safe, mcell_of hm rfl, rfl, ?_⟩
      conv => whnf
      rw [show min (f.safe : Int) ((0 : Nat) : Int) = ((min f.safe 0 : Nat) : Int) by omega]
      refine ⟨_, _, _, hm, ⟨Nat.zero_lt_succ _, by simp⟩, ?_⟩
      conv => whnf
      refine ⟨_, _, _, Mem.set_same .., ⟨Nat.le_refl 2, by simp⟩, ?_⟩
      rw [Mem.set_set]
      conv => whnf
      exact ⟨0, _, rfl, fin (.slice none 0 0) (by rw [List.take_zero]; exact Bs.nil _) _ rfl, hcr _⟩
    | some a =>
      have hsh : ∃ b o, a = ⟨b, o, none⟩ ∧ f.l.length ≤ c := by
        rcases hok.bs with ⟨e1, _⟩ | ⟨b, o, c', n, arr, e1, _, _, h5, _⟩
        · rw [hfv] at e1; cases e1
        · rw [hfv] at e1; cases e1; exact ⟨b, o, rfl, h5⟩
      obtain ⟨b, o, rfl, hc⟩ := hsh
      have hbs : Bs f.p (.slice (some ⟨b, o, none⟩) f.l.length c) (nc f.l) := by rw [← hfv]; exact hok.bs
      conv => whnf
      repeat (refine And.intro (by first | omega | (simp only [times]; omega)) ?_; conv => whnf)
      intro o' q1 q2
      obtain rfl : o' = o := by
        by_cases h0 : k = 0
        · have := q2 (by omega); simpa using this
        · have := q1 (by omega); simpa [times] using this
      conv => whnf
      refine ⟨.int .i64 f.safe, mcell_of hm rfl, rfl, ?_⟩
      conv => whnf
      rw [show min (f.safe : Int) (k : Int) = ((min f.safe k : Nat) : Int) by omega]
      refine ⟨_, _, _, hm, ⟨Nat.zero_lt_succ _, by simp⟩, ?_⟩
      conv => whnf
      refine ⟨_, _, _, Mem.set_same .., ⟨Nat.le_refl 2, by simp⟩, ?_⟩
      rw [Mem.set_set]
      conv => whnf
      have hcc := hbs.cutCap' (n := k) (by rw [nc_len]) (by rw [nc_len]; exact hk)
      rw [show (nc f.l).take k = nc (f.l.take k) by simp [nc, List.map_take]] at hcc
      exact ⟨0, _, rfl, fin (.slice (some ⟨b, o', none⟩) k k) hcc _ rfl, hcr _⟩
end Go.E.YtgjlajcebcmbaaaGreatDoor

/-
  Bytes: cloned.
-/
namespace Go.E.YtgjlajcebcmbaaaGreatDoor
open Go.Proofs
set_option maxRecDepth 100000
/-- Clone: new bytes -/
theorem clone_spec {m : Mem} {v : Value} {l : List Int} (hv : La m v l) (hb : l.length ≤ 100000000) :
    Spec Tryz.prog 73 [.v v] m fun r m' => ∃ v' p, r = [.v v'] ∧ Split m' [p, m] ∧ Bs p v' l := by
  have key : (∃ c, v = .slice none 0 c ∧ l = []) ∨ ∃ a c, v = .slice (some a) l.length c := by
    rcases hv with hv | ⟨rfl, a, rfl⟩
    · rcases hv.cases with ⟨c, rfl, rfl⟩ | ⟨b, o, c, arr, t, fr, rfl, _⟩
      · exact .inl ⟨c, rfl, rfl⟩
      · exact .inr ⟨_, _, rfl⟩
    · exact .inr ⟨_, _, rfl⟩
  rcases key with ⟨c, rfl, rfl⟩ | ⟨a, c, rfl⟩
  · refine en73 rfl (goY ?_)
    conv => whnf
    refine ⟨fun _ => ?_, fun h => absurd h (by decide)⟩
    conv => whnf
    exact ⟨_, emp, rfl, (Split.one m).addEmp, Bs.nil _⟩
  · refine en73 rfl (goY ?_)
    conv => whnf
    refine ⟨fun h => absurd h (by decide), fun _ => ?_⟩
    conv => whnf
    refine .mk _ (buildSlice0_spec tt_ok hBs rfl hU8) ?_
    rintro _ _ ⟨b', hb', rfl, rfl⟩
    conv => whnf
    refine .mk _ (appendBat (i := 0) ((Split.one m).new hb' _) rfl (Bs.blk (l := []) (blk1_same ..) rfl) (hv.sub (Mem.sub_set _ hb')) (by simp; omega)) ?_
    rintro _ m' ⟨v', p', rfl, h1, h2⟩
    conv => whnf
    exact ⟨v', p', rfl, h1, h2.own⟩
end Go.E.YtgjlajcebcmbaaaGreatDoor

/-
  Files: read, removed, renamed.
-/
namespace Go.E.YtgjlajcebcmbaaaGreatDoor
open Go.Proofs
set_option maxRecDepth 100000
theorem readF_spec {m : Mem} {bf bm : Nat} {q : Int} {nb ns clock : Nat} {F : List Fl} {name : ByteArray} (h : FS m bf bm q nb ns clock F) (hl : ∀ f ∈ F, f.l.length ≤ 100000000) :
    Spec Tryz.prog 36 [ptrB bf, .v (.string name)] m fun r m' => ∃ v p, r = [.v v, i64 (if (fileOf F name).isSome then 0 else 4)] ∧ Split m' [p, m] ∧ Bs p v (nc (((fileOf F name).map (·.l)).getD [])) := by
  have hf := find_spec (name := name) h
  refine en36 rfl (goY ?_)
  conv => whnf
  cases e : fileOf F name with
  | none =>
    rw [e] at hf
    first | refine xretk (hf) ?_ | refine xret (hf) ?_
    conv => whnf
    refine ⟨fun _ => ?_, fun h => absurd h (by first | decide | simp)⟩
    conv => whnf
    exact ⟨_, emp, rfl, (Split.one m).addEmp, Bs.nil _⟩
  | some f =>
    rw [e] at hf
    have hmem := (fileOf_mem e).1
    have hm := h.mem hmem
    have hbs := h.bytes hmem
    first | refine xretk (hf) ?_ | refine xret (hf) ?_
    conv => whnf
    refine ⟨fun h => absurd h (by first | decide | simp), fun _ => ?_⟩
    conv => whnf
    refine ⟨f.v, mcell_of hm rfl, hbs.lb.one, ?_⟩
    conv => whnf
    refine xcall (clone_spec hbs.lb.la (by rw [nc_len]; exact hl f hmem)) ?_
    rintro _ m1 ⟨v, p, rfl, hs, hv⟩
    conv => whnf
    exact ⟨v, p, rfl, hs, hv⟩
theorem readF_nil {m : Mem} {name : ByteArray} : Ret Tryz.prog 36 [.v (.pointer none), .v (.string name)] m [.v (.slice none 0 0), i64 6] := by
  refine en36 rfl (goY ?_)
  conv => whnf
  first | refine xretk (find_nil) ?_ | refine xret (find_nil) ?_
  conv => whnf
  refine ⟨fun _ => ?_, fun h => absurd h (by first | decide | simp)⟩
  conv => whnf
  exact ⟨rfl, rfl⟩
theorem delM_files {A B : List Fl} {f : Fl} (hA : ∀ x ∈ A, x.name ≠ f.name) : delM f.name ((A ++ f :: B).map Fl.men) = (A ++ B).map Fl.men := by
  induction A with
  | nil => simp [delM, Fl.men]
  | cons x A ih =>
    have h1 := hA x (by simp)
    have ih := ih fun y hy => hA y (by simp [hy])
    rw [List.cons_append, List.map_cons, delM, if_neg (fun e => h1 (by simpa [Fl.men] using e.symm)), ih, List.cons_append, List.map_cons]
theorem FS.names_of {p : Mem} {bf bm : Nat} {q : Int} {nb ns clock : Nat} {A B : List Fl} {f : Fl} (h : FS p bf bm q nb ns clock (A ++ f :: B)) : (∀ x ∈ A, x.name ≠ f.name) ∧ ∀ x ∈ B, x.name ≠ f.name := by
  obtain ⟨h1, h2, h3⟩ := List.pairwise_append.1 h.names
  exact ⟨fun x hx => h3 x hx f (by simp), fun x hx => Ne.symm ((List.pairwise_cons.1 h2).1 x hx)⟩
/-- one file gone; its parts are left over -/
theorem FS.del {p p' : Mem} {bf bm : Nat} {q : Int} {nb ns clock : Nat} {A B : List Fl} {f : Fl} (h : FS p bf bm q nb ns clock (A ++ f :: B)) (hp : p' = p.set bm (mapF (A ++ B) clock)) :
    FS p' bf bm q nb ns clock (A ++ B) ∧ Split p' (blk1 f.bx (fileO f.v f.safe) :: f.p :: blk1 bf (filesO q bm nb ns) :: blk1 bm (mapF (A ++ B) clock) :: (A ++ B).flatMap Fl.parts) := by
  have hs := h.pick.setAt (i := 3) rfl (blk1_same ..) (mapF (A ++ B) clock)
  rw [blk1_set] at hs
  have hs : Split p' (blk1 f.bx (fileO f.v f.safe) :: f.p :: blk1 bf (filesO q bm nb ns) :: blk1 bm (mapF (A ++ B) clock) :: (A ++ B).flatMap Fl.parts) := by rw [hp]; exact hs
  have hsub : (A ++ B).Sublist (A ++ f :: B) := List.Sublist.append (List.Sublist.refl A) (List.sublist_cons_self f B)
  exact ⟨⟨hs.drop.drop, fun x hx => h.ok x (hsub.subset hx), h.names.sublist hsub, h.borns.sublist hsub⟩, hs⟩
def rmF (F : List Fl) (name : ByteArray) : List Fl := F.filter fun f => !decide (f.name = name)
theorem rmF_split {A B : List Fl} {f : Fl} (hA : ∀ x ∈ A, x.name ≠ f.name) (hB : ∀ x ∈ B, x.name ≠ f.name) : rmF (A ++ f :: B) f.name = A ++ B := by
  have ha : A.filter (fun g => !decide (g.name = f.name)) = A := List.filter_eq_self.2 fun x hx => by simp [hA x hx]
  have hb : B.filter (fun g => !decide (g.name = f.name)) = B := List.filter_eq_self.2 fun x hx => by simp [hB x hx]
  rw [rmF, List.filter_append, List.filter_cons, ha, hb]; simp
theorem rmF_none {F : List Fl} {name : ByteArray} (h : fileOf F name = none) : rmF F name = F := by
  refine List.filter_eq_self.2 fun x hx => ?_
  have := List.find?_eq_none.1 h x hx
  simp only [decide_eq_true_eq] at this
  simp [Ne.symm this]
theorem mapDelF {m : Mem} {bm clock : Nat} {F : List Fl} {name : ByteArray} (hb : m bm = some (mapF F clock)) :
    PrimSpec Tryz.prog (.builtin .delete [83, 9]) [.v (.map (some bm)), .v (.string name)] m fun r m' => r = [] ∧ m' = m.set bm (mapO Value.string (delM name (F.map Fl.men)) clock) :=
  mapDel_spec (P := Tryz.prog) strKey Tryz.underlying83 Tryz.underlying9 (k := name) hb
theorem mapSetF {m : Mem} {bm clock : Nat} {F : List Fl} {name : ByteArray} {v : CV} (hb : m bm = some (mapF F clock)) :
    PrimSpec Tryz.prog (.mapUpdate 83) [.v (.map (some bm)), .v (.string name), v] m fun r m' => m' = m.set bm (mapO Value.string (setM name v clock (F.map Fl.men)) (clockM name clock (F.map Fl.men))) :=
  mapSet_spec (P := Tryz.prog) strKey Tryz.underlying83 Tryz.underlying9 (k := name) hb
theorem remove_spec {m : Mem} {bf bm : Nat} {q : Int} {nb ns clock : Nat} {F : List Fl} {name : ByteArray} (h : FS m bf bm q nb ns clock F) :
    Spec Tryz.prog 54 [ptrB bf, .v (.string name)] m fun r m' => r = [i64 (if (fileOf F name).isSome then 0 else 4)] ∧ FS m' bf bm q nb ns clock (rmF F name) := by
  have hf := find_spec (name := name) h
  refine en54 rfl (goY ?_)
  conv => whnf
  cases e : fileOf F name with
  | none =>
    rw [e] at hf
    first | refine xretk (hf) ?_ | refine xret (hf) ?_
    conv => whnf
    refine ⟨fun h => absurd h (by first | decide | simp), fun _ => ?_⟩
    conv => whnf
    exact ⟨rfl, by rw [rmF_none e]; exact h⟩
  | some f =>
    rw [e] at hf
    obtain ⟨A, B, rfl, _, rfl⟩ := fileOf_split e
    obtain ⟨hA, hB⟩ := h.names_of
    first | refine xretk (hf) ?_ | refine xret (hf) ?_
    conv => whnf
    refine ⟨fun _ => ?_, fun h => absurd h (by first | decide | simp)⟩
    conv => whnf
    refine ⟨.map (some bm), mcell_of h.files rfl, rfl, ?_⟩
    conv => whnf
    refine .mk _ (mapDelF h.map) ?_
    rintro _ _ ⟨rfl, rfl⟩
    conv => whnf
    rw [delM_files hA]
    exact ⟨rfl, by rw [rmF_split hA hB]; exact (h.del rfl).1⟩
theorem remove_zero {m : Mem} {bf : Nat} {arr : Array Value} {name : ByteArray} (h : m bf = some (.cells arr 90)) (h1 : arr[1]? = some (.map none)) : Ret Tryz.prog 54 [ptrB bf, .v (.string name)] m [i64 6] := by
  refine en54 rfl (goY ?_)
  conv => whnf
  first | refine xretk (find_zero h h1) ?_ | refine xret (find_zero h h1) ?_
  conv => whnf
  refine ⟨fun h => absurd h (by first | decide | simp), fun _ => ?_⟩
  conv => whnf
  exact ⟨rfl, rfl⟩
theorem sync_zero {m : Mem} {bf : Nat} {arr : Array Value} {name : ByteArray} (h : m bf = some (.cells arr 90)) (h1 : arr[1]? = some (.map none)) : Ret Tryz.prog 44 [ptrB bf, .v (.string name)] m [i64 6] := by
  refine en44 rfl (goY ?_)
  conv => whnf
  first | refine xretk (find_zero h h1) ?_ | refine xret (find_zero h h1) ?_
  conv => whnf
  refine ⟨fun h => absurd h (by first | decide | simp), fun _ => ?_⟩
  conv => whnf
  exact ⟨rfl, rfl⟩
theorem cut_nil {m : Mem} {name : ByteArray} {n : Int} : Ret Tryz.prog 56 [.v (.pointer none), .v (.string name), i64 n] m [i64 6] := by
  refine en56 rfl (goY ?_)
  conv => whnf
  first | refine xretk (find_nil) ?_ | refine xret (find_nil) ?_
  conv => whnf
  refine ⟨fun _ => ?_, fun h => absurd h (by first | decide | simp)⟩
  conv => whnf
  exact ⟨rfl, rfl⟩
theorem rename_nil {m : Mem} {a b : ByteArray} : Ret Tryz.prog 45 [.v (.pointer none), .v (.string a), .v (.string b)] m [i64 6] := by
  refine en45 rfl (goY ?_)
  conv => whnf
  first | refine xretk (find_nil) ?_ | refine xret (find_nil) ?_
  conv => whnf
  refine ⟨fun _ => ?_, fun h => absurd h (by first | decide | simp)⟩
  conv => whnf
  exact ⟨rfl, rfl⟩
/-- a file put where a name leads -/
def putF (F : List Fl) (f : Fl) (name : ByteArray) (clock : Nat) : List Fl := match F with
  | [] => [{ f with name := name, born := clock }]
  | g :: F => if name = g.name then { f with name := name, born := g.born } :: F else g :: putF F f name clock
def clockF (F : List Fl) (name : ByteArray) (clock : Nat) : Nat := if (fileOf F name).isSome then clock else clock + 1
theorem setM_files (f : Fl) (name : ByteArray) (clock : Nat) : ∀ F : List Fl, setM name (.v (.pointer (some ⟨f.bx, 0, none⟩))) clock (F.map Fl.men) = (putF F f name clock).map Fl.men
  | [] => rfl
  | g :: F => by
    rw [List.map_cons, setM, putF]
    by_cases h : name = g.name
    · have h' : name = g.men.k := h
      rw [if_pos h', if_pos h]; rfl
    · have h' : ¬ name = g.men.k := h
      rw [if_neg h', if_neg h, setM_files f name clock F]; rfl
theorem putF_split {F : List Fl} {f : Fl} {name : ByteArray} {clock : Nat} : (fileOf F name = none ∧ putF F f name clock = F ++ [{ f with name := name, born := clock }]) ∨ ∃ C g D, F = C ++ g :: D ∧ g.name = name ∧ (∀ x ∈ C, x.name ≠ name) ∧ fileOf F name = some g ∧ putF F f name clock = C ++ { f with name := name, born := g.born } :: D := by
  induction F with
  | nil => exact .inl ⟨rfl, rfl⟩
  | cons g F ih =>
    by_cases h : name = g.name
    · refine .inr ⟨[], g, F, rfl, h.symm, by simp, ?_, ?_⟩
      · unfold fileOf; rw [List.find?_cons, decide_eq_true h]
      · rw [putF, if_pos h]; rfl
    · have hf : fileOf (g :: F) name = fileOf F name := by unfold fileOf; rw [List.find?_cons, decide_eq_false h]
      rcases ih with ⟨h1, h2⟩ | ⟨C, g', D, rfl, h1, h2, h3, h4⟩
      · refine .inl ⟨hf.trans h1, ?_⟩
        rw [putF, if_neg h, h2]; rfl
      · refine .inr ⟨g :: C, g', D, rfl, h1, fun x hx => ?_, hf.trans h3, ?_⟩
        · rcases List.mem_cons.1 hx with rfl | hx
          · exact Ne.symm h
          · exact h2 x hx
        · rw [putF, if_neg h, h4]; rfl
end Go.E.YtgjlajcebcmbaaaGreatDoor

/-
  Files: renamed, appended to.
-/
namespace Go.E.YtgjlajcebcmbaaaGreatDoor
open Go.Proofs
set_option maxRecDepth 100000
theorem Fl.Ok.later {f : Fl} {c c' : Nat} (h : f.Ok c) (hc : c ≤ c') : f.Ok c' := ⟨h.bs, h.byt, h.safe, Nat.lt_of_lt_of_le h.born hc⟩
/-- a file of its own put where a name leads -/
theorem FS.ins {p p' : Mem} {bf bm : Nat} {q : Int} {nb ns clock : Nat} {F : List Fl} {f : Fl} {name : ByteArray} (h : FS p bf bm q nb ns clock F) (hf : f.Ok clock ∨ (Bs f.p f.v (nc f.l) ∧ (∀ x ∈ f.l, x < 256) ∧ f.safe ≤ f.l.length))
    (hs : Split p (blk1 f.bx (fileO f.v f.safe) :: f.p :: blk1 bf (filesO q bm nb ns) :: blk1 bm (mapF F clock) :: F.flatMap Fl.parts)) (hp : p' = p.set bm (mapO Value.string (setM name (.v (.pointer (some ⟨f.bx, 0, none⟩))) clock (F.map Fl.men)) (clockM name clock (F.map Fl.men)))) :
    FS p' bf bm q nb ns (clockF F name clock) (putF F f name clock) := by
  have hfok : Bs f.p f.v (nc f.l) ∧ (∀ x ∈ f.l, x < 256) ∧ f.safe ≤ f.l.length := by
    rcases hf with hf | hf
    · exact ⟨hf.bs, hf.byt, hf.safe⟩
    · exact hf
  have hck : clockM name clock (F.map Fl.men) = clockF F name clock := by
    unfold clockM clockF
    rw [findM_files, Option.isSome_map]
  have hcl : clock ≤ clockF F name clock := by unfold clockF; split <;> omega
  rw [setM_files, hck] at hp
  have hs2 := hs.setAt (i := 3) rfl (blk1_same ..) (mapF (putF F f name clock) (clockF F name clock))
  rw [blk1_set] at hs2
  have hs2 : Split p' (blk1 f.bx (fileO f.v f.safe) :: f.p :: blk1 bf (filesO q bm nb ns) :: blk1 bm (mapF (putF F f name clock) (clockF F name clock)) :: F.flatMap Fl.parts) := by rw [hp]; exact hs2
  rcases putF_split (F := F) (f := f) (name := name) (clock := clock) with ⟨h1, h2⟩ | ⟨C, g, D, h0, h1, h2, h3, h4⟩
  · have hc : clockF F name clock = clock + 1 := by unfold clockF; rw [h1]; rfl
    have hno : ∀ x ∈ F, x.name ≠ name := fun x hx e => by
      have := List.find?_eq_none.1 h1 x hx
      simp [e] at this
    rw [h2] at hs2 ⊢
    rw [hc] at hs2 ⊢
    refine ⟨?_, fun x hx => ?_, ?_, ?_⟩
    · have := partsPerm F [] { f with name := name, born := clock } (blk1 bf (filesO q bm nb ns)) (blk1 bm (mapF (F ++ [{ f with name := name, born := clock }]) (clock + 1)))
      rw [List.append_nil] at this
      exact hs2.perm this.symm
    · rcases List.mem_append.1 hx with hx | hx
      · exact (h.ok x hx).later (by omega)
      · rw [List.mem_singleton.1 hx]; exact ⟨hfok.1, hfok.2.1, hfok.2.2, Nat.lt_succ_self _⟩
    · refine List.pairwise_append.2 ⟨h.names, by simp, fun a ha b hb => ?_⟩
      rw [List.mem_singleton.1 hb]; exact hno a ha
    · refine List.pairwise_append.2 ⟨h.borns, by simp, fun a ha b hb => ?_⟩
      rw [List.mem_singleton.1 hb]
      have := (h.ok a ha).born
      simp only; omega
  · subst h0
    have hc : clockF (C ++ g :: D) name clock = clock := by unfold clockF; rw [h3]; rfl
    rw [h4] at hs2 ⊢
    rw [hc] at hs2 ⊢
    refine ⟨?_, fun x hx => ?_, ?_, ?_⟩
    · -- the old file's parts are dropped
      have h5 : Split p' (blk1 f.bx (fileO f.v f.safe) :: f.p :: blk1 bf (filesO q bm nb ns) :: blk1 bm (mapF (C ++ { f with name := name, born := g.born } :: D) clock) :: (C ++ D).flatMap Fl.parts) := by
        have h6 := hs2.perm (List.Perm.cons _ (List.Perm.cons _ (partsPerm C D g _ _)))
        exact (h6.erase 2).erase 2
      exact h5.perm (partsPerm C D { f with name := name, born := g.born } _ _).symm
    · rcases List.mem_append.1 hx with hx | hx
      · exact h.ok x (by simp [hx])
      · rcases List.mem_cons.1 hx with rfl | hx
        · exact ⟨hfok.1, hfok.2.1, hfok.2.2, (h.ok g (by simp)).born⟩
        · exact h.ok x (by simp [hx])
    · have e : (C ++ { f with name := name, born := g.born } :: D).map (·.name) = (C ++ g :: D).map (·.name) := by simp [h1]
      have h6 := List.pairwise_map.2 h.names
      rw [← e] at h6
      exact List.pairwise_map.1 h6
    · have e : (C ++ { f with name := name, born := g.born } :: D).map (·.born) = (C ++ g :: D).map (·.born) := by simp
      have h6 := List.pairwise_map.2 h.borns
      rw [← e] at h6
      exact List.pairwise_map.1 h6
/-- Rename: the error; the files -/
def renE (F : List Fl) (a b : ByteArray) : Int := match fileOf F a with
  | none => 4
  | some _ => if nameOk (chs b) then 0 else 1
def renF (F : List Fl) (a b : ByteArray) (clock : Nat) : List Fl := match fileOf F a with
  | none => F
  | some f => if nameOk (chs b) then putF (rmF F a) f b clock else F
def renC (F : List Fl) (a b : ByteArray) (clock : Nat) : Nat := match fileOf F a with
  | none => clock
  | some _ => if nameOk (chs b) then clockF (rmF F a) b clock else clock
theorem rename_spec {m : Mem} {bf bm : Nat} {q : Int} {nb ns clock : Nat} {F : List Fl} {a b : ByteArray} (h : FS m bf bm q nb ns clock F) (hb : b.size ≤ 1000000) :
    Spec Tryz.prog 45 [ptrB bf, .v (.string a), .v (.string b)] m fun r m' => r = [i64 (renE F a b)] ∧ FS m' bf bm q nb ns (renC F a b clock) (renF F a b clock) := by
  have hf := find_spec (name := a) h
  have eE : renE F a b = match fileOf F a with
    | none => 4
    | some _ => if nameOk (chs b) then 0 else 1 := rfl
  have eF : renF F a b clock = match fileOf F a with
    | none => F
    | some f => if nameOk (chs b) then putF (rmF F a) f b clock else F := rfl
  have eC : renC F a b clock = match fileOf F a with
    | none => clock
    | some _ => if nameOk (chs b) then clockF (rmF F a) b clock else clock := rfl
  generalize renE F a b = xe at eE ⊢
  generalize renF F a b clock = xf at eF ⊢
  generalize renC F a b clock = xc at eC ⊢
  refine en45 rfl (goY ?_)
  conv => whnf
  cases e : fileOf F a with
  | none =>
    rw [e] at hf eE eF eC
    simp only at eE eF eC
    subst eE eF eC
    first | refine xretk (hf) ?_ | refine xret (hf) ?_
    conv => whnf
    refine ⟨fun _ => ?_, fun h => absurd h (by first | decide | simp)⟩
    conv => whnf
    exact ⟨rfl, h⟩
  | some f =>
    rw [e] at hf eE eF eC
    simp only at eE eF eC
    first | refine xretk (hf) ?_ | refine xret (hf) ?_
    conv => whnf
    refine ⟨fun h => absurd h (by first | decide | simp), fun _ => ?_⟩
    conv => whnf
    first | refine xretk (isName_spec hb) ?_ | refine xret (isName_spec hb) ?_
    conv => whnf
    cases hn : nameOk (chs b) with
    | false =>
      rw [hn] at eE eF eC
      simp only [Bool.false_eq_true, if_false] at eE eF eC
      subst eE eF eC
      refine ⟨fun _ => ?_, fun h => absurd h (by first | decide | simp)⟩
      conv => whnf
      exact ⟨rfl, h⟩
    | true =>
      rw [hn] at eE eF eC
      simp only [if_true] at eE eF eC
      obtain ⟨A, B, rfl, _, rfl⟩ := fileOf_split e
      obtain ⟨hA, hB⟩ := h.names_of
      have hok := h.ok f (by simp)
      rw [rmF_split hA hB] at eF eC
      refine ⟨fun h => absurd h (by first | decide | simp), fun _ => ?_⟩
      conv => whnf
      refine ⟨.map (some bm), mcell_of h.files rfl, rfl, ?_⟩
      conv => whnf
      refine .mk _ (mapDelF h.map) ?_
      rintro _ _ ⟨rfl, rfl⟩
      conv => whnf
      rw [delM_files hA]
      obtain ⟨h1, h2⟩ := h.del rfl
      refine ⟨.map (some bm), mcell_of h1.files rfl, rfl, ?_⟩
      conv => whnf
      refine .mk _ (mapSetF (v := ptrB f.bx) h1.map) ?_
      rintro _ m' rfl
      conv => whnf
      subst eE eF eC
      exact ⟨rfl, h1.ins (.inl hok) h2 rfl⟩
end Go.E.YtgjlajcebcmbaaaGreatDoor

/-
  Files: appended to.
-/
namespace Go.E.YtgjlajcebcmbaaaGreatDoor
open Go.Proofs
set_option maxRecDepth 100000
/-- the parts but one, taken as one -/
theorem Split.rest {m q : Mem} {l : List Mem} (h : Split m (q :: l)) : Split m [allM l, q] ∧ Split (allM l) l := by
  obtain ⟨h1, h2⟩ := h
  obtain ⟨h3, h4⟩ := List.pairwise_cons.1 h2
  refine ⟨⟨fun x o hx => ?_, ?_⟩, Sub.refl _, h4⟩
  · obtain ⟨a, ha, hx2⟩ := allM_some hx
    simp only [List.mem_cons, List.not_mem_nil, or_false] at ha
    rcases ha with rfl | rfl
    · obtain ⟨b, hb, hx3⟩ := allM_some hx2
      exact h1 _ _ (allM_of h2 (List.mem_cons_of_mem _ hb) hx3)
    · exact h1 _ _ (allM_of h2 (List.mem_cons_self ..) hx2)
  · simp only [List.pairwise_cons, List.mem_singleton, forall_eq, List.not_mem_nil, false_implies, implies_true, List.Pairwise.nil, and_true]
    intro x
    cases hq : q x with
    | none => exact .inr rfl
    | some o =>
      refine .inl (allM_none.2 fun a ha => ?_)
      rcases h3 a ha x with h' | h'
      · rw [hq] at h'; cases h'
      · exact h'
/-- one part taken, the others as one -/
theorem Split.pick1 {mm p : Mem} {l : List Mem} (h : Split mm (p :: l)) : ∃ q, (∀ x ∈ l, Sub x q) ∧ Split mm [p, q] ∧ ∀ m' p', Split m' [p', q] → Split m' (p' :: l) := by
  obtain ⟨h2, h3⟩ := Split.rest h
  exact ⟨allM l, fun x hx => h3.sub hx, h2.perm (List.Perm.swap _ _ _), fun m' p' h4 => Split.under (a := [p']) h4 h3⟩
theorem FS.grow {p m : Mem} {bf bm : Nat} {q : Int} {nb ns clock : Nat} {F : List Fl} (h : FS p bf bm q nb ns clock F) (hs : Sub p m) : FS m bf bm q nb ns clock F := ⟨h.sp.grow hs, h.ok, h.names, h.borns⟩
/-- what a file is told by -/
structure Af where
  name : ByteArray
  l : List Nat
  safe : Nat
def Fl.af (f : Fl) : Af := ⟨f.name, f.l, f.safe⟩
abbrev absF (F : List Fl) : List Af := F.map Fl.af
def appA : List Af → ByteArray → List Nat → List Af
  | [], name, b => [⟨name, b, 0⟩]
  | x :: A, name, b => if name = x.name then { x with l := x.l ++ b } :: A else x :: appA A name b
theorem appA_split {A B : List Fl} {f g : Fl} {b : List Nat} (hA : ∀ x ∈ A, x.name ≠ f.name) (h1 : g.name = f.name) (h2 : g.l = f.l ++ b) (h3 : g.safe = f.safe) : absF (A ++ g :: B) = appA (absF (A ++ f :: B)) f.name b := by
  induction A with
  | nil => simp only [List.nil_append, List.map_cons, appA, Fl.af]; rw [if_pos trivial, h1, h2, h3]
  | cons x A ih =>
    have hx := hA x (by simp)
    have ih := ih fun y hy => hA y (by simp [hy])
    simp only [absF, List.cons_append, List.map_cons, appA] at ih ⊢
    rw [if_neg (fun e => hx (by simpa [Fl.af] using e.symm)), ih]
theorem appA_new {F : List Fl} {name : ByteArray} {b : List Nat} {f : Fl} (h : ∀ x ∈ F, x.name ≠ name) (h1 : f.name = name) (h2 : f.l = b) (h3 : f.safe = 0) : absF (F ++ [f]) = appA (absF F) name b := by
  induction F with
  | nil => simp [appA, Fl.af, h1, h2, h3]
  | cons x A ih =>
    have hx := h x (by simp)
    have ih := ih fun y hy => h y (by simp [hy])
    simp only [absF, List.cons_append, List.map_cons, appA] at ih ⊢
    rw [if_neg (fun e => hx (by simpa [Fl.af] using e.symm)), ih]
set_option maxHeartbeats 2000000 in
/-- bytes put behind those of a file that is there -/
theorem append_tail {m mm p0 : Mem} {bf bm : Nat} {q : Int} {nb ns clock : Nat} {A B : List Fl} {f : Fl} {vb : Value} {lb : List Nat} {R : List CV → Mem → Prop} (h : FS p0 bf bm q nb ns clock (A ++ f :: B)) (hs : Split mm [p0, m]) (hb : La m vb (nc lb)) (h256 : ∀ x ∈ lb, x < 256) (hl : f.l.length + lb.length ≤ 100000000) (hnb : nb ≤ 1000000000000000000)
    (hR : ∀ p' m' g, g.name = f.name → g.l = f.l ++ lb → g.safe = f.safe → Split m' [p', m] → FS p' bf bm q (nb + lb.length) ns clock (A ++ g :: B) → R [i64 0] m') :
    xwpY c53 (restAt 11 (bodyOf Tryz.f53)) (QRetY tt.get Tryz.f53.results.toList R)
      [(0, .c (ptrB bf)), (2, .c (.v vb)), (7, .c (ptrB f.bx))] [] mm [] := by
  obtain ⟨ab, cb, rfl⟩ := hb.shape
  rw [nc_len] at hb ⊢
  have hok := h.ok f (by simp)
  have hs1 : Split mm (m :: blk1 f.bx (fileO f.v f.safe) :: f.p :: blk1 bf (filesO q bm nb ns) :: blk1 bm (mapF (A ++ f :: B) clock) :: (A ++ B).flatMap Fl.parts) := (hs.perm (List.Perm.swap _ _ _)).under (a := [m]) h.pick
  have hm : mm f.bx = some (fileO f.v f.safe) := hs1.sub (a := blk1 f.bx (fileO f.v f.safe)) (by simp) _ _ (blk1_same ..)
  have hone := hok.bs.lb.one
  conv => whnf
  refine .at ?_
  conv => whnf
  refine ⟨f.v, mcell_of hm rfl, hone, ?_⟩
  conv => whnf
  refine .mk _ (appendBat (i := 2) hs1 rfl hok.bs (hb.sub (hs1.sub (by simp))) (by simp; omega)) ?_
  rintro _ m2 ⟨v2, p2, rfl, hs2, hv2⟩
  conv => whnf
  have hs2 : Split m2 (m :: blk1 f.bx (fileO f.v f.safe) :: p2 :: blk1 bf (filesO q bm nb ns) :: blk1 bm (mapF (A ++ f :: B) clock) :: (A ++ B).flatMap Fl.parts) := hs2
  have hm2 : m2 f.bx = some (fileO f.v f.safe) := hs2.sub (a := blk1 f.bx (fileO f.v f.safe)) (by simp) _ _ (blk1_same ..)
  refine ⟨_, _, _, hm2, ⟨Nat.zero_lt_succ _, by simp⟩, ?_⟩
  have hs3 := hs2.setAt (i := 1) rfl (blk1_same ..) (fileO v2 f.safe)
  rw [blk1_set] at hs3
  have hs3 : Split (m2.set f.bx (fileO v2 f.safe)) (m :: blk1 f.bx (fileO v2 f.safe) :: p2 :: blk1 bf (filesO q bm nb ns) :: blk1 bm (mapF (A ++ f :: B) clock) :: (A ++ B).flatMap Fl.parts) := hs3
  have hb3 : (m2.set f.bx (fileO v2 f.safe)) bf = some (filesO q bm nb ns) := hs3.sub (a := blk1 bf (filesO q bm nb ns)) (by simp) _ _ (blk1_same ..)
  have ew : IntKind.u64.wrap (lb.length : Int) = (lb.length : Int) := wu (by omega) (by omega)
  conv => whnf
  rw [ew]
  refine xcall (aadd_at (x := nb) (y := lb.length) hb3 rfl (by omega)) ?_
  rintro _ m4 ⟨rfl, rfl⟩
  conv => whnf
  have hs4 := hs3.setAt (i := 3) rfl (blk1_same ..) (filesO q bm (nb + lb.length) ns)
  rw [blk1_set] at hs4
  obtain ⟨h5, h6⟩ := Split.rest hs4
  refine hR _ _ { f with v := v2, l := f.l ++ lb, p := p2 } rfl rfl rfl h5 ?_
  refine h.put (g := { f with v := v2, l := f.l ++ lb, p := p2 }) rfl rfl rfl ⟨?_, fun x hx => ?_, ?_, hok.born⟩ h6
  · have := hv2.own
    rw [show nc f.l ++ nc lb = nc (f.l ++ lb) by simp [nc]] at this
    exact this
  · rcases List.mem_append.1 hx with hx | hx
    · exact hok.byt x hx
    · exact h256 x hx
  · have := hok.safe
    simp only [List.length_append]; omega
end Go.E.YtgjlajcebcmbaaaGreatDoor

/-
  Files: Append, whole.
-/
namespace Go.E.YtgjlajcebcmbaaaGreatDoor
open Go.Proofs
set_option maxRecDepth 100000
def totA (A : List Af) : Nat := (A.map (·.l.length)).sum
theorem totA_abs (F : List Fl) : totA (absF F) = total F := by simp [totA, total, absF, Fl.af, Function.comp_def]
/-- what Append does -/
def AppR (A : List Af) (name : ByteArray) (lb : List Nat) (q e : Int) (A' : List Af) (nb nb' : Nat) : Prop :=
  if nameOk (chs name) = false then e = 1 ∧ A' = A ∧ nb' = nb else if 0 < q ∧ q < (totA A + lb.length : Nat) then e = 5 ∧ A' = A ∧ nb' = nb else e = 0 ∧ A' = appA A name lb ∧ nb' = nb + lb.length
theorem append_nil {m : Mem} {name : ByteArray} {v : Value} : Ret Tryz.prog 53 [.v (.pointer none), .v (.string name), .v v] m [i64 6] := by
  refine en53 rfl (goY ?_)
  conv => whnf
  first | refine xretk (find_nil) ?_ | refine xret (find_nil) ?_
  conv => whnf
  refine ⟨fun _ => ?_, fun h => absurd h (by first | decide | simp)⟩
  conv => whnf
  exact ⟨rfl, rfl⟩
theorem append_zero {m : Mem} {bf : Nat} {arr : Array Value} {name : ByteArray} {v : Value} (h : m bf = some (.cells arr 90)) (h1 : arr[1]? = some (.map none)) : Ret Tryz.prog 53 [ptrB bf, .v (.string name), .v v] m [i64 6] := by
  refine en53 rfl (goY ?_)
  conv => whnf
  first | refine xretk (find_zero h h1) ?_ | refine xret (find_zero h h1) ?_
  conv => whnf
  refine ⟨fun _ => ?_, fun h => absurd h (by first | decide | simp)⟩
  conv => whnf
  exact ⟨rfl, rfl⟩
theorem keptF {m mx my : Mem} {b : Nat} {ob : Obj} {l : List Nat} (h : m b = some ob) (hx : Sub m mx) (hy : Sub m my) (hl : ∀ x ∈ l, x = b) : Kept l mx my := fun x hx' => by
  rw [hl x hx', hx _ _ h, hy _ _ h]
set_option maxHeartbeats 4000000 in
theorem append_spec' {m mm p : Mem} {bf bm : Nat} {q : Int} {nb ns clock : Nat} {F : List Fl} {name : ByteArray} {vb : Value} {lb : List Nat} (h : FS p bf bm q nb ns clock F) (hs : Split mm [p, m]) (hv : La m vb (nc lb)) (h256 : ∀ x ∈ lb, x < 256) (hn : name.size ≤ 1000000) (hq : 0 ≤ q ∧ q ≤ 9223372036854775807)
    (hl : ∀ f ∈ F, f.l.length ≤ 90000000) (hlb : lb.length ≤ 1000000) (htot : total F ≤ 1000000000000) (hnb : nb ≤ 1000000000000000000) :
    Spec Tryz.prog 53 [ptrB bf, .v (.string name), .v vb] mm fun r m' => ∃ e p' F' clock' nb', r = [i64 e] ∧ Split m' [p', m] ∧ FS p' bf bm q nb' ns clock' F' ∧ AppR (absF F) name lb q e (absF F') nb nb' := by
  have hM := h.grow (hs.sub (by simp))
  have hf := find_spec (name := name) hM
  obtain ⟨ab, cb, rfl⟩ := hv.shape
  rw [nc_len] at hv ⊢
  -- the tail: the file is there
  have there : ∀ mm p clock A f B, FS p bf bm q nb ns clock (A ++ f :: B) → Split mm [p, m] → (∀ x ∈ A, x.name ≠ f.name) → f.l.length ≤ 90000000 → nameOk (chs name) = true → ¬ (0 < q ∧ q < (totA (absF F) + lb.length : Nat)) → (∀ g : Fl, g.name = f.name → g.l = f.l ++ lb → g.safe = f.safe → absF (A ++ g :: B) = appA (absF F) name lb) →
      xwpY c53 (restAt 11 (bodyOf Tryz.f53)) (QRetY tt.get Tryz.f53.results.toList fun r m' => ∃ e p' F' clock' nb', r = [i64 e] ∧ Split m' [p', m] ∧ FS p' bf bm q nb' ns clock' F' ∧ AppR (absF F) name lb q e (absF F') nb nb')
      [(0, .c (ptrB bf)), (2, .c (.v (.slice ab lb.length cb))), (7, .c (ptrB f.bx))] [] mm [] := by
    intro mm p clock A f B h1 h2 hA h3 h4 h5 h6
    refine append_tail h1 h2 hv h256 (by omega) hnb fun p' m' g e1 e2 e3 h7 h8 => ⟨0, p', A ++ g :: B, clock, nb + lb.length, rfl, h7, h8, ?_⟩
    rw [AppR, if_neg (by rw [h4]; decide), if_neg h5]
    exact ⟨rfl, h6 g e1 e2 e3, rfl⟩
  refine en53 rfl (goY ?_)
  conv => whnf
  cases e : fileOf F name with
  | none =>
    rw [e] at hf
    have hno : ∀ x ∈ F, x.name ≠ name := fun x hx e' => by
      have := List.find?_eq_none.1 e x hx
      simp [e'] at this
    first | refine xretk (hf) ?_ | refine xret (hf) ?_
    conv => whnf
    refine ⟨fun h => absurd h (by first | decide | simp), fun _ => ?_⟩
    conv => whnf
    first | refine xretk (isName_spec hn) ?_ | refine xret (isName_spec hn) ?_
    conv => whnf
    cases hnm : nameOk (chs name) with
    | false =>
      refine ⟨fun _ => ?_, fun h => absurd h (by first | decide | simp)⟩
      conv => whnf
      exact ⟨1, p, F, clock, nb, rfl, hs, h, by rw [AppR, if_pos hnm]; exact ⟨rfl, rfl, rfl⟩⟩
    | true =>
      refine ⟨fun h => absurd h (by first | decide | simp), fun _ => ?_⟩
      conv => whnf
      refine ⟨.int .i64 q, mcell_of hM.files rfl, rfl, ?_⟩
      conv => whnf
      refine ⟨fun h1 => ?_, fun h1 => ?_⟩
      · have hq1 := of_decide_eq_true h1
        clear h1
        have ew : IntKind.i64.wrap (q - (lb.length : Int)) = q - (lb.length : Int) := wi (by omega) (by omega)
        conv => whnf
        refine ⟨.int .i64 q, mcell_of hM.files rfl, rfl, ?_⟩
        conv => whnf
        rw [ew]
        refine xcall (used_spec hM htot) ?_
        rintro _ m1 ⟨rfl, hsu⟩
        conv => whnf
        first | (refine ⟨keptF hM.files (Sub.refl _) hsu (by simp), ?_⟩; conv => whnf) | skip
        have hs1 := hs.grow hsu
        refine ⟨fun h2 => ?_, fun h2 => ?_⟩
        · have h2' := of_decide_eq_true h2
          conv => whnf
          exact ⟨5, p, _, clock, nb, rfl, hs1, h, by rw [AppR, if_neg (by rw [hnm]; decide), if_pos ⟨hq1, by rw [totA_abs]; omega⟩]; exact ⟨rfl, rfl, rfl⟩⟩
        · have h2' := of_decide_eq_false h2
          have hfit : ¬ (0 < q ∧ q < (totA (absF F) + lb.length : Nat)) := fun hx => by have := hx.2; rw [totA_abs] at this; omega
          clear h2
          conv => whnf
          refine ⟨fun _ => ?_, fun h => absurd h (by first | decide | simp)⟩
          conv => whnf
          intro b hb
          have hpb : p b = none := hs1.none hb p (by simp)
          have hs2 := (hs1.new hb (fileO (.slice none 0 0) 0)).pair
          conv => whnf
          have hP := ((((Split.one p).new hpb (fileO (.slice none 0 0) 0)).under (a := [blk1 b (fileO (.slice none 0 0) 0)]) h.sp).addEmp).perm (List.Perm.swap _ _ _)
          rw [← joinM_blk1] at hP
          have hp1 : FS (joinM (blk1 b (fileO (.slice none 0 0) 0)) p) bf bm q nb ns clock F := h.grow (by rw [joinM_blk1]; exact Mem.sub_set _ hpb)
          have hM2 := hp1.grow (hs2.sub (by simp))
          refine ⟨.map (some bm), mcell_of hM2.files rfl, rfl, ?_⟩
          conv => whnf
          refine .mk _ (mapSetF (v := ptrB b) hM2.map) ?_
          rintro _ m' rfl
          conv => whnf
          have hs3 := hs2.set hp1.map (mapO Value.string (setM name (ptrB b) clock (F.map Fl.men)) (clockM name clock (F.map Fl.men)))
          have hp2 := hp1.ins (f := ⟨name, b, .slice none 0 0, [], 0, clock, emp⟩) (name := name) (.inr ⟨Bs.nil _, by simp, Nat.le_refl _⟩) hP rfl
          have hpf : putF F ⟨name, b, .slice none 0 0, [], 0, clock, emp⟩ name clock = F ++ [⟨name, b, .slice none 0 0, [], 0, clock, emp⟩] := by
            rcases putF_split (F := F) (f := ⟨name, b, .slice none 0 0, [], 0, clock, emp⟩) (name := name) (clock := clock) with ⟨_, h2⟩ | ⟨C, g, D, h0, _, _, h3, _⟩
            · exact h2
            · rw [e] at h3; cases h3
          rw [hpf] at hp2
          have tl := there _ _ _ _ _ [] hp2 hs3 hno (by simp) hnm hfit (fun g e1 e2 e3 => appA_new hno e1 (by rw [e2]; rfl) e3)
          conv at tl => whnf
          refine .via _ _ ?_ tl
          conv => whnf
          repeat (refine And.intro (by first | with_reducible rfl | exact congrArg (Value.int _) (wi (by omega) (by omega)) | exact wi (by omega) (by omega) | rfl) ?_; conv => whnf)
          first | exact trivial | exact fun _ _ h => h
      · have hq1 := of_decide_eq_false h1
        have hfit : ¬ (0 < q ∧ q < (totA (absF F) + lb.length : Nat)) := fun hx => hq1 hx.1
        have hs1 := hs
        clear h1
        conv => whnf
        refine ⟨fun _ => ?_, fun h => absurd h (by first | decide | simp)⟩
        conv => whnf
        intro b hb
        have hpb : p b = none := hs1.none hb p (by simp)
        have hs2 := (hs1.new hb (fileO (.slice none 0 0) 0)).pair
        conv => whnf
        have hP := ((((Split.one p).new hpb (fileO (.slice none 0 0) 0)).under (a := [blk1 b (fileO (.slice none 0 0) 0)]) h.sp).addEmp).perm (List.Perm.swap _ _ _)
        rw [← joinM_blk1] at hP
        have hp1 : FS (joinM (blk1 b (fileO (.slice none 0 0) 0)) p) bf bm q nb ns clock F := h.grow (by rw [joinM_blk1]; exact Mem.sub_set _ hpb)
        have hM2 := hp1.grow (hs2.sub (by simp))
        refine ⟨.map (some bm), mcell_of hM2.files rfl, rfl, ?_⟩
        conv => whnf
        refine .mk _ (mapSetF (v := ptrB b) hM2.map) ?_
        rintro _ m' rfl
        conv => whnf
        have hs3 := hs2.set hp1.map (mapO Value.string (setM name (ptrB b) clock (F.map Fl.men)) (clockM name clock (F.map Fl.men)))
        have hp2 := hp1.ins (f := ⟨name, b, .slice none 0 0, [], 0, clock, emp⟩) (name := name) (.inr ⟨Bs.nil _, by simp, Nat.le_refl _⟩) hP rfl
        have hpf : putF F ⟨name, b, .slice none 0 0, [], 0, clock, emp⟩ name clock = F ++ [⟨name, b, .slice none 0 0, [], 0, clock, emp⟩] := by
          rcases putF_split (F := F) (f := ⟨name, b, .slice none 0 0, [], 0, clock, emp⟩) (name := name) (clock := clock) with ⟨_, h2⟩ | ⟨C, g, D, h0, _, _, h3, _⟩
          · exact h2
          · rw [e] at h3; cases h3
        rw [hpf] at hp2
        have tl := there _ _ _ _ _ [] hp2 hs3 hno (by simp) hnm hfit (fun g e1 e2 e3 => appA_new hno e1 (by rw [e2]; rfl) e3)
        conv at tl => whnf
        refine .via _ _ ?_ tl
        conv => whnf
        repeat (refine And.intro (by first | with_reducible rfl | exact congrArg (Value.int _) (wi (by omega) (by omega)) | exact wi (by omega) (by omega) | rfl) ?_; conv => whnf)
        first | exact trivial | exact fun _ _ h => h
  | some f =>
    rw [e] at hf
    obtain ⟨A, B, rfl, hA, rfl⟩ := fileOf_split e
    have hlf := hl f (by simp)
    first | refine xretk (hf) ?_ | refine xret (hf) ?_
    conv => whnf
    refine ⟨fun h => absurd h (by first | decide | simp), fun _ => ?_⟩
    conv => whnf
    first | refine xretk (isName_spec hn) ?_ | refine xret (isName_spec hn) ?_
    conv => whnf
    cases hnm : nameOk (chs f.name) with
    | false =>
      refine ⟨fun _ => ?_, fun h => absurd h (by first | decide | simp)⟩
      conv => whnf
      exact ⟨1, p, _, clock, nb, rfl, hs, h, by rw [AppR, if_pos hnm]; exact ⟨rfl, rfl, rfl⟩⟩
    | true =>
      refine ⟨fun h => absurd h (by first | decide | simp), fun _ => ?_⟩
      conv => whnf
      refine ⟨.int .i64 q, mcell_of hM.files rfl, rfl, ?_⟩
      conv => whnf
      refine ⟨fun h1 => ?_, fun h1 => ?_⟩
      · have hq1 := of_decide_eq_true h1
        clear h1
        have ew : IntKind.i64.wrap (q - (lb.length : Int)) = q - (lb.length : Int) := wi (by omega) (by omega)
        conv => whnf
        refine ⟨.int .i64 q, mcell_of hM.files rfl, rfl, ?_⟩
        conv => whnf
        rw [ew]
        refine xcall (used_spec hM htot) ?_
        rintro _ m1 ⟨rfl, hsu⟩
        conv => whnf
        first | (refine ⟨keptF hM.files (Sub.refl _) hsu (by simp), ?_⟩; conv => whnf) | skip
        have hs1 := hs.grow hsu
        refine ⟨fun h2 => ?_, fun h2 => ?_⟩
        · have h2' := of_decide_eq_true h2
          conv => whnf
          exact ⟨5, p, _, clock, nb, rfl, hs1, h, by rw [AppR, if_neg (by rw [hnm]; decide), if_pos ⟨hq1, by rw [totA_abs]; omega⟩]; exact ⟨rfl, rfl, rfl⟩⟩
        · have h2' := of_decide_eq_false h2
          have hfit : ¬ (0 < q ∧ q < (totA (absF (A ++ f :: B)) + lb.length : Nat)) := fun hx => by have := hx.2; rw [totA_abs] at this; omega
          clear h2
          conv => whnf
          refine ⟨fun h => absurd h (by first | decide | simp), fun _ => ?_⟩
          conv => whnf
          have tl := there _ _ _ _ _ _ h hs1 hA hlf hnm hfit (fun g e1 e2 e3 => appA_split hA e1 e2 e3)
          conv at tl => whnf
          refine .via _ _ ?_ tl
          conv => whnf
          repeat (refine And.intro (by first | with_reducible rfl | exact congrArg (Value.int _) (wi (by omega) (by omega)) | exact wi (by omega) (by omega) | rfl) ?_; conv => whnf)
          first | exact trivial | exact fun _ _ h => h
      · have hq1 := of_decide_eq_false h1
        have hfit : ¬ (0 < q ∧ q < (totA (absF (A ++ f :: B)) + lb.length : Nat)) := fun hx => hq1 hx.1
        have hs1 := hs
        clear h1
        conv => whnf
        refine ⟨fun h => absurd h (by first | decide | simp), fun _ => ?_⟩
        conv => whnf
        have tl := there _ _ _ _ _ _ h hs1 hA hlf hnm hfit (fun g e1 e2 e3 => appA_split hA e1 e2 e3)
        conv at tl => whnf
        refine .via _ _ ?_ tl
        conv => whnf
        repeat (refine And.intro (by first | with_reducible rfl | exact congrArg (Value.int _) (wi (by omega) (by omega)) | exact wi (by omega) (by omega) | rfl) ?_; conv => whnf)
        first | exact trivial | exact fun _ _ h => h
end Go.E.YtgjlajcebcmbaaaGreatDoor

/-
  Lists of whole numbers.
-/
namespace Go.E.YtgjlajcebcmbaaaGreatDoor
open Go.Proofs
set_option maxRecDepth 100000
theorem hIs : tt.get 38 = some ⟨.slice 3, 1, 24, [.one (.slice none 0 0)], false⟩ := by rfl
theorem hI' : tt.get 3 = some ⟨.int .i64, 1, 8, [.one (.int .i64 0)], false⟩ := by rfl
abbrev ic (l : List Int) : List Value := l.map (Value.int .i64)
theorem ic_one {l : List Int} : ∀ u ∈ ic l, u.oneCell' = true := by
  intro u hu; obtain ⟨a, _, rfl⟩ := List.mem_map.1 hu; rfl
/-- numbers that lie somewhere; owned -/
def Il (m : Mem) (v : Value) (l : List Int) : Prop := Lies m 1 v (ic l)
def Io (m : Mem) (v : Value) (l : List Int) : Prop := Own m 3 1 v (ic l)
/-- numbers that lie somewhere; or none, wherever -/
def Ia (m : Mem) (v : Value) (l : List Int) : Prop := Il m v l ∨ (l = [] ∧ ∃ a, v = .slice (some a) 0 0)
theorem Il.sub {m m' : Mem} {v : Value} {l : List Int} (h : Il m v l) (hs : Sub m m') : Il m' v l := Lies.sub h hs
theorem Io.sub {m m' : Mem} {v : Value} {l : List Int} (h : Io m v l) (hs : Sub m m') : Io m' v l := Own.sub h hs
theorem Io.il {m : Mem} {v : Value} {l : List Int} (h : Io m v l) : Il m v l := Own.lies h
theorem Il.ia {m : Mem} {v : Value} {l : List Int} (h : Il m v l) : Ia m v l := .inl h
theorem Ia.sub {m m' : Mem} {v : Value} {l : List Int} (h : Ia m v l) (hs : Sub m m') : Ia m' v l := h.imp (·.sub hs) id
theorem Io.nil (m : Mem) : Io m (.slice none 0 0) [] := .inl ⟨rfl, rfl⟩
theorem Il.shape {m : Mem} {v : Value} {l : List Int} (h : Il m v l) : ∃ a c, v = .slice a l.length c := by
  rcases h with ⟨c, rfl, e⟩ | ⟨b, o, c, n, arr, t, fr, rfl, _, e, _⟩
  · have : l.length = 0 := by simpa using congrArg List.length e
    exact ⟨none, c, by rw [this]⟩
  · have : l.length = n := by simpa using e
    exact ⟨_, c, by rw [this]⟩
theorem Ia.shape {m : Mem} {v : Value} {l : List Int} (h : Ia m v l) : ∃ a c, v = .slice a l.length c := by
  rcases h with h | ⟨rfl, a, rfl⟩
  · exact h.shape
  · exact ⟨_, _, rfl⟩
theorem Ia.one {m : Mem} {v : Value} {l : List Int} (h : Ia m v l) : v.oneCell' = true := by obtain ⟨a, c, rfl⟩ := h.shape; rfl
theorem Ia.il {m : Mem} {v : Value} {l : List Int} (h : Ia m v l) (hl : l ≠ []) : Il m v l := h.elim id fun h => absurd h.1 hl
theorem Il.real {m : Mem} {v : Value} {l : List Int} (h : Il m v l) {i : Nat} (hi : i < l.length) : ∃ b o c, v = .slice (some ⟨b, o, none⟩) l.length c ∧ ∀ j (hj : j < l.length), mcell m b (o + j) = some (.int .i64 l[j]) := by
  rcases h with ⟨c, rfl, e⟩ | ⟨b, o, c, n, arr, t, fr, rfl, g1, e, _, g2, _⟩
  · have : l.length = 0 := by simpa using congrArg List.length e
    omega
  · have : l.length = n := by simpa using e
    exact ⟨b, o, c, by rw [this], fun j hj => mcell_of g1 (g2 j _ (by simp [hj]))⟩
theorem Ia.real {m : Mem} {v : Value} {l : List Int} (h : Ia m v l) {i : Nat} (hi : i < l.length) : ∃ b o c, v = .slice (some ⟨b, o, none⟩) l.length c ∧ ∀ j (hj : j < l.length), mcell m b (o + j) = some (.int .i64 l[j]) :=
  (h.il (by rintro rfl; simp at hi)).real hi
theorem Ia.lenV {m : Mem} {v : Value} {l : List Int} (h : Ia m v l) : lenV v = l.length := by obtain ⟨a, c, rfl⟩ := h.shape; rfl
theorem buildI1 {m : Mem} {x : Int} : PrimSpec Tryz.prog (.buildSlice 38 1 [0]) [.v (.int .i64 x)] m fun r m' => ∃ b, m b = none ∧ r = [.v (.slice (some ⟨b, 0, none⟩) 1 1)] ∧ m' = m.set b (.cells #[.int .i64 x] 3) :=
  buildSlice_spec (n := 1) tt_ok hIs rfl hI' rfl rfl (by simp [CV.cs]) (by simp) (by simp)
theorem Ia.gives {m : Mem} {v : Value} {l : List Int} {e : TypeId} (h : Ia m v l) : Gives m 1 (.slice e) v (ic l) := .inl ⟨e, rfl, h.imp id fun ⟨h1, h2⟩ => ⟨by rw [h1]; rfl, h2⟩⟩
/-- append of numbers onto the i-th part -/
theorem appendIat {m p : Mem} {ls : List Mem} {i : Nat} {v x : Value} {l news : List Int} (hs : Split m ls) (hi : ls[i]? = some p) (hv : Io p v l) (hg : Ia m x news) (hb : l.length + news.length ≤ 1000000000) :
    PrimSpec Tryz.prog (.builtin .append [38, 38]) [.v v, .v x] m fun r m' => ∃ v' p', r = [.v v'] ∧ Split m' (ls.set i p') ∧ Io p' v' (l ++ news) := by
  have e1 := hv.il.ia.lenV
  have e2 := hg.lenV
  refine (append_at tt_ok hIs rfl hI' hIs rfl hs hi hv hg.gives (by rw [e1, e2]; simp only; omega) (by rw [e1, e2]; omega)).mono fun r m' ⟨v', p', h1, h2, h3⟩ => ⟨v', p', h1, h2, ?_⟩
  have := h3.own
  rw [show ic l ++ ic news = ic (l ++ news) by simp [ic]] at this
  exact this
theorem Il.blk1 {m : Mem} {b : Nat} {x : Int} {t : TypeId} {fr : Nat × Nat} (h : m b = some (.cells #[.int .i64 x] t fr)) : Il m (.slice (some ⟨b, 0, none⟩) 1 1) [x] :=
  .inr ⟨b, 0, 1, 1, _, _, _, rfl, h, rfl, Nat.le_refl _, fun j u hu => by simpa [ic] using hu, by simp [ic, Value.oneCell']⟩
/-- one number more -/
theorem pushI {m p : Mem} {ls : List Mem} {b' : Nat} {x : Int} {y : Value} {l : List Int} (hs : Split m (p :: ls)) (hb : m b' = none) (hy : Io p y l) (hl : l.length ≤ 100000000) :
    PrimSpec Tryz.prog (.builtin .append [38, 38]) [.v y, .v (.slice (some ⟨b', 0, none⟩) 1 1)] (m.set b' (.cells #[.int .i64 x] 3)) fun r m' => ∃ y' p', r = [.v y'] ∧ Split m' (p' :: ls) ∧ Io p' y' (l ++ [x]) := by
  have hs1 := hs.new hb (.cells #[.int .i64 x] 3)
  refine (appendIat (i := 1) hs1 rfl hy (Il.blk1 (Mem.set_same ..)).ia (by simp; omega)).mono fun r m' ⟨v', p', h1, h2, h3⟩ => ⟨v', p', h1, h2.erase 0, h3⟩
theorem iadd1 {i : Nat} (h : i < 1000000000000) : IntKind.i64.wrap ((i : Int) + 1) = ((i + 1 : Nat) : Int) := by rw [wi (by omega) (by omega)]; omega
theorem mcell_rng {m : Mem} {b o j : Nat} {l : List Value} {y : Value} (h : MRange m b o l) (hj : l[j]? = some y) : mcell m b (o + j) = some y := by
  obtain ⟨arr, t, fr, h1, h2⟩ := h
  exact mcell_of h1 (h2 j y hj)
end Go.E.YtgjlajcebcmbaaaGreatDoor

/-
  Files: a crash.
-/
namespace Go.E.YtgjlajcebcmbaaaGreatDoor
open Go.Proofs
set_option maxRecDepth 100000
/-- how many bytes more last -/
def lastN (a : Af) (x : Int) : Nat := (min (max x 0) ((a.l.length : Int) - a.safe)).toNat
def crash1 (A : List Af) (name : ByteArray) (x : Int) : List Af := A.map fun a => if a.name = name then ⟨a.name, a.l.take (a.safe + lastN a x), a.safe + lastN a x⟩ else a
def crashTo (N : List ByteArray) (last : List Int) (A : List Af) : Nat → List Af
  | 0 => A
  | i + 1 => crash1 (crashTo N last A i) (N.getD i ByteArray.empty) (last.getD i 0)
def crashA (A : List Af) (last : List Int) : List Af := crashTo (srtB (A.map (·.name))) last A A.length
theorem crash1_names (A : List Af) (name : ByteArray) (x : Int) : (crash1 A name x).map (·.name) = A.map (·.name) := by
  simp only [crash1, List.map_map]
  refine List.map_congr_left fun a _ => ?_
  simp only [Function.comp]
  split <;> rfl
theorem crashTo_names (N : List ByteArray) (last : List Int) (A : List Af) : ∀ i, (crashTo N last A i).map (·.name) = A.map (·.name)
  | 0 => rfl
  | i + 1 => by rw [crashTo, crash1_names, crashTo_names N last A i]
theorem abs_names (F : List Fl) : (absF F).map (·.name) = F.map (·.name) := by simp [absF, Fl.af]
theorem srtB_same (ss : List ByteArray) : (srtB ss).Perm ss := by
  have h1 : ((ss.map encB).mergeSort fun x y => decide (x ≤ y)).Perm (ss.map encB) := List.mergeSort_perm _ _
  have h2 := h1.map fun l : List UInt8 => (⟨l.toArray⟩ : ByteArray)
  rw [List.map_map] at h2
  have e : ss.map ((fun l : List UInt8 => (⟨l.toArray⟩ : ByteArray)) ∘ encB) = ss := by
    refine (List.map_congr_left fun s _ => ?_).trans (List.map_id ss)
    cases s; simp [encB]
  rw [e] at h2
  exact h2
theorem crash1_split {A B : List Fl} {f g : Fl} {x : Int} (hA : ∀ y ∈ A, y.name ≠ f.name) (hB : ∀ y ∈ B, y.name ≠ f.name) (hg : g.af = ⟨f.name, f.l.take (f.safe + lastN f.af x), f.safe + lastN f.af x⟩) : absF (A ++ g :: B) = crash1 (absF (A ++ f :: B)) f.name x := by
  have h1 : ∀ L : List Fl, (∀ y ∈ L, y.name ≠ f.name) → (L.map Fl.af).map (fun a => if a.name = f.name then (⟨a.name, a.l.take (a.safe + lastN a x), a.safe + lastN a x⟩ : Af) else a) = L.map Fl.af := fun L hL => by
    refine (List.map_congr_left fun a ha => ?_).trans (List.map_id _)
    obtain ⟨y, hy, rfl⟩ := List.mem_map.1 ha
    rw [if_neg (show ¬ y.af.name = f.name from fun e => hL y hy e)]; rfl
  simp only [absF, crash1, List.map_append, List.map_cons]
  rw [h1 A hA, h1 B hB, hg, if_pos (show f.af.name = f.name from rfl)]
  rfl
set_option maxHeartbeats 4000000 in
theorem crash_spec {m mm p : Mem} {bf bm : Nat} {q : Int} {nb ns clock : Nat} {F : List Fl} {vl : Value} {last : List Int} (h : FS p bf bm q nb ns clock F) (hs : Split mm [p, m]) (hv : Ia m vl last) (hlast : last.length ≤ 9223372036854775807) (hl : ∀ f ∈ F, f.l.length ≤ 90000000) (hF : F.length ≤ 1000000) (hI : ∀ x ∈ last, -9223372036854775808 ≤ x ∧ x ≤ 9223372036854775807) :
    Spec Tryz.prog 19 [ptrB bf, .v vl] mm fun r m' => ∃ p' F', r = [] ∧ Split m' [p', m] ∧ FS p' bf bm q nb ns clock F' ∧ absF F' = crashA (absF F) last ∧ ∀ f ∈ F', f.l.length ≤ 90000000 := by
  obtain ⟨a, c, rfl⟩ := hv.shape
  have hN : (namesF F).length = F.length := by rw [namesF, srtB_len, List.length_map]
  have hNs : srtB ((absF F).map (·.name)) = namesF F := by rw [abs_names]; rfl
  refine en19 rfl (goY ?_)
  conv => whnf
  refine xcall (names_spec (h.grow (hs.sub (by simp))) hF) ?_
  rintro _ m1 ⟨vn, pn, rfl, hsn, hvn⟩
  conv => whnf
  have hsn : Split m1 [pn, p, m] := hsn.under (a := [pn]) hs
  have hsn : Split m1 [p, pn, m] := hsn.perm (List.Perm.swap _ _ _)
  obtain ⟨an, cn, rfl⟩ := hvn.sl.shape
  rw [hN] at hvn ⊢
  conv => whnf
  refine .mk (ι := Nat) (fun i => F.length - i) (fun i mm => i ≤ F.length ∧ ∃ p' F', Split mm [p', pn, m] ∧ FS p' bf bm q nb ns clock F' ∧ absF F' = crashTo (namesF F) last (absF F) i ∧ ∀ f ∈ F', f.l.length ≤ 90000000)
    (fun i => [(0, .c (ptrB bf)), (1, .c (.v (.slice a last.length c))), (9, .c (.v (.slice an F.length cn))), (10, .c (i64 F.length)), (11, .c (i64 i))]) (fun _ => []) 0 ⟨by omega, p, F, hsn, h, rfl, hl⟩ ?_ ?_
  · conv => whnf
    repeat (refine And.intro (by first | with_reducible rfl | exact congrArg (Value.int _) (wi (by omega) (by omega)) | exact wi (by omega) (by omega) | rfl) ?_; conv => whnf)
    first | exact trivial | exact fun _ _ h => h
  rintro i mm ⟨hi, p, F2, hs, h, hab, hl⟩
  conv => whnf
  refine ⟨fun h1 => ?_, fun h1 => ?_⟩
  rotate_left
  · have h1' := of_decide_eq_false h1
    obtain rfl : i = F.length := by omega
    conv => whnf
    exact ⟨p, F2, rfl, hs.erase 1, h, by rw [hab, crashA, hNs, List.length_map], hl⟩
  have h1' := of_decide_eq_true h1
  have hlt : i < F.length := by omega
  clear h1
  obtain ⟨bn, on, c', hh, hg⟩ := (hvn.sl.sub (hs.sub (a := pn) (by simp))).real (i := i) (by omega)
  rw [hN] at hh
  injection hh with hh1 _ hh3
  subst hh1
  clear hh3 c'
  have hg := hg i (by omega)
  have hmem : (namesF F)[i]'(by omega) ∈ F2.map (·.name) := by
    have h2 : (namesF F)[i]'(by omega) ∈ F.map (·.name) := (srtB_same _).subset (List.getElem_mem _)
    have h3 := congrArg (List.map (·.name)) hab
    rw [abs_names, crashTo_names, abs_names] at h3
    rw [h3]; exact h2
  have hgd : (namesF F).getD i ByteArray.empty = (namesF F)[i]'(by omega) := by rw [List.getD_eq_getElem?_getD, List.getElem?_eq_getElem (by omega)]; rfl
  have hst : crashTo (namesF F) last (absF F) (i + 1) = crash1 (absF F2) ((namesF F)[i]'(by omega)) (last.getD i 0) := by rw [crashTo, hgd, ← hab]
  generalize (namesF F)[i]'(by omega) = name at hg hmem hst
  obtain ⟨f, hfn, hfe⟩ : ∃ f, fileOf F2 name = some f ∧ True := by
    cases e : fileOf F2 name with
    | some f => exact ⟨f, rfl, trivial⟩
    | none =>
      obtain ⟨g, hg1, hg2⟩ := List.mem_map.1 hmem
      have := List.find?_eq_none.1 e g hg1
      simp [hg2] at this
  have hfm := (fileOf_mem hfn).1
  have hok := h.ok f hfm
  have hlf := hl f hfm
  have hM := h.grow (hs.sub (a := p) (by simp))
  have hmf := hM.mem hfm
  have fin : ∀ v n s, f.safe + n = s → Bs f.p v (nc (f.l.take s)) → n = lastN f.af (last.getD i 0) → ∃ p' F', Split (mm.set f.bx (fileO v s)) [p', pn, m] ∧ FS p' bf bm q nb ns clock F' ∧ absF F' = crashTo (namesF F) last (absF F) (i + 1) ∧ ∀ f ∈ F', f.l.length ≤ 90000000 := by
    intro v n s hsx hvb hn
    obtain ⟨A, B, rfl, hA, hfname⟩ := fileOf_split hfn
    subst hfname
    obtain ⟨hA, hB⟩ := h.names_of
    have hs2 := hs.set (h.mem hfm) (fileO v s)
    have hp := h.pick.setAt (i := 0) rfl (blk1_same ..) (fileO v s)
    rw [blk1_set] at hp
    have hle : s ≤ f.l.length := by
      have := hok.safe
      subst hn
      unfold lastN at hsx
      simp only [Fl.af] at hsx
      omega
    refine ⟨_, _, hs2, h.put (g := { f with l := f.l.take s, v := v, safe := s }) rfl rfl rfl ⟨hvb, fun x hx => hok.byt x (List.mem_of_mem_take hx), by simp only [List.length_take]; omega, hok.born⟩ hp, ?_, ?_⟩
    · rw [hst]
      refine crash1_split hA hB ?_
      subst hsx
      subst hn
      rfl
    · intro x hx
      rcases List.mem_append.1 hx with hx | hx
      · exact hl x (by simp [hx])
      · rcases List.mem_cons.1 hx with rfl | hx
        · simp only [List.length_take]; omega
        · exact hl x (by simp [hx])
  have hsafe := hok.safe
  conv => whnf
  repeat (refine And.intro (by first | omega | (simp only [times]; omega)) ?_; conv => whnf)
  refine ⟨.string name, by simp only [times, Int.toNat_natCast, Nat.mul_one]; exact hg, rfl, ?_⟩
  conv => whnf
  refine ⟨.map (some bm), mcell_of hM.files rfl, rfl, ?_⟩
  conv => whnf
  refine .mk _ (lookupF hM.map false) ?_
  rintro _ _ ⟨rfl, rfl⟩
  conv => whnf
  rw [hfn]
  conv => whnf
  refine ⟨fun h2 => ?_, fun h2 => ?_⟩
  · have h2' := of_decide_eq_true h2
    have hil : i < last.length := by omega
    clear h2
    obtain ⟨bl, ol, c', hh, hgl⟩ := (hv.sub (hs.sub (a := m) (by simp))).real hil
    injection hh with hh1 _ hh3
    subst hh1
    clear hh3 c'
    have hgl := hgl i hil
    have hx := hI _ (List.getElem_mem hil)
    have hxd : last.getD i 0 = last[i] := by rw [List.getD_eq_getElem?_getD, List.getElem?_eq_getElem hil]; rfl
    rw [hxd] at fin
    generalize last[i] = x at hgl hx fin
    obtain ⟨av, cv, hfv0⟩ := hok.bs.lb.shape
    rw [nc_len] at hfv0
    have ewl : IntKind.i64.wrap ((f.l.length : Int) - (f.safe : Int)) = (f.l.length : Int) - (f.safe : Int) := wi (by omega) (by omega)
    have hnn : min (max x 0) ((f.l.length : Int) - (f.safe : Int)) = ((lastN f.af x : Nat) : Int) := by unfold lastN; simp only [Fl.af]; omega
    have hnl : lastN f.af x ≤ f.l.length - f.safe := by unfold lastN; simp only [Fl.af]; omega
    have hmf0 := hmf
    rw [hfv0] at hmf0
    conv => whnf
    repeat (refine And.intro (by first | omega | (simp only [times]; omega)) ?_; conv => whnf)
    refine ⟨.int .i64 x, by simp only [times, Int.toNat_natCast, Nat.mul_one]; exact hgl, rfl, ?_⟩
    conv => whnf
    refine ⟨.slice av f.l.length cv, mcell_of hmf0 rfl, rfl, ?_⟩
    conv => whnf
    refine ⟨.int .i64 f.safe, mcell_of hmf rfl, rfl, ?_⟩
    conv => whnf
    rw [ewl, hnn]
    generalize hnx : lastN f.af x = n at hnl fin
    conv => whnf
    have hs7 : f.safe + n ≤ f.l.length := by omega
    refine ⟨.int .i64 f.safe, mcell_of hmf rfl, rfl, ?_⟩
    have ew7 : IntKind.i64.wrap ((f.safe : Int) + ((n : Nat) : Int)) = ((f.safe + n : Nat) : Int) := by rw [wi (by omega) (by omega)]; omega
    conv => whnf
    refine ⟨_, _, _, hmf, ⟨Nat.le_refl 2, by simp⟩, ?_⟩
    rw [ew7]
    generalize hsx : f.safe + n = s at hs7 ⊢
    have hmf2 : (mm.set f.bx (fileO f.v s)) f.bx = some (fileO f.v s) := Mem.set_same ..
    rcases hok.bs.lb.cases with ⟨c, hfv, hnil⟩ | ⟨b, o, c, arr, t, fr, hfv, h5⟩
    · have hz : f.l.length = 0 := by simpa using congrArg List.length hnil
      obtain rfl : s = 0 := by omega
      have hc0 : c = 0 := by
        rcases hok.bs with ⟨e1, e2⟩ | ⟨b, o, c', n, arr, e1, _⟩
        · rw [hfv] at e1; injection e1
        · rw [hfv] at e1; cases e1
      subst hc0
      rw [hfv] at hmf2 ⊢
      conv => whnf
      refine ⟨.slice none 0 0, mcell_of hmf2 rfl, rfl, ?_⟩
      conv => whnf
      refine ⟨.int .i64 ((0 : Nat) : Int), mcell_of hmf2 rfl, rfl, ?_⟩
      conv => whnf
      refine ⟨.int .i64 ((0 : Nat) : Int), mcell_of hmf2 rfl, rfl, ?_⟩
      conv => whnf
      repeat (refine And.intro (by first | omega | (simp only [times]; omega)) ?_; conv => whnf)
      refine ⟨_, _, _, hmf2, ⟨Nat.zero_lt_succ _, by simp⟩, ?_⟩
      rw [Mem.set_set]
      conv => whnf
      obtain ⟨p', F', k1, k2, k3⟩ := fin (.slice none 0 0) n 0 hsx (by rw [List.take_zero]; exact Bs.nil _) rfl
      refine ⟨i + 1, ⟨by omega, p', F', k1, k2, k3⟩, by omega, ?_⟩
      conv => whnf
      repeat (refine And.intro (by first | with_reducible rfl | (first | exact congrArg (Value.int _) (iadd (by omega))) | exact congrArg (Value.int _) (wi (by omega) (by omega)) | exact wi (by omega) (by omega) | rfl) ?_; conv => whnf)
      first | exact trivial | exact fun _ _ h => h
    · have hcc : f.l.length ≤ c := by
        rcases hok.bs with ⟨e1, _⟩ | ⟨b, o, c', n, arr, e1, _, _, h6, _⟩
        · rw [hfv] at e1; cases e1
        · rw [hfv, nc_len] at e1; cases e1; exact h6
      rw [nc_len] at hfv
      have hbs : Bs f.p (.slice (some ⟨b, o, none⟩) f.l.length c) (nc f.l) := by rw [← hfv]; exact hok.bs
      rw [hfv] at hmf2 ⊢
      conv => whnf
      refine ⟨.slice (some ⟨b, o, none⟩) f.l.length c, mcell_of hmf2 rfl, rfl, ?_⟩
      conv => whnf
      refine ⟨.int .i64 (s : Int), mcell_of hmf2 rfl, rfl, ?_⟩
      conv => whnf
      refine ⟨.int .i64 (s : Int), mcell_of hmf2 rfl, rfl, ?_⟩
      conv => whnf
      repeat (refine And.intro (by first | omega | (simp only [times]; omega)) ?_; conv => whnf)
      intro o' q1 q2
      obtain rfl : o' = o := by
        by_cases h0 : s = 0
        · have := q2 (by omega); simpa using this
        · have := q1 (by omega); simpa [times] using this
      conv => whnf
      refine ⟨_, _, _, hmf2, ⟨Nat.zero_lt_succ _, by simp⟩, ?_⟩
      rw [Mem.set_set]
      conv => whnf
      have hct := hbs.cutCap' (n := s) (by rw [nc_len]) (by rw [nc_len]; exact hs7)
      rw [show (nc f.l).take s = nc (f.l.take s) by simp [nc, List.map_take]] at hct
      obtain ⟨p', F', k1, k2, k3⟩ := fin (.slice (some ⟨b, o', none⟩) s s) n s hsx hct rfl
      refine ⟨i + 1, ⟨by omega, p', F', k1, k2, k3⟩, by omega, ?_⟩
      conv => whnf
      repeat (refine And.intro (by first | with_reducible rfl | (first | exact congrArg (Value.int _) (iadd (by omega))) | exact congrArg (Value.int _) (wi (by omega) (by omega)) | exact wi (by omega) (by omega) | rfl) ?_; conv => whnf)
      first | exact trivial | exact fun _ _ h => h
  · have h2' := of_decide_eq_false h2
    have hxd : last.getD i 0 = 0 := by rw [List.getD_eq_getElem?_getD, List.getElem?_eq_none (by omega)]; rfl
    rw [hxd] at fin
    have hn0 : 0 = lastN f.af 0 := by unfold lastN; simp only [Fl.af]; omega
    clear h2
    conv => whnf
    have hs7 : f.safe + 0 ≤ f.l.length := by omega
    refine ⟨.int .i64 f.safe, mcell_of hmf rfl, rfl, ?_⟩
    have ew7 : IntKind.i64.wrap ((f.safe : Int) + 0) = ((f.safe + 0 : Nat) : Int) := by rw [wi (by omega) (by omega)]; omega
    conv => whnf
    refine ⟨_, _, _, hmf, ⟨Nat.le_refl 2, by simp⟩, ?_⟩
    rw [ew7]
    generalize hsx : f.safe + 0 = s at hs7 ⊢
    have hmf2 : (mm.set f.bx (fileO f.v s)) f.bx = some (fileO f.v s) := Mem.set_same ..
    rcases hok.bs.lb.cases with ⟨c, hfv, hnil⟩ | ⟨b, o, c, arr, t, fr, hfv, h5⟩
    · have hz : f.l.length = 0 := by simpa using congrArg List.length hnil
      obtain rfl : s = 0 := by omega
      have hc0 : c = 0 := by
        rcases hok.bs with ⟨e1, e2⟩ | ⟨b, o, c', n, arr, e1, _⟩
        · rw [hfv] at e1; injection e1
        · rw [hfv] at e1; cases e1
      subst hc0
      rw [hfv] at hmf2 ⊢
      conv => whnf
      refine ⟨.slice none 0 0, mcell_of hmf2 rfl, rfl, ?_⟩
      conv => whnf
      refine ⟨.int .i64 ((0 : Nat) : Int), mcell_of hmf2 rfl, rfl, ?_⟩
      conv => whnf
      refine ⟨.int .i64 ((0 : Nat) : Int), mcell_of hmf2 rfl, rfl, ?_⟩
      conv => whnf
      repeat (refine And.intro (by first | omega | (simp only [times]; omega)) ?_; conv => whnf)
      refine ⟨_, _, _, hmf2, ⟨Nat.zero_lt_succ _, by simp⟩, ?_⟩
      rw [Mem.set_set]
      conv => whnf
      obtain ⟨p', F', k1, k2, k3⟩ := fin (.slice none 0 0) 0 0 hsx (by rw [List.take_zero]; exact Bs.nil _) hn0
      refine ⟨i + 1, ⟨by omega, p', F', k1, k2, k3⟩, by omega, ?_⟩
      conv => whnf
      repeat (refine And.intro (by first | with_reducible rfl | (first | exact congrArg (Value.int _) (iadd (by omega))) | exact congrArg (Value.int _) (wi (by omega) (by omega)) | exact wi (by omega) (by omega) | rfl) ?_; conv => whnf)
      first | exact trivial | exact fun _ _ h => h
    · have hcc : f.l.length ≤ c := by
        rcases hok.bs with ⟨e1, _⟩ | ⟨b, o, c', n, arr, e1, _, _, h6, _⟩
        · rw [hfv] at e1; cases e1
        · rw [hfv, nc_len] at e1; cases e1; exact h6
      rw [nc_len] at hfv
      have hbs : Bs f.p (.slice (some ⟨b, o, none⟩) f.l.length c) (nc f.l) := by rw [← hfv]; exact hok.bs
      rw [hfv] at hmf2 ⊢
      conv => whnf
      refine ⟨.slice (some ⟨b, o, none⟩) f.l.length c, mcell_of hmf2 rfl, rfl, ?_⟩
      conv => whnf
      refine ⟨.int .i64 (s : Int), mcell_of hmf2 rfl, rfl, ?_⟩
      conv => whnf
      refine ⟨.int .i64 (s : Int), mcell_of hmf2 rfl, rfl, ?_⟩
      conv => whnf
      repeat (refine And.intro (by first | omega | (simp only [times]; omega)) ?_; conv => whnf)
      intro o' q1 q2
      obtain rfl : o' = o := by
        by_cases h0 : s = 0
        · have := q2 (by omega); simpa using this
        · have := q1 (by omega); simpa [times] using this
      conv => whnf
      refine ⟨_, _, _, hmf2, ⟨Nat.zero_lt_succ _, by simp⟩, ?_⟩
      rw [Mem.set_set]
      conv => whnf
      have hct := hbs.cutCap' (n := s) (by rw [nc_len]) (by rw [nc_len]; exact hs7)
      rw [show (nc f.l).take s = nc (f.l.take s) by simp [nc, List.map_take]] at hct
      obtain ⟨p', F', k1, k2, k3⟩ := fin (.slice (some ⟨b, o', none⟩) s s) 0 s hsx hct hn0
      refine ⟨i + 1, ⟨by omega, p', F', k1, k2, k3⟩, by omega, ?_⟩
      conv => whnf
      repeat (refine And.intro (by first | with_reducible rfl | (first | exact congrArg (Value.int _) (iadd (by omega))) | exact congrArg (Value.int _) (wi (by omega) (by omega)) | exact wi (by omega) (by omega) | rfl) ?_; conv => whnf)
      first | exact trivial | exact fun _ _ h => h
end Go.E.YtgjlajcebcmbaaaGreatDoor

/-
  Files, told by names, bytes, and how many are safe.
-/
namespace Go.E.YtgjlajcebcmbaaaGreatDoor
open Go.Proofs
set_option maxRecDepth 100000
def fileA (A : List Af) (name : ByteArray) : Option Af := A.find? fun a => decide (name = a.name)
theorem fileA_abs (F : List Fl) (name : ByteArray) : fileA (absF F) name = (fileOf F name).map Fl.af := by
  unfold fileA fileOf absF
  rw [List.find?_map]
  rfl
def syncA (A : List Af) (name : ByteArray) : List Af := A.map fun a => if a.name = name then { a with safe := a.l.length } else a
def cutA (A : List Af) (name : ByteArray) (n : Nat) : List Af := A.map fun a => if a.name = name then ⟨a.name, a.l.take n, min a.safe n⟩ else a
def rmA (A : List Af) (name : ByteArray) : List Af := A.filter fun a => !decide (a.name = name)
def putA (x : Af) (name : ByteArray) : List Af → List Af
  | [] => [{ x with name := name }]
  | a :: A => if name = a.name then { x with name := name } :: A else a :: putA x name A
def renA (A : List Af) (a b : ByteArray) : List Af := match fileA A a with
  | none => A
  | some x => if nameOk (chs b) then putA x b (rmA A a) else A
def renEA (A : List Af) (a b : ByteArray) : Int := match fileA A a with
  | none => 4
  | some _ => if nameOk (chs b) then 0 else 1
def cutEA (A : List Af) (name : ByteArray) (n : Int) : Int := match fileA A name with
  | none => 4
  | some a => if 0 ≤ n ∧ n ≤ a.l.length then 0 else 1
def cutRA (A : List Af) (name : ByteArray) (n : Int) : List Af := match fileA A name with
  | none => A
  | some a => if 0 ≤ n ∧ n ≤ a.l.length then cutA A name n.toNat else A
def errA (A : List Af) (name : ByteArray) : Int := if (fileA A name).isSome then 0 else 4
theorem isSome_abs (F : List Fl) (name : ByteArray) : (fileOf F name).isSome = (fileA (absF F) name).isSome := by rw [fileA_abs, Option.isSome_map]
theorem sync_abs (F : List Fl) (name : ByteArray) : absF (syncF F name) = syncA (absF F) name := by
  simp only [absF, syncF, mapAt, syncA, List.map_map]
  refine List.map_congr_left fun f _ => ?_
  simp only [Function.comp, Fl.af]
  by_cases h : f.name = name <;> simp [h]
theorem cut_abs (F : List Fl) (name : ByteArray) (n : Nat) (v : Value) : absF (cutF F name n v) = cutA (absF F) name n := by
  simp only [absF, cutF, mapAt, cutA, List.map_map]
  refine List.map_congr_left fun f _ => ?_
  simp only [Function.comp, Fl.af]
  by_cases h : f.name = name <;> simp [h]
theorem rm_abs (F : List Fl) (name : ByteArray) : absF (rmF F name) = rmA (absF F) name := by
  unfold absF rmF rmA
  rw [List.filter_map]; rfl
theorem put_abs (f : Fl) (name : ByteArray) (clock : Nat) : ∀ F : List Fl, absF (putF F f name clock) = putA f.af name (absF F)
  | [] => rfl
  | g :: F => by
    have ih := put_abs f name clock F
    simp only [absF, putF, List.map_cons, putA] at ih ⊢
    by_cases h : name = g.name
    · rw [if_pos h, if_pos (show name = g.af.name from h)]; rfl
    · rw [if_neg h, if_neg (show ¬ name = g.af.name from h), List.map_cons, ih]
theorem ren_abs (F : List Fl) (a b : ByteArray) (clock : Nat) : absF (renF F a b clock) = renA (absF F) a b ∧ renE F a b = renEA (absF F) a b := by
  unfold renF renA renE renEA
  rw [fileA_abs]
  cases fileOf F a with
  | none => exact ⟨rfl, rfl⟩
  | some f =>
    simp only [Option.map_some]
    split
    · exact ⟨by rw [put_abs, rm_abs], by trivial⟩
    · exact ⟨rfl, by trivial⟩
/-- files, in a memory of their own, told so -/
def FA (p : Mem) (bf : Nat) (q : Int) (nb ns : Nat) (A : List Af) : Prop := ∃ bm clock F, FS p bf bm q nb ns clock F ∧ absF F = A
/-- not more than k times this -/
structure Sm (k : Nat) (A : List Af) (nb ns : Nat) : Prop where
  l : ∀ a ∈ A, a.l.length ≤ 500 * k
  n : A.length ≤ k
  nb : nb ≤ 500 * k
  ns : ns ≤ k
  k : k ≤ 1000
theorem totA_le {A : List Af} {b : Nat} (h : ∀ a ∈ A, a.l.length ≤ b) : totA A ≤ b * A.length := by
  induction A with
  | nil => simp [totA]
  | cons a A ih =>
    have h1 := h a (by simp)
    have ih := ih fun x hx => h x (by simp [hx])
    simp only [totA, List.map_cons, List.sum_cons, List.length_cons, Nat.mul_succ] at ih ⊢
    omega
theorem Sm.tot {k : Nat} {A : List Af} {nb ns : Nat} (h : Sm k A nb ns) : totA A ≤ 500000000 := by
  have h1 := totA_le h.l
  have h2 : 500 * k * A.length ≤ 500 * 1000 * 1000 := Nat.mul_le_mul (Nat.mul_le_mul_left _ h.k) (Nat.le_trans h.n h.k)
  omega
section
variable {m mm p : Mem} {bf : Nat} {q : Int} {nb ns k : Nat} {A : List Af} {name : ByteArray}
theorem FA.grow {m : Mem} (h : FA p bf q nb ns A) (hs : Sub p m) : FA m bf q nb ns A := by
  obtain ⟨bm, clock, F, h1, h2⟩ := h
  exact ⟨bm, clock, F, h1.grow hs, h2⟩
theorem abs_mem {F : List Fl} {P : Af → Prop} (h : ∀ a ∈ absF F, P a) : ∀ f ∈ F, P f.af := fun f hf => h f.af (List.mem_map.2 ⟨f, hf, rfl⟩)
theorem safe_A (h : FA m bf q nb ns A) : Ret Tryz.prog 61 [ptrB bf, .v (.string name)] m [i64 (((fileA A name).map (·.safe)).getD 0 : Nat)] := by
  obtain ⟨bm, clock, F, h1, rfl⟩ := h
  have := safe_spec (name := name) h1
  rw [fileA_abs, Option.map_map]
  exact this
theorem counts_A (h : FA m bf q nb ns A) : Ret Tryz.prog 58 [ptrB bf] m [.v (.int .u64 (nb : Int)), .v (.int .u64 (ns : Int))] := by
  obtain ⟨bm, clock, F, h1, rfl⟩ := h
  exact counts_spec h1
theorem used_A (h : FA m bf q nb ns A) (hk : Sm k A nb ns) : Spec Tryz.prog 59 [ptrB bf] m fun r m' => r = [i64 (totA A)] ∧ Sub m m' := by
  obtain ⟨bm, clock, F, h1, rfl⟩ := h
  have ht := hk.tot
  rw [totA_abs] at ht ⊢
  exact used_spec h1 (by omega)
theorem names_A (h : FA m bf q nb ns A) (hk : Sm k A nb ns) : Spec Tryz.prog 41 [ptrB bf] m fun r m' => ∃ v p, r = [.v v] ∧ Split m' [p, m] ∧ So p v (srtB (A.map (·.name))) := by
  obtain ⟨bm, clock, F, h1, rfl⟩ := h
  have := hk.n
  have := hk.k
  rw [abs_names]
  exact names_spec h1 (by rw [List.length_map] at *; omega)
theorem read_A (h : FA m bf q nb ns A) (hk : Sm k A nb ns) : Spec Tryz.prog 36 [ptrB bf, .v (.string name)] m fun r m' => ∃ v p, r = [.v v, i64 (errA A name)] ∧ Split m' [p, m] ∧ Bs p v (nc (((fileA A name).map (·.l)).getD [])) := by
  obtain ⟨bm, clock, F, h1, rfl⟩ := h
  have h2 := abs_mem hk.l
  have := hk.k
  refine (readF_spec (name := name) h1 fun f hf => by have := h2 f hf; simp only [Fl.af] at this; omega).mono fun r m' ⟨v, p, e1, e2, e3⟩ => ⟨v, p, by rw [e1, errA, isSome_abs], e2, ?_⟩
  rw [fileA_abs, Option.map_map]; exact e3
theorem sync_A (h : FA p bf q nb ns A) (hk : Sm k A nb ns) : Spec Tryz.prog 44 [ptrB bf, .v (.string name)] p fun r m' => r = [i64 (errA A name)] ∧ FA m' bf q nb (if (fileA A name).isSome then ns + 1 else ns) (syncA A name) := by
  obtain ⟨bm, clock, F, h1, rfl⟩ := h
  have h3 := hk.ns
  have h4 := hk.k
  refine (sync_spec (name := name) h1 (by omega)).mono fun r m' ⟨e1, e2⟩ => ⟨by rw [e1, errA, isSome_abs], ?_⟩
  rw [isSome_abs] at e2
  exact ⟨bm, clock, _, e2, sync_abs _ _⟩
theorem remove_A (h : FA p bf q nb ns A) : Spec Tryz.prog 54 [ptrB bf, .v (.string name)] p fun r m' => r = [i64 (errA A name)] ∧ FA m' bf q nb ns (rmA A name) := by
  obtain ⟨bm, clock, F, h1, rfl⟩ := h
  exact (remove_spec (name := name) h1).mono fun r m' ⟨e1, e2⟩ => ⟨by rw [e1, errA, isSome_abs], bm, clock, _, e2, rm_abs _ _⟩
theorem rename_A {b : ByteArray} (h : FA p bf q nb ns A) (hb : b.size ≤ 1000000) : Spec Tryz.prog 45 [ptrB bf, .v (.string name), .v (.string b)] p fun r m' => r = [i64 (renEA A name b)] ∧ FA m' bf q nb ns (renA A name b) := by
  obtain ⟨bm, clock, F, h1, rfl⟩ := h
  obtain ⟨r1, r2⟩ := ren_abs F name b clock
  exact (rename_spec (a := name) h1 hb).mono fun r m' ⟨e1, e2⟩ => ⟨by rw [e1, r2], bm, _, _, e2, r1⟩
theorem cut_A {n : Int} (h : FA p bf q nb ns A) (hk : Sm k A nb ns) : Spec Tryz.prog 56 [ptrB bf, .v (.string name), i64 n] p fun r m' => r = [i64 (cutEA A name n)] ∧ FA m' bf q nb ns (cutRA A name n) := by
  obtain ⟨bm, clock, F, h1, rfl⟩ := h
  have h2 := abs_mem hk.l
  have := hk.k
  refine (cut_spec (name := name) (n := n) h1 fun f hf => by have := h2 f hf; simp only [Fl.af] at this; omega).mono fun r m' ⟨e, F', e1, e2, e3⟩ => ?_
  unfold CutR at e3
  unfold cutEA cutRA
  rw [fileA_abs]
  cases hf : fileOf F name with
  | none =>
    rw [hf] at e3
    obtain ⟨rfl, rfl⟩ := e3
    exact ⟨e1, bm, clock, _, e2, rfl⟩
  | some f =>
    rw [hf] at e3
    simp only [Option.map_some, Fl.af] at e3 ⊢
    by_cases hc : 0 ≤ n ∧ n ≤ f.l.length
    · rw [if_pos hc] at e3
      rw [if_pos hc, if_pos hc]
      obtain ⟨rfl, v, rfl⟩ := e3
      exact ⟨e1, bm, clock, _, e2, cut_abs _ _ _ _⟩
    · rw [if_neg hc] at e3
      rw [if_neg hc, if_neg hc]
      obtain ⟨rfl, rfl⟩ := e3
      exact ⟨e1, bm, clock, _, e2, rfl⟩
theorem append_A {vb : Value} {lb : List Nat} (h : FA p bf q nb ns A) (hs : Split mm [p, m]) (hk : Sm k A nb ns) (hv : La m vb (nc lb)) (h256 : ∀ x ∈ lb, x < 256) (hn : name.size ≤ 1000000) (hq : 0 ≤ q ∧ q ≤ 9223372036854775807) (hlb : lb.length ≤ 1000000) :
    Spec Tryz.prog 53 [ptrB bf, .v (.string name), .v vb] mm fun r m' => ∃ e p' A' nb', r = [i64 e] ∧ Split m' [p', m] ∧ FA p' bf q nb' ns A' ∧ AppR A name lb q e A' nb nb' := by
  obtain ⟨bm, clock, F, h1, rfl⟩ := h
  have h2 := abs_mem hk.l
  have h3 := hk.k
  have h4 := hk.nb
  have ht := hk.tot
  rw [totA_abs] at ht
  exact (append_spec' (name := name) h1 hs hv h256 hn hq (fun f hf => by have := h2 f hf; simp only [Fl.af] at this; omega) (by omega) (by omega) (by omega)).mono fun r m' ⟨e, p', F', clock', nb', e1, e2, e3, e4⟩ => ⟨e, p', _, nb', e1, e2, ⟨bm, clock', F', e3, rfl⟩, e4⟩
theorem crash_A {vl : Value} {last : List Int} (h : FA p bf q nb ns A) (hs : Split mm [p, m]) (hk : Sm k A nb ns) (hv : Ia m vl last) (hlast : last.length ≤ 9223372036854775807) (hI : ∀ x ∈ last, -9223372036854775808 ≤ x ∧ x ≤ 9223372036854775807) :
    Spec Tryz.prog 19 [ptrB bf, .v vl] mm fun r m' => ∃ p', r = [] ∧ Split m' [p', m] ∧ FA p' bf q nb ns (crashA A last) := by
  obtain ⟨bm, clock, F, h1, rfl⟩ := h
  have h2 := abs_mem hk.l
  have h3 := hk.k
  have h4 := hk.n
  exact (crash_spec h1 hs hv hlast (fun f hf => by have := h2 f hf; simp only [Fl.af] at this; omega) (by rw [List.length_map] at h4; omega) hI).mono fun r m' ⟨p', F', e1, e2, e3, e4, _⟩ => ⟨p', e1, e2, bm, clock, F', e3, e4⟩
end
end Go.E.YtgjlajcebcmbaaaGreatDoor

/-
  Files: small ones stay small; a quota holds.
-/
namespace Go.E.YtgjlajcebcmbaaaGreatDoor
open Go.Proofs
set_option maxRecDepth 100000
/-- none has more bytes, not more files, not more bytes in all -/
structure Les (A' A : List Af) : Prop where
  l : ∀ b : Nat, (∀ a ∈ A, a.l.length ≤ b) → ∀ a ∈ A', a.l.length ≤ b
  n : A'.length ≤ A.length + 1
  t : totA A' ≤ totA A
theorem Les.refl (A : List Af) : Les A A := ⟨fun _ h => h, by omega, Nat.le_refl _⟩
theorem map_tot {g : Af → Af} (hg : ∀ a, (g a).l.length ≤ a.l.length) : ∀ A : List Af, totA (A.map g) ≤ totA A
  | [] => Nat.le_refl _
  | a :: A => by
    have h1 := map_tot hg A
    have h2 := hg a
    simp only [totA, List.map_cons, List.sum_cons] at h1 ⊢
    omega
theorem map_les {g : Af → Af} (hg : ∀ a, (g a).l.length ≤ a.l.length) (A : List Af) : Les (A.map g) A :=
  ⟨fun b h a ha => by obtain ⟨x, hx, rfl⟩ := List.mem_map.1 ha; exact Nat.le_trans (hg x) (h x hx), by rw [List.length_map]; omega, map_tot hg A⟩
theorem sync_les (A : List Af) (name : ByteArray) : Les (syncA A name) A := map_les (fun a => by split <;> exact Nat.le_refl _) A
theorem cutA_les (A : List Af) (name : ByteArray) (n : Nat) : Les (cutA A name n) A := map_les (fun a => by split <;> first | exact Nat.le_refl _ | (simp only [List.length_take]; omega)) A
theorem cut_les (A : List Af) (name : ByteArray) (n : Int) : Les (cutRA A name n) A := by
  unfold cutRA
  cases fileA A name with
  | none => exact .refl A
  | some a =>
    simp only
    split
    · exact cutA_les ..
    · exact .refl A
theorem crash1_les (A : List Af) (name : ByteArray) (x : Int) : ∀ b : Nat, (∀ a ∈ A, a.l.length ≤ b) → ∀ a ∈ crash1 A name x, a.l.length ≤ b := (map_les (fun a => by split <;> first | exact Nat.le_refl _ | (simp only [List.length_take]; omega)) A).l
theorem crash1_tot (A : List Af) (name : ByteArray) (x : Int) : totA (crash1 A name x) ≤ totA A := map_tot (fun a => by split <;> first | exact Nat.le_refl _ | (simp only [List.length_take]; omega)) A
theorem crashTo_les (N : List ByteArray) (last : List Int) (A : List Af) : ∀ i, (∀ b : Nat, (∀ a ∈ A, a.l.length ≤ b) → ∀ a ∈ crashTo N last A i, a.l.length ≤ b) ∧ (crashTo N last A i).length = A.length ∧ totA (crashTo N last A i) ≤ totA A
  | 0 => ⟨fun _ h => h, rfl, Nat.le_refl _⟩
  | i + 1 => by
    obtain ⟨h1, h2, h3⟩ := crashTo_les N last A i
    exact ⟨fun b h => crash1_les _ _ _ b (h1 b h), by rw [crashTo, crash1, List.length_map, h2], Nat.le_trans (crash1_tot ..) h3⟩
theorem crash_les (A : List Af) (last : List Int) : Les (crashA A last) A := by
  obtain ⟨h1, h2, h3⟩ := crashTo_les (srtB (A.map (·.name))) last A A.length
  exact ⟨h1, by rw [crashA, h2]; omega, h3⟩
theorem rm_tot (A : List Af) (name : ByteArray) : totA (rmA A name) ≤ totA A ∧ ∀ x, fileA A name = some x → totA (rmA A name) + x.l.length ≤ totA A := by
  induction A with
  | nil => exact ⟨Nat.le_refl _, fun x h => by cases h⟩
  | cons a A ih =>
    obtain ⟨h1, h2⟩ := ih
    simp only [rmA, fileA, totA] at h1 h2 ⊢
    rw [List.filter_cons, List.find?_cons]
    by_cases h : a.name = name
    · rw [if_neg (by simp [h])]
      simp only [List.map_cons, List.sum_cons]
      refine ⟨by omega, fun x hx => ?_⟩
      rw [decide_eq_true h.symm] at hx
      cases hx
      omega
    · rw [if_pos (by simp [h])]
      simp only [List.map_cons, List.sum_cons]
      refine ⟨by omega, fun x hx => ?_⟩
      rw [decide_eq_false (fun e => h e.symm)] at hx
      have := h2 x hx
      omega
theorem rm_les (A : List Af) (name : ByteArray) : Les (rmA A name) A := ⟨fun b h a ha => h a (List.mem_filter.1 ha).1, Nat.le_trans (List.length_filter_le _ _) (by omega), (rm_tot A name).1⟩
theorem put_les (x : Af) (name : ByteArray) (A : List Af) : (∀ b : Nat, x.l.length ≤ b → (∀ a ∈ A, a.l.length ≤ b) → ∀ a ∈ putA x name A, a.l.length ≤ b) ∧ (putA x name A).length ≤ A.length + 1 ∧ totA (putA x name A) ≤ totA A + x.l.length := by
  induction A with
  | nil => exact ⟨fun b h _ a ha => by rw [List.mem_singleton.1 ha]; exact h, by simp [putA], by simp [putA, totA]⟩
  | cons y A ih =>
    obtain ⟨h1, h2, h3⟩ := ih
    rw [putA]
    split
    · refine ⟨fun b h hA a ha => ?_, by simp, by simp only [totA, List.map_cons, List.sum_cons]; omega⟩
      rcases List.mem_cons.1 ha with rfl | ha
      · exact h
      · exact hA a (List.mem_cons_of_mem _ ha)
    · refine ⟨fun b h hA a ha => ?_, by simp only [List.length_cons]; omega, by simp only [totA, List.map_cons, List.sum_cons] at h3 ⊢; omega⟩
      rcases List.mem_cons.1 ha with rfl | ha
      · exact hA a (List.mem_cons_self ..)
      · exact h1 b h (fun a ha => hA a (List.mem_cons_of_mem _ ha)) a ha
theorem ren_les (A : List Af) (a b : ByteArray) : Les (renA A a b) A := by
  unfold renA
  cases h : fileA A a with
  | none => exact .refl A
  | some x =>
    simp only
    split
    · obtain ⟨h1, h2, h3⟩ := put_les x b (rmA A a)
      have hr := rm_les A a
      have hx : x ∈ A := List.mem_of_find?_eq_some h
      have ht := (rm_tot A a).2 x h
      have hn : (rmA A a).length ≤ A.length := List.length_filter_le _ _
      exact ⟨fun c hc => h1 c (hc x hx) (hr.l c hc), by omega, by omega⟩
    · exact .refl A
theorem app_tot (name : ByteArray) (lb : List Nat) : ∀ A : List Af, totA (appA A name lb) = totA A + lb.length ∧ (appA A name lb).length ≤ A.length + 1 ∧ ∀ b : Nat, (∀ a ∈ A, a.l.length ≤ b) → ∀ a ∈ appA A name lb, a.l.length ≤ b + lb.length
  | [] => ⟨by simp [appA, totA], by simp [appA], fun b h a ha => by rw [List.mem_singleton.1 ha]; simp⟩
  | x :: A => by
    obtain ⟨h1, h2, h3⟩ := app_tot name lb A
    rw [appA]
    split
    · refine ⟨by simp only [totA, List.map_cons, List.sum_cons, List.length_append]; omega, by simp, fun b h a ha => ?_⟩
      rcases List.mem_cons.1 ha with rfl | ha
      · have := h x (List.mem_cons_self ..)
        simp only [List.length_append]; omega
      · have := h a (List.mem_cons_of_mem _ ha); omega
    · refine ⟨by simp only [totA, List.map_cons, List.sum_cons] at h1 ⊢; omega, by simp only [List.length_cons]; omega, fun b h a ha => ?_⟩
      rcases List.mem_cons.1 ha with rfl | ha
      · have := h a (List.mem_cons_self ..); omega
      · exact h3 b (fun a ha => h a (List.mem_cons_of_mem _ ha)) a ha
theorem Sm.les {k : Nat} {A A' : List Af} {nb ns ns' : Nat} (h : Sm k A nb ns) (hl : Les A' A) (hn : ns' ≤ ns + 1) (hk : k < 1000) : Sm (k + 1) A' nb ns' :=
  ⟨fun a ha => Nat.le_trans (hl.l _ h.l a ha) (by omega), by have := hl.n; have := h.n; omega, by have := h.nb; omega, by have := h.ns; omega, by omega⟩
theorem Sm.app {k : Nat} {A A' : List Af} {nb nb' ns : Nat} {name : ByteArray} {lb : List Nat} {q e : Int} (h : Sm k A nb ns) (hr : AppR A name lb q e A' nb nb') (hb : lb.length ≤ 500) (hk : k < 1000) : Sm (k + 1) A' nb' ns := by
  have h0 : Sm (k + 1) A nb ns := h.les (.refl A) (by omega) hk
  unfold AppR at hr
  split at hr
  · obtain ⟨_, rfl, rfl⟩ := hr; exact h0
  · split at hr
    · obtain ⟨_, rfl, rfl⟩ := hr; exact h0
    · obtain ⟨_, rfl, rfl⟩ := hr
      obtain ⟨_, h2, h3⟩ := app_tot name lb A
      exact ⟨fun a ha => by have := h3 _ h.l a ha; omega, by have := h.n; omega, by have := h.nb; omega, by have := h.ns; omega, by omega⟩
theorem app_quota {A A' : List Af} {nb nb' : Nat} {name : ByteArray} {lb : List Nat} {q e : Int} (hr : AppR A name lb q e A' nb nb') (hq : 0 < q) (h : (totA A : Int) ≤ q) : (totA A' : Int) ≤ q := by
  unfold AppR at hr
  split at hr
  · obtain ⟨_, rfl, rfl⟩ := hr; exact h
  · split at hr
    · obtain ⟨_, rfl, rfl⟩ := hr; exact h
    · obtain ⟨_, rfl, rfl⟩ := hr
      have h1 := (app_tot name lb A).1
      omega
theorem app_full {A A' : List Af} {nb nb' : Nat} {name : ByteArray} {lb : List Nat} {q e : Int} (hr : AppR A name lb q e A' nb nb') (he : e = 5) : A' = A ∧ nb' = nb ∧ 0 < q ∧ q < (totA A + lb.length : Nat) := by
  unfold AppR at hr
  split at hr
  · obtain ⟨h, _⟩ := hr; omega
  · split at hr
    · rename_i h
      exact ⟨hr.2.1, hr.2.2, h⟩
    · obtain ⟨h, _⟩ := hr; omega
theorem app_e {A A' : List Af} {nb nb' : Nat} {name : ByteArray} {lb : List Nat} {q e : Int} (hr : AppR A name lb q e A' nb nb') : e = 0 ∨ e = 1 ∨ e = 5 := by
  unfold AppR at hr
  split at hr
  · exact .inr (.inl hr.1)
  · split at hr
    · exact .inr (.inr hr.1)
    · exact .inl hr.1
theorem Sm.none : Sm 0 [] 0 0 := ⟨by simp, by simp, by omega, by omega, by omega⟩
end Go.E.YtgjlajcebcmbaaaGreatDoor

/-
  Files: what a crash leaves.
-/
namespace Go.E.YtgjlajcebcmbaaaGreatDoor
open Go.Proofs
set_option maxRecDepth 100000
theorem FA.safe {p : Mem} {bf : Nat} {q : Int} {nb ns : Nat} {A : List Af} (h : FA p bf q nb ns A) : ∀ a ∈ A, a.safe ≤ a.l.length := by
  obtain ⟨bm, clock, F, h1, rfl⟩ := h
  intro a ha
  obtain ⟨f, hf, rfl⟩ := List.mem_map.1 ha
  exact (h1.ok f hf).safe
theorem lastN_le (a : Af) (x : Int) (h : a.safe ≤ a.l.length) : a.safe + lastN a x ≤ a.l.length := by
  unfold lastN; omega
theorem lastN_zero (a : Af) (x : Int) (h : a.safe = a.l.length) : lastN a x = 0 := by
  unfold lastN; omega
/-- what a crash may leave of a file -/
structure Cr (a b : Af) : Prop where
  name : b.name = a.name
  lo : a.safe ≤ b.safe
  hi : b.safe ≤ b.l.length
  pre : b.l = a.l.take b.l.length
  all : a.safe = a.l.length → b = a
theorem Cr.refl {a : Af} (h : a.safe ≤ a.l.length) : Cr a a := ⟨rfl, Nat.le_refl _, h, by rw [List.take_length], fun _ => rfl⟩
theorem Cr.len {a b : Af} (h : Cr a b) : b.l.length ≤ a.l.length := by
  have := congrArg List.length h.pre
  rw [List.length_take] at this
  omega
theorem crashTo_map (N : List ByteArray) (last : List Int) (A : List Af) : ∀ i, ∃ g : Af → Af, crashTo N last A i = A.map g ∧ ∀ a : Af, a.safe ≤ a.l.length → Cr a (g a) ∧ ((∃ j, j < i ∧ N.getD j ByteArray.empty = a.name) → (g a).safe = (g a).l.length)
  | 0 => ⟨id, by simp [crashTo], fun a h => ⟨.refl h, fun ⟨j, hj, _⟩ => by omega⟩⟩
  | i + 1 => by
    obtain ⟨g, h1, h2⟩ := crashTo_map N last A i
    refine ⟨fun a => if (g a).name = N.getD i ByteArray.empty then ⟨(g a).name, (g a).l.take ((g a).safe + lastN (g a) (last.getD i 0)), (g a).safe + lastN (g a) (last.getD i 0)⟩ else g a, by rw [crashTo, h1, crash1, List.map_map]; rfl, fun a ha => ?_⟩
    obtain ⟨h3, h4⟩ := h2 a ha
    have hle := lastN_le (g a) (last.getD i 0) h3.hi
    by_cases hn : (g a).name = N.getD i ByteArray.empty
    · simp only [if_pos hn]
      refine ⟨⟨h3.name, by have := h3.lo; simp only; omega, by simp only [List.length_take]; omega, ?_, fun he => ?_⟩, fun _ => by simp only [List.length_take]; omega⟩
      · simp only [List.length_take]
        conv => lhs; rw [h3.pre]
        rw [List.take_take]
        try (congr 1; have := h3.len; omega)
      · have e := h3.all he
        rw [e] at hle ⊢
        rw [lastN_zero a _ he, Nat.add_zero, he, List.take_length]
        cases a; simp only at he ⊢; rw [he]
    · simp only [if_neg hn]
      refine ⟨h3, fun ⟨j, hj, hjn⟩ => h4 ⟨j, ?_, hjn⟩⟩
      rcases Nat.lt_or_ge j i with h | h
      · exact h
      · obtain rfl : j = i := by omega
        exact absurd (h3.name.trans hjn.symm) hn
theorem name_at {A : List Af} {a : Af} (ha : a ∈ A) : ∃ j, j < A.length ∧ (srtB (A.map (·.name))).getD j ByteArray.empty = a.name := by
  have h1 : a.name ∈ srtB (A.map (·.name)) := (srtB_same _).symm.subset (List.mem_map.2 ⟨a, ha, rfl⟩)
  obtain ⟨j, hj, e⟩ := List.getElem_of_mem h1
  have hl : (srtB (A.map (·.name))).length = A.length := by rw [(srtB_same _).length_eq, List.length_map]
  exact ⟨j, by omega, by rw [List.getD_eq_getElem?_getD, List.getElem?_eq_getElem hj, Option.getD_some, e]⟩
theorem crash_map {A : List Af} {last : List Int} (hA : ∀ a ∈ A, a.safe ≤ a.l.length) : ∃ g : Af → Af, crashA A last = A.map g ∧ ∀ a ∈ A, Cr a (g a) ∧ (g a).safe = (g a).l.length := by
  obtain ⟨g, h1, h2⟩ := crashTo_map (srtB (A.map (·.name))) last A A.length
  exact ⟨g, h1, fun a ha => by
    obtain ⟨h3, h4⟩ := h2 a (hA a ha)
    exact ⟨h3, h4 (name_at ha)⟩⟩
theorem crash_again {A : List Af} {last : List Int} (hA : ∀ a ∈ A, a.safe = a.l.length) : crashA A last = A := by
  obtain ⟨g, h1, h2⟩ := crash_map (last := last) fun a ha => Nat.le_of_eq (hA a ha)
  rw [h1]
  exact (List.map_congr_left fun a ha => (h2 a ha).1.all (hA a ha)).trans (List.map_id _)
theorem file_some {A : List Af} {i : Nat} (hi : i < (srtB (A.map (·.name))).length) : ∃ a ∈ A, fileA A (srtB (A.map (·.name)))[i] = some a := by
  have h1 := (srtB_same (A.map (·.name))).subset (List.getElem_mem hi)
  obtain ⟨a, ha, e⟩ := List.mem_map.1 h1
  cases h : fileA A (srtB (A.map (·.name)))[i] with
  | some b => exact ⟨b, List.mem_of_find?_eq_some h, rfl⟩
  | none =>
    have := List.find?_eq_none.1 h a ha
    simp [e] at this
theorem file_map {A : List Af} {g : Af → Af} (hg : ∀ a ∈ A, (g a).name = a.name) (name : ByteArray) : fileA (A.map g) name = (fileA A name).map g := by
  induction A with
  | nil => rfl
  | cons a A ih =>
    have ih := ih fun a ha => hg a (List.mem_cons_of_mem _ ha)
    simp only [fileA, List.map_cons, List.find?_cons] at ih ⊢
    rw [hg a (List.mem_cons_self ..)]
    split
    · rfl
    · exact ih
theorem names_map {A : List Af} {g : Af → Af} (hg : ∀ a ∈ A, (g a).name = a.name) : (A.map g).map (·.name) = A.map (·.name) := by
  rw [List.map_map]
  exact List.map_congr_left fun a ha => hg a ha
end Go.E.YtgjlajcebcmbaaaGreatDoor

/-
  The document's files: where one stands, how many bytes.
-/
namespace Go.E.YtgjlajcebcmbaaaGreatDoor
open Go.Proofs
set_option maxRecDepth 100000
structure Rf where
  name : ByteArray
  b : ByteArray
  safe : Nat
abbrev rfC (r : Rf) : List Value := [.string r.name, .string r.b, .int .i64 (r.safe : Int)]
theorem rfOk : EncOk rfC 3 := ⟨fun _ => rfl, fun x u hu => by simp [rfC] at hu; rcases hu with rfl | rfl | rfl <;> rfl, by decide⟩
abbrev refO (q : Int) (v : Value) (nb ns : Nat) : Obj := .cells #[.int .i64 q, v, .int .u64 (nb : Int), .int .u64 (ns : Int)] 59
/-- the document's files, that are somewhere -/
structure RM (m : Mem) (bx : Nat) (q : Int) (nb ns : Nat) (L : List Rf) (v : Value) : Prop where
  obj : m bx = some (refO q v nb ns)
  lies : Lies m 3 v (L.flatMap rfC)
theorem RM.sub {m m' : Mem} {bx : Nat} {q : Int} {nb ns : Nat} {L : List Rf} {v : Value} (h : RM m bx q nb ns L v) (hs : Sub m m') : RM m' bx q nb ns L v := ⟨hs _ _ h.obj, Lies.sub h.lies hs⟩
def atR (L : List Rf) (name : ByteArray) : Int := match L.findIdx? fun r => decide (r.name = name) with
  | some i => (i : Int)
  | none => -1
def usedR (L : List Rf) : Nat := (L.map fun r => r.b.size).sum
theorem refAt_spec {m : Mem} {bx : Nat} {q : Int} {nb ns : Nat} {L : List Rf} {v : Value} {name : ByteArray} (h : RM m bx q nb ns L v) (hl : L.length ≤ 1000000) : Ret Tryz.prog 86 [ptrB bx, .v (.string name)] m [i64 (atR L name)] := by
  obtain ⟨ho, hv⟩ := h
  obtain ⟨a, c, rfl⟩ := rfOk.shape hv
  refine en86 rfl (goY ?_)
  conv => whnf
  refine .mk (ι := Nat) (fun i => L.length - i) (fun i mm => i ≤ L.length ∧ (∀ j (hj : j < L.length), j < i → L[j].name ≠ name) ∧ mm = m) (fun i => [(0, .c (ptrB bx)), (1, .c (.v (.string name))), (5, .c (i64 i))]) (fun _ => []) 0 ⟨by omega, fun j _ h => by omega, rfl⟩ ?_ ?_
  · conv => whnf
    repeat (refine And.intro (by first | with_reducible rfl | exact congrArg (Value.int _) (wi (by omega) (by omega)) | exact wi (by omega) (by omega) | rfl) ?_; conv => whnf)
    first | exact trivial | exact fun _ _ h => h
  rintro i mm ⟨hi, hall, he⟩
  subst mm
  conv => whnf
  refine ⟨_, mcell_of ho rfl, rfl, ?_⟩
  conv => whnf
  refine ⟨fun h1 => ?_, fun h1 => ?_⟩
  · have hi1 : i < L.length := by have := of_decide_eq_true h1; omega
    clear h1
    obtain ⟨b, o, c', e, hg⟩ := rfOk.real hv hi1
    have hgi := hg i hi1
    conv => whnf
    refine ⟨_, mcell_of ho rfl, rfl, ?_⟩
    injection e with e1 e2 e3
    subst e1
    conv => whnf
    repeat (refine And.intro (by first | omega | (simp only [times]; omega)) ?_; conv => whnf)
    refine ⟨_, by simp only [times, Int.toNat_natCast]; exact mcell_rng (j := 0) hgi rfl, rfl, ?_⟩
    conv => whnf
    rw [strEq]
    refine ⟨fun h2 => ?_, fun h2 => ?_⟩
    · have h2 := of_decide_eq_true h2
      conv => whnf
      refine ⟨?_, rfl⟩
      have : L.findIdx? (fun r => decide (r.name = name)) = some i := by
        rw [List.findIdx?_eq_some_iff_getElem]
        exact ⟨hi1, by simpa using h2, fun j hj => by simpa using hall j (by omega) hj⟩
      rw [atR, this]
    · have h2 := of_decide_eq_false h2
      conv => whnf
      refine ⟨i + 1, ⟨by omega, fun j hj hji => ?_, rfl⟩, by first | omega | (simp only; omega), ?_⟩
      · by_cases e : j = i
        · subst e; exact h2
        · exact hall j hj (by omega)
      conv => whnf
      repeat (refine And.intro (by first | with_reducible rfl | (first | exact congrArg (Value.int _) (iadd1 (by omega))) | exact congrArg (Value.int _) (wi (by omega) (by omega)) | exact wi (by omega) (by omega) | rfl) ?_; conv => whnf)
      first | exact trivial | exact fun _ _ h => h
  · have : i = L.length := by have := of_decide_eq_false h1; omega
    subst this
    conv => whnf
    refine ⟨?_, rfl⟩
    have : L.findIdx? (fun r => decide (r.name = name)) = none := by
      rw [List.findIdx?_eq_none_iff]
      intro x hx
      obtain ⟨j, hj, rfl⟩ := List.getElem_of_mem hx
      simpa using hall j hj hj
    rw [atR, this]
theorem usedR_le (L : List Rf) (i : Nat) : usedR (L.take i) ≤ usedR L := by
  have h : usedR L = usedR (L.take i) + usedR (L.drop i) := by
    rw [usedR, usedR, usedR, ← List.sum_append_nat, ← List.map_append, List.take_append_drop]
  omega
theorem refUsed_spec {m : Mem} {bx : Nat} {q : Int} {nb ns : Nat} {L : List Rf} {v : Value} (h : RM m bx q nb ns L v) (hl : L.length ≤ 1000000) (ht : usedR L ≤ 1000000000000) : Ret Tryz.prog 60 [ptrB bx] m [i64 (usedR L)] := by
  obtain ⟨ho, hv⟩ := h
  obtain ⟨a, c, rfl⟩ := rfOk.shape hv
  refine en60 rfl (goY ?_)
  conv => whnf
  refine .mk (ι := Nat) (fun i => L.length - i) (fun i mm => i ≤ L.length ∧ mm = m) (fun i => [(0, .c (ptrB bx)), (3, .c (i64 (usedR (L.take i)))), (4, .c (i64 i))]) (fun _ => []) 0 ⟨by omega, rfl⟩ ?_ ?_
  · conv => whnf
    repeat (refine And.intro (by first | with_reducible rfl | exact congrArg (Value.int _) (wi (by omega) (by omega)) | exact wi (by omega) (by omega) | rfl) ?_; conv => whnf)
    first | exact trivial | exact fun _ _ h => h
  rintro i mm ⟨hi, he⟩
  subst mm
  conv => whnf
  refine ⟨_, mcell_of ho rfl, rfl, ?_⟩
  conv => whnf
  refine ⟨fun h1 => ?_, fun h1 => ?_⟩
  · have hi1 : i < L.length := by have := of_decide_eq_true h1; omega
    clear h1
    obtain ⟨b, o, c', e, hg⟩ := rfOk.real hv hi1
    have hgi := hg i hi1
    conv => whnf
    refine ⟨_, mcell_of ho rfl, rfl, ?_⟩
    injection e with e1 e2 e3
    subst e1
    conv => whnf
    repeat (refine And.intro (by first | omega | (simp only [times]; omega)) ?_; conv => whnf)
    refine ⟨_, by simp only [times, Int.toNat_natCast]; exact mcell_rng (j := 1) hgi rfl, rfl, ?_⟩
    conv => whnf
    have hsu : usedR (L.take (i + 1)) = usedR (L.take i) + L[i].b.size := by
      rw [List.take_succ_eq_append_getElem hi1]; simp only [usedR, List.map_append, List.sum_append_nat, List.map_cons, List.map_nil, List.sum_cons, List.sum_nil, Nat.add_zero]
    have hle := usedR_le L (i + 1)
    refine ⟨i + 1, ⟨by omega, rfl⟩, by first | omega | (simp only; omega), ?_⟩
    conv => whnf
    repeat (refine And.intro (by first | with_reducible rfl | (first | exact congrArg (Value.int _) (iadd1 (by omega)) | exact congrArg (Value.int _) (by rw [hsu]; exact (wi (by omega) (by omega)).trans (by omega))) | exact congrArg (Value.int _) (wi (by omega) (by omega)) | exact wi (by omega) (by omega) | rfl) ?_; conv => whnf)
    first | exact trivial | exact fun _ _ h => h
  · have : i = L.length := by have := of_decide_eq_false h1; omega
    subst this
    conv => whnf
    rw [List.take_length]
    exact ⟨rfl, rfl⟩
end Go.E.YtgjlajcebcmbaaaGreatDoor

/-
  The document's files: names, and their order.
-/
namespace Go.E.YtgjlajcebcmbaaaGreatDoor
open Go.Proofs
set_option maxRecDepth 100000
theorem isFB_iff (c : Nat) : isFB c = true ↔ ((97 ≤ c ∧ c ≤ 122) ∨ (48 ≤ c ∧ c ≤ 57) ∨ c = 45 ∨ c = 46) := by simp [isFB]
set_option maxHeartbeats 4000000 in
theorem refIsName_spec {m : Mem} {s : ByteArray} (hs : s.size ≤ 1000000) : Ret Tryz.prog 88 [.v (.string s)] m [boolV (nameOk (chs s))] := by
  refine en88 rfl (goY ?_)
  conv => whnf
  refine .mk (ι := Nat) (fun i => s.size - i) (fun i mm => i ≤ s.size ∧ (∀ x ∈ (chs s).take i, isFB x = true) ∧ mm = m) (fun i => [(0, .c (.v (.string s))), (3, .c (i64 i))]) (fun _ => []) 0 ⟨by omega, by simp, rfl⟩ ?_ ?_
  · conv => whnf
    repeat (refine And.intro (by first | with_reducible rfl | exact congrArg (Value.int _) (wi (by omega) (by omega)) | exact wi (by omega) (by omega) | rfl) ?_; conv => whnf)
    first | exact trivial | exact fun _ _ h => h
  rintro i mm ⟨hi, hall, he⟩
  subst mm
  conv => whnf
  refine ⟨fun h => ?_, fun h => ?_⟩
  · have h' := of_decide_eq_true h
    have hlt : i < s.size := by omega
    clear h h'
    conv => whnf
    repeat (refine And.intro (by first | omega | (simp only [times]; omega)) ?_; conv => whnf)
    rw [Int.toNat_natCast, chsAt]
    have hli : i < (chs s).length := by rw [chs_len]; omega
    have hget : (chs s)[i]? = some ((chs s).getD i 0) := by simp [List.getD_eq_getElem?_getD, List.getElem?_eq_getElem hli]
    generalize hc : (chs s).getD i 0 = c at hget
    have hyes : isFB c = true → ∀ x ∈ (chs s).take (i + 1), isFB x = true := fun h3 x hx => by
      rw [List.take_succ_eq_append_getElem hli] at hx
      rcases List.mem_append.1 hx with hx | hx
      · exact hall x hx
      · rw [List.mem_singleton.1 hx]
        rw [List.getElem?_eq_getElem hli] at hget
        rw [Option.some.inj hget]; exact h3
    have hno : isFB c = false → nameOk (chs s) = false := fun h3 => by
      have : (chs s).all isFB = false := by
        rw [List.all_eq_false]
        exact ⟨_, List.mem_of_getElem? hget, by simp only [h3, Bool.false_eq_true, not_false_eq_true]⟩
      simp [nameOk, this]
    have hiff := isFB_iff c
    clear hget hc hall
    conv => whnf
    repeat' (first | (refine ⟨fun h => ?_, fun h => ?_⟩ <;> conv => whnf) | fail)
    all_goals first
      | refine ⟨i + 1, ⟨by omega, hyes (by rw [hiff]; clear hyes hno hiff; simp only [ge_iff_le, decide_eq_true_eq, decide_eq_false_iff_not, beq_iff_eq, beq_eq_false_iff_ne, Bool.not_eq_true', Bool.not_eq_false', ne_eq] at *; omega), rfl⟩, by first | omega | (simp only; omega), ?_⟩
      | refine ⟨(by rw [hno (by cases hq : isFB c with | false => rfl | true => rw [hiff] at hq; exfalso; clear hyes hno hiff; simp only [ge_iff_le, decide_eq_true_eq, decide_eq_false_iff_not, beq_iff_eq, beq_eq_false_iff_ne, Bool.not_eq_true', Bool.not_eq_false', ne_eq] at *; omega)]), rfl⟩
      | skip
    all_goals conv => whnf
    all_goals repeat (refine And.intro (by first | with_reducible rfl | exact congrArg (Value.int _) (iadd1 (by omega)) | rfl) ?_; conv => whnf)
    all_goals first | exact trivial | exact fun _ _ h => h
  · have h1' := of_decide_eq_false h
    obtain rfl : i = s.size := by omega
    clear h
    have hl := chs_len s
    rw [← hl, List.take_length] at hall
    have hal : (chs s).all isFB = true := List.all_eq_true.2 hall
    conv => whnf
    refine ⟨fun h => ?_, fun h => ?_⟩
    · have h2 := of_decide_eq_true h
      conv => whnf
      refine ⟨?_, rfl⟩
      simp only [nameOk, hal, hl, Bool.and_true]
      rw [decide_eq_true (show 0 < s.size by omega), Bool.true_and]
      rw [decide_eq_decide.2 (show ((s.size : Int) < 21) ↔ s.size ≤ 20 by omega)]
    · have h2 := of_decide_eq_false h
      conv => whnf
      refine ⟨?_, rfl⟩
      simp only [nameOk, hal, hl, Bool.and_true]
      rw [decide_eq_false (show ¬ 0 < s.size by omega), Bool.false_and]
theorem lt_at : ∀ {i : Nat} {la lb : List UInt8} (ha : i < la.length) (hb : i < lb.length), la.take i = lb.take i → la[i] ≠ lb[i] → (la < lb ↔ la[i] < lb[i])
  | 0, x :: la, y :: lb, _, _, _, hne => by
    simp only [List.getElem_cons_zero] at hne ⊢
    rw [List.cons_lt_cons_iff]
    exact ⟨fun h => h.elim id fun h => absurd h.1 hne, .inl⟩
  | i + 1, x :: la, y :: lb, ha, hb, ht, hne => by
    simp only [List.take_succ_cons, List.cons.injEq] at ht
    obtain ⟨rfl, ht⟩ := ht
    have ih := lt_at (i := i) (la := la) (lb := lb) (by simpa using ha) (by simpa using hb) ht (by simpa using hne)
    rw [List.cons_lt_cons_iff]
    simp only [List.getElem_cons_succ]
    rw [← ih]
    exact ⟨fun h => h.elim (fun h => absurd h (UInt8.lt_irrefl _)) (·.2), fun h => .inr ⟨trivial, h⟩⟩
theorem lt_end : ∀ {i : Nat} {la lb : List UInt8}, la.take i = lb.take i → i ≤ la.length → i ≤ lb.length → (i = la.length ∨ i = lb.length) → (la < lb ↔ la.length < lb.length)
  | 0, la, lb, _, _, _, h => by
    cases la with
    | nil => cases lb with
      | nil => simp
      | cons y lb => simp
    | cons x la => cases lb with
      | nil => simp
      | cons y lb => simp at h
  | i + 1, la, lb, ht, ha, hb, h => by
    cases la with
    | nil => simp at ha
    | cons x la => cases lb with
      | nil => simp at hb
      | cons y lb =>
        simp only [List.take_succ_cons, List.cons.injEq] at ht
        obtain ⟨rfl, ht⟩ := ht
        have ih := lt_end (i := i) (la := la) (lb := lb) ht (by simpa using ha) (by simpa using hb) (by simpa using h)
        rw [List.cons_lt_cons_iff, List.length_cons, List.length_cons, Nat.add_lt_add_iff_right, ← ih]
        exact ⟨fun h => h.elim (fun h => absurd h (UInt8.lt_irrefl _)) (·.2), fun h => .inr ⟨rfl, h⟩⟩
theorem encB_len (s : ByteArray) : (encB s).length = s.size := by simp [encB]
theorem getD8 {l : List UInt8} {i : Nat} (h : i < l.length) : l.getD i 0 = l[i] := by rw [List.getD_eq_getElem?_getD, List.getElem?_eq_getElem h]; rfl
set_option maxHeartbeats 4000000 in
theorem refLess_spec {m : Mem} {a b : ByteArray} (ha : a.size ≤ 1000000) (hb : b.size ≤ 1000000) : Ret Tryz.prog 115 [.v (.string a), .v (.string b)] m [boolV (decide (encB a < encB b))] := by
  have la := encB_len a
  have lb := encB_len b
  refine en115 rfl (goY ?_)
  conv => whnf
  refine .mk (ι := Nat) (fun i => a.size - i) (fun i mm => i ≤ a.size ∧ i ≤ b.size ∧ (encB a).take i = (encB b).take i ∧ mm = m) (fun i => [(0, .c (.v (.string a))), (1, .c (.v (.string b))), (5, .c (i64 i))]) (fun _ => []) 0 ⟨by omega, by omega, rfl, rfl⟩ ?_ ?_
  · conv => whnf
    repeat (refine And.intro (by first | with_reducible rfl | exact congrArg (Value.int _) (wi (by omega) (by omega)) | exact wi (by omega) (by omega) | rfl) ?_; conv => whnf)
    first | exact trivial | exact fun _ _ h => h
  rintro i mm ⟨hi, hi2, heq, he⟩
  subst mm
  conv => whnf
  refine ⟨fun h => ?_, fun h => ?_⟩
  rotate_left
  · have h' := of_decide_eq_false h
    have he := lt_end heq (by omega) (by omega) (.inl (by omega))
    rw [la, lb] at he
    conv => whnf
    refine ⟨?_, rfl⟩
    rw [decide_eq_decide.2 (show ((a.size : Int) < (b.size : Int)) ↔ encB a < encB b by rw [he]; omega)]
  have hi1 : i < a.size := by have := of_decide_eq_true h; omega
  clear h
  conv => whnf
  refine ⟨fun h => ?_, fun h => ?_⟩
  rotate_left
  · have h' := of_decide_eq_false h
    have he := lt_end heq (by omega) (by omega) (.inr (by omega))
    rw [la, lb] at he
    conv => whnf
    refine ⟨?_, rfl⟩
    rw [decide_eq_decide.2 (show ((a.size : Int) < (b.size : Int)) ↔ encB a < encB b by rw [he]; omega)]
  have hi3 : i < b.size := by have := of_decide_eq_true h; omega
  clear h
  conv => whnf
  repeat (refine And.intro (by first | omega | (simp only [times]; omega)) ?_; conv => whnf)
  repeat (refine And.intro (by first | omega | (simp only [times]; omega)) ?_; conv => whnf)
  have ga : a.data.toList.getD (i : Int).toNat 0 = (encB a)[i]'(by omega) := by rw [Int.toNat_natCast]; exact getD8 (l := encB a) (by omega)
  have gb : b.data.toList.getD (i : Int).toNat 0 = (encB b)[i]'(by omega) := by rw [Int.toNat_natCast]; exact getD8 (l := encB b) (by omega)
  rw [ga, gb]
  refine ⟨fun h => ?_, fun h => ?_⟩
  · have hne : (encB a)[i]'(by omega) ≠ (encB b)[i]'(by omega) := fun e => by rw [e] at h; simp at h
    have hlt := lt_at (by omega) (by omega) heq hne
    conv => whnf
    repeat (refine And.intro (by first | omega | (simp only [times]; omega)) ?_; conv => whnf)
    repeat (refine And.intro (by first | omega | (simp only [times]; omega)) ?_; conv => whnf)
    rw [ga, gb]
    refine ⟨?_, rfl⟩
    rw [decide_eq_decide.2 (show (((encB a)[i]'(by omega)).toNat : Int) < (((encB b)[i]'(by omega)).toNat : Int) ↔ encB a < encB b by rw [hlt, UInt8.lt_iff_toNat_lt]; omega)]
  · have he : (encB a)[i]'(by omega) = (encB b)[i]'(by omega) := by
      have : (((encB a)[i]'(by omega)).toNat : Int) = (((encB b)[i]'(by omega)).toNat : Int) := by simpa using h
      exact UInt8.toNat_inj.1 (by omega)
    conv => whnf
    refine ⟨i + 1, ⟨by omega, by omega, by rw [List.take_succ_eq_append_getElem (by omega), List.take_succ_eq_append_getElem (by omega), heq, he], rfl⟩, by first | omega | (simp only; omega), ?_⟩
    conv => whnf
    repeat (refine And.intro (by first | with_reducible rfl | (first | exact congrArg (Value.int _) (iadd1 (by omega))) | exact congrArg (Value.int _) (wi (by omega) (by omega)) | exact wi (by omega) (by omega) | rfl) ?_; conv => whnf)
    first | exact trivial | exact fun _ _ h => h
end Go.E.YtgjlajcebcmbaaaGreatDoor
