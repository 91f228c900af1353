/-
  By, Fi5, Fi6, Fi7, Fi8, Ints, Fi9, FiA, FiQ, Tree, Bits, ShaP, Sha1, Sha2, Sha3, Sha4, Sha5, Sha6, Sha7, Sha8a, Tree2
-/
import Derived.Test.YtgjlajcebcmbaaaGreatDoorSnapNamesZ7
/-
  Bytes: cloned.
-/
namespace Go.E.YtgjlajcebcmbaaaGreatDoor
open Go.Proofs
set_option maxRecDepth 100000
/-- Clone: new bytes -/
theorem clone_spec {m : Mem} {v : Value} {l : List Int} (hv : La m v l) (hb : l.length ≤ 100000000) :
    Spec Tryz.prog 73 [.v v] m fun r m' => ∃ v' p, r = [.v v'] ∧ Split m' [p, m] ∧ Bs p v' l := by
  have key : (∃ c, v = .slice none 0 c ∧ l = []) ∨ ∃ a c, v = .slice (some a) l.length c := by
    rcases hv with hv | ⟨rfl, a, rfl⟩
    · rcases hv.cases with ⟨c, rfl, rfl⟩ | ⟨b, o, c, arr, t, fr, rfl, _⟩
      · exact .inl ⟨c, rfl, rfl⟩
      · exact .inr ⟨_, _, rfl⟩
    · exact .inr ⟨_, _, rfl⟩
  rcases key with ⟨c, rfl, rfl⟩ | ⟨a, c, rfl⟩
  · refine en73 rfl (goY ?_)
    conv => whnf
    refine ⟨fun _ => ?_, fun h => absurd h (by decide)⟩
    conv => whnf
    exact ⟨_, emp, rfl, (Split.one m).addEmp, Bs.nil _⟩
  · refine en73 rfl (goY ?_)
    conv => whnf
    refine ⟨fun h => absurd h (by decide), fun _ => ?_⟩
    conv => whnf
    refine .mk _ (buildSlice0_spec tt_ok hBs rfl hU8) ?_
    rintro _ _ ⟨b', hb', rfl, rfl⟩
    conv => whnf
    refine .mk _ (appendBat (i := 0) ((Split.one m).new hb' _) rfl (Bs.blk (l := []) (blk1_same ..) rfl) (hv.sub (Mem.sub_set _ hb')) (by simp; omega)) ?_
    rintro _ m' ⟨v', p', rfl, h1, h2⟩
    conv => whnf
    exact ⟨v', p', rfl, h1, h2.own⟩
end Go.E.YtgjlajcebcmbaaaGreatDoor

/-
  Files: read, removed, renamed.
-/
namespace Go.E.YtgjlajcebcmbaaaGreatDoor
open Go.Proofs
set_option maxRecDepth 100000
theorem readF_spec {m : Mem} {bf bm : Nat} {q : Int} {nb ns clock : Nat} {F : List Fl} {name : ByteArray} (h : FS m bf bm q nb ns clock F) (hl : ∀ f ∈ F, f.l.length ≤ 100000000) :
    Spec Tryz.prog 36 [ptrB bf, .v (.string name)] m fun r m' => ∃ v p, r = [.v v, i64 (if (fileOf F name).isSome then 0 else 4)] ∧ Split m' [p, m] ∧ Bs p v (nc (((fileOf F name).map (·.l)).getD [])) := by
  have hf := find_spec (name := name) h
  refine en36 rfl (goY ?_)
  conv => whnf
  cases e : fileOf F name with
  | none =>
    rw [e] at hf
    first | refine xretk (hf) ?_ | refine xret (hf) ?_
    conv => whnf
    refine ⟨fun _ => ?_, fun h => absurd h (by decide)⟩
    conv => whnf
    exact ⟨_, emp, rfl, (Split.one m).addEmp, Bs.nil _⟩
  | some f =>
    rw [e] at hf
    have hmem := (fileOf_mem e).1
    have hm := h.mem hmem
    have hbs := h.bytes hmem
    first | refine xretk (hf) ?_ | refine xret (hf) ?_
    conv => whnf
    refine ⟨fun h => absurd h (by decide), fun _ => ?_⟩
    conv => whnf
    refine ⟨f.v, mcell_of hm rfl, hbs.lb.one, ?_⟩
    conv => whnf
    refine xcall (clone_spec hbs.lb.la (by rw [nc_len]; exact hl f hmem)) ?_
    rintro _ m1 ⟨v, p, rfl, hs, hv⟩
    conv => whnf
    exact ⟨v, p, rfl, hs, hv⟩
theorem readF_nil {m : Mem} {name : ByteArray} : Ret Tryz.prog 36 [.v (.pointer none), .v (.string name)] m [.v (.slice none 0 0), i64 6] := by
  refine en36 rfl (goY ?_)
  conv => whnf
  first | refine xretk (find_nil) ?_ | refine xret (find_nil) ?_
  conv => whnf
  refine ⟨fun _ => ?_, fun h => absurd h (by decide)⟩
  conv => whnf
  exact ⟨rfl, rfl⟩
theorem delM_files {A B : List Fl} {f : Fl} (hA : ∀ x ∈ A, x.name ≠ f.name) : delM f.name ((A ++ f :: B).map Fl.men) = (A ++ B).map Fl.men := by
  induction A with
  | nil => simp [delM, Fl.men]
  | cons x A ih =>
    have h1 := hA x (by simp)
    have ih := ih fun y hy => hA y (by simp [hy])
    rw [List.cons_append, List.map_cons, delM, if_neg (fun e => h1 (by simpa [Fl.men] using e.symm)), ih, List.cons_append, List.map_cons]
theorem FS.names_of {p : Mem} {bf bm : Nat} {q : Int} {nb ns clock : Nat} {A B : List Fl} {f : Fl} (h : FS p bf bm q nb ns clock (A ++ f :: B)) : (∀ x ∈ A, x.name ≠ f.name) ∧ ∀ x ∈ B, x.name ≠ f.name := by
  obtain ⟨h1, h2, h3⟩ := List.pairwise_append.1 h.names
  exact ⟨fun x hx => h3 x hx f (by simp), fun x hx => Ne.symm ((List.pairwise_cons.1 h2).1 x hx)⟩
/-- one file gone; its parts are left over -/
theorem FS.del {p p' : Mem} {bf bm : Nat} {q : Int} {nb ns clock : Nat} {A B : List Fl} {f : Fl} (h : FS p bf bm q nb ns clock (A ++ f :: B)) (hp : p' = p.set bm (mapF (A ++ B) clock)) :
    FS p' bf bm q nb ns clock (A ++ B) ∧ Split p' (blk1 f.bx (fileO f.v f.safe) :: f.p :: blk1 bf (filesO q bm nb ns) :: blk1 bm (mapF (A ++ B) clock) :: (A ++ B).flatMap Fl.parts) := by
  have hs := h.pick.setAt (i := 3) rfl (blk1_same ..) (mapF (A ++ B) clock)
  rw [blk1_set] at hs
  have hs : Split p' (blk1 f.bx (fileO f.v f.safe) :: f.p :: blk1 bf (filesO q bm nb ns) :: blk1 bm (mapF (A ++ B) clock) :: (A ++ B).flatMap Fl.parts) := by rw [hp]; exact hs
  have hsub : (A ++ B).Sublist (A ++ f :: B) := List.Sublist.append (List.Sublist.refl A) (List.sublist_cons_self f B)
  exact ⟨⟨hs.drop.drop, fun x hx => h.ok x (hsub.subset hx), h.names.sublist hsub, h.borns.sublist hsub⟩, hs⟩
def rmF (F : List Fl) (name : ByteArray) : List Fl := F.filter fun f => !decide (f.name = name)
theorem rmF_split {A B : List Fl} {f : Fl} (hA : ∀ x ∈ A, x.name ≠ f.name) (hB : ∀ x ∈ B, x.name ≠ f.name) : rmF (A ++ f :: B) f.name = A ++ B := by
  have ha : A.filter (fun g => !decide (g.name = f.name)) = A := List.filter_eq_self.2 fun x hx => by simp [hA x hx]
  have hb : B.filter (fun g => !decide (g.name = f.name)) = B := List.filter_eq_self.2 fun x hx => by simp [hB x hx]
  rw [rmF, List.filter_append, List.filter_cons, ha, hb]; simp
theorem rmF_none {F : List Fl} {name : ByteArray} (h : fileOf F name = none) : rmF F name = F := by
  refine List.filter_eq_self.2 fun x hx => ?_
  have := List.find?_eq_none.1 h x hx
  simp only [decide_eq_true_eq] at this
  simp [Ne.symm this]
theorem mapDelF {m : Mem} {bm clock : Nat} {F : List Fl} {name : ByteArray} (hb : m bm = some (mapF F clock)) :
    PrimSpec Tryz.prog (.builtin .delete [83, 9]) [.v (.map (some bm)), .v (.string name)] m fun r m' => r = [] ∧ m' = m.set bm (mapO Value.string (delM name (F.map Fl.men)) clock) :=
  mapDel_spec (P := Tryz.prog) strKey Tryz.underlying83 Tryz.underlying9 (k := name) hb
theorem mapSetF {m : Mem} {bm clock : Nat} {F : List Fl} {name : ByteArray} {v : CV} (hb : m bm = some (mapF F clock)) :
    PrimSpec Tryz.prog (.mapUpdate 83) [.v (.map (some bm)), .v (.string name), v] m fun r m' => m' = m.set bm (mapO Value.string (setM name v clock (F.map Fl.men)) (clockM name clock (F.map Fl.men))) :=
  mapSet_spec (P := Tryz.prog) strKey Tryz.underlying83 Tryz.underlying9 (k := name) hb
theorem remove_spec {m : Mem} {bf bm : Nat} {q : Int} {nb ns clock : Nat} {F : List Fl} {name : ByteArray} (h : FS m bf bm q nb ns clock F) :
    Spec Tryz.prog 54 [ptrB bf, .v (.string name)] m fun r m' => r = [i64 (if (fileOf F name).isSome then 0 else 4)] ∧ FS m' bf bm q nb ns clock (rmF F name) := by
  have hf := find_spec (name := name) h
  refine en54 rfl (goY ?_)
  conv => whnf
  cases e : fileOf F name with
  | none =>
    rw [e] at hf
    first | refine xretk (hf) ?_ | refine xret (hf) ?_
    conv => whnf
    refine ⟨fun h => absurd h (by decide), fun _ => ?_⟩
    conv => whnf
    exact ⟨rfl, by rw [rmF_none e]; exact h⟩
  | some f =>
    rw [e] at hf
    obtain ⟨A, B, rfl, _, rfl⟩ := fileOf_split e
    obtain ⟨hA, hB⟩ := h.names_of
    first | refine xretk (hf) ?_ | refine xret (hf) ?_
    conv => whnf
    refine ⟨fun _ => ?_, fun h => absurd h (by decide)⟩
    conv => whnf
    refine ⟨.map (some bm), mcell_of h.files rfl, rfl, ?_⟩
    conv => whnf
    refine .mk _ (mapDelF h.map) ?_
    rintro _ _ ⟨rfl, rfl⟩
    conv => whnf
    rw [delM_files hA]
    exact ⟨rfl, by rw [rmF_split hA hB]; exact (h.del rfl).1⟩
theorem remove_zero {m : Mem} {bf : Nat} {arr : Array Value} {name : ByteArray} (h : m bf = some (.cells arr 90)) (h1 : arr[1]? = some (.map none)) : Ret Tryz.prog 54 [ptrB bf, .v (.string name)] m [i64 6] := by
  refine en54 rfl (goY ?_)
  conv => whnf
  first | refine xretk (find_zero h h1) ?_ | refine xret (find_zero h h1) ?_
  conv => whnf
  refine ⟨fun h => absurd h (by decide), fun _ => ?_⟩
  conv => whnf
  exact ⟨rfl, rfl⟩
theorem sync_zero {m : Mem} {bf : Nat} {arr : Array Value} {name : ByteArray} (h : m bf = some (.cells arr 90)) (h1 : arr[1]? = some (.map none)) : Ret Tryz.prog 44 [ptrB bf, .v (.string name)] m [i64 6] := by
  refine en44 rfl (goY ?_)
  conv => whnf
  first | refine xretk (find_zero h h1) ?_ | refine xret (find_zero h h1) ?_
  conv => whnf
  refine ⟨fun h => absurd h (by decide), fun _ => ?_⟩
  conv => whnf
  exact ⟨rfl, rfl⟩
theorem cut_nil {m : Mem} {name : ByteArray} {n : Int} : Ret Tryz.prog 56 [.v (.pointer none), .v (.string name), i64 n] m [i64 6] := by
  refine en56 rfl (goY ?_)
  conv => whnf
  first | refine xretk (find_nil) ?_ | refine xret (find_nil) ?_
  conv => whnf
  refine ⟨fun _ => ?_, fun h => absurd h (by decide)⟩
  conv => whnf
  exact ⟨rfl, rfl⟩
theorem rename_nil {m : Mem} {a b : ByteArray} : Ret Tryz.prog 45 [.v (.pointer none), .v (.string a), .v (.string b)] m [i64 6] := by
  refine en45 rfl (goY ?_)
  conv => whnf
  first | refine xretk (find_nil) ?_ | refine xret (find_nil) ?_
  conv => whnf
  refine ⟨fun _ => ?_, fun h => absurd h (by decide)⟩
  conv => whnf
  exact ⟨rfl, rfl⟩
/-- a file put where a name leads -/
def putF (F : List Fl) (f : Fl) (name : ByteArray) (clock : Nat) : List Fl := match F with
  | [] => [{ f with name := name, born := clock }]
  | g :: F => if name = g.name then { f with name := name, born := g.born } :: F else g :: putF F f name clock
def clockF (F : List Fl) (name : ByteArray) (clock : Nat) : Nat := if (fileOf F name).isSome then clock else clock + 1
theorem setM_files (f : Fl) (name : ByteArray) (clock : Nat) : ∀ F : List Fl, setM name (.v (.pointer (some ⟨f.bx, 0, none⟩))) clock (F.map Fl.men) = (putF F f name clock).map Fl.men
  | [] => rfl
  | g :: F => by
    rw [List.map_cons, setM, putF]
    by_cases h : name = g.name
    · have h' : name = g.men.k := h
      rw [if_pos h', if_pos h]; rfl
    · have h' : ¬ name = g.men.k := h
      rw [if_neg h', if_neg h, setM_files f name clock F]; rfl
theorem putF_split {F : List Fl} {f : Fl} {name : ByteArray} {clock : Nat} : (fileOf F name = none ∧ putF F f name clock = F ++ [{ f with name := name, born := clock }]) ∨ ∃ C g D, F = C ++ g :: D ∧ g.name = name ∧ (∀ x ∈ C, x.name ≠ name) ∧ fileOf F name = some g ∧ putF F f name clock = C ++ { f with name := name, born := g.born } :: D := by
  induction F with
  | nil => exact .inl ⟨rfl, rfl⟩
  | cons g F ih =>
    by_cases h : name = g.name
    · refine .inr ⟨[], g, F, rfl, h.symm, by simp, ?_, ?_⟩
      · unfold fileOf; rw [List.find?_cons, decide_eq_true h]
      · rw [putF, if_pos h]; rfl
    · have hf : fileOf (g :: F) name = fileOf F name := by unfold fileOf; rw [List.find?_cons, decide_eq_false h]
      rcases ih with ⟨h1, h2⟩ | ⟨C, g', D, rfl, h1, h2, h3, h4⟩
      · refine .inl ⟨hf.trans h1, ?_⟩
        rw [putF, if_neg h, h2]; rfl
      · refine .inr ⟨g :: C, g', D, rfl, h1, fun x hx => ?_, hf.trans h3, ?_⟩
        · rcases List.mem_cons.1 hx with rfl | hx
          · exact Ne.symm h
          · exact h2 x hx
        · rw [putF, if_neg h, h4]; rfl
end Go.E.YtgjlajcebcmbaaaGreatDoor

/-
  Files: renamed, appended to.
-/
namespace Go.E.YtgjlajcebcmbaaaGreatDoor
open Go.Proofs
set_option maxRecDepth 100000
theorem Fl.Ok.later {f : Fl} {c c' : Nat} (h : f.Ok c) (hc : c ≤ c') : f.Ok c' := ⟨h.bs, h.byt, h.safe, Nat.lt_of_lt_of_le h.born hc⟩
/-- a file of its own put where a name leads -/
theorem FS.ins {p p' : Mem} {bf bm : Nat} {q : Int} {nb ns clock : Nat} {F : List Fl} {f : Fl} {name : ByteArray} (h : FS p bf bm q nb ns clock F) (hf : f.Ok clock ∨ (Bs f.p f.v (nc f.l) ∧ (∀ x ∈ f.l, x < 256) ∧ f.safe ≤ f.l.length))
    (hs : Split p (blk1 f.bx (fileO f.v f.safe) :: f.p :: blk1 bf (filesO q bm nb ns) :: blk1 bm (mapF F clock) :: F.flatMap Fl.parts)) (hp : p' = p.set bm (mapO Value.string (setM name (.v (.pointer (some ⟨f.bx, 0, none⟩))) clock (F.map Fl.men)) (clockM name clock (F.map Fl.men)))) :
    FS p' bf bm q nb ns (clockF F name clock) (putF F f name clock) := by
  have hfok : Bs f.p f.v (nc f.l) ∧ (∀ x ∈ f.l, x < 256) ∧ f.safe ≤ f.l.length := by
    rcases hf with hf | hf
    · exact ⟨hf.bs, hf.byt, hf.safe⟩
    · exact hf
  have hck : clockM name clock (F.map Fl.men) = clockF F name clock := by
    unfold clockM clockF
    rw [findM_files, Option.isSome_map]
  have hcl : clock ≤ clockF F name clock := by unfold clockF; split <;> omega
  rw [setM_files, hck] at hp
  have hs2 := hs.setAt (i := 3) rfl (blk1_same ..) (mapF (putF F f name clock) (clockF F name clock))
  rw [blk1_set] at hs2
  have hs2 : Split p' (blk1 f.bx (fileO f.v f.safe) :: f.p :: blk1 bf (filesO q bm nb ns) :: blk1 bm (mapF (putF F f name clock) (clockF F name clock)) :: F.flatMap Fl.parts) := by rw [hp]; exact hs2
  rcases putF_split (F := F) (f := f) (name := name) (clock := clock) with ⟨h1, h2⟩ | ⟨C, g, D, h0, h1, h2, h3, h4⟩
  · have hc : clockF F name clock = clock + 1 := by unfold clockF; rw [h1]; rfl
    have hno : ∀ x ∈ F, x.name ≠ name := fun x hx e => by
      have := List.find?_eq_none.1 h1 x hx
      simp [e] at this
    rw [h2] at hs2 ⊢
    rw [hc] at hs2 ⊢
    refine ⟨?_, fun x hx => ?_, ?_, ?_⟩
    · have := partsPerm F [] { f with name := name, born := clock } (blk1 bf (filesO q bm nb ns)) (blk1 bm (mapF (F ++ [{ f with name := name, born := clock }]) (clock + 1)))
      rw [List.append_nil] at this
      exact hs2.perm this.symm
    · rcases List.mem_append.1 hx with hx | hx
      · exact (h.ok x hx).later (by omega)
      · rw [List.mem_singleton.1 hx]; exact ⟨hfok.1, hfok.2.1, hfok.2.2, Nat.lt_succ_self _⟩
    · refine List.pairwise_append.2 ⟨h.names, by simp, fun a ha b hb => ?_⟩
      rw [List.mem_singleton.1 hb]; exact hno a ha
    · refine List.pairwise_append.2 ⟨h.borns, by simp, fun a ha b hb => ?_⟩
      rw [List.mem_singleton.1 hb]
      have := (h.ok a ha).born
      simp only; omega
  · subst h0
    have hc : clockF (C ++ g :: D) name clock = clock := by unfold clockF; rw [h3]; rfl
    rw [h4] at hs2 ⊢
    rw [hc] at hs2 ⊢
    refine ⟨?_, fun x hx => ?_, ?_, ?_⟩
    · -- the old file's parts are dropped
      have h5 : Split p' (blk1 f.bx (fileO f.v f.safe) :: f.p :: blk1 bf (filesO q bm nb ns) :: blk1 bm (mapF (C ++ { f with name := name, born := g.born } :: D) clock) :: (C ++ D).flatMap Fl.parts) := by
        have h6 := hs2.perm (List.Perm.cons _ (List.Perm.cons _ (partsPerm C D g _ _)))
        exact (h6.erase 2).erase 2
      exact h5.perm (partsPerm C D { f with name := name, born := g.born } _ _).symm
    · rcases List.mem_append.1 hx with hx | hx
      · exact h.ok x (by simp [hx])
      · rcases List.mem_cons.1 hx with rfl | hx
        · exact ⟨hfok.1, hfok.2.1, hfok.2.2, (h.ok g (by simp)).born⟩
        · exact h.ok x (by simp [hx])
    · have e : (C ++ { f with name := name, born := g.born } :: D).map (·.name) = (C ++ g :: D).map (·.name) := by simp [h1]
      have h6 := List.pairwise_map.2 h.names
      rw [← e] at h6
      exact List.pairwise_map.1 h6
    · have e : (C ++ { f with name := name, born := g.born } :: D).map (·.born) = (C ++ g :: D).map (·.born) := by simp
      have h6 := List.pairwise_map.2 h.borns
      rw [← e] at h6
      exact List.pairwise_map.1 h6
/-- Rename: the error; the files -/
def renE (F : List Fl) (a b : ByteArray) : Int := match fileOf F a with
  | none => 4
  | some _ => if nameOk (chs b) then 0 else 1
def renF (F : List Fl) (a b : ByteArray) (clock : Nat) : List Fl := match fileOf F a with
  | none => F
  | some f => if nameOk (chs b) then putF (rmF F a) f b clock else F
def renC (F : List Fl) (a b : ByteArray) (clock : Nat) : Nat := match fileOf F a with
  | none => clock
  | some _ => if nameOk (chs b) then clockF (rmF F a) b clock else clock
theorem rename_spec {m : Mem} {bf bm : Nat} {q : Int} {nb ns clock : Nat} {F : List Fl} {a b : ByteArray} (h : FS m bf bm q nb ns clock F) (hb : b.size ≤ 1000000) :
    Spec Tryz.prog 45 [ptrB bf, .v (.string a), .v (.string b)] m fun r m' => r = [i64 (renE F a b)] ∧ FS m' bf bm q nb ns (renC F a b clock) (renF F a b clock) := by
  have hf := find_spec (name := a) h
  have eE : renE F a b = match fileOf F a with
    | none => 4
    | some _ => if nameOk (chs b) then 0 else 1 := rfl
  have eF : renF F a b clock = match fileOf F a with
    | none => F
    | some f => if nameOk (chs b) then putF (rmF F a) f b clock else F := rfl
  have eC : renC F a b clock = match fileOf F a with
    | none => clock
    | some _ => if nameOk (chs b) then clockF (rmF F a) b clock else clock := rfl
  generalize renE F a b = xe at eE ⊢
  generalize renF F a b clock = xf at eF ⊢
  generalize renC F a b clock = xc at eC ⊢
  refine en45 rfl (goY ?_)
  conv => whnf
  cases e : fileOf F a with
  | none =>
    rw [e] at hf eE eF eC
    simp only at eE eF eC
    subst eE eF eC
    first | refine xretk (hf) ?_ | refine xret (hf) ?_
    conv => whnf
    refine ⟨fun _ => ?_, fun h => absurd h (by decide)⟩
    conv => whnf
    exact ⟨rfl, h⟩
  | some f =>
    rw [e] at hf eE eF eC
    simp only at eE eF eC
    first | refine xretk (hf) ?_ | refine xret (hf) ?_
    conv => whnf
    refine ⟨fun h => absurd h (by decide), fun _ => ?_⟩
    conv => whnf
    first | refine xretk (isName_spec hb) ?_ | refine xret (isName_spec hb) ?_
    conv => whnf
    cases hn : nameOk (chs b) with
    | false =>
      rw [hn] at eE eF eC
      simp only [Bool.false_eq_true, if_false] at eE eF eC
      subst eE eF eC
      refine ⟨fun _ => ?_, fun h => absurd h (by decide)⟩
      conv => whnf
      exact ⟨rfl, h⟩
    | true =>
      rw [hn] at eE eF eC
      simp only [if_true] at eE eF eC
      obtain ⟨A, B, rfl, _, rfl⟩ := fileOf_split e
      obtain ⟨hA, hB⟩ := h.names_of
      have hok := h.ok f (by simp)
      rw [rmF_split hA hB] at eF eC
      refine ⟨fun h => absurd h (by decide), fun _ => ?_⟩
      conv => whnf
      refine ⟨.map (some bm), mcell_of h.files rfl, rfl, ?_⟩
      conv => whnf
      refine .mk _ (mapDelF h.map) ?_
      rintro _ _ ⟨rfl, rfl⟩
      conv => whnf
      rw [delM_files hA]
      obtain ⟨h1, h2⟩ := h.del rfl
      refine ⟨.map (some bm), mcell_of h1.files rfl, rfl, ?_⟩
      conv => whnf
      refine .mk _ (mapSetF (v := ptrB f.bx) h1.map) ?_
      rintro _ m' rfl
      conv => whnf
      subst eE eF eC
      exact ⟨rfl, h1.ins (.inl hok) h2 rfl⟩
end Go.E.YtgjlajcebcmbaaaGreatDoor

/-
  Files: appended to.
-/
namespace Go.E.YtgjlajcebcmbaaaGreatDoor
open Go.Proofs
set_option maxRecDepth 100000
/-- the parts but one, taken as one -/
theorem Split.rest {m q : Mem} {l : List Mem} (h : Split m (q :: l)) : Split m [allM l, q] ∧ Split (allM l) l := by
  obtain ⟨h1, h2⟩ := h
  obtain ⟨h3, h4⟩ := List.pairwise_cons.1 h2
  refine ⟨⟨fun x o hx => ?_, ?_⟩, Sub.refl _, h4⟩
  · obtain ⟨a, ha, hx2⟩ := allM_some hx
    simp only [List.mem_cons, List.not_mem_nil, or_false] at ha
    rcases ha with rfl | rfl
    · obtain ⟨b, hb, hx3⟩ := allM_some hx2
      exact h1 _ _ (allM_of h2 (List.mem_cons_of_mem _ hb) hx3)
    · exact h1 _ _ (allM_of h2 (List.mem_cons_self ..) hx2)
  · simp only [List.pairwise_cons, List.mem_singleton, forall_eq, List.not_mem_nil, false_implies, implies_true, List.Pairwise.nil, and_true]
    intro x
    cases hq : q x with
    | none => exact .inr rfl
    | some o =>
      refine .inl (allM_none.2 fun a ha => ?_)
      rcases h3 a ha x with h' | h'
      · rw [hq] at h'; cases h'
      · exact h'
/-- one part taken, the others as one -/
theorem Split.pick1 {mm p : Mem} {l : List Mem} (h : Split mm (p :: l)) : ∃ q, (∀ x ∈ l, Sub x q) ∧ Split mm [p, q] ∧ ∀ m' p', Split m' [p', q] → Split m' (p' :: l) := by
  obtain ⟨h2, h3⟩ := Split.rest h
  exact ⟨allM l, fun x hx => h3.sub hx, h2.perm (List.Perm.swap _ _ _), fun m' p' h4 => Split.under (a := [p']) h4 h3⟩
theorem FS.grow {p m : Mem} {bf bm : Nat} {q : Int} {nb ns clock : Nat} {F : List Fl} (h : FS p bf bm q nb ns clock F) (hs : Sub p m) : FS m bf bm q nb ns clock F := ⟨h.sp.grow hs, h.ok, h.names, h.borns⟩
/-- what a file is told by -/
structure Af where
  name : ByteArray
  l : List Nat
  safe : Nat
def Fl.af (f : Fl) : Af := ⟨f.name, f.l, f.safe⟩
abbrev absF (F : List Fl) : List Af := F.map Fl.af
def appA : List Af → ByteArray → List Nat → List Af
  | [], name, b => [⟨name, b, 0⟩]
  | x :: A, name, b => if name = x.name then { x with l := x.l ++ b } :: A else x :: appA A name b
theorem appA_split {A B : List Fl} {f g : Fl} {b : List Nat} (hA : ∀ x ∈ A, x.name ≠ f.name) (h1 : g.name = f.name) (h2 : g.l = f.l ++ b) (h3 : g.safe = f.safe) : absF (A ++ g :: B) = appA (absF (A ++ f :: B)) f.name b := by
  induction A with
  | nil => simp only [List.nil_append, List.map_cons, appA, Fl.af]; rw [if_pos trivial, h1, h2, h3]
  | cons x A ih =>
    have hx := hA x (by simp)
    have ih := ih fun y hy => hA y (by simp [hy])
    simp only [absF, List.cons_append, List.map_cons, appA] at ih ⊢
    rw [if_neg (fun e => hx (by simpa [Fl.af] using e.symm)), ih]
theorem appA_new {F : List Fl} {name : ByteArray} {b : List Nat} {f : Fl} (h : ∀ x ∈ F, x.name ≠ name) (h1 : f.name = name) (h2 : f.l = b) (h3 : f.safe = 0) : absF (F ++ [f]) = appA (absF F) name b := by
  induction F with
  | nil => simp [appA, Fl.af, h1, h2, h3]
  | cons x A ih =>
    have hx := h x (by simp)
    have ih := ih fun y hy => h y (by simp [hy])
    simp only [absF, List.cons_append, List.map_cons, appA] at ih ⊢
    rw [if_neg (fun e => hx (by simpa [Fl.af] using e.symm)), ih]
set_option maxHeartbeats 2000000 in
/-- bytes put behind those of a file that is there -/
theorem append_tail {m mm p0 : Mem} {bf bm : Nat} {q : Int} {nb ns clock : Nat} {A B : List Fl} {f : Fl} {vb : Value} {lb : List Nat} {R : List CV → Mem → Prop} (h : FS p0 bf bm q nb ns clock (A ++ f :: B)) (hs : Split mm [p0, m]) (hb : La m vb (nc lb)) (h256 : ∀ x ∈ lb, x < 256) (hl : f.l.length + lb.length ≤ 100000000) (hnb : nb ≤ 1000000000000000000)
    (hR : ∀ p' m' g, g.name = f.name → g.l = f.l ++ lb → g.safe = f.safe → Split m' [p', m] → FS p' bf bm q (nb + lb.length) ns clock (A ++ g :: B) → R [i64 0] m') :
    xwpY c53 (restAt 11 (bodyOf Tryz.f53)) (QRetY tt.get Tryz.f53.results.toList R)
      [(0, .c (ptrB bf)), (2, .c (.v vb)), (7, .c (ptrB f.bx))] [] mm [] := by
  obtain ⟨ab, cb, rfl⟩ := hb.shape
  rw [nc_len] at hb ⊢
  have hok := h.ok f (by simp)
  have hs1 : Split mm (m :: blk1 f.bx (fileO f.v f.safe) :: f.p :: blk1 bf (filesO q bm nb ns) :: blk1 bm (mapF (A ++ f :: B) clock) :: (A ++ B).flatMap Fl.parts) := (hs.perm (List.Perm.swap _ _ _)).under (a := [m]) h.pick
  have hm : mm f.bx = some (fileO f.v f.safe) := hs1.sub (a := blk1 f.bx (fileO f.v f.safe)) (by simp) _ _ (blk1_same ..)
  have hone := hok.bs.lb.one
  conv => whnf
  refine .at ?_
  conv => whnf
  refine ⟨f.v, mcell_of hm rfl, hone, ?_⟩
  conv => whnf
  refine .mk _ (appendBat (i := 2) hs1 rfl hok.bs (hb.sub (hs1.sub (by simp))) (by simp; omega)) ?_
  rintro _ m2 ⟨v2, p2, rfl, hs2, hv2⟩
  conv => whnf
  have hs2 : Split m2 (m :: blk1 f.bx (fileO f.v f.safe) :: p2 :: blk1 bf (filesO q bm nb ns) :: blk1 bm (mapF (A ++ f :: B) clock) :: (A ++ B).flatMap Fl.parts) := hs2
  have hm2 : m2 f.bx = some (fileO f.v f.safe) := hs2.sub (a := blk1 f.bx (fileO f.v f.safe)) (by simp) _ _ (blk1_same ..)
  refine ⟨_, _, _, hm2, ⟨Nat.zero_lt_succ _, by simp⟩, ?_⟩
  have hs3 := hs2.setAt (i := 1) rfl (blk1_same ..) (fileO v2 f.safe)
  rw [blk1_set] at hs3
  have hs3 : Split (m2.set f.bx (fileO v2 f.safe)) (m :: blk1 f.bx (fileO v2 f.safe) :: p2 :: blk1 bf (filesO q bm nb ns) :: blk1 bm (mapF (A ++ f :: B) clock) :: (A ++ B).flatMap Fl.parts) := hs3
  have hb3 : (m2.set f.bx (fileO v2 f.safe)) bf = some (filesO q bm nb ns) := hs3.sub (a := blk1 bf (filesO q bm nb ns)) (by simp) _ _ (blk1_same ..)
  have ew : IntKind.u64.wrap (lb.length : Int) = (lb.length : Int) := wu (by omega) (by omega)
  conv => whnf
  rw [ew]
  refine xcall (aadd_at (x := nb) (y := lb.length) hb3 rfl (by omega)) ?_
  rintro _ m4 ⟨rfl, rfl⟩
  conv => whnf
  have hs4 := hs3.setAt (i := 3) rfl (blk1_same ..) (filesO q bm (nb + lb.length) ns)
  rw [blk1_set] at hs4
  obtain ⟨h5, h6⟩ := Split.rest hs4
  refine hR _ _ { f with v := v2, l := f.l ++ lb, p := p2 } rfl rfl rfl h5 ?_
  refine h.put (g := { f with v := v2, l := f.l ++ lb, p := p2 }) rfl rfl rfl ⟨?_, fun x hx => ?_, ?_, hok.born⟩ h6
  · have := hv2.own
    rw [show nc f.l ++ nc lb = nc (f.l ++ lb) by simp [nc]] at this
    exact this
  · rcases List.mem_append.1 hx with hx | hx
    · exact hok.byt x hx
    · exact h256 x hx
  · have := hok.safe
    simp only [List.length_append]; omega
end Go.E.YtgjlajcebcmbaaaGreatDoor

/-
  Files: Append, whole.
-/
namespace Go.E.YtgjlajcebcmbaaaGreatDoor
open Go.Proofs
set_option maxRecDepth 100000
def totA (A : List Af) : Nat := (A.map (·.l.length)).sum
theorem totA_abs (F : List Fl) : totA (absF F) = total F := by simp [totA, total, absF, Fl.af, Function.comp_def]
/-- what Append does -/
def AppR (A : List Af) (name : ByteArray) (lb : List Nat) (q e : Int) (A' : List Af) (nb nb' : Nat) : Prop :=
  if nameOk (chs name) = false then e = 1 ∧ A' = A ∧ nb' = nb else if 0 < q ∧ q < (totA A + lb.length : Nat) then e = 5 ∧ A' = A ∧ nb' = nb else e = 0 ∧ A' = appA A name lb ∧ nb' = nb + lb.length
theorem append_nil {m : Mem} {name : ByteArray} {v : Value} : Ret Tryz.prog 53 [.v (.pointer none), .v (.string name), .v v] m [i64 6] := by
  refine en53 rfl (goY ?_)
  conv => whnf
  first | refine xretk (find_nil) ?_ | refine xret (find_nil) ?_
  conv => whnf
  refine ⟨fun _ => ?_, fun h => absurd h (by decide)⟩
  conv => whnf
  exact ⟨rfl, rfl⟩
theorem append_zero {m : Mem} {bf : Nat} {arr : Array Value} {name : ByteArray} {v : Value} (h : m bf = some (.cells arr 90)) (h1 : arr[1]? = some (.map none)) : Ret Tryz.prog 53 [ptrB bf, .v (.string name), .v v] m [i64 6] := by
  refine en53 rfl (goY ?_)
  conv => whnf
  first | refine xretk (find_zero h h1) ?_ | refine xret (find_zero h h1) ?_
  conv => whnf
  refine ⟨fun _ => ?_, fun h => absurd h (by decide)⟩
  conv => whnf
  exact ⟨rfl, rfl⟩
theorem keptF {m mx my : Mem} {b : Nat} {ob : Obj} {l : List Nat} (h : m b = some ob) (hx : Sub m mx) (hy : Sub m my) (hl : ∀ x ∈ l, x = b) : Kept l mx my := fun x hx' => by
  rw [hl x hx', hx _ _ h, hy _ _ h]
set_option maxHeartbeats 4000000 in
theorem append_spec' {m mm p : Mem} {bf bm : Nat} {q : Int} {nb ns clock : Nat} {F : List Fl} {name : ByteArray} {vb : Value} {lb : List Nat} (h : FS p bf bm q nb ns clock F) (hs : Split mm [p, m]) (hv : La m vb (nc lb)) (h256 : ∀ x ∈ lb, x < 256) (hn : name.size ≤ 1000000) (hq : 0 ≤ q ∧ q ≤ 9223372036854775807)
    (hl : ∀ f ∈ F, f.l.length ≤ 90000000) (hlb : lb.length ≤ 1000000) (htot : total F ≤ 1000000000000) (hnb : nb ≤ 1000000000000000000) :
    Spec Tryz.prog 53 [ptrB bf, .v (.string name), .v vb] mm fun r m' => ∃ e p' F' clock' nb', r = [i64 e] ∧ Split m' [p', m] ∧ FS p' bf bm q nb' ns clock' F' ∧ AppR (absF F) name lb q e (absF F') nb nb' := by
  have hM := h.grow (hs.sub (by simp))
  have hf := find_spec (name := name) hM
  obtain ⟨ab, cb, rfl⟩ := hv.shape
  rw [nc_len] at hv ⊢
  -- the tail: the file is there
  have there : ∀ mm p clock A f B, FS p bf bm q nb ns clock (A ++ f :: B) → Split mm [p, m] → (∀ x ∈ A, x.name ≠ f.name) → f.l.length ≤ 90000000 → nameOk (chs name) = true → ¬ (0 < q ∧ q < (totA (absF F) + lb.length : Nat)) → (∀ g : Fl, g.name = f.name → g.l = f.l ++ lb → g.safe = f.safe → absF (A ++ g :: B) = appA (absF F) name lb) →
      xwpY c53 (restAt 11 (bodyOf Tryz.f53)) (QRetY tt.get Tryz.f53.results.toList fun r m' => ∃ e p' F' clock' nb', r = [i64 e] ∧ Split m' [p', m] ∧ FS p' bf bm q nb' ns clock' F' ∧ AppR (absF F) name lb q e (absF F') nb nb')
      [(0, .c (ptrB bf)), (2, .c (.v (.slice ab lb.length cb))), (7, .c (ptrB f.bx))] [] mm [] := by
    intro mm p clock A f B h1 h2 hA h3 h4 h5 h6
    refine append_tail h1 h2 hv h256 (by omega) hnb fun p' m' g e1 e2 e3 h7 h8 => ⟨0, p', A ++ g :: B, clock, nb + lb.length, rfl, h7, h8, ?_⟩
    rw [AppR, if_neg (by rw [h4]; decide), if_neg h5]
    exact ⟨rfl, h6 g e1 e2 e3, rfl⟩
  refine en53 rfl (goY ?_)
  conv => whnf
  cases e : fileOf F name with
  | none =>
    rw [e] at hf
    have hno : ∀ x ∈ F, x.name ≠ name := fun x hx e' => by
      have := List.find?_eq_none.1 e x hx
      simp [e'] at this
    first | refine xretk (hf) ?_ | refine xret (hf) ?_
    conv => whnf
    refine ⟨fun h => absurd h (by decide), fun _ => ?_⟩
    conv => whnf
    first | refine xretk (isName_spec hn) ?_ | refine xret (isName_spec hn) ?_
    conv => whnf
    cases hnm : nameOk (chs name) with
    | false =>
      refine ⟨fun _ => ?_, fun h => absurd h (by decide)⟩
      conv => whnf
      exact ⟨1, p, F, clock, nb, rfl, hs, h, by rw [AppR, if_pos hnm]; exact ⟨rfl, rfl, rfl⟩⟩
    | true =>
      refine ⟨fun h => absurd h (by decide), fun _ => ?_⟩
      conv => whnf
      refine ⟨.int .i64 q, mcell_of hM.files rfl, rfl, ?_⟩
      conv => whnf
      refine ⟨fun h1 => ?_, fun h1 => ?_⟩
      · have hq1 := of_decide_eq_true h1
        clear h1
        have ew : IntKind.i64.wrap (q - (lb.length : Int)) = q - (lb.length : Int) := wi (by omega) (by omega)
        conv => whnf
        refine ⟨.int .i64 q, mcell_of hM.files rfl, rfl, ?_⟩
        conv => whnf
        rw [ew]
        refine xcall (used_spec hM htot) ?_
        rintro _ m1 ⟨rfl, hsu⟩
        conv => whnf
        first | (refine ⟨keptF hM.files (Sub.refl _) hsu (by simp), ?_⟩; conv => whnf) | skip
        have hs1 := hs.grow hsu
        refine ⟨fun h2 => ?_, fun h2 => ?_⟩
        · have h2' := of_decide_eq_true h2
          conv => whnf
          exact ⟨5, p, _, clock, nb, rfl, hs1, h, by rw [AppR, if_neg (by rw [hnm]; decide), if_pos ⟨hq1, by rw [totA_abs]; omega⟩]; exact ⟨rfl, rfl, rfl⟩⟩
        · have h2' := of_decide_eq_false h2
          have hfit : ¬ (0 < q ∧ q < (totA (absF F) + lb.length : Nat)) := fun hx => by have := hx.2; rw [totA_abs] at this; omega
          clear h2
          conv => whnf
          refine ⟨fun _ => ?_, fun h => absurd h (by decide)⟩
          conv => whnf
          intro b hb
          have hpb : p b = none := hs1.none hb p (by simp)
          have hs2 := (hs1.new hb (fileO (.slice none 0 0) 0)).pair
          conv => whnf
          have hP := ((((Split.one p).new hpb (fileO (.slice none 0 0) 0)).under (a := [blk1 b (fileO (.slice none 0 0) 0)]) h.sp).addEmp).perm (List.Perm.swap _ _ _)
          rw [← joinM_blk1] at hP
          have hp1 : FS (joinM (blk1 b (fileO (.slice none 0 0) 0)) p) bf bm q nb ns clock F := h.grow (by rw [joinM_blk1]; exact Mem.sub_set _ hpb)
          have hM2 := hp1.grow (hs2.sub (by simp))
          refine ⟨.map (some bm), mcell_of hM2.files rfl, rfl, ?_⟩
          conv => whnf
          refine .mk _ (mapSetF (v := ptrB b) hM2.map) ?_
          rintro _ m' rfl
          conv => whnf
          have hs3 := hs2.set hp1.map (mapO Value.string (setM name (ptrB b) clock (F.map Fl.men)) (clockM name clock (F.map Fl.men)))
          have hp2 := hp1.ins (f := ⟨name, b, .slice none 0 0, [], 0, clock, emp⟩) (name := name) (.inr ⟨Bs.nil _, by simp, Nat.le_refl _⟩) hP rfl
          have hpf : putF F ⟨name, b, .slice none 0 0, [], 0, clock, emp⟩ name clock = F ++ [⟨name, b, .slice none 0 0, [], 0, clock, emp⟩] := by
            rcases putF_split (F := F) (f := ⟨name, b, .slice none 0 0, [], 0, clock, emp⟩) (name := name) (clock := clock) with ⟨_, h2⟩ | ⟨C, g, D, h0, _, _, h3, _⟩
            · exact h2
            · rw [e] at h3; cases h3
          rw [hpf] at hp2
          have tl := there _ _ _ _ _ [] hp2 hs3 hno (by simp) hnm hfit (fun g e1 e2 e3 => appA_new hno e1 (by rw [e2]; rfl) e3)
          conv at tl => whnf
          refine .via _ _ ?_ tl
          conv => whnf
          repeat (refine And.intro (by first | with_reducible rfl | exact congrArg (Value.int _) (wi (by omega) (by omega)) | exact wi (by omega) (by omega) | rfl) ?_; conv => whnf)
          first | exact trivial | exact fun _ _ h => h
      · have hq1 := of_decide_eq_false h1
        have hfit : ¬ (0 < q ∧ q < (totA (absF F) + lb.length : Nat)) := fun hx => hq1 hx.1
        have hs1 := hs
        clear h1
        conv => whnf
        refine ⟨fun _ => ?_, fun h => absurd h (by decide)⟩
        conv => whnf
        intro b hb
        have hpb : p b = none := hs1.none hb p (by simp)
        have hs2 := (hs1.new hb (fileO (.slice none 0 0) 0)).pair
        conv => whnf
        have hP := ((((Split.one p).new hpb (fileO (.slice none 0 0) 0)).under (a := [blk1 b (fileO (.slice none 0 0) 0)]) h.sp).addEmp).perm (List.Perm.swap _ _ _)
        rw [← joinM_blk1] at hP
        have hp1 : FS (joinM (blk1 b (fileO (.slice none 0 0) 0)) p) bf bm q nb ns clock F := h.grow (by rw [joinM_blk1]; exact Mem.sub_set _ hpb)
        have hM2 := hp1.grow (hs2.sub (by simp))
        refine ⟨.map (some bm), mcell_of hM2.files rfl, rfl, ?_⟩
        conv => whnf
        refine .mk _ (mapSetF (v := ptrB b) hM2.map) ?_
        rintro _ m' rfl
        conv => whnf
        have hs3 := hs2.set hp1.map (mapO Value.string (setM name (ptrB b) clock (F.map Fl.men)) (clockM name clock (F.map Fl.men)))
        have hp2 := hp1.ins (f := ⟨name, b, .slice none 0 0, [], 0, clock, emp⟩) (name := name) (.inr ⟨Bs.nil _, by simp, Nat.le_refl _⟩) hP rfl
        have hpf : putF F ⟨name, b, .slice none 0 0, [], 0, clock, emp⟩ name clock = F ++ [⟨name, b, .slice none 0 0, [], 0, clock, emp⟩] := by
          rcases putF_split (F := F) (f := ⟨name, b, .slice none 0 0, [], 0, clock, emp⟩) (name := name) (clock := clock) with ⟨_, h2⟩ | ⟨C, g, D, h0, _, _, h3, _⟩
          · exact h2
          · rw [e] at h3; cases h3
        rw [hpf] at hp2
        have tl := there _ _ _ _ _ [] hp2 hs3 hno (by simp) hnm hfit (fun g e1 e2 e3 => appA_new hno e1 (by rw [e2]; rfl) e3)
        conv at tl => whnf
        refine .via _ _ ?_ tl
        conv => whnf
        repeat (refine And.intro (by first | with_reducible rfl | exact congrArg (Value.int _) (wi (by omega) (by omega)) | exact wi (by omega) (by omega) | rfl) ?_; conv => whnf)
        first | exact trivial | exact fun _ _ h => h
  | some f =>
    rw [e] at hf
    obtain ⟨A, B, rfl, hA, rfl⟩ := fileOf_split e
    have hlf := hl f (by simp)
    first | refine xretk (hf) ?_ | refine xret (hf) ?_
    conv => whnf
    refine ⟨fun h => absurd h (by decide), fun _ => ?_⟩
    conv => whnf
    first | refine xretk (isName_spec hn) ?_ | refine xret (isName_spec hn) ?_
    conv => whnf
    cases hnm : nameOk (chs f.name) with
    | false =>
      refine ⟨fun _ => ?_, fun h => absurd h (by decide)⟩
      conv => whnf
      exact ⟨1, p, _, clock, nb, rfl, hs, h, by rw [AppR, if_pos hnm]; exact ⟨rfl, rfl, rfl⟩⟩
    | true =>
      refine ⟨fun h => absurd h (by decide), fun _ => ?_⟩
      conv => whnf
      refine ⟨.int .i64 q, mcell_of hM.files rfl, rfl, ?_⟩
      conv => whnf
      refine ⟨fun h1 => ?_, fun h1 => ?_⟩
      · have hq1 := of_decide_eq_true h1
        clear h1
        have ew : IntKind.i64.wrap (q - (lb.length : Int)) = q - (lb.length : Int) := wi (by omega) (by omega)
        conv => whnf
        refine ⟨.int .i64 q, mcell_of hM.files rfl, rfl, ?_⟩
        conv => whnf
        rw [ew]
        refine xcall (used_spec hM htot) ?_
        rintro _ m1 ⟨rfl, hsu⟩
        conv => whnf
        first | (refine ⟨keptF hM.files (Sub.refl _) hsu (by simp), ?_⟩; conv => whnf) | skip
        have hs1 := hs.grow hsu
        refine ⟨fun h2 => ?_, fun h2 => ?_⟩
        · have h2' := of_decide_eq_true h2
          conv => whnf
          exact ⟨5, p, _, clock, nb, rfl, hs1, h, by rw [AppR, if_neg (by rw [hnm]; decide), if_pos ⟨hq1, by rw [totA_abs]; omega⟩]; exact ⟨rfl, rfl, rfl⟩⟩
        · have h2' := of_decide_eq_false h2
          have hfit : ¬ (0 < q ∧ q < (totA (absF (A ++ f :: B)) + lb.length : Nat)) := fun hx => by have := hx.2; rw [totA_abs] at this; omega
          clear h2
          conv => whnf
          refine ⟨fun h => absurd h (by decide), fun _ => ?_⟩
          conv => whnf
          have tl := there _ _ _ _ _ _ h hs1 hA hlf hnm hfit (fun g e1 e2 e3 => appA_split hA e1 e2 e3)
          conv at tl => whnf
          refine .via _ _ ?_ tl
          conv => whnf
          repeat (refine And.intro (by first | with_reducible rfl | exact congrArg (Value.int _) (wi (by omega) (by omega)) | exact wi (by omega) (by omega) | rfl) ?_; conv => whnf)
          first | exact trivial | exact fun _ _ h => h
      · have hq1 := of_decide_eq_false h1
        have hfit : ¬ (0 < q ∧ q < (totA (absF (A ++ f :: B)) + lb.length : Nat)) := fun hx => hq1 hx.1
        have hs1 := hs
        clear h1
        conv => whnf
        refine ⟨fun h => absurd h (by decide), fun _ => ?_⟩
        conv => whnf
        have tl := there _ _ _ _ _ _ h hs1 hA hlf hnm hfit (fun g e1 e2 e3 => appA_split hA e1 e2 e3)
        conv at tl => whnf
        refine .via _ _ ?_ tl
        conv => whnf
        repeat (refine And.intro (by first | with_reducible rfl | exact congrArg (Value.int _) (wi (by omega) (by omega)) | exact wi (by omega) (by omega) | rfl) ?_; conv => whnf)
        first | exact trivial | exact fun _ _ h => h
end Go.E.YtgjlajcebcmbaaaGreatDoor

/-
  Lists of whole numbers.
-/
namespace Go.E.YtgjlajcebcmbaaaGreatDoor
open Go.Proofs
set_option maxRecDepth 100000
theorem hIs : tt.get 38 = some ⟨.slice 3, 1, 24, [.one (.slice none 0 0)], false⟩ := by rfl
theorem hI' : tt.get 3 = some ⟨.int .i64, 1, 8, [.one (.int .i64 0)], false⟩ := by rfl
abbrev ic (l : List Int) : List Value := l.map (Value.int .i64)
theorem ic_one {l : List Int} : ∀ u ∈ ic l, u.oneCell' = true := by
  intro u hu; obtain ⟨a, _, rfl⟩ := List.mem_map.1 hu; rfl
/-- numbers that lie somewhere; owned -/
def Il (m : Mem) (v : Value) (l : List Int) : Prop := Lies m 1 v (ic l)
def Io (m : Mem) (v : Value) (l : List Int) : Prop := Own m 3 1 v (ic l)
/-- numbers that lie somewhere; or none, wherever -/
def Ia (m : Mem) (v : Value) (l : List Int) : Prop := Il m v l ∨ (l = [] ∧ ∃ a, v = .slice (some a) 0 0)
theorem Il.sub {m m' : Mem} {v : Value} {l : List Int} (h : Il m v l) (hs : Sub m m') : Il m' v l := Lies.sub h hs
theorem Io.sub {m m' : Mem} {v : Value} {l : List Int} (h : Io m v l) (hs : Sub m m') : Io m' v l := Own.sub h hs
theorem Io.il {m : Mem} {v : Value} {l : List Int} (h : Io m v l) : Il m v l := Own.lies h
theorem Il.ia {m : Mem} {v : Value} {l : List Int} (h : Il m v l) : Ia m v l := .inl h
theorem Ia.sub {m m' : Mem} {v : Value} {l : List Int} (h : Ia m v l) (hs : Sub m m') : Ia m' v l := h.imp (·.sub hs) id
theorem Io.nil (m : Mem) : Io m (.slice none 0 0) [] := .inl ⟨rfl, rfl⟩
theorem Il.shape {m : Mem} {v : Value} {l : List Int} (h : Il m v l) : ∃ a c, v = .slice a l.length c := by
  rcases h with ⟨c, rfl, e⟩ | ⟨b, o, c, n, arr, t, fr, rfl, _, e, _⟩
  · have : l.length = 0 := by simpa using congrArg List.length e
    exact ⟨none, c, by rw [this]⟩
  · have : l.length = n := by simpa using e
    exact ⟨_, c, by rw [this]⟩
theorem Ia.shape {m : Mem} {v : Value} {l : List Int} (h : Ia m v l) : ∃ a c, v = .slice a l.length c := by
  rcases h with h | ⟨rfl, a, rfl⟩
  · exact h.shape
  · exact ⟨_, _, rfl⟩
theorem Ia.one {m : Mem} {v : Value} {l : List Int} (h : Ia m v l) : v.oneCell' = true := by obtain ⟨a, c, rfl⟩ := h.shape; rfl
theorem Ia.il {m : Mem} {v : Value} {l : List Int} (h : Ia m v l) (hl : l ≠ []) : Il m v l := h.elim id fun h => absurd h.1 hl
theorem Il.real {m : Mem} {v : Value} {l : List Int} (h : Il m v l) {i : Nat} (hi : i < l.length) : ∃ b o c, v = .slice (some ⟨b, o, none⟩) l.length c ∧ ∀ j (hj : j < l.length), mcell m b (o + j) = some (.int .i64 l[j]) := by
  rcases h with ⟨c, rfl, e⟩ | ⟨b, o, c, n, arr, t, fr, rfl, g1, e, _, g2, _⟩
  · have : l.length = 0 := by simpa using congrArg List.length e
    omega
  · have : l.length = n := by simpa using e
    exact ⟨b, o, c, by rw [this], fun j hj => mcell_of g1 (g2 j _ (by simp [hj]))⟩
theorem Ia.real {m : Mem} {v : Value} {l : List Int} (h : Ia m v l) {i : Nat} (hi : i < l.length) : ∃ b o c, v = .slice (some ⟨b, o, none⟩) l.length c ∧ ∀ j (hj : j < l.length), mcell m b (o + j) = some (.int .i64 l[j]) :=
  (h.il (by rintro rfl; simp at hi)).real hi
theorem Ia.lenV {m : Mem} {v : Value} {l : List Int} (h : Ia m v l) : lenV v = l.length := by obtain ⟨a, c, rfl⟩ := h.shape; rfl
theorem buildI1 {m : Mem} {x : Int} : PrimSpec Tryz.prog (.buildSlice 38 1 [0]) [.v (.int .i64 x)] m fun r m' => ∃ b, m b = none ∧ r = [.v (.slice (some ⟨b, 0, none⟩) 1 1)] ∧ m' = m.set b (.cells #[.int .i64 x] 3) :=
  buildSlice_spec (n := 1) tt_ok hIs rfl hI' rfl rfl (by simp [CV.cs]) (by simp) (by simp)
theorem Ia.gives {m : Mem} {v : Value} {l : List Int} {e : TypeId} (h : Ia m v l) : Gives m 1 (.slice e) v (ic l) := .inl ⟨e, rfl, h.imp id fun ⟨h1, h2⟩ => ⟨by rw [h1]; rfl, h2⟩⟩
/-- append of numbers onto the i-th part -/
theorem appendIat {m p : Mem} {ls : List Mem} {i : Nat} {v x : Value} {l news : List Int} (hs : Split m ls) (hi : ls[i]? = some p) (hv : Io p v l) (hg : Ia m x news) (hb : l.length + news.length ≤ 1000000000) :
    PrimSpec Tryz.prog (.builtin .append [38, 38]) [.v v, .v x] m fun r m' => ∃ v' p', r = [.v v'] ∧ Split m' (ls.set i p') ∧ Io p' v' (l ++ news) := by
  have e1 := hv.il.ia.lenV
  have e2 := hg.lenV
  refine (append_at tt_ok hIs rfl hI' hIs rfl hs hi hv hg.gives (by rw [e1, e2]; simp only; omega) (by rw [e1, e2]; omega)).mono fun r m' ⟨v', p', h1, h2, h3⟩ => ⟨v', p', h1, h2, ?_⟩
  have := h3.own
  rw [show ic l ++ ic news = ic (l ++ news) by simp [ic]] at this
  exact this
theorem Il.blk1 {m : Mem} {b : Nat} {x : Int} {t : TypeId} {fr : Nat × Nat} (h : m b = some (.cells #[.int .i64 x] t fr)) : Il m (.slice (some ⟨b, 0, none⟩) 1 1) [x] :=
  .inr ⟨b, 0, 1, 1, _, _, _, rfl, h, rfl, Nat.le_refl _, fun j u hu => by simpa [ic] using hu, by simp [ic, Value.oneCell']⟩
/-- one number more -/
theorem pushI {m p : Mem} {ls : List Mem} {b' : Nat} {x : Int} {y : Value} {l : List Int} (hs : Split m (p :: ls)) (hb : m b' = none) (hy : Io p y l) (hl : l.length ≤ 100000000) :
    PrimSpec Tryz.prog (.builtin .append [38, 38]) [.v y, .v (.slice (some ⟨b', 0, none⟩) 1 1)] (m.set b' (.cells #[.int .i64 x] 3)) fun r m' => ∃ y' p', r = [.v y'] ∧ Split m' (p' :: ls) ∧ Io p' y' (l ++ [x]) := by
  have hs1 := hs.new hb (.cells #[.int .i64 x] 3)
  refine (appendIat (i := 1) hs1 rfl hy (Il.blk1 (Mem.set_same ..)).ia (by simp; omega)).mono fun r m' ⟨v', p', h1, h2, h3⟩ => ⟨v', p', h1, h2.erase 0, h3⟩
theorem iadd1 {i : Nat} (h : i < 1000000000000) : IntKind.i64.wrap ((i : Int) + 1) = ((i + 1 : Nat) : Int) := by rw [wi (by omega) (by omega)]; omega
theorem mcell_rng {m : Mem} {b o j : Nat} {l : List Value} {y : Value} (h : MRange m b o l) (hj : l[j]? = some y) : mcell m b (o + j) = some y := by
  obtain ⟨arr, t, fr, h1, h2⟩ := h
  exact mcell_of h1 (h2 j y hj)
end Go.E.YtgjlajcebcmbaaaGreatDoor

/-
  Files: a crash.
-/
namespace Go.E.YtgjlajcebcmbaaaGreatDoor
open Go.Proofs
set_option maxRecDepth 100000
/-- how many bytes more last -/
def lastN (a : Af) (x : Int) : Nat := (min (max x 0) ((a.l.length : Int) - a.safe)).toNat
def crash1 (A : List Af) (name : ByteArray) (x : Int) : List Af := A.map fun a => if a.name = name then ⟨a.name, a.l.take (a.safe + lastN a x), a.safe + lastN a x⟩ else a
def crashTo (N : List ByteArray) (last : List Int) (A : List Af) : Nat → List Af
  | 0 => A
  | i + 1 => crash1 (crashTo N last A i) (N.getD i ByteArray.empty) (last.getD i 0)
def crashA (A : List Af) (last : List Int) : List Af := crashTo (srtB (A.map (·.name))) last A A.length
theorem crash1_names (A : List Af) (name : ByteArray) (x : Int) : (crash1 A name x).map (·.name) = A.map (·.name) := by
  simp only [crash1, List.map_map]
  refine List.map_congr_left fun a _ => ?_
  simp only [Function.comp]
  split <;> rfl
theorem crashTo_names (N : List ByteArray) (last : List Int) (A : List Af) : ∀ i, (crashTo N last A i).map (·.name) = A.map (·.name)
  | 0 => rfl
  | i + 1 => by rw [crashTo, crash1_names, crashTo_names N last A i]
theorem abs_names (F : List Fl) : (absF F).map (·.name) = F.map (·.name) := by simp [absF, Fl.af]
theorem srtB_same (ss : List ByteArray) : (srtB ss).Perm ss := by
  have h1 : ((ss.map encB).mergeSort fun x y => decide (x ≤ y)).Perm (ss.map encB) := List.mergeSort_perm _ _
  have h2 := h1.map fun l : List UInt8 => (⟨l.toArray⟩ : ByteArray)
  rw [List.map_map] at h2
  have e : ss.map ((fun l : List UInt8 => (⟨l.toArray⟩ : ByteArray)) ∘ encB) = ss := by
    refine (List.map_congr_left fun s _ => ?_).trans (List.map_id ss)
    cases s; simp [encB]
  rw [e] at h2
  exact h2
theorem crash1_split {A B : List Fl} {f g : Fl} {x : Int} (hA : ∀ y ∈ A, y.name ≠ f.name) (hB : ∀ y ∈ B, y.name ≠ f.name) (hg : g.af = ⟨f.name, f.l.take (f.safe + lastN f.af x), f.safe + lastN f.af x⟩) : absF (A ++ g :: B) = crash1 (absF (A ++ f :: B)) f.name x := by
  have h1 : ∀ L : List Fl, (∀ y ∈ L, y.name ≠ f.name) → (L.map Fl.af).map (fun a => if a.name = f.name then (⟨a.name, a.l.take (a.safe + lastN a x), a.safe + lastN a x⟩ : Af) else a) = L.map Fl.af := fun L hL => by
    refine (List.map_congr_left fun a ha => ?_).trans (List.map_id _)
    obtain ⟨y, hy, rfl⟩ := List.mem_map.1 ha
    rw [if_neg (show ¬ y.af.name = f.name from fun e => hL y hy e)]; rfl
  simp only [absF, crash1, List.map_append, List.map_cons]
  rw [h1 A hA, h1 B hB, hg, if_pos (show f.af.name = f.name from rfl)]
  rfl
set_option maxHeartbeats 4000000 in
theorem crash_spec {m mm p : Mem} {bf bm : Nat} {q : Int} {nb ns clock : Nat} {F : List Fl} {vl : Value} {last : List Int} (h : FS p bf bm q nb ns clock F) (hs : Split mm [p, m]) (hv : Ia m vl last) (hlast : last.length ≤ 9223372036854775807) (hl : ∀ f ∈ F, f.l.length ≤ 90000000) (hF : F.length ≤ 1000000) (hI : ∀ x ∈ last, -9223372036854775808 ≤ x ∧ x ≤ 9223372036854775807) :
    Spec Tryz.prog 19 [ptrB bf, .v vl] mm fun r m' => ∃ p' F', r = [] ∧ Split m' [p', m] ∧ FS p' bf bm q nb ns clock F' ∧ absF F' = crashA (absF F) last ∧ ∀ f ∈ F', f.l.length ≤ 90000000 := by
  obtain ⟨a, c, rfl⟩ := hv.shape
  have hN : (namesF F).length = F.length := by rw [namesF, srtB_len, List.length_map]
  have hNs : srtB ((absF F).map (·.name)) = namesF F := by rw [abs_names]; rfl
  refine en19 rfl (goY ?_)
  conv => whnf
  refine xcall (names_spec (h.grow (hs.sub (by simp))) hF) ?_
  rintro _ m1 ⟨vn, pn, rfl, hsn, hvn⟩
  conv => whnf
  have hsn : Split m1 [pn, p, m] := hsn.under (a := [pn]) hs
  have hsn : Split m1 [p, pn, m] := hsn.perm (List.Perm.swap _ _ _)
  obtain ⟨an, cn, rfl⟩ := hvn.sl.shape
  rw [hN] at hvn ⊢
  conv => whnf
  refine .mk (ι := Nat) (fun i => F.length - i) (fun i mm => i ≤ F.length ∧ ∃ p' F', Split mm [p', pn, m] ∧ FS p' bf bm q nb ns clock F' ∧ absF F' = crashTo (namesF F) last (absF F) i ∧ ∀ f ∈ F', f.l.length ≤ 90000000)
    (fun i => [(0, .c (ptrB bf)), (1, .c (.v (.slice a last.length c))), (9, .c (.v (.slice an F.length cn))), (10, .c (i64 F.length)), (11, .c (i64 i))]) (fun _ => []) 0 ⟨by omega, p, F, hsn, h, rfl, hl⟩ ?_ ?_
  · conv => whnf
    repeat (refine And.intro (by first | with_reducible rfl | exact congrArg (Value.int _) (wi (by omega) (by omega)) | exact wi (by omega) (by omega) | rfl) ?_; conv => whnf)
    first | exact trivial | exact fun _ _ h => h
  rintro i mm ⟨hi, p, F2, hs, h, hab, hl⟩
  conv => whnf
  refine ⟨fun h1 => ?_, fun h1 => ?_⟩
  rotate_left
  · have h1' := of_decide_eq_false h1
    obtain rfl : i = F.length := by omega
    conv => whnf
    exact ⟨p, F2, rfl, hs.erase 1, h, by rw [hab, crashA, hNs, List.length_map], hl⟩
  have h1' := of_decide_eq_true h1
  have hlt : i < F.length := by omega
  clear h1
  obtain ⟨bn, on, c', hh, hg⟩ := (hvn.sl.sub (hs.sub (a := pn) (by simp))).real (i := i) (by omega)
  rw [hN] at hh
  injection hh with hh1 _ hh3
  subst hh1
  clear hh3 c'
  have hg := hg i (by omega)
  have hmem : (namesF F)[i]'(by omega) ∈ F2.map (·.name) := by
    have h2 : (namesF F)[i]'(by omega) ∈ F.map (·.name) := (srtB_same _).subset (List.getElem_mem _)
    have h3 := congrArg (List.map (·.name)) hab
    rw [abs_names, crashTo_names, abs_names] at h3
    rw [h3]; exact h2
  have hgd : (namesF F).getD i ByteArray.empty = (namesF F)[i]'(by omega) := by rw [List.getD_eq_getElem?_getD, List.getElem?_eq_getElem (by omega)]; rfl
  have hst : crashTo (namesF F) last (absF F) (i + 1) = crash1 (absF F2) ((namesF F)[i]'(by omega)) (last.getD i 0) := by rw [crashTo, hgd, ← hab]
  generalize (namesF F)[i]'(by omega) = name at hg hmem hst
  obtain ⟨f, hfn, hfe⟩ : ∃ f, fileOf F2 name = some f ∧ True := by
    cases e : fileOf F2 name with
    | some f => exact ⟨f, rfl, trivial⟩
    | none =>
      obtain ⟨g, hg1, hg2⟩ := List.mem_map.1 hmem
      have := List.find?_eq_none.1 e g hg1
      simp [hg2] at this
  have hfm := (fileOf_mem hfn).1
  have hok := h.ok f hfm
  have hlf := hl f hfm
  have hM := h.grow (hs.sub (a := p) (by simp))
  have hmf := hM.mem hfm
  have fin : ∀ v n s, f.safe + n = s → Bs f.p v (nc (f.l.take s)) → n = lastN f.af (last.getD i 0) → ∃ p' F', Split (mm.set f.bx (fileO v s)) [p', pn, m] ∧ FS p' bf bm q nb ns clock F' ∧ absF F' = crashTo (namesF F) last (absF F) (i + 1) ∧ ∀ f ∈ F', f.l.length ≤ 90000000 := by
    intro v n s hsx hvb hn
    obtain ⟨A, B, rfl, hA, hfname⟩ := fileOf_split hfn
    subst hfname
    obtain ⟨hA, hB⟩ := h.names_of
    have hs2 := hs.set (h.mem hfm) (fileO v s)
    have hp := h.pick.setAt (i := 0) rfl (blk1_same ..) (fileO v s)
    rw [blk1_set] at hp
    have hle : s ≤ f.l.length := by
      have := hok.safe
      subst hn
      unfold lastN at hsx
      simp only [Fl.af] at hsx
      omega
    refine ⟨_, _, hs2, h.put (g := { f with l := f.l.take s, v := v, safe := s }) rfl rfl rfl ⟨hvb, fun x hx => hok.byt x (List.mem_of_mem_take hx), by simp only [List.length_take]; omega, hok.born⟩ hp, ?_, ?_⟩
    · rw [hst]
      refine crash1_split hA hB ?_
      subst hsx
      subst hn
      rfl
    · intro x hx
      rcases List.mem_append.1 hx with hx | hx
      · exact hl x (by simp [hx])
      · rcases List.mem_cons.1 hx with rfl | hx
        · simp only [List.length_take]; omega
        · exact hl x (by simp [hx])
  have hsafe := hok.safe
  conv => whnf
  repeat (refine And.intro (by first | omega | (simp only [times]; omega)) ?_; conv => whnf)
  refine ⟨.string name, by simp only [times, Int.toNat_natCast, Nat.mul_one]; exact hg, rfl, ?_⟩
  conv => whnf
  refine ⟨.map (some bm), mcell_of hM.files rfl, rfl, ?_⟩
  conv => whnf
  refine .mk _ (lookupF hM.map false) ?_
  rintro _ _ ⟨rfl, rfl⟩
  conv => whnf
  rw [hfn]
  conv => whnf
  refine ⟨fun h2 => ?_, fun h2 => ?_⟩
  · have h2' := of_decide_eq_true h2
    have hil : i < last.length := by omega
    clear h2
    obtain ⟨bl, ol, c', hh, hgl⟩ := (hv.sub (hs.sub (a := m) (by simp))).real hil
    injection hh with hh1 _ hh3
    subst hh1
    clear hh3 c'
    have hgl := hgl i hil
    have hx := hI _ (List.getElem_mem hil)
    have hxd : last.getD i 0 = last[i] := by rw [List.getD_eq_getElem?_getD, List.getElem?_eq_getElem hil]; rfl
    rw [hxd] at fin
    generalize last[i] = x at hgl hx fin
    obtain ⟨av, cv, hfv0⟩ := hok.bs.lb.shape
    rw [nc_len] at hfv0
    have ewl : IntKind.i64.wrap ((f.l.length : Int) - (f.safe : Int)) = (f.l.length : Int) - (f.safe : Int) := wi (by omega) (by omega)
    have hnn : min (max x 0) ((f.l.length : Int) - (f.safe : Int)) = ((lastN f.af x : Nat) : Int) := by unfold lastN; simp only [Fl.af]; omega
    have hnl : lastN f.af x ≤ f.l.length - f.safe := by unfold lastN; simp only [Fl.af]; omega
    have hmf0 := hmf
    rw [hfv0] at hmf0
    conv => whnf
    repeat (refine And.intro (by first | omega | (simp only [times]; omega)) ?_; conv => whnf)
    refine ⟨.int .i64 x, by simp only [times, Int.toNat_natCast, Nat.mul_one]; exact hgl, rfl, ?_⟩
    conv => whnf
    refine ⟨.slice av f.l.length cv, mcell_of hmf0 rfl, rfl, ?_⟩
    conv => whnf
    refine ⟨.int .i64 f.safe, mcell_of hmf rfl, rfl, ?_⟩
    conv => whnf
    rw [ewl, hnn]
    generalize hnx : lastN f.af x = n at hnl fin
    conv => whnf
    have hs7 : f.safe + n ≤ f.l.length := by omega
    refine ⟨.int .i64 f.safe, mcell_of hmf rfl, rfl, ?_⟩
    have ew7 : IntKind.i64.wrap ((f.safe : Int) + ((n : Nat) : Int)) = ((f.safe + n : Nat) : Int) := by rw [wi (by omega) (by omega)]; omega
    conv => whnf
    refine ⟨_, _, _, hmf, ⟨Nat.le_refl 2, by simp⟩, ?_⟩
    rw [ew7]
    generalize hsx : f.safe + n = s at hs7 ⊢
    have hmf2 : (mm.set f.bx (fileO f.v s)) f.bx = some (fileO f.v s) := Mem.set_same ..
    rcases hok.bs.lb.cases with ⟨c, hfv, hnil⟩ | ⟨b, o, c, arr, t, fr, hfv, h5⟩
    · have hz : f.l.length = 0 := by simpa using congrArg List.length hnil
      obtain rfl : s = 0 := by omega
      have hc0 : c = 0 := by
        rcases hok.bs with ⟨e1, e2⟩ | ⟨b, o, c', n, arr, e1, _⟩
        · rw [hfv] at e1; injection e1
        · rw [hfv] at e1; cases e1
      subst hc0
      rw [hfv] at hmf2 ⊢
      conv => whnf
      refine ⟨.slice none 0 0, mcell_of hmf2 rfl, rfl, ?_⟩
      conv => whnf
      refine ⟨.int .i64 ((0 : Nat) : Int), mcell_of hmf2 rfl, rfl, ?_⟩
      conv => whnf
      refine ⟨.int .i64 ((0 : Nat) : Int), mcell_of hmf2 rfl, rfl, ?_⟩
      conv => whnf
      repeat (refine And.intro (by first | omega | (simp only [times]; omega)) ?_; conv => whnf)
      refine ⟨_, _, _, hmf2, ⟨Nat.zero_lt_succ _, by simp⟩, ?_⟩
      rw [Mem.set_set]
      conv => whnf
      obtain ⟨p', F', k1, k2, k3⟩ := fin (.slice none 0 0) n 0 hsx (by rw [List.take_zero]; exact Bs.nil _) rfl
      refine ⟨i + 1, ⟨by omega, p', F', k1, k2, k3⟩, by omega, ?_⟩
      conv => whnf
      repeat (refine And.intro (by first | with_reducible rfl | (first | exact congrArg (Value.int _) (iadd (by omega))) | exact congrArg (Value.int _) (wi (by omega) (by omega)) | exact wi (by omega) (by omega) | rfl) ?_; conv => whnf)
      first | exact trivial | exact fun _ _ h => h
    · have hcc : f.l.length ≤ c := by
        rcases hok.bs with ⟨e1, _⟩ | ⟨b, o, c', n, arr, e1, _, _, h6, _⟩
        · rw [hfv] at e1; cases e1
        · rw [hfv, nc_len] at e1; cases e1; exact h6
      rw [nc_len] at hfv
      have hbs : Bs f.p (.slice (some ⟨b, o, none⟩) f.l.length c) (nc f.l) := by rw [← hfv]; exact hok.bs
      rw [hfv] at hmf2 ⊢
      conv => whnf
      refine ⟨.slice (some ⟨b, o, none⟩) f.l.length c, mcell_of hmf2 rfl, rfl, ?_⟩
      conv => whnf
      refine ⟨.int .i64 (s : Int), mcell_of hmf2 rfl, rfl, ?_⟩
      conv => whnf
      refine ⟨.int .i64 (s : Int), mcell_of hmf2 rfl, rfl, ?_⟩
      conv => whnf
      repeat (refine And.intro (by first | omega | (simp only [times]; omega)) ?_; conv => whnf)
      intro o' q1 q2
      obtain rfl : o' = o := by
        by_cases h0 : s = 0
        · have := q2 (by omega); simpa using this
        · have := q1 (by omega); simpa [times] using this
      conv => whnf
      refine ⟨_, _, _, hmf2, ⟨Nat.zero_lt_succ _, by simp⟩, ?_⟩
      rw [Mem.set_set]
      conv => whnf
      have hct := hbs.cutCap' (n := s) (by rw [nc_len]) (by rw [nc_len]; exact hs7)
      rw [show (nc f.l).take s = nc (f.l.take s) by simp [nc, List.map_take]] at hct
      obtain ⟨p', F', k1, k2, k3⟩ := fin (.slice (some ⟨b, o', none⟩) s s) n s hsx hct rfl
      refine ⟨i + 1, ⟨by omega, p', F', k1, k2, k3⟩, by omega, ?_⟩
      conv => whnf
      repeat (refine And.intro (by first | with_reducible rfl | (first | exact congrArg (Value.int _) (iadd (by omega))) | exact congrArg (Value.int _) (wi (by omega) (by omega)) | exact wi (by omega) (by omega) | rfl) ?_; conv => whnf)
      first | exact trivial | exact fun _ _ h => h
  · have h2' := of_decide_eq_false h2
    have hxd : last.getD i 0 = 0 := by rw [List.getD_eq_getElem?_getD, List.getElem?_eq_none (by omega)]; rfl
    rw [hxd] at fin
    have hn0 : 0 = lastN f.af 0 := by unfold lastN; simp only [Fl.af]; omega
    clear h2
    conv => whnf
    have hs7 : f.safe + 0 ≤ f.l.length := by omega
    refine ⟨.int .i64 f.safe, mcell_of hmf rfl, rfl, ?_⟩
    have ew7 : IntKind.i64.wrap ((f.safe : Int) + 0) = ((f.safe + 0 : Nat) : Int) := by rw [wi (by omega) (by omega)]; omega
    conv => whnf
    refine ⟨_, _, _, hmf, ⟨Nat.le_refl 2, by simp⟩, ?_⟩
    rw [ew7]
    generalize hsx : f.safe + 0 = s at hs7 ⊢
    have hmf2 : (mm.set f.bx (fileO f.v s)) f.bx = some (fileO f.v s) := Mem.set_same ..
    rcases hok.bs.lb.cases with ⟨c, hfv, hnil⟩ | ⟨b, o, c, arr, t, fr, hfv, h5⟩
    · have hz : f.l.length = 0 := by simpa using congrArg List.length hnil
      obtain rfl : s = 0 := by omega
      have hc0 : c = 0 := by
        rcases hok.bs with ⟨e1, e2⟩ | ⟨b, o, c', n, arr, e1, _⟩
        · rw [hfv] at e1; injection e1
        · rw [hfv] at e1; cases e1
      subst hc0
      rw [hfv] at hmf2 ⊢
      conv => whnf
      refine ⟨.slice none 0 0, mcell_of hmf2 rfl, rfl, ?_⟩
      conv => whnf
      refine ⟨.int .i64 ((0 : Nat) : Int), mcell_of hmf2 rfl, rfl, ?_⟩
      conv => whnf
      refine ⟨.int .i64 ((0 : Nat) : Int), mcell_of hmf2 rfl, rfl, ?_⟩
      conv => whnf
      repeat (refine And.intro (by first | omega | (simp only [times]; omega)) ?_; conv => whnf)
      refine ⟨_, _, _, hmf2, ⟨Nat.zero_lt_succ _, by simp⟩, ?_⟩
      rw [Mem.set_set]
      conv => whnf
      obtain ⟨p', F', k1, k2, k3⟩ := fin (.slice none 0 0) 0 0 hsx (by rw [List.take_zero]; exact Bs.nil _) hn0
      refine ⟨i + 1, ⟨by omega, p', F', k1, k2, k3⟩, by omega, ?_⟩
      conv => whnf
      repeat (refine And.intro (by first | with_reducible rfl | (first | exact congrArg (Value.int _) (iadd (by omega))) | exact congrArg (Value.int _) (wi (by omega) (by omega)) | exact wi (by omega) (by omega) | rfl) ?_; conv => whnf)
      first | exact trivial | exact fun _ _ h => h
    · have hcc : f.l.length ≤ c := by
        rcases hok.bs with ⟨e1, _⟩ | ⟨b, o, c', n, arr, e1, _, _, h6, _⟩
        · rw [hfv] at e1; cases e1
        · rw [hfv, nc_len] at e1; cases e1; exact h6
      rw [nc_len] at hfv
      have hbs : Bs f.p (.slice (some ⟨b, o, none⟩) f.l.length c) (nc f.l) := by rw [← hfv]; exact hok.bs
      rw [hfv] at hmf2 ⊢
      conv => whnf
      refine ⟨.slice (some ⟨b, o, none⟩) f.l.length c, mcell_of hmf2 rfl, rfl, ?_⟩
      conv => whnf
      refine ⟨.int .i64 (s : Int), mcell_of hmf2 rfl, rfl, ?_⟩
      conv => whnf
      refine ⟨.int .i64 (s : Int), mcell_of hmf2 rfl, rfl, ?_⟩
      conv => whnf
      repeat (refine And.intro (by first | omega | (simp only [times]; omega)) ?_; conv => whnf)
      intro o' q1 q2
      obtain rfl : o' = o := by
        by_cases h0 : s = 0
        · have := q2 (by omega); simpa using this
        · have := q1 (by omega); simpa [times] using this
      conv => whnf
      refine ⟨_, _, _, hmf2, ⟨Nat.zero_lt_succ _, by simp⟩, ?_⟩
      rw [Mem.set_set]
      conv => whnf
      have hct := hbs.cutCap' (n := s) (by rw [nc_len]) (by rw [nc_len]; exact hs7)
      rw [show (nc f.l).take s = nc (f.l.take s) by simp [nc, List.map_take]] at hct
      obtain ⟨p', F', k1, k2, k3⟩ := fin (.slice (some ⟨b, o', none⟩) s s) 0 s hsx hct hn0
      refine ⟨i + 1, ⟨by omega, p', F', k1, k2, k3⟩, by omega, ?_⟩
      conv => whnf
      repeat (refine And.intro (by first | with_reducible rfl | (first | exact congrArg (Value.int _) (iadd (by omega))) | exact congrArg (Value.int _) (wi (by omega) (by omega)) | exact wi (by omega) (by omega) | rfl) ?_; conv => whnf)
      first | exact trivial | exact fun _ _ h => h
end Go.E.YtgjlajcebcmbaaaGreatDoor

/-
  Files, told by names, bytes, and how many are safe.
-/
namespace Go.E.YtgjlajcebcmbaaaGreatDoor
open Go.Proofs
set_option maxRecDepth 100000
def fileA (A : List Af) (name : ByteArray) : Option Af := A.find? fun a => decide (name = a.name)
theorem fileA_abs (F : List Fl) (name : ByteArray) : fileA (absF F) name = (fileOf F name).map Fl.af := by
  unfold fileA fileOf absF
  rw [List.find?_map]
  rfl
def syncA (A : List Af) (name : ByteArray) : List Af := A.map fun a => if a.name = name then { a with safe := a.l.length } else a
def cutA (A : List Af) (name : ByteArray) (n : Nat) : List Af := A.map fun a => if a.name = name then ⟨a.name, a.l.take n, min a.safe n⟩ else a
def rmA (A : List Af) (name : ByteArray) : List Af := A.filter fun a => !decide (a.name = name)
def putA (x : Af) (name : ByteArray) : List Af → List Af
  | [] => [{ x with name := name }]
  | a :: A => if name = a.name then { x with name := name } :: A else a :: putA x name A
def renA (A : List Af) (a b : ByteArray) : List Af := match fileA A a with
  | none => A
  | some x => if nameOk (chs b) then putA x b (rmA A a) else A
def renEA (A : List Af) (a b : ByteArray) : Int := match fileA A a with
  | none => 4
  | some _ => if nameOk (chs b) then 0 else 1
def cutEA (A : List Af) (name : ByteArray) (n : Int) : Int := match fileA A name with
  | none => 4
  | some a => if 0 ≤ n ∧ n ≤ a.l.length then 0 else 1
def cutRA (A : List Af) (name : ByteArray) (n : Int) : List Af := match fileA A name with
  | none => A
  | some a => if 0 ≤ n ∧ n ≤ a.l.length then cutA A name n.toNat else A
def errA (A : List Af) (name : ByteArray) : Int := if (fileA A name).isSome then 0 else 4
theorem isSome_abs (F : List Fl) (name : ByteArray) : (fileOf F name).isSome = (fileA (absF F) name).isSome := by rw [fileA_abs, Option.isSome_map]
theorem sync_abs (F : List Fl) (name : ByteArray) : absF (syncF F name) = syncA (absF F) name := by
  simp only [absF, syncF, mapAt, syncA, List.map_map]
  refine List.map_congr_left fun f _ => ?_
  simp only [Function.comp, Fl.af]
  by_cases h : f.name = name <;> simp [h]
theorem cut_abs (F : List Fl) (name : ByteArray) (n : Nat) (v : Value) : absF (cutF F name n v) = cutA (absF F) name n := by
  simp only [absF, cutF, mapAt, cutA, List.map_map]
  refine List.map_congr_left fun f _ => ?_
  simp only [Function.comp, Fl.af]
  by_cases h : f.name = name <;> simp [h]
theorem rm_abs (F : List Fl) (name : ByteArray) : absF (rmF F name) = rmA (absF F) name := by
  unfold absF rmF rmA
  rw [List.filter_map]; rfl
theorem put_abs (f : Fl) (name : ByteArray) (clock : Nat) : ∀ F : List Fl, absF (putF F f name clock) = putA f.af name (absF F)
  | [] => rfl
  | g :: F => by
    have ih := put_abs f name clock F
    simp only [absF, putF, List.map_cons, putA] at ih ⊢
    by_cases h : name = g.name
    · rw [if_pos h, if_pos (show name = g.af.name from h)]; rfl
    · rw [if_neg h, if_neg (show ¬ name = g.af.name from h), List.map_cons, ih]
theorem ren_abs (F : List Fl) (a b : ByteArray) (clock : Nat) : absF (renF F a b clock) = renA (absF F) a b ∧ renE F a b = renEA (absF F) a b := by
  unfold renF renA renE renEA
  rw [fileA_abs]
  cases fileOf F a with
  | none => exact ⟨rfl, rfl⟩
  | some f =>
    simp only [Option.map_some]
    split
    · exact ⟨by rw [put_abs, rm_abs], by trivial⟩
    · exact ⟨rfl, by trivial⟩
/-- files, in a memory of their own, told so -/
def FA (p : Mem) (bf : Nat) (q : Int) (nb ns : Nat) (A : List Af) : Prop := ∃ bm clock F, FS p bf bm q nb ns clock F ∧ absF F = A
/-- not more than k times this -/
structure Sm (k : Nat) (A : List Af) (nb ns : Nat) : Prop where
  l : ∀ a ∈ A, a.l.length ≤ 500 * k
  n : A.length ≤ k
  nb : nb ≤ 500 * k
  ns : ns ≤ k
  k : k ≤ 1000
theorem totA_le {A : List Af} {b : Nat} (h : ∀ a ∈ A, a.l.length ≤ b) : totA A ≤ b * A.length := by
  induction A with
  | nil => simp [totA]
  | cons a A ih =>
    have h1 := h a (by simp)
    have ih := ih fun x hx => h x (by simp [hx])
    simp only [totA, List.map_cons, List.sum_cons, List.length_cons, Nat.mul_succ] at ih ⊢
    omega
theorem Sm.tot {k : Nat} {A : List Af} {nb ns : Nat} (h : Sm k A nb ns) : totA A ≤ 500000000 := by
  have h1 := totA_le h.l
  have h2 : 500 * k * A.length ≤ 500 * 1000 * 1000 := Nat.mul_le_mul (Nat.mul_le_mul_left _ h.k) (Nat.le_trans h.n h.k)
  omega
section
variable {m mm p : Mem} {bf : Nat} {q : Int} {nb ns k : Nat} {A : List Af} {name : ByteArray}
theorem FA.grow {m : Mem} (h : FA p bf q nb ns A) (hs : Sub p m) : FA m bf q nb ns A := by
  obtain ⟨bm, clock, F, h1, h2⟩ := h
  exact ⟨bm, clock, F, h1.grow hs, h2⟩
theorem abs_mem {F : List Fl} {P : Af → Prop} (h : ∀ a ∈ absF F, P a) : ∀ f ∈ F, P f.af := fun f hf => h f.af (List.mem_map.2 ⟨f, hf, rfl⟩)
theorem safe_A (h : FA m bf q nb ns A) : Ret Tryz.prog 61 [ptrB bf, .v (.string name)] m [i64 (((fileA A name).map (·.safe)).getD 0 : Nat)] := by
  obtain ⟨bm, clock, F, h1, rfl⟩ := h
  have := safe_spec (name := name) h1
  rw [fileA_abs, Option.map_map]
  exact this
theorem counts_A (h : FA m bf q nb ns A) : Ret Tryz.prog 58 [ptrB bf] m [.v (.int .u64 (nb : Int)), .v (.int .u64 (ns : Int))] := by
  obtain ⟨bm, clock, F, h1, rfl⟩ := h
  exact counts_spec h1
theorem used_A (h : FA m bf q nb ns A) (hk : Sm k A nb ns) : Spec Tryz.prog 59 [ptrB bf] m fun r m' => r = [i64 (totA A)] ∧ Sub m m' := by
  obtain ⟨bm, clock, F, h1, rfl⟩ := h
  have ht := hk.tot
  rw [totA_abs] at ht ⊢
  exact used_spec h1 (by omega)
theorem names_A (h : FA m bf q nb ns A) (hk : Sm k A nb ns) : Spec Tryz.prog 41 [ptrB bf] m fun r m' => ∃ v p, r = [.v v] ∧ Split m' [p, m] ∧ So p v (srtB (A.map (·.name))) := by
  obtain ⟨bm, clock, F, h1, rfl⟩ := h
  have := hk.n
  have := hk.k
  rw [abs_names]
  exact names_spec h1 (by rw [List.length_map] at *; omega)
theorem read_A (h : FA m bf q nb ns A) (hk : Sm k A nb ns) : Spec Tryz.prog 36 [ptrB bf, .v (.string name)] m fun r m' => ∃ v p, r = [.v v, i64 (errA A name)] ∧ Split m' [p, m] ∧ Bs p v (nc (((fileA A name).map (·.l)).getD [])) := by
  obtain ⟨bm, clock, F, h1, rfl⟩ := h
  have h2 := abs_mem hk.l
  have := hk.k
  refine (readF_spec (name := name) h1 fun f hf => by have := h2 f hf; simp only [Fl.af] at this; omega).mono fun r m' ⟨v, p, e1, e2, e3⟩ => ⟨v, p, by rw [e1, errA, isSome_abs], e2, ?_⟩
  rw [fileA_abs, Option.map_map]; exact e3
theorem sync_A (h : FA p bf q nb ns A) (hk : Sm k A nb ns) : Spec Tryz.prog 44 [ptrB bf, .v (.string name)] p fun r m' => r = [i64 (errA A name)] ∧ FA m' bf q nb (if (fileA A name).isSome then ns + 1 else ns) (syncA A name) := by
  obtain ⟨bm, clock, F, h1, rfl⟩ := h
  have h3 := hk.ns
  have h4 := hk.k
  refine (sync_spec (name := name) h1 (by omega)).mono fun r m' ⟨e1, e2⟩ => ⟨by rw [e1, errA, isSome_abs], ?_⟩
  rw [isSome_abs] at e2
  exact ⟨bm, clock, _, e2, sync_abs _ _⟩
theorem remove_A (h : FA p bf q nb ns A) : Spec Tryz.prog 54 [ptrB bf, .v (.string name)] p fun r m' => r = [i64 (errA A name)] ∧ FA m' bf q nb ns (rmA A name) := by
  obtain ⟨bm, clock, F, h1, rfl⟩ := h
  exact (remove_spec (name := name) h1).mono fun r m' ⟨e1, e2⟩ => ⟨by rw [e1, errA, isSome_abs], bm, clock, _, e2, rm_abs _ _⟩
theorem rename_A {b : ByteArray} (h : FA p bf q nb ns A) (hb : b.size ≤ 1000000) : Spec Tryz.prog 45 [ptrB bf, .v (.string name), .v (.string b)] p fun r m' => r = [i64 (renEA A name b)] ∧ FA m' bf q nb ns (renA A name b) := by
  obtain ⟨bm, clock, F, h1, rfl⟩ := h
  obtain ⟨r1, r2⟩ := ren_abs F name b clock
  exact (rename_spec (a := name) h1 hb).mono fun r m' ⟨e1, e2⟩ => ⟨by rw [e1, r2], bm, _, _, e2, r1⟩
theorem cut_A {n : Int} (h : FA p bf q nb ns A) (hk : Sm k A nb ns) : Spec Tryz.prog 56 [ptrB bf, .v (.string name), i64 n] p fun r m' => r = [i64 (cutEA A name n)] ∧ FA m' bf q nb ns (cutRA A name n) := by
  obtain ⟨bm, clock, F, h1, rfl⟩ := h
  have h2 := abs_mem hk.l
  have := hk.k
  refine (cut_spec (name := name) (n := n) h1 fun f hf => by have := h2 f hf; simp only [Fl.af] at this; omega).mono fun r m' ⟨e, F', e1, e2, e3⟩ => ?_
  unfold CutR at e3
  unfold cutEA cutRA
  rw [fileA_abs]
  cases hf : fileOf F name with
  | none =>
    rw [hf] at e3
    obtain ⟨rfl, rfl⟩ := e3
    exact ⟨e1, bm, clock, _, e2, rfl⟩
  | some f =>
    rw [hf] at e3
    simp only [Option.map_some, Fl.af] at e3 ⊢
    by_cases hc : 0 ≤ n ∧ n ≤ f.l.length
    · rw [if_pos hc] at e3
      rw [if_pos hc, if_pos hc]
      obtain ⟨rfl, v, rfl⟩ := e3
      exact ⟨e1, bm, clock, _, e2, cut_abs _ _ _ _⟩
    · rw [if_neg hc] at e3
      rw [if_neg hc, if_neg hc]
      obtain ⟨rfl, rfl⟩ := e3
      exact ⟨e1, bm, clock, _, e2, rfl⟩
theorem append_A {vb : Value} {lb : List Nat} (h : FA p bf q nb ns A) (hs : Split mm [p, m]) (hk : Sm k A nb ns) (hv : La m vb (nc lb)) (h256 : ∀ x ∈ lb, x < 256) (hn : name.size ≤ 1000000) (hq : 0 ≤ q ∧ q ≤ 9223372036854775807) (hlb : lb.length ≤ 1000000) :
    Spec Tryz.prog 53 [ptrB bf, .v (.string name), .v vb] mm fun r m' => ∃ e p' A' nb', r = [i64 e] ∧ Split m' [p', m] ∧ FA p' bf q nb' ns A' ∧ AppR A name lb q e A' nb nb' := by
  obtain ⟨bm, clock, F, h1, rfl⟩ := h
  have h2 := abs_mem hk.l
  have h3 := hk.k
  have h4 := hk.nb
  have ht := hk.tot
  rw [totA_abs] at ht
  exact (append_spec' (name := name) h1 hs hv h256 hn hq (fun f hf => by have := h2 f hf; simp only [Fl.af] at this; omega) (by omega) (by omega) (by omega)).mono fun r m' ⟨e, p', F', clock', nb', e1, e2, e3, e4⟩ => ⟨e, p', _, nb', e1, e2, ⟨bm, clock', F', e3, rfl⟩, e4⟩
theorem crash_A {vl : Value} {last : List Int} (h : FA p bf q nb ns A) (hs : Split mm [p, m]) (hk : Sm k A nb ns) (hv : Ia m vl last) (hlast : last.length ≤ 9223372036854775807) (hI : ∀ x ∈ last, -9223372036854775808 ≤ x ∧ x ≤ 9223372036854775807) :
    Spec Tryz.prog 19 [ptrB bf, .v vl] mm fun r m' => ∃ p', r = [] ∧ Split m' [p', m] ∧ FA p' bf q nb ns (crashA A last) := by
  obtain ⟨bm, clock, F, h1, rfl⟩ := h
  have h2 := abs_mem hk.l
  have h3 := hk.k
  have h4 := hk.n
  exact (crash_spec h1 hs hv hlast (fun f hf => by have := h2 f hf; simp only [Fl.af] at this; omega) (by rw [List.length_map] at h4; omega) hI).mono fun r m' ⟨p', F', e1, e2, e3, e4, _⟩ => ⟨p', e1, e2, bm, clock, F', e3, e4⟩
end
end Go.E.YtgjlajcebcmbaaaGreatDoor

/-
  Files: small ones stay small; a quota holds.
-/
namespace Go.E.YtgjlajcebcmbaaaGreatDoor
open Go.Proofs
set_option maxRecDepth 100000
/-- none has more bytes, not more files, not more bytes in all -/
structure Les (A' A : List Af) : Prop where
  l : ∀ b : Nat, (∀ a ∈ A, a.l.length ≤ b) → ∀ a ∈ A', a.l.length ≤ b
  n : A'.length ≤ A.length + 1
  t : totA A' ≤ totA A
theorem Les.refl (A : List Af) : Les A A := ⟨fun _ h => h, by omega, Nat.le_refl _⟩
theorem map_tot {g : Af → Af} (hg : ∀ a, (g a).l.length ≤ a.l.length) : ∀ A : List Af, totA (A.map g) ≤ totA A
  | [] => Nat.le_refl _
  | a :: A => by
    have h1 := map_tot hg A
    have h2 := hg a
    simp only [totA, List.map_cons, List.sum_cons] at h1 ⊢
    omega
theorem map_les {g : Af → Af} (hg : ∀ a, (g a).l.length ≤ a.l.length) (A : List Af) : Les (A.map g) A :=
  ⟨fun b h a ha => by obtain ⟨x, hx, rfl⟩ := List.mem_map.1 ha; exact Nat.le_trans (hg x) (h x hx), by rw [List.length_map]; omega, map_tot hg A⟩
theorem sync_les (A : List Af) (name : ByteArray) : Les (syncA A name) A := map_les (fun a => by split <;> exact Nat.le_refl _) A
theorem cutA_les (A : List Af) (name : ByteArray) (n : Nat) : Les (cutA A name n) A := map_les (fun a => by split <;> first | exact Nat.le_refl _ | (simp only [List.length_take]; omega)) A
theorem cut_les (A : List Af) (name : ByteArray) (n : Int) : Les (cutRA A name n) A := by
  unfold cutRA
  cases fileA A name with
  | none => exact .refl A
  | some a =>
    simp only
    split
    · exact cutA_les ..
    · exact .refl A
theorem crash1_les (A : List Af) (name : ByteArray) (x : Int) : ∀ b : Nat, (∀ a ∈ A, a.l.length ≤ b) → ∀ a ∈ crash1 A name x, a.l.length ≤ b := (map_les (fun a => by split <;> first | exact Nat.le_refl _ | (simp only [List.length_take]; omega)) A).l
theorem crash1_tot (A : List Af) (name : ByteArray) (x : Int) : totA (crash1 A name x) ≤ totA A := map_tot (fun a => by split <;> first | exact Nat.le_refl _ | (simp only [List.length_take]; omega)) A
theorem crashTo_les (N : List ByteArray) (last : List Int) (A : List Af) : ∀ i, (∀ b : Nat, (∀ a ∈ A, a.l.length ≤ b) → ∀ a ∈ crashTo N last A i, a.l.length ≤ b) ∧ (crashTo N last A i).length = A.length ∧ totA (crashTo N last A i) ≤ totA A
  | 0 => ⟨fun _ h => h, rfl, Nat.le_refl _⟩
  | i + 1 => by
    obtain ⟨h1, h2, h3⟩ := crashTo_les N last A i
    exact ⟨fun b h => crash1_les _ _ _ b (h1 b h), by rw [crashTo, crash1, List.length_map, h2], Nat.le_trans (crash1_tot ..) h3⟩
theorem crash_les (A : List Af) (last : List Int) : Les (crashA A last) A := by
  obtain ⟨h1, h2, h3⟩ := crashTo_les (srtB (A.map (·.name))) last A A.length
  exact ⟨h1, by rw [crashA, h2]; omega, h3⟩
theorem rm_tot (A : List Af) (name : ByteArray) : totA (rmA A name) ≤ totA A ∧ ∀ x, fileA A name = some x → totA (rmA A name) + x.l.length ≤ totA A := by
  induction A with
  | nil => exact ⟨Nat.le_refl _, fun x h => by cases h⟩
  | cons a A ih =>
    obtain ⟨h1, h2⟩ := ih
    simp only [rmA, fileA, totA] at h1 h2 ⊢
    rw [List.filter_cons, List.find?_cons]
    by_cases h : a.name = name
    · rw [if_neg (by simp [h])]
      simp only [List.map_cons, List.sum_cons]
      refine ⟨by omega, fun x hx => ?_⟩
      rw [decide_eq_true h.symm] at hx
      cases hx
      omega
    · rw [if_pos (by simp [h])]
      simp only [List.map_cons, List.sum_cons]
      refine ⟨by omega, fun x hx => ?_⟩
      rw [decide_eq_false (fun e => h e.symm)] at hx
      have := h2 x hx
      omega
theorem rm_les (A : List Af) (name : ByteArray) : Les (rmA A name) A := ⟨fun b h a ha => h a (List.mem_filter.1 ha).1, Nat.le_trans (List.length_filter_le _ _) (by omega), (rm_tot A name).1⟩
theorem put_les (x : Af) (name : ByteArray) (A : List Af) : (∀ b : Nat, x.l.length ≤ b → (∀ a ∈ A, a.l.length ≤ b) → ∀ a ∈ putA x name A, a.l.length ≤ b) ∧ (putA x name A).length ≤ A.length + 1 ∧ totA (putA x name A) ≤ totA A + x.l.length := by
  induction A with
  | nil => exact ⟨fun b h _ a ha => by rw [List.mem_singleton.1 ha]; exact h, by simp [putA], by simp [putA, totA]⟩
  | cons y A ih =>
    obtain ⟨h1, h2, h3⟩ := ih
    rw [putA]
    split
    · refine ⟨fun b h hA a ha => ?_, by simp, by simp only [totA, List.map_cons, List.sum_cons]; omega⟩
      rcases List.mem_cons.1 ha with rfl | ha
      · exact h
      · exact hA a (List.mem_cons_of_mem _ ha)
    · refine ⟨fun b h hA a ha => ?_, by simp only [List.length_cons]; omega, by simp only [totA, List.map_cons, List.sum_cons] at h3 ⊢; omega⟩
      rcases List.mem_cons.1 ha with rfl | ha
      · exact hA a (List.mem_cons_self ..)
      · exact h1 b h (fun a ha => hA a (List.mem_cons_of_mem _ ha)) a ha
theorem ren_les (A : List Af) (a b : ByteArray) : Les (renA A a b) A := by
  unfold renA
  cases h : fileA A a with
  | none => exact .refl A
  | some x =>
    simp only
    split
    · obtain ⟨h1, h2, h3⟩ := put_les x b (rmA A a)
      have hr := rm_les A a
      have hx : x ∈ A := List.mem_of_find?_eq_some h
      have ht := (rm_tot A a).2 x h
      have hn : (rmA A a).length ≤ A.length := List.length_filter_le _ _
      exact ⟨fun c hc => h1 c (hc x hx) (hr.l c hc), by omega, by omega⟩
    · exact .refl A
theorem app_tot (name : ByteArray) (lb : List Nat) : ∀ A : List Af, totA (appA A name lb) = totA A + lb.length ∧ (appA A name lb).length ≤ A.length + 1 ∧ ∀ b : Nat, (∀ a ∈ A, a.l.length ≤ b) → ∀ a ∈ appA A name lb, a.l.length ≤ b + lb.length
  | [] => ⟨by simp [appA, totA], by simp [appA], fun b h a ha => by rw [List.mem_singleton.1 ha]; simp⟩
  | x :: A => by
    obtain ⟨h1, h2, h3⟩ := app_tot name lb A
    rw [appA]
    split
    · refine ⟨by simp only [totA, List.map_cons, List.sum_cons, List.length_append]; omega, by simp, fun b h a ha => ?_⟩
      rcases List.mem_cons.1 ha with rfl | ha
      · have := h x (List.mem_cons_self ..)
        simp only [List.length_append]; omega
      · have := h a (List.mem_cons_of_mem _ ha); omega
    · refine ⟨by simp only [totA, List.map_cons, List.sum_cons] at h1 ⊢; omega, by simp only [List.length_cons]; omega, fun b h a ha => ?_⟩
      rcases List.mem_cons.1 ha with rfl | ha
      · have := h a (List.mem_cons_self ..); omega
      · exact h3 b (fun a ha => h a (List.mem_cons_of_mem _ ha)) a ha
theorem Sm.les {k : Nat} {A A' : List Af} {nb ns ns' : Nat} (h : Sm k A nb ns) (hl : Les A' A) (hn : ns' ≤ ns + 1) (hk : k < 1000) : Sm (k + 1) A' nb ns' :=
  ⟨fun a ha => Nat.le_trans (hl.l _ h.l a ha) (by omega), by have := hl.n; have := h.n; omega, by have := h.nb; omega, by have := h.ns; omega, by omega⟩
theorem Sm.app {k : Nat} {A A' : List Af} {nb nb' ns : Nat} {name : ByteArray} {lb : List Nat} {q e : Int} (h : Sm k A nb ns) (hr : AppR A name lb q e A' nb nb') (hb : lb.length ≤ 500) (hk : k < 1000) : Sm (k + 1) A' nb' ns := by
  have h0 : Sm (k + 1) A nb ns := h.les (.refl A) (by omega) hk
  unfold AppR at hr
  split at hr
  · obtain ⟨_, rfl, rfl⟩ := hr; exact h0
  · split at hr
    · obtain ⟨_, rfl, rfl⟩ := hr; exact h0
    · obtain ⟨_, rfl, rfl⟩ := hr
      obtain ⟨_, h2, h3⟩ := app_tot name lb A
      exact ⟨fun a ha => by have := h3 _ h.l a ha; omega, by have := h.n; omega, by have := h.nb; omega, by have := h.ns; omega, by omega⟩
theorem app_quota {A A' : List Af} {nb nb' : Nat} {name : ByteArray} {lb : List Nat} {q e : Int} (hr : AppR A name lb q e A' nb nb') (hq : 0 < q) (h : (totA A : Int) ≤ q) : (totA A' : Int) ≤ q := by
  unfold AppR at hr
  split at hr
  · obtain ⟨_, rfl, rfl⟩ := hr; exact h
  · split at hr
    · obtain ⟨_, rfl, rfl⟩ := hr; exact h
    · obtain ⟨_, rfl, rfl⟩ := hr
      have h1 := (app_tot name lb A).1
      omega
theorem app_full {A A' : List Af} {nb nb' : Nat} {name : ByteArray} {lb : List Nat} {q e : Int} (hr : AppR A name lb q e A' nb nb') (he : e = 5) : A' = A ∧ nb' = nb ∧ 0 < q ∧ q < (totA A + lb.length : Nat) := by
  unfold AppR at hr
  split at hr
  · obtain ⟨h, _⟩ := hr; omega
  · split at hr
    · rename_i h
      exact ⟨hr.2.1, hr.2.2, h⟩
    · obtain ⟨h, _⟩ := hr; omega
theorem app_e {A A' : List Af} {nb nb' : Nat} {name : ByteArray} {lb : List Nat} {q e : Int} (hr : AppR A name lb q e A' nb nb') : e = 0 ∨ e = 1 ∨ e = 5 := by
  unfold AppR at hr
  split at hr
  · exact .inr (.inl hr.1)
  · split at hr
    · exact .inr (.inr hr.1)
    · exact .inl hr.1
theorem Sm.none : Sm 0 [] 0 0 := ⟨by simp, by simp, by omega, by omega, by omega⟩
end Go.E.YtgjlajcebcmbaaaGreatDoor

/-
  Contracts of tree: places.
-/
namespace Go.E.YtgjlajcebcmbaaaGreatDoor
open Go.Proofs
set_option maxRecDepth 100000
namespace Tr
def kids (p : Int) : List Int := if 0 ≤ p ∧ p < 5 then [4 * p + 1, 4 * p + 2, 4 * p + 3, 4 * p + 4] else []
def up (p : Int) : Int := if 0 < p ∧ p < 21 then (p - 1) / 4 else -1
def leafOf (p : Int) : Int := if 5 ≤ p ∧ p < 21 then p - 5 else -1
def kidsL (l : List Int) : List Int := l.flatMap kids
theorem kids_len (p : Int) : (kids p).length ≤ 4 := by unfold kids; split <;> simp
theorem kidsL_len : ∀ (l : List Int), (kidsL l).length ≤ 4 * l.length
  | [] => by simp [kidsL]
  | p :: l => by
    have := kidsL_len l; have := kids_len p
    simp only [kidsL, List.flatMap_cons, List.length_append, List.length_cons] at *; omega
theorem kidsL_in : ∀ {l : List Int}, ∀ k ∈ kidsL l, 1 ≤ k ∧ k ≤ 20 := by
  intro l k hk
  obtain ⟨p, _, hp⟩ := List.mem_flatMap.1 hk
  unfold kids at hp
  split at hp
  · simp at hp; omega
  · simp at hp
end Tr
end Go.E.YtgjlajcebcmbaaaGreatDoor

/-
  Bits of numbers, plainly.
-/
namespace Go.E
theorem ofInt_nat (w a : Nat) : BitVec.ofInt w (a : Int) = BitVec.ofNat w a := by simp
theorem toNat_ofInt {w a : Nat} (h : a < 2 ^ w) : (BitVec.ofInt w (a : Int)).toNat = a := by
  rw [ofInt_nat, BitVec.toNat_ofNat, Nat.mod_eq_of_lt h]
theorem or_u64 {a b : Nat} (ha : a < 2 ^ 64) (hb : b < 2 ^ 64) : bitsOf .or .u64 a b = ((a ||| b : Nat) : Int) := by
  have h := Nat.or_lt_two_pow ha hb
  show IntKind.u64.wrap ((BitVec.ofInt 64 a ||| BitVec.ofInt 64 b).toNat : Int) = _
  rw [BitVec.toNat_or, toNat_ofInt ha, toNat_ofInt hb, wu (by omega) (by omega)]
theorem and_u64 {a b : Nat} (ha : a < 2 ^ 64) (hb : b < 2 ^ 64) : bitsOf .and .u64 a b = ((a &&& b : Nat) : Int) := by
  have h := Nat.and_lt_two_pow a hb
  show IntKind.u64.wrap ((BitVec.ofInt 64 a &&& BitVec.ofInt 64 b).toNat : Int) = _
  rw [BitVec.toNat_and, toNat_ofInt ha, toNat_ofInt hb, wu (by omega) (by omega)]
theorem xor_u64 {a b : Nat} (ha : a < 2 ^ 64) (hb : b < 2 ^ 64) : bitsOf .xor .u64 a b = ((a ^^^ b : Nat) : Int) := by
  have h := Nat.xor_lt_two_pow ha hb
  show IntKind.u64.wrap ((BitVec.ofInt 64 a ^^^ BitVec.ofInt 64 b).toNat : Int) = _
  rw [BitVec.toNat_xor, toNat_ofInt ha, toNat_ofInt hb, wu (by omega) (by omega)]
theorem wu32 {n : Int} (h0 : 0 ≤ n) (h1 : n < 4294967296) : IntKind.u32.wrap n = n := by rw [IntKind.wrap_u32, Int.emod_eq_of_lt h0 h1]
theorem wu8 {n : Int} (h0 : 0 ≤ n) (h1 : n < 256) : IntKind.u8.wrap n = n := by rw [IntKind.wrap_u8, Int.emod_eq_of_lt h0 h1]
theorem or_u32 {a b : Nat} (ha : a < 2 ^ 32) (hb : b < 2 ^ 32) : bitsOf .or .u32 a b = ((a ||| b : Nat) : Int) := by
  have h := Nat.or_lt_two_pow ha hb
  show IntKind.u32.wrap ((BitVec.ofInt 32 a ||| BitVec.ofInt 32 b).toNat : Int) = _
  rw [BitVec.toNat_or, toNat_ofInt ha, toNat_ofInt hb, wu32 (by omega) (by omega)]
theorem and_u32 {a b : Nat} (ha : a < 2 ^ 32) (hb : b < 2 ^ 32) : bitsOf .and .u32 a b = ((a &&& b : Nat) : Int) := by
  have h := Nat.and_lt_two_pow a hb
  show IntKind.u32.wrap ((BitVec.ofInt 32 a &&& BitVec.ofInt 32 b).toNat : Int) = _
  rw [BitVec.toNat_and, toNat_ofInt ha, toNat_ofInt hb, wu32 (by omega) (by omega)]
theorem xor_u32 {a b : Nat} (ha : a < 2 ^ 32) (hb : b < 2 ^ 32) : bitsOf .xor .u32 a b = ((a ^^^ b : Nat) : Int) := by
  have h := Nat.xor_lt_two_pow ha hb
  show IntKind.u32.wrap ((BitVec.ofInt 32 a ^^^ BitVec.ofInt 32 b).toNat : Int) = _
  rw [BitVec.toNat_xor, toNat_ofInt ha, toNat_ofInt hb, wu32 (by omega) (by omega)]
theorem xor_u8 {a b : Nat} (ha : a < 2 ^ 8) (hb : b < 2 ^ 8) : bitsOf .xor .u8 a b = ((a ^^^ b : Nat) : Int) := by
  have h := Nat.xor_lt_two_pow ha hb
  show IntKind.u8.wrap ((BitVec.ofInt 8 a ^^^ BitVec.ofInt 8 b).toNat : Int) = _
  rw [BitVec.toNat_xor, toNat_ofInt ha, toNat_ofInt hb, wu8 (by omega) (by omega)]
/-- low bits below, the rest above -/
theorem or_low {a c : Nat} (k : Nat) (hc : c < 2 ^ k) : (a * 2 ^ k) ||| c = a * 2 ^ k + c := by
  rw [Nat.mul_comm, Nat.two_pow_add_eq_or_of_lt hc]
/-- all bits turned -/
theorem not_i64 {n : Int} (h0 : -9223372036854775808 ≤ n) (h1 : n ≤ 9223372036854775807) : bitsOf .xor .i64 (if IntKind.i64.signed = true then -1 else IntKind.i64.max) n = -n - 1 := by
  show IntKind.i64.wrap ((BitVec.ofInt 64 (-1) ^^^ BitVec.ofInt 64 n).toNat : Int) = _
  have e : BitVec.ofInt 64 (-1) = BitVec.allOnes 64 := by rfl
  have e2 : BitVec.allOnes 64 ^^^ BitVec.ofInt 64 n = ~~~ (BitVec.ofInt 64 n) := BitVec.allOnes_xor
  rw [e, e2, BitVec.toNat_not, BitVec.toNat_ofInt, IntKind.wrap_i64]
  omega
theorem not_u32 {n : Nat} (h1 : n < 2 ^ 32) : bitsOf .xor .u32 (if IntKind.u32.signed = true then -1 else IntKind.u32.max) n = ((4294967295 - n : Nat) : Int) := by
  show IntKind.u32.wrap ((BitVec.ofInt 32 4294967295 ^^^ BitVec.ofInt 32 n).toNat : Int) = _
  have e : BitVec.ofInt 32 4294967295 = BitVec.allOnes 32 := by rfl
  have e2 : BitVec.allOnes 32 ^^^ BitVec.ofInt 32 n = ~~~ (BitVec.ofInt 32 n) := BitVec.allOnes_xor
  rw [e, e2, BitVec.toNat_not, toNat_ofInt h1, wu32 (by omega) (by omega)]
theorem shr_nat {k : IntKind} {x n : Nat} (hn : n ≤ k.bits) : shrOf k (x : Int) (n : Int) = ((x / 2 ^ n : Nat) : Int) := by
  show (x : Int).fdiv (2 ^ (min ((n : Int).toNat) k.bits)) = _
  rw [Int.toNat_natCast, Nat.min_eq_left hn, Int.fdiv_eq_ediv_of_nonneg _ (Int.le_of_lt (Int.pow_pos (by decide)))]
  simp
theorem shl_u64 {x n : Nat} (hn : n ≤ 64) (hx : x * 2 ^ n < 18446744073709551616) : shlOf .u64 (x : Int) (n : Int) = ((x * 2 ^ n : Nat) : Int) := by
  show IntKind.u64.wrap ((x : Int) * 2 ^ (min ((n : Int).toNat) 64)) = _
  have : ((x : Int) * 2 ^ n) = ((x * 2 ^ n : Nat) : Int) := by simp
  rw [Int.toNat_natCast, Nat.min_eq_left hn, this, wu (by omega) (by omega)]
theorem tmod_nat (a b : Nat) : Int.tmod (a : Int) (b : Int) = ((a % b : Nat) : Int) := by rw [Int.tmod_eq_emod_of_nonneg (by omega)]; omega
theorem tdiv_nat (a b : Nat) : Int.tdiv (a : Int) (b : Int) = ((a / b : Nat) : Int) := by rw [Int.tdiv_eq_ediv_of_nonneg (by omega)]; omega
end Go.E

/-
  The digest, plainly.
-/
namespace Go.E
namespace Sha
abbrev M : Nat := 4294967296
def rotr (x n : Nat) : Nat := (x * 2 ^ (32 - n)) % M ||| x / 2 ^ n
def s0 (x : Nat) : Nat := rotr x 7 ^^^ rotr x 18 ^^^ x / 8
def s1 (x : Nat) : Nat := rotr x 17 ^^^ rotr x 19 ^^^ x / 1024
def S1 (x : Nat) : Nat := rotr x 6 ^^^ rotr x 11 ^^^ rotr x 25
def S0 (x : Nat) : Nat := rotr x 2 ^^^ rotr x 13 ^^^ rotr x 22
def ch (e f g : Nat) : Nat := (e &&& f) ^^^ ((4294967295 - e) &&& g)
def maj (a b c : Nat) : Nat := (a &&& b) ^^^ (a &&& c) ^^^ (b &&& c)
def K : List Nat := [
  0x428a2f98, 0x71374491, 0xb5c0fbcf, 0xe9b5dba5, 0x3956c25b, 0x59f111f1, 0x923f82a4, 0xab1c5ed5,
  0xd807aa98, 0x12835b01, 0x243185be, 0x550c7dc3, 0x72be5d74, 0x80deb1fe, 0x9bdc06a7, 0xc19bf174,
  0xe49b69c1, 0xefbe4786, 0x0fc19dc6, 0x240ca1cc, 0x2de92c6f, 0x4a7484aa, 0x5cb0a9dc, 0x76f988da,
  0x983e5152, 0xa831c66d, 0xb00327c8, 0xbf597fc7, 0xc6e00bf3, 0xd5a79147, 0x06ca6351, 0x14292967,
  0x27b70a85, 0x2e1b2138, 0x4d2c6dfc, 0x53380d13, 0x650a7354, 0x766a0abb, 0x81c2c92e, 0x92722c85,
  0xa2bfe8a1, 0xa81a664b, 0xc24b8b70, 0xc76c51a3, 0xd192e819, 0xd6990624, 0xf40e3585, 0x106aa070,
  0x19a4c116, 0x1e376c08, 0x2748774c, 0x34b0bcb5, 0x391c0cb3, 0x4ed8aa4a, 0x5b9cca4f, 0x682e6ff3,
  0x748f82ee, 0x78a5636f, 0x84c87814, 0x8cc70208, 0x90befffa, 0xa4506ceb, 0xbef9a3f7, 0xc67178f2]
def H0 : List Nat := [0x6a09e667, 0xbb67ae85, 0x3c6ef372, 0xa54ff53a, 0x510e527f, 0x9b05688c, 0x1f83d9ab, 0x5be0cd19]
/-- the t-th word of a block, by those ahead of it -/
def word (b w : List Nat) (t : Nat) : Nat :=
  if t < 16 then b.getD (4 * t) 0 * 16777216 + b.getD (4 * t + 1) 0 * 65536 + b.getD (4 * t + 2) 0 * 256 + b.getD (4 * t + 3) 0
  else (w.getD (t - 16) 0 + s0 (w.getD (t - 15) 0) + w.getD (t - 7) 0 + s1 (w.getD (t - 2) 0)) % M
def words (b : List Nat) : Nat → List Nat
  | 0 => []
  | t + 1 => words b t ++ [word b (words b t) t]
def step (k w : Nat) (v : List Nat) : List Nat :=
  let x := (v.getD 7 0 + S1 (v.getD 4 0) + ch (v.getD 4 0) (v.getD 5 0) (v.getD 6 0) + k + w) % M
  let y := (S0 (v.getD 0 0) + maj (v.getD 0 0) (v.getD 1 0) (v.getD 2 0)) % M
  [(x + y) % M, v.getD 0 0, v.getD 1 0, v.getD 2 0, (v.getD 3 0 + x) % M, v.getD 4 0, v.getD 5 0, v.getD 6 0]
def rounds (w v : List Nat) : Nat → List Nat
  | 0 => v
  | t + 1 => step (K.getD t 0) (w.getD t 0) (rounds w v t)
def add8 (h v : List Nat) : List Nat := (List.range 8).map fun i => (h.getD i 0 + v.getD i 0) % M
def block (h b : List Nat) : List Nat := add8 h (rounds (words b 64) h 64)
/-- how many zeros stand behind n bytes and the mark -/
def zeros (n : Nat) : Nat := (119 - n % 64) % 64
def be8 (n : Nat) : List Nat := (List.range 8).map fun i => n / 256 ^ (7 - i) % 256
def pad (b : List Nat) : List Nat := b ++ [128] ++ List.replicate (zeros b.length) 0 ++ be8 (8 * b.length)
def blocks (h : List Nat) : Nat → List Nat → List Nat
  | 0, _ => h
  | n + 1, p => blocks (block h (p.take 64)) n (p.drop 64)
def digest (h : List Nat) : List Nat := (List.range 32).map fun i => h.getD (i / 4) 0 / 256 ^ (3 - i % 4) % 256
def sum (b : List Nat) : List Nat := digest (blocks H0 ((pad b).length / 64) (pad b))
def point (b : List Nat) : Nat := (List.range 8).foldl (fun n i => n * 256 + (sum b).getD i 0) 0

/-- the same, in the way of one who must reckon: each number is made plain ahead of the next -/
noncomputable def natK {α : Type} (n : Nat) (k : Nat → α) : α := Nat.rec (motive := fun _ => α) (k 0) (fun m _ => k (m + 1)) n
theorem natK_eq {α : Type} (n : Nat) (k : Nat → α) : natK n k = k n := by cases n <;> rfl
noncomputable def listK {α : Type} : List Nat → (List Nat → α) → α
  | [], k => k []
  | x :: l, k => natK x fun x => listK l fun l => k (x :: l)
theorem listK_eq {α : Type} : ∀ (l : List Nat) (k : List Nat → α), listK l k = k l
  | [], _ => rfl
  | x :: l, k => by simp only [listK, natK_eq, listK_eq l]
noncomputable def wordsK {α : Type} (b : List Nat) : Nat → (List Nat → α) → α
  | 0, k => k []
  | t + 1, k => wordsK b t fun w => natK (word b w t) fun x => k (w ++ [x])
theorem wordsK_eq {α : Type} (b : List Nat) : ∀ (t : Nat) (k : List Nat → α), wordsK b t k = k (words b t)
  | 0, _ => rfl
  | t + 1, k => by simp only [wordsK, words, natK_eq, wordsK_eq b t]
noncomputable def iterK {α : Type} (f : Nat → List Nat → List Nat) (v : List Nat) : Nat → (List Nat → α) → α
  | 0, k => listK v k
  | t + 1, k => iterK f v t fun v => listK (f t v) k
def iter (f : Nat → List Nat → List Nat) (v : List Nat) : Nat → List Nat
  | 0 => v
  | t + 1 => f t (iter f v t)
theorem iterK_eq {α : Type} (f : Nat → List Nat → List Nat) (v : List Nat) : ∀ (t : Nat) (k : List Nat → α), iterK f v t k = k (iter f v t)
  | 0, k => by simp only [iterK, iter, listK_eq]
  | t + 1, k => by simp only [iterK, iter, listK_eq, iterK_eq f v t]
theorem iter_rounds (w v : List Nat) : ∀ t, iter (fun t v => step (K.getD t 0) (w.getD t 0) v) v t = rounds w v t
  | 0 => rfl
  | t + 1 => by rw [iter, iter_rounds w v t]; rfl
noncomputable def roundsK {α : Type} (w v : List Nat) (t : Nat) (k : List Nat → α) : α := iterK (fun t v => step (K.getD t 0) (w.getD t 0) v) v t k
theorem roundsK_eq {α : Type} (w v : List Nat) (t : Nat) (k : List Nat → α) : roundsK w v t k = k (rounds w v t) := by
  rw [roundsK, iterK_eq, iter_rounds]
noncomputable def blockK {α : Type} (h b : List Nat) (k : List Nat → α) : α := listK b fun b => wordsK b 64 fun w => listK w fun w => roundsK w h 64 fun v => listK (add8 h v) k
theorem blockK_eq {α : Type} (h b : List Nat) (k : List Nat → α) : blockK h b k = k (block h b) := by
  rw [blockK, listK_eq, wordsK_eq, listK_eq, roundsK_eq, listK_eq, block]
noncomputable def blocksK {α : Type} (h : List Nat) : Nat → List Nat → (List Nat → α) → α
  | 0, _, k => k h
  | n + 1, p, k => blockK h (p.take 64) fun h' => listK (p.drop 64) fun p' => blocksK h' n p' k
theorem blocksK_eq {α : Type} : ∀ (n : Nat) (h p : List Nat) (k : List Nat → α), blocksK h n p k = k (blocks h n p)
  | 0, _, _, _ => rfl
  | n + 1, h, p, k => by simp only [blocksK, blocks, blockK_eq, listK_eq, blocksK_eq n]
noncomputable def sumK (b : List Nat) : List Nat := listK (pad b) fun p => blocksK H0 (p.length / 64) p fun h => listK (digest h) fun d => d
theorem sumK_eq (b : List Nat) : sumK b = sum b := by simp only [sumK, listK_eq, blocksK_eq, sum]
end Sha
end Go.E

/-
  Contracts of sha: words.
-/
namespace Go.E.YtgjlajcebcmbaaaGreatDoor
open Go.Proofs
set_option maxRecDepth 100000
abbrev u32 (n : Int) : CV := .v (.int .u32 n)
theorem rotl_arg {n : Nat} (h1 : 1 ≤ n) (h2 : n ≤ 31) : bitsOf .and .u64 (IntKind.u64.wrap (IntKind.i64.wrap (0 - (n : Int)))) 31 = ((32 - n : Nat) : Int) := by
  have e : IntKind.u64.wrap (IntKind.i64.wrap (0 - (n : Int))) = ((18446744073709551616 - n : Nat) : Int) := by
    rw [wi (by omega) (by omega), IntKind.wrap_u64]; omega
  have e2 := and_u64 (a := 18446744073709551616 - n) (b := 31) (by omega) (by omega)
  rw [e]
  refine e2.trans ?_
  have : (18446744073709551616 - n) &&& 31 = (18446744073709551616 - n) % 2 ^ 5 := Nat.and_two_pow_sub_one_eq_mod (18446744073709551616 - n) 5
  rw [this]; omega
theorem shl_u32 {x n : Nat} (hn : n ≤ 32) : shlOf .u32 (x : Int) (n : Int) = ((x * 2 ^ n % Sha.M : Nat) : Int) := by
  show IntKind.u32.wrap ((x : Int) * 2 ^ (min ((n : Int).toNat) 32)) = _
  rw [Int.toNat_natCast, Nat.min_eq_left hn, IntKind.wrap_u32]
  have : ((x : Int) * 2 ^ n) = ((x * 2 ^ n : Nat) : Int) := by simp
  rw [this]; rfl
theorem rotr_lt {x n : Nat} (hx : x < 2 ^ 32) : Sha.rotr x n < 2 ^ 32 := Nat.or_lt_two_pow (Nat.mod_lt _ (by decide)) (Nat.lt_of_le_of_lt (Nat.div_le_self ..) hx)
/-- the first i words of 64 -/
def wc (b : List Nat) (i : Nat) : List Int := (Sha.words b i).map (fun (n : Nat) => (n : Int)) ++ List.replicate (64 - i) 0
theorem words_len (b : List Nat) : ∀ t, (Sha.words b t).length = t
  | 0 => rfl
  | t + 1 => by simp [Sha.words, words_len b t]
theorem wc_get {b : List Nat} {i j : Nat} (h : j < i) : (wc b i).getD j 0 = (((Sha.words b i).getD j 0 : Nat) : Int) := by
  have hl := words_len b i
  simp only [wc, List.getD_eq_getElem?_getD]
  rw [List.getElem?_append_left (by simp [hl, h]), List.getElem?_map, List.getElem?_eq_getElem (by omega)]
  rfl
theorem wc_set {b : List Nat} {i : Nat} {x : Int} (h : i < 64) (hx : x = ((Sha.word b (Sha.words b i) i : Nat) : Int)) : (wc b i).set i x = wc b (i + 1) := by
  have hl := words_len b i
  have e : List.replicate (64 - i) (0 : Int) = 0 :: List.replicate (64 - (i + 1)) 0 := by
    rw [← List.replicate_succ]; congr 1; omega
  rw [wc, e, List.set_append_right _ _ (by simp [hl]), wc, Sha.words, hx]
  simp [hl]
theorem word_lt {b : List Nat} (hb : ∀ x ∈ b, x < 256) (w : List Nat) (t : Nat) : Sha.word b w t < 2 ^ 32 := by
  have g : ∀ k, b.getD k 0 < 256 := fun k => by
    simp only [List.getD_eq_getElem?_getD]
    cases h : b[k]? with
    | none => simp
    | some x => simpa using hb x (List.mem_of_getElem? h)
  unfold Sha.word
  split
  · have := g (4 * t); have := g (4 * t + 1); have := g (4 * t + 2); have := g (4 * t + 3); omega
  · exact Nat.mod_lt _ (by decide)
theorem words_lt {b : List Nat} (hb : ∀ x ∈ b, x < 256) : ∀ (t : Nat) (k : Nat), (Sha.words b t).getD k 0 < 2 ^ 32
  | 0, k => by simp [Sha.words]
  | t + 1, k => by
    have ih := words_lt hb t k
    have hl := words_len b t
    simp only [Sha.words, List.getD_eq_getElem?_getD] at ih ⊢
    rcases Nat.lt_trichotomy k t with h | h | h
    · rw [List.getElem?_append_left (by omega)]; exact ih
    · subst h; rw [List.getElem?_append_right (by omega), hl]; simpa using word_lt hb _ _
    · rw [List.getElem?_eq_none (by simp; omega)]; simp
theorem Lb.at {m : Mem} {b o n c j : Nat} {l : List Int} (h : Lb m (.slice (some ⟨b, o, none⟩) n c) l) {x : Int} (hj : l[j]? = some x) : mcell m b (o + j) = some (.int .u8 x) := by
  obtain ⟨arr, t, fr, h1, h2⟩ := h.range
  exact mcell_of h1 (h2 j _ (by simp [hj]))
theorem be4_nat {a b c d : Nat} (ha : a < 256) (hb : b < 256) (hc : c < 256) (hd : d < 256) :
    ((a * 2 ^ 24 % 4294967296 ||| b * 2 ^ 16 % 4294967296) ||| c * 2 ^ 8 % 4294967296) ||| d = a * 16777216 + b * 65536 + c * 256 + d := by
  have q24 : (2 : Nat) ^ 24 = 16777216 := rfl
  have q16 : (2 : Nat) ^ 16 = 65536 := rfl
  have q8 : (2 : Nat) ^ 8 = 256 := rfl
  have m1 := @or_low a (b * 65536) 24
  have m2 := @or_low (a * 256 + b) (c * 256) 16
  have m3 := @or_low (a * 65536 + b * 256 + c) d 8
  rw [q24] at m1 ⊢
  rw [q16] at m2 ⊢
  rw [q8] at m3 ⊢
  have m1 := m1 (by omega)
  have m2 := m2 (by omega)
  have m3 := m3 (by omega)
  rw [Nat.mod_eq_of_lt (show a * 16777216 < 4294967296 by omega), Nat.mod_eq_of_lt (show b * 65536 < 4294967296 by omega), Nat.mod_eq_of_lt (show c * 256 < 4294967296 by omega), m1,
    show a * 16777216 + b * 65536 = (a * 256 + b) * 65536 by omega, m2, show (a * 256 + b) * 65536 + c * 256 = (a * 65536 + b * 256 + c) * 256 by omega, m3, show (a * 65536 + b * 256 + c) * 256 + d = a * 16777216 + b * 65536 + c * 256 + d by omega]
theorem be4_int {a b c d : Nat} (ha : a < 256) (hb : b < 256) (hc : c < 256) (hd : d < 256) :
    bitsOf .or .u32 (bitsOf .or .u32 (bitsOf .or .u32 (shlOf .u32 (a : Int) 24) (shlOf .u32 (b : Int) 16)) (shlOf .u32 (c : Int) 8)) (d : Int) = ((a * 16777216 + b * 65536 + c * 256 + d : Nat) : Int) := by
  have ea := shl_u32 (x := a) (n := 24) (by decide)
  have eb := shl_u32 (x := b) (n := 16) (by decide)
  have ec := shl_u32 (x := c) (n := 8) (by decide)
  rw [show ((24 : Int)) = ((24 : Nat) : Int) from rfl, show ((16 : Int)) = ((16 : Nat) : Int) from rfl, show ((8 : Int)) = ((8 : Nat) : Int) from rfl, ea, eb, ec]
  have p1 : a * 2 ^ 24 % Sha.M < 2 ^ 32 := Nat.mod_lt _ (by decide)
  have p2 : b * 2 ^ 16 % Sha.M < 2 ^ 32 := Nat.mod_lt _ (by decide)
  have p3 : c * 2 ^ 8 % Sha.M < 2 ^ 32 := Nat.mod_lt _ (by decide)
  rw [or_u32 p1 p2, or_u32 (Nat.or_lt_two_pow p1 p2) p3, or_u32 (Nat.or_lt_two_pow (Nat.or_lt_two_pow p1 p2) p3) (Nat.lt_of_lt_of_le hd (by decide)), be4_nat ha hb hc hd]
theorem getD_lt {bs : List Nat} {n : Nat} (hn : 0 < n) (hb : ∀ x ∈ bs, x < n) (k : Nat) : bs.getD k 0 < n := by
  simp only [List.getD_eq_getElem?_getD]
  cases h : bs[k]? with
  | none => simpa using hn
  | some x => simpa using hb x (List.mem_of_getElem? h)
theorem w32 {a : Nat} (h : a < 256) : IntKind.u32.wrap (a : Int) = (a : Int) := wu32 (by omega) (by omega)
theorem word_bytes {bs : List Nat} (hb : ∀ x ∈ bs, x < 256) {i : Nat} (hi : i < 16) {w : List Nat} :
    bitsOf .or .u32 (bitsOf .or .u32 (bitsOf .or .u32 (shlOf .u32 (IntKind.u32.wrap ((bs.getD (4 * i + 0) 0 : Nat) : Int)) 24) (shlOf .u32 (IntKind.u32.wrap ((bs.getD (4 * i + 1) 0 : Nat) : Int)) 16)) (shlOf .u32 (IntKind.u32.wrap ((bs.getD (4 * i + 2) 0 : Nat) : Int)) 8)) (IntKind.u32.wrap ((bs.getD (4 * i + 3) 0 : Nat) : Int))
      = ((Sha.word bs w i : Nat) : Int) := by
  have g := getD_lt (by decide) hb
  rw [w32 (g _), w32 (g _), w32 (g _), w32 (g _), be4_int (g _) (g _) (g _) (g _), Sha.word, if_pos hi, Nat.add_zero]
theorem add_u32 (a b : Nat) : IntKind.u32.wrap ((a : Int) + (b : Int)) = (((a + b) % Sha.M : Nat) : Int) := by
  rw [IntKind.wrap_u32, ← Int.natCast_add]; rfl
theorem s0_eq {x : Nat} (hx : x < 2 ^ 32) : bitsOf .xor .u32 (bitsOf .xor .u32 ((Sha.rotr x 7 : Nat) : Int) ((Sha.rotr x 18 : Nat) : Int)) (shrOf .u32 (x : Int) 3) = ((Sha.s0 x : Nat) : Int) := by
  have e := shr_nat (k := .u32) (x := x) (n := 3) (by decide)
  rw [show ((3 : Int)) = ((3 : Nat) : Int) from rfl, e, xor_u32 (rotr_lt hx) (rotr_lt hx), xor_u32 (Nat.xor_lt_two_pow (rotr_lt hx) (rotr_lt hx)) (Nat.lt_of_le_of_lt (Nat.div_le_self ..) hx)]
  rfl
theorem s1_eq {x : Nat} (hx : x < 2 ^ 32) : bitsOf .xor .u32 (bitsOf .xor .u32 ((Sha.rotr x 17 : Nat) : Int) ((Sha.rotr x 19 : Nat) : Int)) (shrOf .u32 (x : Int) 10) = ((Sha.s1 x : Nat) : Int) := by
  have e := shr_nat (k := .u32) (x := x) (n := 10) (by decide)
  rw [show ((10 : Int)) = ((10 : Nat) : Int) from rfl, e, xor_u32 (rotr_lt hx) (rotr_lt hx), xor_u32 (Nat.xor_lt_two_pow (rotr_lt hx) (rotr_lt hx)) (Nat.lt_of_le_of_lt (Nat.div_le_self ..) hx)]
  rfl
theorem mod4 (a b c d : Nat) : (((a + b) % Sha.M + c) % Sha.M + d) % Sha.M = (a + b + c + d) % Sha.M := by show (((a + b) % 4294967296 + c) % 4294967296 + d) % 4294967296 = (a + b + c + d) % 4294967296; omega
theorem word_later {bs : List Nat} {i : Nat} (hw : ∀ k, (Sha.words bs i).getD k 0 < 2 ^ 32) (hi : 16 ≤ i) :
    IntKind.u32.wrap (IntKind.u32.wrap (IntKind.u32.wrap ((((Sha.words bs i).getD (i - 16) 0 : Nat) : Int) + bitsOf .xor .u32 (bitsOf .xor .u32 ((Sha.rotr ((Sha.words bs i).getD (i - 15) 0) 7 : Nat) : Int) ((Sha.rotr ((Sha.words bs i).getD (i - 15) 0) 18 : Nat) : Int)) (shrOf .u32 (((Sha.words bs i).getD (i - 15) 0 : Nat) : Int) 3)) + (((Sha.words bs i).getD (i - 7) 0 : Nat) : Int))
      + bitsOf .xor .u32 (bitsOf .xor .u32 ((Sha.rotr ((Sha.words bs i).getD (i - 2) 0) 17 : Nat) : Int) ((Sha.rotr ((Sha.words bs i).getD (i - 2) 0) 19 : Nat) : Int)) (shrOf .u32 (((Sha.words bs i).getD (i - 2) 0 : Nat) : Int) 10)) = ((Sha.word bs (Sha.words bs i) i : Nat) : Int) := by
  rw [s0_eq (hw _), s1_eq (hw _), add_u32, add_u32, add_u32, mod4, Sha.word, if_neg (by omega)]
end Go.E.YtgjlajcebcmbaaaGreatDoor

/-
  Contracts of sha: a block.
-/
namespace Go.E.YtgjlajcebcmbaaaGreatDoor
open Go.Proofs
set_option maxRecDepth 100000
theorem nc_get (l : List Nat) (k : Nat) : (nc l).getD k 0 = ((l.getD k 0 : Nat) : Int) := by
  simp only [nc, List.getD_eq_getElem?_getD, List.getElem?_map]
  cases l[k]? <;> rfl
/-- eight words -/
structure W8 (v : List Nat) : Prop where
  len : v.length = 8
  lt : ∀ k, v.getD k 0 < 2 ^ 32
theorem step_w8 {k w : Nat} {v : List Nat} (h : W8 v) : W8 (Sha.step k w v) := by
  refine ⟨rfl, fun j => getD_lt (by decide) (fun x hx => ?_) j⟩
  simp only [Sha.step, List.mem_cons, List.not_mem_nil, or_false] at hx
  rcases hx with rfl | rfl | rfl | rfl | rfl | rfl | rfl | rfl
  · exact Nat.mod_lt _ (by decide)
  · exact h.lt 0
  · exact h.lt 1
  · exact h.lt 2
  · exact Nat.mod_lt _ (by decide)
  · exact h.lt 4
  · exact h.lt 5
  · exact h.lt 6
theorem rounds_w8 {w v : List Nat} (h : W8 v) : ∀ t, W8 (Sha.rounds w v t)
  | 0 => h
  | t + 1 => step_w8 (rounds_w8 h t)
theorem xor3 {a b c : Nat} (ha : a < 2 ^ 32) (hb : b < 2 ^ 32) (hc : c < 2 ^ 32) : bitsOf .xor .u32 (bitsOf .xor .u32 (a : Int) (b : Int)) (c : Int) = ((a ^^^ b ^^^ c : Nat) : Int) := by
  rw [xor_u32 ha hb, xor_u32 (Nat.xor_lt_two_pow ha hb) hc]
theorem and_lt {a b : Nat} (ha : a < 2 ^ 32) : a &&& b < 2 ^ 32 := Nat.lt_of_le_of_lt Nat.and_le_left ha
theorem ch_eq {e f g : Nat} (he : e < 2 ^ 32) (hf : f < 2 ^ 32) (hg : g < 2 ^ 32) :
    bitsOf .xor .u32 (bitsOf .and .u32 (e : Int) (f : Int)) (bitsOf .and .u32 (bitsOf .xor .u32 (if IntKind.u32.signed = true then -1 else IntKind.u32.max) (e : Int)) (g : Int)) = ((Sha.ch e f g : Nat) : Int) := by
  have hn : 4294967295 - e < 2 ^ 32 := by omega
  rw [not_u32 he, and_u32 he hf, and_u32 hn hg, xor_u32 (and_lt he) (and_lt hn)]; rfl
theorem maj_eq {a b c : Nat} (ha : a < 2 ^ 32) (hb : b < 2 ^ 32) (hc : c < 2 ^ 32) :
    bitsOf .xor .u32 (bitsOf .xor .u32 (bitsOf .and .u32 (a : Int) (b : Int)) (bitsOf .and .u32 (a : Int) (c : Int))) (bitsOf .and .u32 (b : Int) (c : Int)) = ((Sha.maj a b c : Nat) : Int) := by
  rw [and_u32 ha hb, and_u32 ha hc, and_u32 hb hc, xor3 (and_lt ha) (and_lt ha) (and_lt hb)]; rfl
theorem mod5 (a b c d e : Nat) : ((((a + b) % Sha.M + c) % Sha.M + d) % Sha.M + e) % Sha.M = (a + b + c + d + e) % Sha.M := by
  show ((((a + b) % 4294967296 + c) % 4294967296 + d) % 4294967296 + e) % 4294967296 = (a + b + c + d + e) % 4294967296; omega
theorem x_eq {v : List Nat} (h : W8 v) (k w : Nat) :
    IntKind.u32.wrap (IntKind.u32.wrap (IntKind.u32.wrap (IntKind.u32.wrap (((v.getD 7 0 : Nat) : Int) + bitsOf .xor .u32 (bitsOf .xor .u32 ((Sha.rotr (v.getD 4 0) 6 : Nat) : Int) ((Sha.rotr (v.getD 4 0) 11 : Nat) : Int)) ((Sha.rotr (v.getD 4 0) 25 : Nat) : Int))
      + bitsOf .xor .u32 (bitsOf .and .u32 ((v.getD 4 0 : Nat) : Int) ((v.getD 5 0 : Nat) : Int)) (bitsOf .and .u32 (bitsOf .xor .u32 (if IntKind.u32.signed = true then -1 else IntKind.u32.max) ((v.getD 4 0 : Nat) : Int)) ((v.getD 6 0 : Nat) : Int))) + (k : Int)) + (w : Int))
      = (((v.getD 7 0 + Sha.S1 (v.getD 4 0) + Sha.ch (v.getD 4 0) (v.getD 5 0) (v.getD 6 0) + k + w) % Sha.M : Nat) : Int) := by
  rw [xor3 (rotr_lt (h.lt 4)) (rotr_lt (h.lt 4)) (rotr_lt (h.lt 4)), ch_eq (h.lt 4) (h.lt 5) (h.lt 6), add_u32, add_u32, add_u32, add_u32, mod5]; rfl
theorem y_eq {v : List Nat} (h : W8 v) :
    IntKind.u32.wrap (bitsOf .xor .u32 (bitsOf .xor .u32 ((Sha.rotr (v.getD 0 0) 2 : Nat) : Int) ((Sha.rotr (v.getD 0 0) 13 : Nat) : Int)) ((Sha.rotr (v.getD 0 0) 22 : Nat) : Int)
      + bitsOf .xor .u32 (bitsOf .xor .u32 (bitsOf .and .u32 ((v.getD 0 0 : Nat) : Int) ((v.getD 1 0 : Nat) : Int)) (bitsOf .and .u32 ((v.getD 0 0 : Nat) : Int) ((v.getD 2 0 : Nat) : Int))) (bitsOf .and .u32 ((v.getD 1 0 : Nat) : Int) ((v.getD 2 0 : Nat) : Int)))
      = (((Sha.S0 (v.getD 0 0) + Sha.maj (v.getD 0 0) (v.getD 1 0) (v.getD 2 0)) % Sha.M : Nat) : Int) := by
  rw [xor3 (rotr_lt (h.lt 0)) (rotr_lt (h.lt 0)) (rotr_lt (h.lt 0)), maj_eq (h.lt 0) (h.lt 1) (h.lt 2), add_u32]; rfl
theorem step_eq {v : List Nat} (h : W8 v) {k w : Nat} : [IntKind.u32.wrap (IntKind.u32.wrap (IntKind.u32.wrap (IntKind.u32.wrap (IntKind.u32.wrap (((v.getD 7 0 : Nat) : Int) + bitsOf .xor .u32 (bitsOf .xor .u32 ((Sha.rotr (v.getD 4 0) 6 : Nat) : Int) ((Sha.rotr (v.getD 4 0) 11 : Nat) : Int)) ((Sha.rotr (v.getD 4 0) 25 : Nat) : Int))
      + bitsOf .xor .u32 (bitsOf .and .u32 ((v.getD 4 0 : Nat) : Int) ((v.getD 5 0 : Nat) : Int)) (bitsOf .and .u32 (bitsOf .xor .u32 (if IntKind.u32.signed = true then -1 else IntKind.u32.max) ((v.getD 4 0 : Nat) : Int)) ((v.getD 6 0 : Nat) : Int))) + (k : Int)) + (w : Int)) + IntKind.u32.wrap (bitsOf .xor .u32 (bitsOf .xor .u32 ((Sha.rotr (v.getD 0 0) 2 : Nat) : Int) ((Sha.rotr (v.getD 0 0) 13 : Nat) : Int)) ((Sha.rotr (v.getD 0 0) 22 : Nat) : Int)
      + bitsOf .xor .u32 (bitsOf .xor .u32 (bitsOf .and .u32 ((v.getD 0 0 : Nat) : Int) ((v.getD 1 0 : Nat) : Int)) (bitsOf .and .u32 ((v.getD 0 0 : Nat) : Int) ((v.getD 2 0 : Nat) : Int))) (bitsOf .and .u32 ((v.getD 1 0 : Nat) : Int) ((v.getD 2 0 : Nat) : Int)))),
      ((v.getD 0 0 : Nat) : Int), ((v.getD 1 0 : Nat) : Int), ((v.getD 2 0 : Nat) : Int),
      IntKind.u32.wrap (((v.getD 3 0 : Nat) : Int) + IntKind.u32.wrap (IntKind.u32.wrap (IntKind.u32.wrap (IntKind.u32.wrap (((v.getD 7 0 : Nat) : Int) + bitsOf .xor .u32 (bitsOf .xor .u32 ((Sha.rotr (v.getD 4 0) 6 : Nat) : Int) ((Sha.rotr (v.getD 4 0) 11 : Nat) : Int)) ((Sha.rotr (v.getD 4 0) 25 : Nat) : Int))
      + bitsOf .xor .u32 (bitsOf .and .u32 ((v.getD 4 0 : Nat) : Int) ((v.getD 5 0 : Nat) : Int)) (bitsOf .and .u32 (bitsOf .xor .u32 (if IntKind.u32.signed = true then -1 else IntKind.u32.max) ((v.getD 4 0 : Nat) : Int)) ((v.getD 6 0 : Nat) : Int))) + (k : Int)) + (w : Int))),
      ((v.getD 4 0 : Nat) : Int), ((v.getD 5 0 : Nat) : Int), ((v.getD 6 0 : Nat) : Int)] = nc (Sha.step k w v) := by
  rw [x_eq h, y_eq h, add_u32, add_u32]; rfl
theorem mix_get {B h : List Nat} (hh : h.length = 8) {i : Nat} (hi : i < 8) : ((nc B).take i ++ (nc h).drop i).getD i 0 = ((h.getD i 0 : Nat) : Int) ∨ B.length < i := by
  by_cases hb : B.length < i
  · exact .inr hb
  · left
    have hl : ((nc B).take i).length = i := by simp; omega
    simp only [List.getD_eq_getElem?_getD]
    rw [List.getElem?_append_right (by omega), hl, Nat.sub_self, List.getElem?_drop, Nat.add_zero, List.getElem?_map, List.getElem?_eq_getElem (by omega)]
    rfl
theorem add8_len (h v : List Nat) : (Sha.add8 h v).length = 8 := by simp [Sha.add8]
theorem mix_get8 {x v h : List Nat} (hh : h.length = 8) {i : Nat} (hi : i < 8) : ((nc (Sha.add8 x v)).take i ++ (nc h).drop i).getD i 0 = ((h.getD i 0 : Nat) : Int) :=
  (mix_get hh hi).resolve_right (by rw [add8_len]; omega)
theorem mix_set {v h : List Nat} (hh : h.length = 8) {i : Nat} (hi : i < 8) : ((nc (Sha.add8 h v)).take i ++ (nc h).drop i).set i (((h.getD i 0 + v.getD i 0) % Sha.M : Nat) : Int) = (nc (Sha.add8 h v)).take (i + 1) ++ (nc h).drop (i + 1) := by
  have hl : ((nc (Sha.add8 h v)).take i).length = i := by simp [add8_len]; omega
  have hB : (nc (Sha.add8 h v)).length = 8 := by simp [add8_len]
  have e : (nc h).drop i = (((h.getD i 0 : Nat) : Int)) :: (nc h).drop (i + 1) := by
    rw [List.drop_eq_getElem_cons (by simp; omega)]; simp [List.getD_eq_getElem?_getD, List.getElem?_eq_getElem (show i < h.length by omega)]
  rw [e, List.set_append_right _ _ (by omega), hl, Nat.sub_self, List.set_cons_zero, List.take_succ_eq_append_getElem (by omega), List.append_assoc]
  simp [Sha.add8]
end Go.E.YtgjlajcebcmbaaaGreatDoor

/-
  Contracts of sha: the digest.
-/
namespace Go.E.YtgjlajcebcmbaaaGreatDoor
open Go.Proofs
set_option maxRecDepth 100000
/-- the first n bytes of 32 -/
def dgc (h : List Nat) (n : Nat) : List Int := (nc (Sha.digest h)).take n ++ List.replicate (32 - n) 0
theorem digest_len (h : List Nat) : (Sha.digest h).length = 32 := by simp [Sha.digest]
theorem dgc_set {h : List Nat} {i k : Nat} (hi : i < 8) (hk : k < 4) : (dgc h (4 * i + k)).set (4 * i + k) ((h.getD i 0 / 256 ^ (3 - k) % 256 : Nat) : Int) = dgc h (4 * i + (k + 1)) := by
  have hB : (nc (Sha.digest h)).length = 32 := by simp [digest_len]
  have hl : ((nc (Sha.digest h)).take (4 * i + k)).length = 4 * i + k := by rw [List.length_take]; omega
  have e : List.replicate (32 - (4 * i + k)) (0 : Int) = 0 :: List.replicate (32 - (4 * i + (k + 1))) 0 := by
    rw [← List.replicate_succ]; congr 1; omega
  have d1 : (4 * i + k) / 4 = i := by omega
  have d2 : (4 * i + k) % 4 = k := by omega
  rw [dgc, e, List.set_append_right _ _ (by omega), hl, Nat.sub_self, List.set_cons_zero, dgc, show 4 * i + (k + 1) = 4 * i + k + 1 by omega, List.take_succ_eq_append_getElem (by omega), List.append_assoc]
  simp [Sha.digest, d1, d2]
theorem byte_eq {x k : Nat} (hk : k < 4) : IntKind.u8.wrap (shrOf .u32 (x : Int) ((24 - 8 * k : Nat) : Int)) = ((x / 256 ^ (3 - k) % 256 : Nat) : Int) := by
  rw [shr_nat (by show 24 - 8 * k ≤ 32; omega), IntKind.wrap_u8]
  have : 2 ^ (24 - 8 * k) = 256 ^ (3 - k) := by
    rw [show (256 : Nat) = 2 ^ 8 from rfl, ← Nat.pow_mul]; congr 1; omega
  rw [this]; rfl
end Go.E.YtgjlajcebcmbaaaGreatDoor

/-
  Contracts of sha: bytes with what stands behind them.
-/
namespace Go.E.YtgjlajcebcmbaaaGreatDoor
open Go.Proofs
set_option maxRecDepth 100000
theorem nc_append (a b : List Nat) : nc (a ++ b) = nc a ++ nc b := by simp [nc]
theorem zeros_at {n k : Nat} (hk : k ≤ Sha.zeros n) : (n + 1 + k) % 64 = 56 ↔ k = Sha.zeros n := by
  unfold Sha.zeros at *
  omega
theorem be8_len (n : Nat) : (Sha.be8 n).length = 8 := by simp [Sha.be8]
theorem be8_byte {n j : Nat} (hj : j < 8) : IntKind.u8.wrap (shrOf .u64 (n : Int) ((8 * (7 - j) : Nat) : Int)) = ((n / 256 ^ (7 - j) % 256 : Nat) : Int) := by
  rw [shr_nat (by show 8 * (7 - j) ≤ 64; omega), IntKind.wrap_u8]
  have : 2 ^ (8 * (7 - j)) = 256 ^ (7 - j) := by rw [show (256 : Nat) = 2 ^ 8 from rfl, ← Nat.pow_mul]
  rw [this]; rfl
theorem be8_take {n j : Nat} (hj : j < 8) : (Sha.be8 n).take j ++ [n / 256 ^ (7 - j) % 256] = (Sha.be8 n).take (j + 1) := by
  rw [List.take_succ_eq_append_getElem (by rw [be8_len]; exact hj)]; simp [Sha.be8]
end Go.E.YtgjlajcebcmbaaaGreatDoor

/-
  Contracts of sha: the digest of lists of bytes.
-/
namespace Go.E.YtgjlajcebcmbaaaGreatDoor
open Go.Proofs
set_option maxRecDepth 100000
abbrev ptrV (b : Nat) : CV := .v (.pointer (some ⟨b, 0, none⟩))
/-- the k-th piece -/
abbrev piece (b o k : Nat) : CV := .v (.slice (some ⟨b, o + 64 * k, none⟩) 64 64)
end Go.E.YtgjlajcebcmbaaaGreatDoor

/-
  Contracts of sha: the digest of lists of bytes.
-/
namespace Go.E.YtgjlajcebcmbaaaGreatDoor
open Go.Proofs
set_option maxRecDepth 100000
theorem Lb.piece {m : Mem} {b o n c : Nat} {l : List Int} (h : Lb m (.slice (some ⟨b, o, none⟩) n c) l) (i len : Nat) (hk : i + len ≤ l.length) : Lb m (.slice (some ⟨b, o + i, none⟩) len len) ((l.drop i).take len) := by
  rcases h.cases with ⟨c, h1, h2⟩ | ⟨b', o', c', arr, t, fr, h1, h2, h3, h4⟩
  · cases h1
  · cases h1
    refine Lb.mk h2 (by simp; omega) (Nat.le_refl _) (fun j x hj => ?_)
    rw [List.getElem?_take] at hj
    split at hj
    · rw [List.getElem?_drop] at hj
      rw [Nat.add_assoc]; exact h4 _ _ hj
    · cases hj
theorem Lb.cap {m : Mem} {b o n c : Nat} {l : List Int} (h : Lb m (.slice (some ⟨b, o, none⟩) n c) l) : l.length ≤ c := by
  rcases h.cases with ⟨c, h1, h2⟩ | ⟨b', o', c', arr, t, fr, h1, h2, h3, h4⟩
  · cases h1
  · cases h1; exact h3
theorem blocks_succ : ∀ (k : Nat) (h p : List Nat), Sha.blocks h (k + 1) p = Sha.block (Sha.blocks h k p) ((p.drop (64 * k)).take 64)
  | 0, h, p => by simp [Sha.blocks]
  | k + 1, h, p => by
    rw [Sha.blocks, blocks_succ k, Sha.blocks, List.drop_drop]
    congr 3; omega
theorem add8_w8 (h v : List Nat) : W8 (Sha.add8 h v) := by
  refine ⟨by simp [Sha.add8], fun j => getD_lt (by decide) (fun x hx => ?_) j⟩
  simp only [Sha.add8, List.mem_map] at hx
  obtain ⟨i, _, rfl⟩ := hx
  exact Nat.mod_lt _ (by decide)
theorem blocks_w8 {h : List Nat} (hh : W8 h) (p : List Nat) : ∀ k, W8 (Sha.blocks h k p)
  | 0 => hh
  | k + 1 => by rw [blocks_succ]; exact add8_w8 _ _
theorem H0_w8 : W8 Sha.H0 := ⟨rfl, fun j => getD_lt (by decide) (by decide) j⟩
theorem pad_len (l : List Nat) : (Sha.pad l).length = 64 * ((Sha.pad l).length / 64) := by
  have : (Sha.pad l).length % 64 = 0 := by
    simp only [Sha.pad, List.length_append, List.length_replicate, be8_len, List.length_cons, List.length_nil, Sha.zeros]
    omega
  omega
theorem pad_le (l : List Nat) : (Sha.pad l).length ≤ l.length + 73 := by
  simp only [Sha.pad, List.length_append, List.length_replicate, be8_len, List.length_cons, List.length_nil, Sha.zeros]
  omega
theorem pad_byte {l : List Nat} (h : ∀ x ∈ l, x < 256) : ∀ x ∈ Sha.pad l, x < 256 := by
  intro x hx
  simp only [Sha.pad, List.mem_append, List.mem_singleton, List.mem_replicate, Sha.be8, List.mem_map] at hx
  rcases hx with ((h1 | rfl) | ⟨_, rfl⟩) | ⟨i, _, rfl⟩
  · exact h _ h1
  · decide
  · decide
  · exact Nat.mod_lt _ (by decide)
theorem over_obj {old : List Value} {new : LB} {t : TypeId} (hk : old.length ≤ LB.size new) : Obj.cells ((old.toArray).toList.take 0 ++ (LB.cells new ++ (old.toArray).toList.drop (0 + LB.size new))).toArray t = .cells (LB.cells new).toArray t := by
  have : (old.toArray).toList.drop (0 + LB.size new) = [] := List.drop_eq_nil_of_le (by simpa using hk)
  rw [this]; simp
end Go.E.YtgjlajcebcmbaaaGreatDoor

/-
  Contracts of sha: the point, the number of blocks.
-/
namespace Go.E.YtgjlajcebcmbaaaGreatDoor
open Go.Proofs
set_option maxRecDepth 100000
theorem catB1 {v : Value} {l : List Nat} : catB [(v, nc l)] = nc l := by simp [catB]
theorem catB2 {v w : Value} {l k : List Nat} : catB [(v, nc l), (w, nc k)] = nc (l ++ k) := by simp [catB, nc]
/-- the point, step by step -/
def pt (l : List Nat) (i : Nat) : Nat := (List.range i).foldl (fun n i => n * 256 + (Sha.sum l).getD i 0) 0
theorem pt_succ (l : List Nat) (i : Nat) : pt l (i + 1) = pt l i * 256 + (Sha.sum l).getD i 0 := by simp [pt, List.range_succ]
theorem sum_lt (l : List Nat) (i : Nat) : (Sha.sum l).getD i 0 < 256 := by
  refine getD_lt (by decide) (fun x hx => ?_) i
  simp only [Sha.sum, Sha.digest, List.mem_map] at hx
  obtain ⟨i, _, rfl⟩ := hx
  exact Nat.mod_lt _ (by decide)
theorem pt_lt (l : List Nat) : ∀ i, pt l i < 256 ^ i
  | 0 => by simp [pt]
  | i + 1 => by
    have := pt_lt l i; have := sum_lt l i
    rw [pt_succ, Nat.pow_succ]; omega
theorem shl8 {x : Nat} (hx : x < 72057594037927936) : shlOf .u64 (x : Int) 8 = ((x * 256 : Nat) : Int) := by
  show IntKind.u64.wrap ((x : Int) * 2 ^ (min ((8 : Int).toNat) 64)) = _
  have : (min ((8 : Int).toNat) 64) = 8 := by decide
  rw [this, show ((2 : Int) ^ 8) = 256 from rfl, wu (by omega) (by omega)]; omega
theorem pt_or {l : List Nat} {i : Nat} (hi : i < 8) : bitsOf .or .u64 (shlOf .u64 ((pt l i : Nat) : Int) 8) (IntKind.u64.wrap (((Sha.sum l).getD i 0 : Nat) : Int)) = ((pt l (i + 1) : Nat) : Int) := by
  have h1 := pt_lt l i
  have h2 : (256 : Nat) ^ i ≤ 256 ^ 7 := Nat.pow_le_pow_right (by decide) (by omega)
  rw [show (256 : Nat) ^ 7 = 72057594037927936 from rfl] at h2
  have h3 := sum_lt l i
  rw [pt_succ]
  generalize pt l i = x at h1 ⊢
  generalize (Sha.sum l).getD i 0 = y at h3 ⊢
  have hx : x < 72057594037927936 := Nat.lt_of_lt_of_le h1 h2
  clear h1 h2
  rw [shl8 hx, wu (n := (y : Int)) (by omega) (by omega), or_u64 (Nat.lt_of_lt_of_le (show x * 256 < 18446744073709551616 by omega) (by decide)) (Nat.lt_of_lt_of_le h3 (by decide))]
  have := @or_low x y 8 (by simpa using h3)
  rw [show (2 : Nat) ^ 8 = 256 from rfl] at this
  rw [this]
end Go.E.YtgjlajcebcmbaaaGreatDoor

/-
  The digest of 'abc'; builds.
-/
namespace Go.E.YtgjlajcebcmbaaaGreatDoor
open Go.Proofs
set_option maxRecDepth 100000
theorem abc_sum : Sha.sum [97, 98, 99] = [186, 120, 22, 191, 143, 1, 207, 234, 65, 65, 64, 222, 93, 174, 34, 35, 176, 3, 97, 163, 150, 23, 122, 156, 180, 16, 255, 97, 242, 0, 21, 173] := by
  rw [← Sha.sumK_eq]; decide +kernel
def abcD : List Int := [186, 120, 22, 191, 143, 1, 207, 234, 65, 65, 64, 222, 93, 174, 34, 35, 176, 3, 97, 163, 150, 23, 122, 156, 180, 16, 255, 97, 242, 0, 21, 173]
end Go.E.YtgjlajcebcmbaaaGreatDoor

/-
  Contracts of tree: digests.
-/
namespace Go.E.YtgjlajcebcmbaaaGreatDoor
open Go.Proofs
set_option maxRecDepth 100000
namespace Tr
/-- a tree is 672 bytes; the digest at a place -/
def dig (t : List Nat) (p : Nat) : List Nat := (t.drop (32 * p)).take 32
def put (t : List Nat) (p : Nat) (d : List Nat) : List Nat := t.take (32 * p) ++ d ++ t.drop (32 * p + 32)
/-- what an inner place's digest is made of -/
def below (t : List Nat) (p : Nat) : List Nat := if p < 5 then 1 :: ((kids p).flatMap fun k => dig t k.toNat) else []
structure Ok (t : List Nat) : Prop where
  len : t.length = 672
  byt : ∀ x ∈ t, x < 256
theorem dig_len {t : List Nat} (h : t.length = 672) {p : Nat} (hp : p < 21) : (dig t p).length = 32 := by simp [dig]; omega
theorem dig_byt {t : List Nat} (h : ∀ x ∈ t, x < 256) (p : Nat) : ∀ x ∈ dig t p, x < 256 := fun x hx => h x (List.mem_of_mem_drop (List.mem_of_mem_take hx))
theorem put_ok {t d : List Nat} (h : Ok t) (hd : d.length = 32) (hb : ∀ x ∈ d, x < 256) {p : Nat} (hp : p < 21) : Ok (put t p d) := by
  refine ⟨by have := h.len; simp [put]; omega, fun x hx => ?_⟩
  simp only [put, List.mem_append] at hx
  rcases hx with (hx | hx) | hx
  · exact h.byt x (List.mem_of_mem_take hx)
  · exact hb x hx
  · exact h.byt x (List.mem_of_mem_drop hx)
theorem below_len {t : List Nat} (h : t.length = 672) {p : Nat} : (below t p).length ≤ 129 := by
  unfold below
  split
  · rename_i h5
    unfold kids
    rw [if_pos (by omega)]
    simp only [List.flatMap_cons, List.flatMap_nil, List.length_cons, List.length_append, List.length_nil, dig, List.length_take]
    omega
  · simp
theorem below_byt {t : List Nat} (h : Ok t) {p : Nat} : ∀ x ∈ below t p, x < 256 := by
  unfold below
  split
  · intro x hx
    rcases List.mem_cons.1 hx with rfl | hx
    · decide
    · obtain ⟨k, _, hk⟩ := List.mem_flatMap.1 hx
      exact dig_byt h.byt _ x hk
  · simp
end Tr
theorem nc_cut (t : List Nat) (i n : Nat) : ((nc t).drop i).take n = nc ((t.drop i).take n) := by simp only [nc, List.map_drop, List.map_take]
abbrev treeV (t : List Nat) : CV := .a [.ints .u8 672 (nc t)]
abbrev digV' (d : List Nat) : CV := .a [.ints .u8 32 (nc d)]
theorem dig_lb {m : Mem} {b k : Nat} {t : List Nat} {T : TypeId} {fr : Nat × Nat} (h : m b = some (.cells (LB.cells [.ints .u8 672 (nc t)]).toArray T fr)) (ht : t.length = 672) (hk : k < 21) : Lb m (.slice (some ⟨b, k * 32, none⟩) 32 32) (nc (Tr.dig t k)) := by
  refine Lb.mk h (by simp [Tr.dig]; omega) (Nat.le_refl _) (fun j x hj => ?_)
  rw [Tr.dig, ← nc_cut, List.getElem?_take] at hj
  split at hj
  · rw [List.getElem?_drop, Nat.mul_comm] at hj
    simp [LB.cells, Seg.cells]
    simp at hj
    obtain ⟨y, h1, rfl⟩ := hj
    exact ⟨y, h1, rfl⟩
  · cases hj
end Go.E.YtgjlajcebcmbaaaGreatDoor
