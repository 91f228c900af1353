/-
  Fi9, FiA, FiQ, Lg1, Lg2, Tree, ShaP, Sha1, Sha2, Sha3, Sha4, Sha5, Sha6, Sha7, Sha8a, Tree2, Digs, Walk, Walk2, Walk3, RefT, RefW, RefD, WalkP, Tree3, Tree4, WalkS
-/
import Derived.Test.YtcjmmhamnglmkaaLogBeginsZ8
/-
  Files: a crash.
-/
namespace Go.E.Ytcjmmhamnglmkaa
open Go.Proofs
set_option maxRecDepth 100000
/-- how many bytes more last -/
def lastN (a : Af) (x : Int) : Nat := (min (max x 0) ((a.l.length : Int) - a.safe)).toNat
def crash1 (A : List Af) (name : ByteArray) (x : Int) : List Af := A.map fun a => if a.name = name then ⟨a.name, a.l.take (a.safe + lastN a x), a.safe + lastN a x⟩ else a
def crashTo (N : List ByteArray) (last : List Int) (A : List Af) : Nat → List Af
  | 0 => A
  | i + 1 => crash1 (crashTo N last A i) (N.getD i ByteArray.empty) (last.getD i 0)
def crashA (A : List Af) (last : List Int) : List Af := crashTo (srtB (A.map (·.name))) last A A.length
theorem crash1_names (A : List Af) (name : ByteArray) (x : Int) : (crash1 A name x).map (·.name) = A.map (·.name) := by
  simp only [crash1, List.map_map]
  refine List.map_congr_left fun a _ => ?_
  simp only [Function.comp]
  split <;> rfl
theorem crashTo_names (N : List ByteArray) (last : List Int) (A : List Af) : ∀ i, (crashTo N last A i).map (·.name) = A.map (·.name)
  | 0 => rfl
  | i + 1 => by rw [crashTo, crash1_names, crashTo_names N last A i]
theorem abs_names (F : List Fl) : (absF F).map (·.name) = F.map (·.name) := by simp [absF, Fl.af]
theorem srtB_same (ss : List ByteArray) : (srtB ss).Perm ss := by
  have h1 : ((ss.map encB).mergeSort fun x y => decide (x ≤ y)).Perm (ss.map encB) := List.mergeSort_perm _ _
  have h2 := h1.map fun l : List UInt8 => (⟨l.toArray⟩ : ByteArray)
  rw [List.map_map] at h2
  have e : ss.map ((fun l : List UInt8 => (⟨l.toArray⟩ : ByteArray)) ∘ encB) = ss := by
    refine (List.map_congr_left fun s _ => ?_).trans (List.map_id ss)
    cases s; simp [encB]
  rw [e] at h2
  exact h2
theorem crash1_split {A B : List Fl} {f g : Fl} {x : Int} (hA : ∀ y ∈ A, y.name ≠ f.name) (hB : ∀ y ∈ B, y.name ≠ f.name) (hg : g.af = ⟨f.name, f.l.take (f.safe + lastN f.af x), f.safe + lastN f.af x⟩) : absF (A ++ g :: B) = crash1 (absF (A ++ f :: B)) f.name x := by
  have h1 : ∀ L : List Fl, (∀ y ∈ L, y.name ≠ f.name) → (L.map Fl.af).map (fun a => if a.name = f.name then (⟨a.name, a.l.take (a.safe + lastN a x), a.safe + lastN a x⟩ : Af) else a) = L.map Fl.af := fun L hL => by
    refine (List.map_congr_left fun a ha => ?_).trans (List.map_id _)
    obtain ⟨y, hy, rfl⟩ := List.mem_map.1 ha
    rw [if_neg (show ¬ y.af.name = f.name from fun e => hL y hy e)]; rfl
  simp only [absF, crash1, List.map_append, List.map_cons]
  rw [h1 A hA, h1 B hB, hg, if_pos (show f.af.name = f.name from rfl)]
  rfl
set_option maxHeartbeats 4000000 in
theorem crash_spec {m mm p : Mem} {bf bm : Nat} {q : Int} {nb ns clock : Nat} {F : List Fl} {vl : Value} {last : List Int} (h : FS p bf bm q nb ns clock F) (hs : Split mm [p, m]) (hv : Ia m vl last) (hlast : last.length ≤ 9223372036854775807) (hl : ∀ f ∈ F, f.l.length ≤ 90000000) (hF : F.length ≤ 1000000) (hI : ∀ x ∈ last, -9223372036854775808 ≤ x ∧ x ≤ 9223372036854775807) :
    Spec Try.prog 11 [ptrB bf, .v vl] mm fun r m' => ∃ p' F', r = [] ∧ Split m' [p', m] ∧ FS p' bf bm q nb ns clock F' ∧ absF F' = crashA (absF F) last ∧ ∀ f ∈ F', f.l.length ≤ 90000000 := by
  obtain ⟨a, c, rfl⟩ := hv.shape
  have hN : (namesF F).length = F.length := by rw [namesF, srtB_len, List.length_map]
  have hNs : srtB ((absF F).map (·.name)) = namesF F := by rw [abs_names]; rfl
  refine en11 rfl (goY ?_)
  conv => whnf
  refine xcall (names_spec (h.grow (hs.sub (by simp))) hF) ?_
  rintro _ m1 ⟨vn, pn, rfl, hsn, hvn⟩
  conv => whnf
  have hsn : Split m1 [pn, p, m] := hsn.under (a := [pn]) hs
  have hsn : Split m1 [p, pn, m] := hsn.perm (List.Perm.swap _ _ _)
  obtain ⟨an, cn, rfl⟩ := hvn.sl.shape
  rw [hN] at hvn ⊢
  conv => whnf
  refine .mk (ι := Nat) (fun i => F.length - i) (fun i mm => i ≤ F.length ∧ ∃ p' F', Split mm [p', pn, m] ∧ FS p' bf bm q nb ns clock F' ∧ absF F' = crashTo (namesF F) last (absF F) i ∧ ∀ f ∈ F', f.l.length ≤ 90000000)
    (fun i => [(0, .c (ptrB bf)), (1, .c (.v (.slice a last.length c))), (9, .c (.v (.slice an F.length cn))), (10, .c (i64 F.length)), (11, .c (i64 i))]) (fun _ => []) 0 ⟨by omega, p, F, hsn, h, rfl, hl⟩ ?_ ?_
  · conv => whnf
    repeat (refine And.intro (by first | with_reducible rfl | exact congrArg (Value.int _) (wi (by omega) (by omega)) | exact wi (by omega) (by omega) | rfl) ?_; conv => whnf)
    first | exact trivial | exact fun _ _ h => h
  rintro i mm ⟨hi, p, F2, hs, h, hab, hl⟩
  conv => whnf
  refine ⟨fun h1 => ?_, fun h1 => ?_⟩
  rotate_left
  · have h1' := of_decide_eq_false h1
    obtain rfl : i = F.length := by omega
    conv => whnf
    exact ⟨p, F2, rfl, hs.erase 1, h, by rw [hab, crashA, hNs, List.length_map], hl⟩
  have h1' := of_decide_eq_true h1
  have hlt : i < F.length := by omega
  clear h1
  obtain ⟨bn, on, c', hh, hg⟩ := (hvn.sl.sub (hs.sub (a := pn) (by simp))).real (i := i) (by omega)
  rw [hN] at hh
  injection hh with hh1 _ hh3
  subst hh1
  clear hh3 c'
  have hg := hg i (by omega)
  have hmem : (namesF F)[i]'(by omega) ∈ F2.map (·.name) := by
    have h2 : (namesF F)[i]'(by omega) ∈ F.map (·.name) := (srtB_same _).subset (List.getElem_mem _)
    have h3 := congrArg (List.map (·.name)) hab
    rw [abs_names, crashTo_names, abs_names] at h3
    rw [h3]; exact h2
  have hgd : (namesF F).getD i ByteArray.empty = (namesF F)[i]'(by omega) := by rw [List.getD_eq_getElem?_getD, List.getElem?_eq_getElem (by omega)]; rfl
  have hst : crashTo (namesF F) last (absF F) (i + 1) = crash1 (absF F2) ((namesF F)[i]'(by omega)) (last.getD i 0) := by rw [crashTo, hgd, ← hab]
  generalize (namesF F)[i]'(by omega) = name at hg hmem hst
  obtain ⟨f, hfn, hfe⟩ : ∃ f, fileOf F2 name = some f ∧ True := by
    cases e : fileOf F2 name with
    | some f => exact ⟨f, rfl, trivial⟩
    | none =>
      obtain ⟨g, hg1, hg2⟩ := List.mem_map.1 hmem
      have := List.find?_eq_none.1 e g hg1
      simp [hg2] at this
  have hfm := (fileOf_mem hfn).1
  have hok := h.ok f hfm
  have hlf := hl f hfm
  have hM := h.grow (hs.sub (a := p) (by simp))
  have hmf := hM.mem hfm
  have fin : ∀ v n s, f.safe + n = s → Bs f.p v (nc (f.l.take s)) → n = lastN f.af (last.getD i 0) → ∃ p' F', Split (mm.set f.bx (fileO v s)) [p', pn, m] ∧ FS p' bf bm q nb ns clock F' ∧ absF F' = crashTo (namesF F) last (absF F) (i + 1) ∧ ∀ f ∈ F', f.l.length ≤ 90000000 := by
    intro v n s hsx hvb hn
    obtain ⟨A, B, rfl, hA, hfname⟩ := fileOf_split hfn
    subst hfname
    obtain ⟨hA, hB⟩ := h.names_of
    have hs2 := hs.set (h.mem hfm) (fileO v s)
    have hp := h.pick.setAt (i := 0) rfl (blk1_same ..) (fileO v s)
    rw [blk1_set] at hp
    have hle : s ≤ f.l.length := by
      have := hok.safe
      subst hn
      unfold lastN at hsx
      simp only [Fl.af] at hsx
      omega
    refine ⟨_, _, hs2, h.put (g := { f with l := f.l.take s, v := v, safe := s }) rfl rfl rfl ⟨hvb, fun x hx => hok.byt x (List.mem_of_mem_take hx), by simp only [List.length_take]; omega, hok.born⟩ hp, ?_, ?_⟩
    · rw [hst]
      refine crash1_split hA hB ?_
      subst hsx
      subst hn
      rfl
    · intro x hx
      rcases List.mem_append.1 hx with hx | hx
      · exact hl x (by simp [hx])
      · rcases List.mem_cons.1 hx with rfl | hx
        · simp only [List.length_take]; omega
        · exact hl x (by simp [hx])
  have hsafe := hok.safe
  conv => whnf
  repeat (refine And.intro (by first | omega | (simp only [times]; omega)) ?_; conv => whnf)
  refine ⟨.string name, by simp only [times, Int.toNat_natCast, Nat.mul_one]; exact hg, rfl, ?_⟩
  conv => whnf
  refine ⟨.map (some bm), mcell_of hM.files rfl, rfl, ?_⟩
  conv => whnf
  refine .mk _ (lookupF hM.map false) ?_
  rintro _ _ ⟨rfl, rfl⟩
  conv => whnf
  rw [hfn]
  conv => whnf
  refine ⟨fun h2 => ?_, fun h2 => ?_⟩
  · have h2' := of_decide_eq_true h2
    have hil : i < last.length := by omega
    clear h2
    obtain ⟨bl, ol, c', hh, hgl⟩ := (hv.sub (hs.sub (a := m) (by simp))).real hil
    injection hh with hh1 _ hh3
    subst hh1
    clear hh3 c'
    have hgl := hgl i hil
    have hx := hI _ (List.getElem_mem hil)
    have hxd : last.getD i 0 = last[i] := by rw [List.getD_eq_getElem?_getD, List.getElem?_eq_getElem hil]; rfl
    rw [hxd] at fin
    generalize last[i] = x at hgl hx fin
    obtain ⟨av, cv, hfv0⟩ := hok.bs.lb.shape
    rw [nc_len] at hfv0
    have ewl : IntKind.i64.wrap ((f.l.length : Int) - (f.safe : Int)) = (f.l.length : Int) - (f.safe : Int) := wi (by omega) (by omega)
    have hnn : min (max x 0) ((f.l.length : Int) - (f.safe : Int)) = ((lastN f.af x : Nat) : Int) := by unfold lastN; simp only [Fl.af]; omega
    have hnl : lastN f.af x ≤ f.l.length - f.safe := by unfold lastN; simp only [Fl.af]; omega
    have hmf0 := hmf
    rw [hfv0] at hmf0
    conv => whnf
    repeat (refine And.intro (by first | omega | (simp only [times]; omega)) ?_; conv => whnf)
    refine ⟨.int .i64 x, by simp only [times, Int.toNat_natCast, Nat.mul_one]; exact hgl, rfl, ?_⟩
    conv => whnf
    refine ⟨.slice av f.l.length cv, mcell_of hmf0 rfl, rfl, ?_⟩
    conv => whnf
    refine ⟨.int .i64 f.safe, mcell_of hmf rfl, rfl, ?_⟩
    conv => whnf
    rw [ewl, hnn]
    generalize hnx : lastN f.af x = n at hnl fin
    conv => whnf
    have hs7 : f.safe + n ≤ f.l.length := by omega
    refine ⟨.int .i64 f.safe, mcell_of hmf rfl, rfl, ?_⟩
    have ew7 : IntKind.i64.wrap ((f.safe : Int) + ((n : Nat) : Int)) = ((f.safe + n : Nat) : Int) := by rw [wi (by omega) (by omega)]; omega
    conv => whnf
    refine ⟨_, _, _, hmf, ⟨Nat.le_refl 2, by simp⟩, ?_⟩
    rw [ew7]
    generalize hsx : f.safe + n = s at hs7 ⊢
    have hmf2 : (mm.set f.bx (fileO f.v s)) f.bx = some (fileO f.v s) := Mem.set_same ..
    rcases hok.bs.lb.cases with ⟨c, hfv, hnil⟩ | ⟨b, o, c, arr, t, fr, hfv, h5⟩
    · have hz : f.l.length = 0 := by simpa using congrArg List.length hnil
      obtain rfl : s = 0 := by omega
      have hc0 : c = 0 := by
        rcases hok.bs with ⟨e1, e2⟩ | ⟨b, o, c', n, arr, e1, _⟩
        · rw [hfv] at e1; injection e1
        · rw [hfv] at e1; cases e1
      subst hc0
      rw [hfv] at hmf2 ⊢
      conv => whnf
      refine ⟨.slice none 0 0, mcell_of hmf2 rfl, rfl, ?_⟩
      conv => whnf
      refine ⟨.int .i64 ((0 : Nat) : Int), mcell_of hmf2 rfl, rfl, ?_⟩
      conv => whnf
      refine ⟨.int .i64 ((0 : Nat) : Int), mcell_of hmf2 rfl, rfl, ?_⟩
      conv => whnf
      repeat (refine And.intro (by first | omega | (simp only [times]; omega)) ?_; conv => whnf)
      refine ⟨_, _, _, hmf2, ⟨Nat.zero_lt_succ _, by simp⟩, ?_⟩
      rw [Mem.set_set]
      conv => whnf
      obtain ⟨p', F', k1, k2, k3⟩ := fin (.slice none 0 0) n 0 hsx (by rw [List.take_zero]; exact Bs.nil _) rfl
      refine ⟨i + 1, ⟨by omega, p', F', k1, k2, k3⟩, by omega, ?_⟩
      conv => whnf
      repeat (refine And.intro (by first | with_reducible rfl | (first | exact congrArg (Value.int _) (iadd (by omega))) | exact congrArg (Value.int _) (wi (by omega) (by omega)) | exact wi (by omega) (by omega) | rfl) ?_; conv => whnf)
      first | exact trivial | exact fun _ _ h => h
    · have hcc : f.l.length ≤ c := by
        rcases hok.bs with ⟨e1, _⟩ | ⟨b, o, c', n, arr, e1, _, _, h6, _⟩
        · rw [hfv] at e1; cases e1
        · rw [hfv, nc_len] at e1; cases e1; exact h6
      rw [nc_len] at hfv
      have hbs : Bs f.p (.slice (some ⟨b, o, none⟩) f.l.length c) (nc f.l) := by rw [← hfv]; exact hok.bs
      rw [hfv] at hmf2 ⊢
      conv => whnf
      refine ⟨.slice (some ⟨b, o, none⟩) f.l.length c, mcell_of hmf2 rfl, rfl, ?_⟩
      conv => whnf
      refine ⟨.int .i64 (s : Int), mcell_of hmf2 rfl, rfl, ?_⟩
      conv => whnf
      refine ⟨.int .i64 (s : Int), mcell_of hmf2 rfl, rfl, ?_⟩
      conv => whnf
      repeat (refine And.intro (by first | omega | (simp only [times]; omega)) ?_; conv => whnf)
      intro o' q1 q2
      obtain rfl : o' = o := by
        by_cases h0 : s = 0
        · have := q2 (by omega); simpa using this
        · have := q1 (by omega); simpa [times] using this
      conv => whnf
      refine ⟨_, _, _, hmf2, ⟨Nat.zero_lt_succ _, by simp⟩, ?_⟩
      rw [Mem.set_set]
      conv => whnf
      have hct := hbs.cutCap' (n := s) (by rw [nc_len]) (by rw [nc_len]; exact hs7)
      rw [show (nc f.l).take s = nc (f.l.take s) by simp [nc, List.map_take]] at hct
      obtain ⟨p', F', k1, k2, k3⟩ := fin (.slice (some ⟨b, o', none⟩) s s) n s hsx hct rfl
      refine ⟨i + 1, ⟨by omega, p', F', k1, k2, k3⟩, by omega, ?_⟩
      conv => whnf
      repeat (refine And.intro (by first | with_reducible rfl | (first | exact congrArg (Value.int _) (iadd (by omega))) | exact congrArg (Value.int _) (wi (by omega) (by omega)) | exact wi (by omega) (by omega) | rfl) ?_; conv => whnf)
      first | exact trivial | exact fun _ _ h => h
  · have h2' := of_decide_eq_false h2
    have hxd : last.getD i 0 = 0 := by rw [List.getD_eq_getElem?_getD, List.getElem?_eq_none (by omega)]; rfl
    rw [hxd] at fin
    have hn0 : 0 = lastN f.af 0 := by unfold lastN; simp only [Fl.af]; omega
    clear h2
    conv => whnf
    have hs7 : f.safe + 0 ≤ f.l.length := by omega
    refine ⟨.int .i64 f.safe, mcell_of hmf rfl, rfl, ?_⟩
    have ew7 : IntKind.i64.wrap ((f.safe : Int) + 0) = ((f.safe + 0 : Nat) : Int) := by rw [wi (by omega) (by omega)]; omega
    conv => whnf
    refine ⟨_, _, _, hmf, ⟨Nat.le_refl 2, by simp⟩, ?_⟩
    rw [ew7]
    generalize hsx : f.safe + 0 = s at hs7 ⊢
    have hmf2 : (mm.set f.bx (fileO f.v s)) f.bx = some (fileO f.v s) := Mem.set_same ..
    rcases hok.bs.lb.cases with ⟨c, hfv, hnil⟩ | ⟨b, o, c, arr, t, fr, hfv, h5⟩
    · have hz : f.l.length = 0 := by simpa using congrArg List.length hnil
      obtain rfl : s = 0 := by omega
      have hc0 : c = 0 := by
        rcases hok.bs with ⟨e1, e2⟩ | ⟨b, o, c', n, arr, e1, _⟩
        · rw [hfv] at e1; injection e1
        · rw [hfv] at e1; cases e1
      subst hc0
      rw [hfv] at hmf2 ⊢
      conv => whnf
      refine ⟨.slice none 0 0, mcell_of hmf2 rfl, rfl, ?_⟩
      conv => whnf
      refine ⟨.int .i64 ((0 : Nat) : Int), mcell_of hmf2 rfl, rfl, ?_⟩
      conv => whnf
      refine ⟨.int .i64 ((0 : Nat) : Int), mcell_of hmf2 rfl, rfl, ?_⟩
      conv => whnf
      repeat (refine And.intro (by first | omega | (simp only [times]; omega)) ?_; conv => whnf)
      refine ⟨_, _, _, hmf2, ⟨Nat.zero_lt_succ _, by simp⟩, ?_⟩
      rw [Mem.set_set]
      conv => whnf
      obtain ⟨p', F', k1, k2, k3⟩ := fin (.slice none 0 0) 0 0 hsx (by rw [List.take_zero]; exact Bs.nil _) hn0
      refine ⟨i + 1, ⟨by omega, p', F', k1, k2, k3⟩, by omega, ?_⟩
      conv => whnf
      repeat (refine And.intro (by first | with_reducible rfl | (first | exact congrArg (Value.int _) (iadd (by omega))) | exact congrArg (Value.int _) (wi (by omega) (by omega)) | exact wi (by omega) (by omega) | rfl) ?_; conv => whnf)
      first | exact trivial | exact fun _ _ h => h
    · have hcc : f.l.length ≤ c := by
        rcases hok.bs with ⟨e1, _⟩ | ⟨b, o, c', n, arr, e1, _, _, h6, _⟩
        · rw [hfv] at e1; cases e1
        · rw [hfv, nc_len] at e1; cases e1; exact h6
      rw [nc_len] at hfv
      have hbs : Bs f.p (.slice (some ⟨b, o, none⟩) f.l.length c) (nc f.l) := by rw [← hfv]; exact hok.bs
      rw [hfv] at hmf2 ⊢
      conv => whnf
      refine ⟨.slice (some ⟨b, o, none⟩) f.l.length c, mcell_of hmf2 rfl, rfl, ?_⟩
      conv => whnf
      refine ⟨.int .i64 (s : Int), mcell_of hmf2 rfl, rfl, ?_⟩
      conv => whnf
      refine ⟨.int .i64 (s : Int), mcell_of hmf2 rfl, rfl, ?_⟩
      conv => whnf
      repeat (refine And.intro (by first | omega | (simp only [times]; omega)) ?_; conv => whnf)
      intro o' q1 q2
      obtain rfl : o' = o := by
        by_cases h0 : s = 0
        · have := q2 (by omega); simpa using this
        · have := q1 (by omega); simpa [times] using this
      conv => whnf
      refine ⟨_, _, _, hmf2, ⟨Nat.zero_lt_succ _, by simp⟩, ?_⟩
      rw [Mem.set_set]
      conv => whnf
      have hct := hbs.cutCap' (n := s) (by rw [nc_len]) (by rw [nc_len]; exact hs7)
      rw [show (nc f.l).take s = nc (f.l.take s) by simp [nc, List.map_take]] at hct
      obtain ⟨p', F', k1, k2, k3⟩ := fin (.slice (some ⟨b, o', none⟩) s s) 0 s hsx hct hn0
      refine ⟨i + 1, ⟨by omega, p', F', k1, k2, k3⟩, by omega, ?_⟩
      conv => whnf
      repeat (refine And.intro (by first | with_reducible rfl | (first | exact congrArg (Value.int _) (iadd (by omega))) | exact congrArg (Value.int _) (wi (by omega) (by omega)) | exact wi (by omega) (by omega) | rfl) ?_; conv => whnf)
      first | exact trivial | exact fun _ _ h => h
end Go.E.Ytcjmmhamnglmkaa

/-
  Files, told by names, bytes, and how many are safe.
-/
namespace Go.E.Ytcjmmhamnglmkaa
open Go.Proofs
set_option maxRecDepth 100000
def fileA (A : List Af) (name : ByteArray) : Option Af := A.find? fun a => decide (name = a.name)
theorem fileA_abs (F : List Fl) (name : ByteArray) : fileA (absF F) name = (fileOf F name).map Fl.af := by
  unfold fileA fileOf absF
  rw [List.find?_map]
  rfl
def syncA (A : List Af) (name : ByteArray) : List Af := A.map fun a => if a.name = name then { a with safe := a.l.length } else a
def cutA (A : List Af) (name : ByteArray) (n : Nat) : List Af := A.map fun a => if a.name = name then ⟨a.name, a.l.take n, min a.safe n⟩ else a
def rmA (A : List Af) (name : ByteArray) : List Af := A.filter fun a => !decide (a.name = name)
def putA (x : Af) (name : ByteArray) : List Af → List Af
  | [] => [{ x with name := name }]
  | a :: A => if name = a.name then { x with name := name } :: A else a :: putA x name A
def renA (A : List Af) (a b : ByteArray) : List Af := match fileA A a with
  | none => A
  | some x => if nameOk (chs b) then putA x b (rmA A a) else A
def renEA (A : List Af) (a b : ByteArray) : Int := match fileA A a with
  | none => 4
  | some _ => if nameOk (chs b) then 0 else 1
def cutEA (A : List Af) (name : ByteArray) (n : Int) : Int := match fileA A name with
  | none => 4
  | some a => if 0 ≤ n ∧ n ≤ a.l.length then 0 else 1
def cutRA (A : List Af) (name : ByteArray) (n : Int) : List Af := match fileA A name with
  | none => A
  | some a => if 0 ≤ n ∧ n ≤ a.l.length then cutA A name n.toNat else A
def errA (A : List Af) (name : ByteArray) : Int := if (fileA A name).isSome then 0 else 4
theorem isSome_abs (F : List Fl) (name : ByteArray) : (fileOf F name).isSome = (fileA (absF F) name).isSome := by rw [fileA_abs, Option.isSome_map]
theorem sync_abs (F : List Fl) (name : ByteArray) : absF (syncF F name) = syncA (absF F) name := by
  simp only [absF, syncF, mapAt, syncA, List.map_map]
  refine List.map_congr_left fun f _ => ?_
  simp only [Function.comp, Fl.af]
  by_cases h : f.name = name <;> simp [h]
theorem cut_abs (F : List Fl) (name : ByteArray) (n : Nat) (v : Value) : absF (cutF F name n v) = cutA (absF F) name n := by
  simp only [absF, cutF, mapAt, cutA, List.map_map]
  refine List.map_congr_left fun f _ => ?_
  simp only [Function.comp, Fl.af]
  by_cases h : f.name = name <;> simp [h]
theorem rm_abs (F : List Fl) (name : ByteArray) : absF (rmF F name) = rmA (absF F) name := by
  unfold absF rmF rmA
  rw [List.filter_map]; rfl
theorem put_abs (f : Fl) (name : ByteArray) (clock : Nat) : ∀ F : List Fl, absF (putF F f name clock) = putA f.af name (absF F)
  | [] => rfl
  | g :: F => by
    have ih := put_abs f name clock F
    simp only [absF, putF, List.map_cons, putA] at ih ⊢
    by_cases h : name = g.name
    · rw [if_pos h, if_pos (show name = g.af.name from h)]; rfl
    · rw [if_neg h, if_neg (show ¬ name = g.af.name from h), List.map_cons, ih]
theorem ren_abs (F : List Fl) (a b : ByteArray) (clock : Nat) : absF (renF F a b clock) = renA (absF F) a b ∧ renE F a b = renEA (absF F) a b := by
  unfold renF renA renE renEA
  rw [fileA_abs]
  cases fileOf F a with
  | none => exact ⟨rfl, rfl⟩
  | some f =>
    simp only [Option.map_some]
    split
    · exact ⟨by rw [put_abs, rm_abs], by trivial⟩
    · exact ⟨rfl, by trivial⟩
/-- files, in a memory of their own, told so -/
def FA (p : Mem) (bf : Nat) (q : Int) (nb ns : Nat) (A : List Af) : Prop := ∃ bm clock F, FS p bf bm q nb ns clock F ∧ absF F = A
/-- not more than k times this -/
structure Sm (k : Nat) (A : List Af) (nb ns : Nat) : Prop where
  l : ∀ a ∈ A, a.l.length ≤ 500 * k
  n : A.length ≤ k
  nb : nb ≤ 500 * k
  ns : ns ≤ k
  k : k ≤ 1000
theorem totA_le {A : List Af} {b : Nat} (h : ∀ a ∈ A, a.l.length ≤ b) : totA A ≤ b * A.length := by
  induction A with
  | nil => simp [totA]
  | cons a A ih =>
    have h1 := h a (by simp)
    have ih := ih fun x hx => h x (by simp [hx])
    simp only [totA, List.map_cons, List.sum_cons, List.length_cons, Nat.mul_succ] at ih ⊢
    omega
theorem Sm.tot {k : Nat} {A : List Af} {nb ns : Nat} (h : Sm k A nb ns) : totA A ≤ 500000000 := by
  have h1 := totA_le h.l
  have h2 : 500 * k * A.length ≤ 500 * 1000 * 1000 := Nat.mul_le_mul (Nat.mul_le_mul_left _ h.k) (Nat.le_trans h.n h.k)
  omega
section
variable {m mm p : Mem} {bf : Nat} {q : Int} {nb ns k : Nat} {A : List Af} {name : ByteArray}
theorem FA.grow {m : Mem} (h : FA p bf q nb ns A) (hs : Sub p m) : FA m bf q nb ns A := by
  obtain ⟨bm, clock, F, h1, h2⟩ := h
  exact ⟨bm, clock, F, h1.grow hs, h2⟩
theorem abs_mem {F : List Fl} {P : Af → Prop} (h : ∀ a ∈ absF F, P a) : ∀ f ∈ F, P f.af := fun f hf => h f.af (List.mem_map.2 ⟨f, hf, rfl⟩)
theorem used_A (h : FA m bf q nb ns A) (hk : Sm k A nb ns) : Spec Try.prog 15 [ptrB bf] m fun r m' => r = [i64 (totA A)] ∧ Sub m m' := by
  obtain ⟨bm, clock, F, h1, rfl⟩ := h
  have ht := hk.tot
  rw [totA_abs] at ht ⊢
  exact used_spec h1 (by omega)
theorem names_A (h : FA m bf q nb ns A) (hk : Sm k A nb ns) : Spec Try.prog 24 [ptrB bf] m fun r m' => ∃ v p, r = [.v v] ∧ Split m' [p, m] ∧ So p v (srtB (A.map (·.name))) := by
  obtain ⟨bm, clock, F, h1, rfl⟩ := h
  have := hk.n
  have := hk.k
  rw [abs_names]
  exact names_spec h1 (by rw [List.length_map] at *; omega)
theorem read_A (h : FA m bf q nb ns A) (hk : Sm k A nb ns) : Spec Try.prog 16 [ptrB bf, .v (.string name)] m fun r m' => ∃ v p, r = [.v v, i64 (errA A name)] ∧ Split m' [p, m] ∧ Bs p v (nc (((fileA A name).map (·.l)).getD [])) := by
  obtain ⟨bm, clock, F, h1, rfl⟩ := h
  have h2 := abs_mem hk.l
  have := hk.k
  refine (readF_spec (name := name) h1 fun f hf => by have := h2 f hf; simp only [Fl.af] at this; omega).mono fun r m' ⟨v, p, e1, e2, e3⟩ => ⟨v, p, by rw [e1, errA, isSome_abs], e2, ?_⟩
  rw [fileA_abs, Option.map_map]; exact e3
theorem sync_A (h : FA p bf q nb ns A) (hk : Sm k A nb ns) : Spec Try.prog 30 [ptrB bf, .v (.string name)] p fun r m' => r = [i64 (errA A name)] ∧ FA m' bf q nb (if (fileA A name).isSome then ns + 1 else ns) (syncA A name) := by
  obtain ⟨bm, clock, F, h1, rfl⟩ := h
  have h3 := hk.ns
  have h4 := hk.k
  refine (sync_spec (name := name) h1 (by omega)).mono fun r m' ⟨e1, e2⟩ => ⟨by rw [e1, errA, isSome_abs], ?_⟩
  rw [isSome_abs] at e2
  exact ⟨bm, clock, _, e2, sync_abs _ _⟩
theorem remove_A (h : FA p bf q nb ns A) : Spec Try.prog 18 [ptrB bf, .v (.string name)] p fun r m' => r = [i64 (errA A name)] ∧ FA m' bf q nb ns (rmA A name) := by
  obtain ⟨bm, clock, F, h1, rfl⟩ := h
  exact (remove_spec (name := name) h1).mono fun r m' ⟨e1, e2⟩ => ⟨by rw [e1, errA, isSome_abs], bm, clock, _, e2, rm_abs _ _⟩
theorem cut_A {n : Int} (h : FA p bf q nb ns A) (hk : Sm k A nb ns) : Spec Try.prog 20 [ptrB bf, .v (.string name), i64 n] p fun r m' => r = [i64 (cutEA A name n)] ∧ FA m' bf q nb ns (cutRA A name n) := by
  obtain ⟨bm, clock, F, h1, rfl⟩ := h
  have h2 := abs_mem hk.l
  have := hk.k
  refine (cut_spec (name := name) (n := n) h1 fun f hf => by have := h2 f hf; simp only [Fl.af] at this; omega).mono fun r m' ⟨e, F', e1, e2, e3⟩ => ?_
  unfold CutR at e3
  unfold cutEA cutRA
  rw [fileA_abs]
  cases hf : fileOf F name with
  | none =>
    rw [hf] at e3
    obtain ⟨rfl, rfl⟩ := e3
    exact ⟨e1, bm, clock, _, e2, rfl⟩
  | some f =>
    rw [hf] at e3
    simp only [Option.map_some, Fl.af] at e3 ⊢
    by_cases hc : 0 ≤ n ∧ n ≤ f.l.length
    · rw [if_pos hc] at e3
      rw [if_pos hc, if_pos hc]
      obtain ⟨rfl, v, rfl⟩ := e3
      exact ⟨e1, bm, clock, _, e2, cut_abs _ _ _ _⟩
    · rw [if_neg hc] at e3
      rw [if_neg hc, if_neg hc]
      obtain ⟨rfl, rfl⟩ := e3
      exact ⟨e1, bm, clock, _, e2, rfl⟩
theorem append_A {vb : Value} {lb : List Nat} (h : FA p bf q nb ns A) (hs : Split mm [p, m]) (hk : Sm k A nb ns) (hv : La m vb (nc lb)) (h256 : ∀ x ∈ lb, x < 256) (hn : name.size ≤ 1000000) (hq : 0 ≤ q ∧ q ≤ 9223372036854775807) (hlb : lb.length ≤ 1000) :
    Spec Try.prog 17 [ptrB bf, .v (.string name), .v vb] mm fun r m' => ∃ e p' A' nb', r = [i64 e] ∧ Split m' [p', m] ∧ FA p' bf q nb' ns A' ∧ AppR A name lb q e A' nb nb' := by
  obtain ⟨bm, clock, F, h1, rfl⟩ := h
  have h2 := abs_mem hk.l
  have h3 := hk.k
  have h4 := hk.nb
  have ht := hk.tot
  rw [totA_abs] at ht
  exact (append_spec' (name := name) h1 hs hv h256 hn hq (fun f hf => by have := h2 f hf; simp only [Fl.af] at this; omega) (by omega) (by omega) (by omega)).mono fun r m' ⟨e, p', F', clock', nb', e1, e2, e3, e4⟩ => ⟨e, p', _, nb', e1, e2, ⟨bm, clock', F', e3, rfl⟩, e4⟩
theorem crash_A {vl : Value} {last : List Int} (h : FA p bf q nb ns A) (hs : Split mm [p, m]) (hk : Sm k A nb ns) (hv : Ia m vl last) (hlast : last.length ≤ 9223372036854775807) (hI : ∀ x ∈ last, -9223372036854775808 ≤ x ∧ x ≤ 9223372036854775807) :
    Spec Try.prog 11 [ptrB bf, .v vl] mm fun r m' => ∃ p', r = [] ∧ Split m' [p', m] ∧ FA p' bf q nb ns (crashA A last) := by
  obtain ⟨bm, clock, F, h1, rfl⟩ := h
  have h2 := abs_mem hk.l
  have h3 := hk.k
  have h4 := hk.n
  exact (crash_spec h1 hs hv hlast (fun f hf => by have := h2 f hf; simp only [Fl.af] at this; omega) (by rw [List.length_map] at h4; omega) hI).mono fun r m' ⟨p', F', e1, e2, e3, e4, _⟩ => ⟨p', e1, e2, bm, clock, F', e3, e4⟩
end
end Go.E.Ytcjmmhamnglmkaa

/-
  Files: small ones stay small; a quota holds.
-/
namespace Go.E.Ytcjmmhamnglmkaa
open Go.Proofs
set_option maxRecDepth 100000
/-- none has more bytes, not more files, not more bytes in all -/
structure Les (A' A : List Af) : Prop where
  l : ∀ b : Nat, (∀ a ∈ A, a.l.length ≤ b) → ∀ a ∈ A', a.l.length ≤ b
  n : A'.length ≤ A.length + 1
  t : totA A' ≤ totA A
theorem Les.refl (A : List Af) : Les A A := ⟨fun _ h => h, by omega, Nat.le_refl _⟩
theorem map_tot {g : Af → Af} (hg : ∀ a, (g a).l.length ≤ a.l.length) : ∀ A : List Af, totA (A.map g) ≤ totA A
  | [] => Nat.le_refl _
  | a :: A => by
    have h1 := map_tot hg A
    have h2 := hg a
    simp only [totA, List.map_cons, List.sum_cons] at h1 ⊢
    omega
theorem map_les {g : Af → Af} (hg : ∀ a, (g a).l.length ≤ a.l.length) (A : List Af) : Les (A.map g) A :=
  ⟨fun b h a ha => by obtain ⟨x, hx, rfl⟩ := List.mem_map.1 ha; exact Nat.le_trans (hg x) (h x hx), by rw [List.length_map]; omega, map_tot hg A⟩
theorem sync_les (A : List Af) (name : ByteArray) : Les (syncA A name) A := map_les (fun a => by split <;> exact Nat.le_refl _) A
theorem cutA_les (A : List Af) (name : ByteArray) (n : Nat) : Les (cutA A name n) A := map_les (fun a => by split <;> first | exact Nat.le_refl _ | (simp only [List.length_take]; omega)) A
theorem cut_les (A : List Af) (name : ByteArray) (n : Int) : Les (cutRA A name n) A := by
  unfold cutRA
  cases fileA A name with
  | none => exact .refl A
  | some a =>
    simp only
    split
    · exact cutA_les ..
    · exact .refl A
theorem crash1_les (A : List Af) (name : ByteArray) (x : Int) : ∀ b : Nat, (∀ a ∈ A, a.l.length ≤ b) → ∀ a ∈ crash1 A name x, a.l.length ≤ b := (map_les (fun a => by split <;> first | exact Nat.le_refl _ | (simp only [List.length_take]; omega)) A).l
theorem crash1_tot (A : List Af) (name : ByteArray) (x : Int) : totA (crash1 A name x) ≤ totA A := map_tot (fun a => by split <;> first | exact Nat.le_refl _ | (simp only [List.length_take]; omega)) A
theorem crashTo_les (N : List ByteArray) (last : List Int) (A : List Af) : ∀ i, (∀ b : Nat, (∀ a ∈ A, a.l.length ≤ b) → ∀ a ∈ crashTo N last A i, a.l.length ≤ b) ∧ (crashTo N last A i).length = A.length ∧ totA (crashTo N last A i) ≤ totA A
  | 0 => ⟨fun _ h => h, rfl, Nat.le_refl _⟩
  | i + 1 => by
    obtain ⟨h1, h2, h3⟩ := crashTo_les N last A i
    exact ⟨fun b h => crash1_les _ _ _ b (h1 b h), by rw [crashTo, crash1, List.length_map, h2], Nat.le_trans (crash1_tot ..) h3⟩
theorem crash_les (A : List Af) (last : List Int) : Les (crashA A last) A := by
  obtain ⟨h1, h2, h3⟩ := crashTo_les (srtB (A.map (·.name))) last A A.length
  exact ⟨h1, by rw [crashA, h2]; omega, h3⟩
theorem rm_tot (A : List Af) (name : ByteArray) : totA (rmA A name) ≤ totA A ∧ ∀ x, fileA A name = some x → totA (rmA A name) + x.l.length ≤ totA A := by
  induction A with
  | nil => exact ⟨Nat.le_refl _, fun x h => by cases h⟩
  | cons a A ih =>
    obtain ⟨h1, h2⟩ := ih
    simp only [rmA, fileA, totA] at h1 h2 ⊢
    rw [List.filter_cons, List.find?_cons]
    by_cases h : a.name = name
    · rw [if_neg (by simp [h])]
      simp only [List.map_cons, List.sum_cons]
      refine ⟨by omega, fun x hx => ?_⟩
      rw [decide_eq_true h.symm] at hx
      cases hx
      omega
    · rw [if_pos (by simp [h])]
      simp only [List.map_cons, List.sum_cons]
      refine ⟨by omega, fun x hx => ?_⟩
      rw [decide_eq_false (fun e => h e.symm)] at hx
      have := h2 x hx
      omega
theorem rm_les (A : List Af) (name : ByteArray) : Les (rmA A name) A := ⟨fun b h a ha => h a (List.mem_filter.1 ha).1, Nat.le_trans (List.length_filter_le _ _) (by omega), (rm_tot A name).1⟩
theorem put_les (x : Af) (name : ByteArray) (A : List Af) : (∀ b : Nat, x.l.length ≤ b → (∀ a ∈ A, a.l.length ≤ b) → ∀ a ∈ putA x name A, a.l.length ≤ b) ∧ (putA x name A).length ≤ A.length + 1 ∧ totA (putA x name A) ≤ totA A + x.l.length := by
  induction A with
  | nil => exact ⟨fun b h _ a ha => by rw [List.mem_singleton.1 ha]; exact h, by simp [putA], by simp [putA, totA]⟩
  | cons y A ih =>
    obtain ⟨h1, h2, h3⟩ := ih
    rw [putA]
    split
    · refine ⟨fun b h hA a ha => ?_, by simp, by simp only [totA, List.map_cons, List.sum_cons]; omega⟩
      rcases List.mem_cons.1 ha with rfl | ha
      · exact h
      · exact hA a (List.mem_cons_of_mem _ ha)
    · refine ⟨fun b h hA a ha => ?_, by simp only [List.length_cons]; omega, by simp only [totA, List.map_cons, List.sum_cons] at h3 ⊢; omega⟩
      rcases List.mem_cons.1 ha with rfl | ha
      · exact hA a (List.mem_cons_self ..)
      · exact h1 b h (fun a ha => hA a (List.mem_cons_of_mem _ ha)) a ha
theorem ren_les (A : List Af) (a b : ByteArray) : Les (renA A a b) A := by
  unfold renA
  cases h : fileA A a with
  | none => exact .refl A
  | some x =>
    simp only
    split
    · obtain ⟨h1, h2, h3⟩ := put_les x b (rmA A a)
      have hr := rm_les A a
      have hx : x ∈ A := List.mem_of_find?_eq_some h
      have ht := (rm_tot A a).2 x h
      have hn : (rmA A a).length ≤ A.length := List.length_filter_le _ _
      exact ⟨fun c hc => h1 c (hc x hx) (hr.l c hc), by omega, by omega⟩
    · exact .refl A
theorem app_tot (name : ByteArray) (lb : List Nat) : ∀ A : List Af, totA (appA A name lb) = totA A + lb.length ∧ (appA A name lb).length ≤ A.length + 1 ∧ ∀ b : Nat, (∀ a ∈ A, a.l.length ≤ b) → ∀ a ∈ appA A name lb, a.l.length ≤ b + lb.length
  | [] => ⟨by simp [appA, totA], by simp [appA], fun b h a ha => by rw [List.mem_singleton.1 ha]; simp⟩
  | x :: A => by
    obtain ⟨h1, h2, h3⟩ := app_tot name lb A
    rw [appA]
    split
    · refine ⟨by simp only [totA, List.map_cons, List.sum_cons, List.length_append]; omega, by simp, fun b h a ha => ?_⟩
      rcases List.mem_cons.1 ha with rfl | ha
      · have := h x (List.mem_cons_self ..)
        simp only [List.length_append]; omega
      · have := h a (List.mem_cons_of_mem _ ha); omega
    · refine ⟨by simp only [totA, List.map_cons, List.sum_cons] at h1 ⊢; omega, by simp only [List.length_cons]; omega, fun b h a ha => ?_⟩
      rcases List.mem_cons.1 ha with rfl | ha
      · have := h a (List.mem_cons_self ..); omega
      · exact h3 b (fun a ha => h a (List.mem_cons_of_mem _ ha)) a ha
theorem Sm.les {k : Nat} {A A' : List Af} {nb ns ns' : Nat} (h : Sm k A nb ns) (hl : Les A' A) (hn : ns' ≤ ns + 1) (hk : k < 1000) : Sm (k + 1) A' nb ns' :=
  ⟨fun a ha => Nat.le_trans (hl.l _ h.l a ha) (by omega), by have := hl.n; have := h.n; omega, by have := h.nb; omega, by have := h.ns; omega, by omega⟩
theorem Sm.app {k : Nat} {A A' : List Af} {nb nb' ns : Nat} {name : ByteArray} {lb : List Nat} {q e : Int} (h : Sm k A nb ns) (hr : AppR A name lb q e A' nb nb') (hb : lb.length ≤ 500) (hk : k < 1000) : Sm (k + 1) A' nb' ns := by
  have h0 : Sm (k + 1) A nb ns := h.les (.refl A) (by omega) hk
  unfold AppR at hr
  split at hr
  · obtain ⟨_, rfl, rfl⟩ := hr; exact h0
  · split at hr
    · obtain ⟨_, rfl, rfl⟩ := hr; exact h0
    · obtain ⟨_, rfl, rfl⟩ := hr
      obtain ⟨_, h2, h3⟩ := app_tot name lb A
      exact ⟨fun a ha => by have := h3 _ h.l a ha; omega, by have := h.n; omega, by have := h.nb; omega, by have := h.ns; omega, by omega⟩
theorem app_quota {A A' : List Af} {nb nb' : Nat} {name : ByteArray} {lb : List Nat} {q e : Int} (hr : AppR A name lb q e A' nb nb') (hq : 0 < q) (h : (totA A : Int) ≤ q) : (totA A' : Int) ≤ q := by
  unfold AppR at hr
  split at hr
  · obtain ⟨_, rfl, rfl⟩ := hr; exact h
  · split at hr
    · obtain ⟨_, rfl, rfl⟩ := hr; exact h
    · obtain ⟨_, rfl, rfl⟩ := hr
      have h1 := (app_tot name lb A).1
      omega
theorem app_full {A A' : List Af} {nb nb' : Nat} {name : ByteArray} {lb : List Nat} {q e : Int} (hr : AppR A name lb q e A' nb nb') (he : e = 5) : A' = A ∧ nb' = nb ∧ 0 < q ∧ q < (totA A + lb.length : Nat) := by
  unfold AppR at hr
  split at hr
  · obtain ⟨h, _⟩ := hr; omega
  · split at hr
    · rename_i h
      exact ⟨hr.2.1, hr.2.2, h⟩
    · obtain ⟨h, _⟩ := hr; omega
theorem app_e {A A' : List Af} {nb nb' : Nat} {name : ByteArray} {lb : List Nat} {q e : Int} (hr : AppR A name lb q e A' nb nb') : e = 0 ∨ e = 1 ∨ e = 5 := by
  unfold AppR at hr
  split at hr
  · exact .inr (.inl hr.1)
  · split at hr
    · exact .inr (.inr hr.1)
    · exact .inl hr.1
theorem Sm.none : Sm 0 [] 0 0 := ⟨by simp, by simp, by omega, by omega, by omega⟩
end Go.E.Ytcjmmhamnglmkaa

/-
  A log: what stands in its file; it is opened.
-/
namespace Go.E.Fr
theorem whole_end : ∀ {l : List (List Int)} {k : Nat}, (whole l k).2 = (cat (l.take (whole l k).1)).length ∧ (whole l k).2 ≤ k ∧ (cat l).take (whole l k).2 = cat (l.take (whole l k).1)
  | [], k => by simp [whole, cat]
  | r :: l, k => by
    have ih := whole_end (l := l) (k := k - (wr r).length)
    unfold whole
    by_cases h : (wr r).length ≤ k
    · rw [if_pos h]
      dsimp only
      obtain ⟨h1, h2, h3⟩ := ih
      have e : ∀ j, cat ((r :: l).take (j + 1)) = wr r ++ cat (l.take j) := fun j => by simp [cat]
      have e0 : cat (r :: l) = wr r ++ cat l := by simp [cat]
      refine ⟨by rw [e, List.length_append, ← h1], by omega, ?_⟩
      rw [e, e0, List.take_append, List.take_of_length_le (by omega), show (wr r).length + (whole l (k - (wr r).length)).2 - (wr r).length = (whole l (k - (wr r).length)).2 by omega, h3]
    · rw [if_neg h]; simp [cat]
/-- whole ones within are found -/
theorem whole_ge : ∀ {l : List (List Int)} {k s : Nat}, s ≤ l.length → (cat (l.take s)).length ≤ k → s ≤ (whole l k).1
  | _, _, 0, _, _ => Nat.zero_le _
  | [], k, s + 1, h, _ => by simp at h
  | r :: l, k, s + 1, h, hk => by
    have e : (cat ((r :: l).take (s + 1))).length = (wr r).length + (cat (l.take s)).length := by simp [cat]
    have ih := whole_ge (l := l) (k := k - (wr r).length) (s := s) (by simpa using h) (by omega)
    unfold whole
    rw [if_pos (by omega)]
    simp only; omega
end Go.E.Fr
namespace Go.E.Ytcjmmhamnglmkaa
open Go.Proofs
set_option maxRecDepth 100000
def toN (l : List Int) : List Nat := l.map Int.toNat
theorem nc_toN {l : List Int} (h : Byt l) : nc (toN l) = l := by
  rw [nc, toN, List.map_map]
  refine (List.map_congr_left fun x hx => ?_).trans (List.map_id l)
  have := h x hx
  simp only [Function.comp, id]; omega
theorem toN_len (l : List Int) : (toN l).length = l.length := by simp [toN]
theorem toN_byt {l : List Int} (h : Byt l) : ∀ x ∈ toN l, x < 256 := fun x hx => by
  obtain ⟨y, hy, rfl⟩ := List.mem_map.1 hx
  have := h y hy
  omega
theorem toN_take (l : List Int) (n : Nat) : toN (l.take n) = (toN l).take n := by simp [toN, List.map_take]
theorem toN_append (l k : List Int) : toN (l ++ k) = toN l ++ toN k := by simp [toN]
theorem byt_take {l : List Int} (h : Byt l) (n : Nat) : Byt (l.take n) := fun x hx => h x (List.mem_of_mem_take hx)
abbrev logO (bf : Nat) (name : ByteArray) (all sure : Nat) : Obj := .cells #[.pointer (some ⟨bf, 0, none⟩), .string name, .int .i64 (all : Int), .int .i64 (sure : Int)] 57
/-- one file, or none -/
def lgA (name : ByteArray) (pr : Bool) (l : List Nat) (sf : Nat) : List Af := if pr then [⟨name, l, sf⟩] else []
theorem lg_sm {name : ByteArray} {pr : Bool} {l : List Nat} {sf nb ns : Nat} (h1 : l.length ≤ 50000) (h2 : nb ≤ 50000) (h3 : ns ≤ 100) : Sm 100 (lgA name pr l sf) nb ns := by
  refine ⟨fun a ha => ?_, ?_, by omega, by omega, by omega⟩
  · unfold lgA at ha
    split at ha
    · rw [List.mem_singleton.1 ha]; simp only; omega
    · cases ha
  · unfold lgA; split <;> simp
theorem read_any {m : Mem} {v : Value} {l : List Int} (hv : Lb m v l) (hb : Byt l) (hl : l.length ≤ 1000000) : Spec Try.prog 19 [.v v] m fun r m' => ∃ v' ps p, r = [.v v', i64 ((Fr.read (l.length + 1) l).2.1 : Nat), i64 (Fr.read (l.length + 1) l).2.2] ∧ Split m' [p, m] ∧ Lists p v' ps ∧ ps.map (·.2) = (Fr.read (l.length + 1) l).1 := by
  rcases Lb.cases hv with ⟨c, rfl, rfl⟩ | ⟨b, o, c, arr, t, fr, rfl, _, hc, _⟩
  · exact read_nil
  · exact read_spec hv.la hb hl hc
theorem place_sync {p : Mem} {bf nb ns : Nat} {q : Int} {A : List Af} {name : ByteArray} {k : Nat} (h : FA p bf q nb ns A) (hk : Sm k A nb ns) : Spec Try.prog 21 [.a [.one (.pointer (some ⟨bf, 0, none⟩)), .one (.string name)]] p fun r m' => r = [] ∧ FA m' bf q nb (if (fileA A name).isSome then ns + 1 else ns) (syncA A name) := by
  refine en21 rfl (goY ?_)
  conv => whnf
  refine xcall (sync_A (name := name) h hk) ?_
  rintro _ m1 ⟨rfl, h1⟩
  conv => whnf
  exact ⟨rfl, h1⟩
theorem lg_file (name : ByteArray) (l : List Nat) (sf : Nat) : fileA (lgA name true l sf) name = some ⟨name, l, sf⟩ := by simp [fileA, lgA]
set_option maxHeartbeats 4000000 in
theorem open_spec {p m mm : Mem} {bf nb ns K sf : Nat} {pr : Bool} {name : ByteArray} {R : List (List Int)} (h : FA p bf 0 nb ns (lgA name pr (toN ((Fr.cat R).take K)) sf)) (hs : Split mm [p, m]) (hn : nameOk (chs name) = true) (hz : name.size ≤ 1000000) (hR : ∀ r ∈ R, Fr.isRec r.length = true ∧ Byt r) (hpr : pr = false → R = []) (hK : K ≤ (Fr.cat R).length) (hlen : (Fr.cat R).length ≤ 40000) (hnb : nb ≤ 40000) (hns : ns ≤ 90) :
    Spec Try.prog 7 [ptrB bf, .v (.string name)] mm fun r m' => ∃ bl v ps pv p' ns', r = [ptrB bl, .v v, i64 0] ∧ Split m' [blk1 bl (logO bf name (Fr.whole R K).1 (Fr.whole R K).1), pv, p', m] ∧ Lists pv v ps ∧ ps.map (·.2) = R.take (Fr.whole R K).1 ∧ FA p' bf 0 nb ns' (lgA name pr (toN (Fr.cat (R.take (Fr.whole R K).1))) (Fr.cat (R.take (Fr.whole R K).1)).length) ∧ ns' ≤ ns + 1 := by
  have hby : Byt (Fr.cat R) := Fr.cat_byt fun r hr => (hR r hr).2
  have hsm : Sm 100 (lgA name pr (toN ((Fr.cat R).take K)) sf) nb ns := lg_sm (by rw [toN_len, List.length_take]; omega) (by omega) (by omega)
  obtain ⟨w1, w2, w3⟩ := Fr.whole_end (l := R) (k := K)
  have w4 := Fr.whole_few (l := R) (k := K)
  have w5 := Fr.whole_le (l := R) (k := K)
  refine en7 rfl (goY ?_)
  conv => whnf
  intro bl hbl
  conv => whnf
  have hs0 := hs.new hbl (logO bf name 0 0)
  refine xcall (read_A (name := name) (h.grow (hs0.sub (by simp))) hsm) ?_
  rintro _ m1 ⟨v, p1, rfl, hs1, hv⟩
  conv => whnf
  have hs1 : Split m1 [p1, blk1 bl (logO bf name 0 0), p, m] := hs1.under (a := [p1]) hs0
  cases pr with
  | false =>
    obtain rfl := hpr rfl
    have e4 : errA (lgA name false (toN ((Fr.cat []).take K)) sf) name = 4 := rfl
    rw [e4]
    refine ⟨fun _ => ?_, fun h => absurd h (by decide)⟩
    conv => whnf
    have hs2 : Split m1 [p, blk1 bl (logO bf name 0 0), m] := hs1.drop.perm (List.Perm.swap _ _ _)
    obtain ⟨q1, hq1, hs3, back⟩ := Split.pick1 hs2
    refine xcall (append_A (name := name) (lb := []) h hs3 hsm (Lb.nil _ 0).la (by simp) hz (by decide) (by simp)) ?_
    rintro _ m2 ⟨e, p2, A', nb', rfl, hs4, h2, hr⟩
    conv => whnf
    rw [AppR, if_neg (by simp [hn]), if_neg (by omega)] at hr
    obtain ⟨rfl, rfl, rfl⟩ := hr
    have hs4 := back _ _ hs4
    have ea : appA (lgA name false (toN ((Fr.cat []).take K)) sf) name [] = [⟨name, [], 0⟩] := rfl
    rw [ea] at h2
    refine ⟨fun h => absurd h (by decide), fun _ => ?_⟩
    conv => whnf
    refine xcall (Spec.frame hs4 (remove_A (name := name) h2)) ?_
    rintro _ m3 ⟨p3, ⟨rfl, h3⟩, hs5⟩
    conv => whnf
    rw [show rmA [(⟨name, [], 0⟩ : Af)] name = [] by simp [rmA]] at h3
    exact ⟨bl, _, [], emp, p3, ns, rfl, (hs5.perm (List.Perm.swap _ _ _)).addEmp.perm (List.Perm.swap _ _ _), ⟨.inl ⟨_, rfl, rfl⟩, by simp⟩, rfl, h3, by omega⟩
  | true =>
    have hfi := lg_file name (toN ((Fr.cat R).take K)) sf
    have e4 : errA (lgA name true (toN ((Fr.cat R).take K)) sf) name = 0 := by rw [errA, hfi]; rfl
    rw [e4]
    rw [hfi] at hv
    simp only [Option.map_some, Option.getD_some] at hv
    rw [nc_toN (byt_take hby K)] at hv
    refine ⟨fun h => absurd h (by decide), fun _ => ?_⟩
    conv => whnf
    refine ⟨fun h => absurd h (by decide), fun _ => ?_⟩
    conv => whnf
    have hl1 : ((Fr.cat R).take K).length = K := by rw [List.length_take]; omega
    refine xcall (read_any (hv.lb.sub (hs1.sub (a := p1) (by simp))) (byt_take hby K) (by omega)) ?_
    rintro _ m2 ⟨v', ps, pv, rfl, hs2, hps, hpr'⟩
    conv => whnf
    have hs2 : Split m2 [pv, p1, blk1 bl (logO bf name 0 0), p, m] := hs2.under (a := [pv]) hs1
    have hrd := Fr.read_cut (l := R) (k := K) (f := K + 1) (fun r hr => (hR r hr).1) (by omega)
    rw [hl1] at hpr' ⊢
    rw [hrd] at hpr' ⊢
    dsimp only at hpr' ⊢
    refine ⟨fun h => absurd h (by decide), fun _ => ?_⟩
    conv => whnf
    have hs3 : Split m2 [p, pv, blk1 bl (logO bf name 0 0), m] := (hs2.erase 1).perm (by
      show List.Perm [pv, blk1 bl (logO bf name 0 0), p, m] [p, pv, blk1 bl (logO bf name 0 0), m]
      refine (List.Perm.cons _ (List.Perm.swap _ _ _)).trans ?_
      exact List.Perm.swap _ _ _)
    refine xcall (Spec.frame hs3 (cut_A (name := name) (n := ((Fr.whole R K).2 : Nat)) h hsm)) ?_
    rintro _ m3 ⟨p2, ⟨rfl, h2⟩, hs4⟩
    conv => whnf
    have hw2 : (Fr.whole R K).2 ≤ K := w2
    have hcl : (toN ((Fr.cat R).take K)).length = K := by rw [toN_len, hl1]
    have ec : cutRA (lgA name true (toN ((Fr.cat R).take K)) sf) name ((Fr.whole R K).2 : Nat) = [⟨name, toN (Fr.cat (R.take (Fr.whole R K).1)), min sf (Fr.whole R K).2⟩] := by
      rw [cutRA, hfi]
      simp only
      rw [if_pos (by rw [hcl]; omega), Int.toNat_natCast, cutA, lgA, if_pos rfl, List.map_singleton, if_pos rfl, ← toN_take, List.take_take, Nat.min_eq_left w2, w3]
    rw [ec] at h2
    have hbl3 : m3 bl = some (logO bf name 0 0) := hs4.sub (a := blk1 bl (logO bf name 0 0)) (by simp) _ _ (blk1_same ..)
    refine ⟨[.one (.pointer (some ⟨bf, 0, none⟩)), .one (.string name)], ⟨rfl, rfl, trivial⟩, rfl, ⟨_, _, _, hbl3, fun j u hu => ?_⟩, ?_⟩
    · match j, hu with
      | 0, hu => exact hu
      | 1, hu => exact hu
      | j + 2, hu => simp [LB.cells, Seg.cells] at hu
    have hsm2 : Sm 100 [(⟨name, toN (Fr.cat (R.take (Fr.whole R K).1)), min sf (Fr.whole R K).2⟩ : Af)] nb ns := lg_sm (name := name) (pr := true) (by rw [toN_len, ← w3, List.length_take]; omega) (by omega) (by omega)
    conv => whnf
    refine xcall (Spec.frame hs4 (place_sync (name := name) h2 hsm2)) ?_
    rintro _ m4 ⟨p3, ⟨rfl, h3⟩, hs5⟩
    conv => whnf
    have es : syncA [(⟨name, toN (Fr.cat (R.take (Fr.whole R K).1)), min sf (Fr.whole R K).2⟩ : Af)] name = lgA name true (toN (Fr.cat (R.take (Fr.whole R K).1))) (Fr.cat (R.take (Fr.whole R K).1)).length := by
      simp [syncA, lgA, toN_len]
    rw [es] at h3
    have hpl : ps.length = (Fr.whole R K).1 := by
      have := congrArg List.length hpr'
      rw [List.length_map, List.length_take, Nat.min_eq_left w5] at this
      exact this
    obtain ⟨av, cv, rfl⟩ := hps.shape
    rw [hpl] at hps ⊢
    have hbl4 : m4 bl = some (logO bf name 0 0) := hs5.sub (a := blk1 bl (logO bf name 0 0)) (by simp) _ _ (blk1_same ..)
    conv => whnf
    refine ⟨_, _, _, hbl4, ⟨by simp, by simp⟩, ?_⟩
    conv => whnf
    refine ⟨_, _, _, Mem.set_same .., ⟨by simp, by simp⟩, ?_⟩
    conv => whnf
    have hs6 := hs5.setAt (i := 2) rfl (blk1_same ..) (logO bf name (Fr.whole R K).1 0)
    rw [blk1_set] at hs6
    have hs7 := hs6.setAt (i := 2) rfl (blk1_same ..) (logO bf name (Fr.whole R K).1 (Fr.whole R K).1)
    rw [blk1_set] at hs7
    have hs8 : Split _ [p3, pv, blk1 bl (logO bf name (Fr.whole R K).1 (Fr.whole R K).1), m] := hs7
    refine ⟨bl, _, ps, pv, p3, _, rfl, hs8.perm ?_, hps, hpr', h3, by split <;> omega⟩
    refine (List.Perm.cons _ (List.Perm.swap _ _ _)).trans ?_
    refine (List.Perm.swap _ _ _).trans ?_
    exact List.Perm.cons _ (List.Perm.swap _ _ _)
/-- no files -/
theorem open_nil {m : Mem} {name : ByteArray} : Spec Try.prog 7 [.v (.pointer none), .v (.string name)] m fun r m' => r = [.v (.pointer none), .v (.slice none 0 0), i64 6] ∧ Sub m m' := by
  refine en7 rfl (goY ?_)
  conv => whnf
  intro bl hbl
  conv => whnf
  first | refine xretk (readF_nil) ?_ | refine xret (readF_nil) ?_
  conv => whnf
  refine ⟨fun h => absurd h (by decide), fun _ => ?_⟩
  conv => whnf
  refine ⟨fun _ => ?_, fun h => absurd h (by decide)⟩
  conv => whnf
  exact ⟨rfl, Mem.sub_set _ hbl⟩
/-- a name that may not be -/
theorem open_bad {p m mm : Mem} {bf nb ns k : Nat} {q : Int} {A : List Af} {name : ByteArray} (h : FA p bf q nb ns A) (hs : Split mm [p, m]) (hk : Sm k A nb ns) (hn : nameOk (chs name) = false) (hz : name.size ≤ 1000000) (hq : 0 ≤ q ∧ q ≤ 9223372036854775807) (hA : fileA A name = none) :
    Spec Try.prog 7 [ptrB bf, .v (.string name)] mm fun r m' => ∃ p', r = [.v (.pointer none), .v (.slice none 0 0), i64 1] ∧ Split m' [p', m] ∧ FA p' bf q nb ns A := by
  refine en7 rfl (goY ?_)
  conv => whnf
  intro bl hbl
  conv => whnf
  have hs0 := hs.new hbl (logO bf name 0 0)
  refine xcall (read_A (name := name) (h.grow (hs0.sub (by simp))) hk) ?_
  rintro _ m1 ⟨v, p1, rfl, hs1, hv⟩
  conv => whnf
  have hs1 : Split m1 [p1, blk1 bl (logO bf name 0 0), p, m] := hs1.under (a := [p1]) hs0
  rw [show errA A name = 4 by rw [errA, hA]; rfl]
  refine ⟨fun _ => ?_, fun h => absurd h (by decide)⟩
  conv => whnf
  refine xcall (append_A (name := name) (lb := []) h hs1.drop.drop hk (Lb.nil _ 0).la (by simp) hz hq (by simp)) ?_
  rintro _ m2 ⟨e, p2, A', nb', rfl, hs4, h2, hr⟩
  conv => whnf
  rw [AppR, if_pos hn] at hr
  obtain ⟨rfl, rfl, rfl⟩ := hr
  refine ⟨fun _ => ?_, fun h => absurd h (by decide)⟩
  conv => whnf
  exact ⟨p2, rfl, hs4, h2⟩
end Go.E.Ytcjmmhamnglmkaa

/-
  A log: records put behind, synced; what it tells.
-/
namespace Go.E.Ytcjmmhamnglmkaa
open Go.Proofs
set_option maxRecDepth 100000
section
variable {m mm p : Mem} {bl bf nb ns all sure : Nat} {name : ByteArray}
theorem lmade_spec (h : mm bl = some (logO bf name all sure)) : Ret Try.prog 22 [ptrB bl] mm [boolV true] := by
  refine en22 rfl (goY ?_)
  conv => whnf
  refine ⟨fun _ => ?_, fun h => absurd h (by decide)⟩
  conv => whnf
  refine ⟨_, mcell_of h rfl, rfl, ?_⟩
  conv => whnf
  exact ⟨rfl, rfl⟩
theorem lsure_spec (h : mm bl = some (logO bf name all sure)) : Ret Try.prog 10 [ptrB bl] mm [i64 sure] := by
  refine en10 rfl (goY ?_)
  conv => whnf
  refine ⟨fun h => absurd h (by decide), fun _ => ?_⟩
  conv => whnf
  refine ⟨_, mcell_of h rfl, rfl, ?_⟩
  conv => whnf
  exact ⟨rfl, rfl⟩
theorem lall_spec (h : mm bl = some (logO bf name all sure)) : Ret Try.prog 13 [ptrB bl] mm [i64 all] := by
  refine en13 rfl (goY ?_)
  conv => whnf
  refine ⟨fun h => absurd h (by decide), fun _ => ?_⟩
  conv => whnf
  refine ⟨_, mcell_of h rfl, rfl, ?_⟩
  conv => whnf
  exact ⟨rfl, rfl⟩
theorem lname_spec (h : mm bl = some (logO bf name all sure)) : Ret Try.prog 14 [ptrB bl] mm [.v (.string name)] := by
  refine en14 rfl (goY ?_)
  conv => whnf
  refine ⟨fun h => absurd h (by decide), fun _ => ?_⟩
  conv => whnf
  refine ⟨_, mcell_of h rfl, rfl, ?_⟩
  conv => whnf
  exact ⟨rfl, rfl⟩
theorem lapp_bad {vb : Value} {lb : List Int} (h : mm bl = some (logO bf name all sure)) (hv : La mm vb lb) (hr : Fr.isRec lb.length = false) : Ret Try.prog 8 [ptrB bl, .v vb] mm [i64 0, i64 3] := by
  refine en8 rfl (goY ?_)
  conv => whnf
  first | refine xretk (lmade_spec h) ?_ | refine xret (lmade_spec h) ?_
  conv => whnf
  refine ⟨fun h => absurd h (by decide), fun _ => ?_⟩
  conv => whnf
  first | refine xretk (write_bad hv hr) ?_ | refine xret (write_bad hv hr) ?_
  conv => whnf
  refine ⟨fun _ => ?_, fun h => absurd h (by decide)⟩
  conv => whnf
  exact ⟨rfl, rfl⟩
theorem wr_len {l : List Int} (h : l.length ≤ 1000000000) : (Fr.wr l).length ≤ l.length + 13 := by
  have h1 := numB_len (l.length : Int)
  simp only [Fr.wr, Fr.four, List.length_append, List.length_cons, List.length_nil]
  omega
set_option maxHeartbeats 4000000 in
theorem lapp_ok {vb : Value} {lb : List Int} {A : List Af} {k : Nat} (hs : Split mm [blk1 bl (logO bf name all sure), p, m]) (h : FA p bf 0 nb ns A) (hk : Sm k A nb ns) (hv : La mm vb lb) (hb : Byt lb) (hr : Fr.isRec lb.length = true) (hl : lb.length ≤ 900) (hn : nameOk (chs name) = true) (hz : name.size ≤ 1000000) (ha : all ≤ 1000000) :
    Spec Try.prog 8 [ptrB bl, .v vb] mm fun r m' => ∃ p', r = [i64 ((all + 1 : Nat) : Int), i64 0] ∧ Split m' [blk1 bl (logO bf name (all + 1) sure), p', m] ∧ FA p' bf 0 (nb + (Fr.wr lb).length) ns (appA A name (toN (Fr.wr lb))) := by
  have hw := wr_len (l := lb) (by omega)
  have hbw : Byt (Fr.wr lb) := by
    have := Fr.cat_byt (l := [lb]) (by simpa using hb)
    simpa [Fr.cat] using this
  have hbl : mm bl = some (logO bf name all sure) := hs.sub (a := blk1 bl (logO bf name all sure)) (by simp) _ _ (blk1_same ..)
  refine en8 rfl (goY ?_)
  conv => whnf
  first | refine xretk (lmade_spec hbl) ?_ | refine xret (lmade_spec hbl) ?_
  conv => whnf
  refine ⟨fun h => absurd h (by decide), fun _ => ?_⟩
  conv => whnf
  refine xcall (write_ok hv hb hr) ?_
  rintro _ m1 ⟨v', pw, rfl, hs1, hw1⟩
  conv => whnf
  have hs1 : Split m1 [pw, blk1 bl (logO bf name all sure), p, m] := hs1.under (a := [pw]) hs
  refine ⟨fun h => absurd h (by decide), fun _ => ?_⟩
  conv => whnf
  have hbl1 := hs1.sub (a := blk1 bl (logO bf name all sure)) (by simp) _ _ (blk1_same ..)
  refine ⟨_, mcell_of hbl1 rfl, rfl, ?_⟩
  conv => whnf
  refine ⟨_, mcell_of hbl1 rfl, rfl, ?_⟩
  conv => whnf
  have hs2 : Split m1 [p, pw, blk1 bl (logO bf name all sure), m] := hs1.perm (by
    refine (List.Perm.cons _ (List.Perm.swap _ _ _)).trans ?_
    exact List.Perm.swap _ _ _)
  obtain ⟨q1, hq1, hs3, back⟩ := Split.pick1 hs2
  refine xcall (append_A (name := name) (lb := toN (Fr.wr lb)) h hs3 hk (by rw [nc_toN hbw]; exact (hw1.lb.sub (hq1 pw (by simp))).la) (toN_byt hbw) hz (by decide) (by rw [toN_len]; omega)) ?_
  rintro _ m2 ⟨e, p2, A', nb', rfl, hs4, h2, hr2⟩
  conv => whnf
  rw [AppR, if_neg (by simp [hn]), if_neg (by omega), toN_len] at hr2
  obtain ⟨rfl, rfl, rfl⟩ := hr2
  have hs4 : Split m2 [p2, pw, blk1 bl (logO bf name all sure), m] := back _ _ hs4
  have hs5 : Split m2 [p2, blk1 bl (logO bf name all sure), m] := hs4.erase 1
  have hbl2 := hs5.sub (a := blk1 bl (logO bf name all sure)) (by simp) _ _ (blk1_same ..)
  have hs6 := hs5.setAt (i := 1) rfl (blk1_same ..) (logO bf name (all + 1) sure)
  rw [blk1_set] at hs6
  have ew : IntKind.i64.wrap ((all : Int) + 1) = ((all + 1 : Nat) : Int) := iadd' (by omega)
  refine ⟨fun h => absurd h (by decide), fun _ => ?_⟩
  conv => whnf
  refine ⟨_, mcell_of hbl2 rfl, rfl, ?_⟩
  conv => whnf
  refine ⟨_, _, _, hbl2, ⟨by simp, by simp⟩, ?_⟩
  conv => whnf
  refine ⟨_, mcell_of (Mem.set_same ..) rfl, rfl, ?_⟩
  rw [ew]
  conv => whnf
  exact ⟨p2, rfl, hs6.perm (List.Perm.swap _ _ _), h2⟩
set_option maxHeartbeats 4000000 in
theorem lsync_spec {A : List Af} {k : Nat} {q : Int} (hs : Split mm [blk1 bl (logO bf name all sure), p, m]) (h : FA p bf q nb ns A) (hk : Sm k A nb ns) :
    Spec Try.prog 9 [ptrB bl] mm fun r m' => ∃ p' ns', r = [i64 0] ∧ Split m' [blk1 bl (logO bf name all all), p', m] ∧ FA p' bf q nb ns' (syncA A name) ∧ ns' ≤ ns + 1 := by
  have hbl : mm bl = some (logO bf name all sure) := hs.sub (a := blk1 bl (logO bf name all sure)) (by simp) _ _ (blk1_same ..)
  refine en9 rfl (goY ?_)
  conv => whnf
  first | refine xretk (lmade_spec hbl) ?_ | refine xret (lmade_spec hbl) ?_
  conv => whnf
  refine ⟨fun h => absurd h (by decide), fun _ => ?_⟩
  conv => whnf
  refine ⟨[.one (.pointer (some ⟨bf, 0, none⟩)), .one (.string name)], ⟨rfl, rfl, trivial⟩, rfl, ⟨_, _, _, hbl, fun j u hu => ?_⟩, ?_⟩
  · match j, hu with
    | 0, hu => exact hu
    | 1, hu => exact hu
    | j + 2, hu => simp [LB.cells, Seg.cells] at hu
  conv => whnf
  refine xcall (Spec.frame (hs.perm (List.Perm.swap _ _ _)) (place_sync (name := name) h hk)) ?_
  rintro _ m2 ⟨p2, ⟨rfl, h2⟩, hs5⟩
  conv => whnf
  have hbl2 := hs5.sub (a := blk1 bl (logO bf name all sure)) (by simp) _ _ (blk1_same ..)
  have hs6 := hs5.setAt (i := 1) rfl (blk1_same ..) (logO bf name all all)
  rw [blk1_set] at hs6
  refine ⟨_, mcell_of hbl2 rfl, rfl, ?_⟩
  conv => whnf
  refine ⟨_, _, _, hbl2, ⟨by simp, by simp⟩, ?_⟩
  conv => whnf
  exact ⟨p2, _, rfl, hs6.perm (List.Perm.swap _ _ _), h2, by split <;> omega⟩
end
end Go.E.Ytcjmmhamnglmkaa

/-
  Contracts of tree: places.
-/
namespace Go.E.Ytcjmmhamnglmkaa
open Go.Proofs
set_option maxRecDepth 100000
namespace Tr
def kids (p : Int) : List Int := if 0 ≤ p ∧ p < 5 then [4 * p + 1, 4 * p + 2, 4 * p + 3, 4 * p + 4] else []
def up (p : Int) : Int := if 0 < p ∧ p < 21 then (p - 1) / 4 else -1
def leafOf (p : Int) : Int := if 5 ≤ p ∧ p < 21 then p - 5 else -1
def kidsL (l : List Int) : List Int := l.flatMap kids
theorem kids_len (p : Int) : (kids p).length ≤ 4 := by unfold kids; split <;> simp
theorem kidsL_len : ∀ (l : List Int), (kidsL l).length ≤ 4 * l.length
  | [] => by simp [kidsL]
  | p :: l => by
    have := kidsL_len l; have := kids_len p
    simp only [kidsL, List.flatMap_cons, List.length_append, List.length_cons] at *; omega
theorem kidsL_in : ∀ {l : List Int}, ∀ k ∈ kidsL l, 1 ≤ k ∧ k ≤ 20 := by
  intro l k hk
  obtain ⟨p, _, hp⟩ := List.mem_flatMap.1 hk
  unfold kids at hp
  split at hp
  · simp at hp; omega
  · simp at hp
end Tr
end Go.E.Ytcjmmhamnglmkaa

/-
  The digest, plainly.
-/
namespace Go.E
namespace Sha
abbrev M : Nat := 4294967296
def rotr (x n : Nat) : Nat := (x * 2 ^ (32 - n)) % M ||| x / 2 ^ n
def s0 (x : Nat) : Nat := rotr x 7 ^^^ rotr x 18 ^^^ x / 8
def s1 (x : Nat) : Nat := rotr x 17 ^^^ rotr x 19 ^^^ x / 1024
def S1 (x : Nat) : Nat := rotr x 6 ^^^ rotr x 11 ^^^ rotr x 25
def S0 (x : Nat) : Nat := rotr x 2 ^^^ rotr x 13 ^^^ rotr x 22
def ch (e f g : Nat) : Nat := (e &&& f) ^^^ ((4294967295 - e) &&& g)
def maj (a b c : Nat) : Nat := (a &&& b) ^^^ (a &&& c) ^^^ (b &&& c)
def K : List Nat := [
  0x428a2f98, 0x71374491, 0xb5c0fbcf, 0xe9b5dba5, 0x3956c25b, 0x59f111f1, 0x923f82a4, 0xab1c5ed5,
  0xd807aa98, 0x12835b01, 0x243185be, 0x550c7dc3, 0x72be5d74, 0x80deb1fe, 0x9bdc06a7, 0xc19bf174,
  0xe49b69c1, 0xefbe4786, 0x0fc19dc6, 0x240ca1cc, 0x2de92c6f, 0x4a7484aa, 0x5cb0a9dc, 0x76f988da,
  0x983e5152, 0xa831c66d, 0xb00327c8, 0xbf597fc7, 0xc6e00bf3, 0xd5a79147, 0x06ca6351, 0x14292967,
  0x27b70a85, 0x2e1b2138, 0x4d2c6dfc, 0x53380d13, 0x650a7354, 0x766a0abb, 0x81c2c92e, 0x92722c85,
  0xa2bfe8a1, 0xa81a664b, 0xc24b8b70, 0xc76c51a3, 0xd192e819, 0xd6990624, 0xf40e3585, 0x106aa070,
  0x19a4c116, 0x1e376c08, 0x2748774c, 0x34b0bcb5, 0x391c0cb3, 0x4ed8aa4a, 0x5b9cca4f, 0x682e6ff3,
  0x748f82ee, 0x78a5636f, 0x84c87814, 0x8cc70208, 0x90befffa, 0xa4506ceb, 0xbef9a3f7, 0xc67178f2]
def H0 : List Nat := [0x6a09e667, 0xbb67ae85, 0x3c6ef372, 0xa54ff53a, 0x510e527f, 0x9b05688c, 0x1f83d9ab, 0x5be0cd19]
/-- the t-th word of a block, by those ahead of it -/
def word (b w : List Nat) (t : Nat) : Nat :=
  if t < 16 then b.getD (4 * t) 0 * 16777216 + b.getD (4 * t + 1) 0 * 65536 + b.getD (4 * t + 2) 0 * 256 + b.getD (4 * t + 3) 0
  else (w.getD (t - 16) 0 + s0 (w.getD (t - 15) 0) + w.getD (t - 7) 0 + s1 (w.getD (t - 2) 0)) % M
def words (b : List Nat) : Nat → List Nat
  | 0 => []
  | t + 1 => words b t ++ [word b (words b t) t]
def step (k w : Nat) (v : List Nat) : List Nat :=
  let x := (v.getD 7 0 + S1 (v.getD 4 0) + ch (v.getD 4 0) (v.getD 5 0) (v.getD 6 0) + k + w) % M
  let y := (S0 (v.getD 0 0) + maj (v.getD 0 0) (v.getD 1 0) (v.getD 2 0)) % M
  [(x + y) % M, v.getD 0 0, v.getD 1 0, v.getD 2 0, (v.getD 3 0 + x) % M, v.getD 4 0, v.getD 5 0, v.getD 6 0]
def rounds (w v : List Nat) : Nat → List Nat
  | 0 => v
  | t + 1 => step (K.getD t 0) (w.getD t 0) (rounds w v t)
def add8 (h v : List Nat) : List Nat := (List.range 8).map fun i => (h.getD i 0 + v.getD i 0) % M
def block (h b : List Nat) : List Nat := add8 h (rounds (words b 64) h 64)
/-- how many zeros stand behind n bytes and the mark -/
def zeros (n : Nat) : Nat := (119 - n % 64) % 64
def be8 (n : Nat) : List Nat := (List.range 8).map fun i => n / 256 ^ (7 - i) % 256
def pad (b : List Nat) : List Nat := b ++ [128] ++ List.replicate (zeros b.length) 0 ++ be8 (8 * b.length)
def blocks (h : List Nat) : Nat → List Nat → List Nat
  | 0, _ => h
  | n + 1, p => blocks (block h (p.take 64)) n (p.drop 64)
def digest (h : List Nat) : List Nat := (List.range 32).map fun i => h.getD (i / 4) 0 / 256 ^ (3 - i % 4) % 256
def sum (b : List Nat) : List Nat := digest (blocks H0 ((pad b).length / 64) (pad b))
def point (b : List Nat) : Nat := (List.range 8).foldl (fun n i => n * 256 + (sum b).getD i 0) 0

/-- the same, in the way of one who must reckon: each number is made plain ahead of the next -/
noncomputable def natK {α : Type} (n : Nat) (k : Nat → α) : α := Nat.rec (motive := fun _ => α) (k 0) (fun m _ => k (m + 1)) n
theorem natK_eq {α : Type} (n : Nat) (k : Nat → α) : natK n k = k n := by cases n <;> rfl
noncomputable def listK {α : Type} : List Nat → (List Nat → α) → α
  | [], k => k []
  | x :: l, k => natK x fun x => listK l fun l => k (x :: l)
theorem listK_eq {α : Type} : ∀ (l : List Nat) (k : List Nat → α), listK l k = k l
  | [], _ => rfl
  | x :: l, k => by simp only [listK, natK_eq, listK_eq l]
noncomputable def wordsK {α : Type} (b : List Nat) : Nat → (List Nat → α) → α
  | 0, k => k []
  | t + 1, k => wordsK b t fun w => natK (word b w t) fun x => k (w ++ [x])
theorem wordsK_eq {α : Type} (b : List Nat) : ∀ (t : Nat) (k : List Nat → α), wordsK b t k = k (words b t)
  | 0, _ => rfl
  | t + 1, k => by simp only [wordsK, words, natK_eq, wordsK_eq b t]
noncomputable def iterK {α : Type} (f : Nat → List Nat → List Nat) (v : List Nat) : Nat → (List Nat → α) → α
  | 0, k => listK v k
  | t + 1, k => iterK f v t fun v => listK (f t v) k
def iter (f : Nat → List Nat → List Nat) (v : List Nat) : Nat → List Nat
  | 0 => v
  | t + 1 => f t (iter f v t)
theorem iterK_eq {α : Type} (f : Nat → List Nat → List Nat) (v : List Nat) : ∀ (t : Nat) (k : List Nat → α), iterK f v t k = k (iter f v t)
  | 0, k => by simp only [iterK, iter, listK_eq]
  | t + 1, k => by simp only [iterK, iter, listK_eq, iterK_eq f v t]
theorem iter_rounds (w v : List Nat) : ∀ t, iter (fun t v => step (K.getD t 0) (w.getD t 0) v) v t = rounds w v t
  | 0 => rfl
  | t + 1 => by rw [iter, iter_rounds w v t]; rfl
noncomputable def roundsK {α : Type} (w v : List Nat) (t : Nat) (k : List Nat → α) : α := iterK (fun t v => step (K.getD t 0) (w.getD t 0) v) v t k
theorem roundsK_eq {α : Type} (w v : List Nat) (t : Nat) (k : List Nat → α) : roundsK w v t k = k (rounds w v t) := by
  rw [roundsK, iterK_eq, iter_rounds]
noncomputable def blockK {α : Type} (h b : List Nat) (k : List Nat → α) : α := listK b fun b => wordsK b 64 fun w => listK w fun w => roundsK w h 64 fun v => listK (add8 h v) k
theorem blockK_eq {α : Type} (h b : List Nat) (k : List Nat → α) : blockK h b k = k (block h b) := by
  rw [blockK, listK_eq, wordsK_eq, listK_eq, roundsK_eq, listK_eq, block]
noncomputable def blocksK {α : Type} (h : List Nat) : Nat → List Nat → (List Nat → α) → α
  | 0, _, k => k h
  | n + 1, p, k => blockK h (p.take 64) fun h' => listK (p.drop 64) fun p' => blocksK h' n p' k
theorem blocksK_eq {α : Type} : ∀ (n : Nat) (h p : List Nat) (k : List Nat → α), blocksK h n p k = k (blocks h n p)
  | 0, _, _, _ => rfl
  | n + 1, h, p, k => by simp only [blocksK, blocks, blockK_eq, listK_eq, blocksK_eq n]
noncomputable def sumK (b : List Nat) : List Nat := listK (pad b) fun p => blocksK H0 (p.length / 64) p fun h => listK (digest h) fun d => d
theorem sumK_eq (b : List Nat) : sumK b = sum b := by simp only [sumK, listK_eq, blocksK_eq, sum]
end Sha
end Go.E

/-
  Contracts of sha: words.
-/
namespace Go.E.Ytcjmmhamnglmkaa
open Go.Proofs
set_option maxRecDepth 100000
abbrev u32 (n : Int) : CV := .v (.int .u32 n)
theorem rotl_arg {n : Nat} (h1 : 1 ≤ n) (h2 : n ≤ 31) : bitsOf .and .u64 (IntKind.u64.wrap (IntKind.i64.wrap (0 - (n : Int)))) 31 = ((32 - n : Nat) : Int) := by
  have e : IntKind.u64.wrap (IntKind.i64.wrap (0 - (n : Int))) = ((18446744073709551616 - n : Nat) : Int) := by
    rw [wi (by omega) (by omega), IntKind.wrap_u64]; omega
  have e2 := and_u64 (a := 18446744073709551616 - n) (b := 31) (by omega) (by omega)
  rw [e]
  refine e2.trans ?_
  have : (18446744073709551616 - n) &&& 31 = (18446744073709551616 - n) % 2 ^ 5 := Nat.and_two_pow_sub_one_eq_mod (18446744073709551616 - n) 5
  rw [this]; omega
theorem shl_u32 {x n : Nat} (hn : n ≤ 32) : shlOf .u32 (x : Int) (n : Int) = ((x * 2 ^ n % Sha.M : Nat) : Int) := by
  show IntKind.u32.wrap ((x : Int) * 2 ^ (min ((n : Int).toNat) 32)) = _
  rw [Int.toNat_natCast, Nat.min_eq_left hn, IntKind.wrap_u32]
  have : ((x : Int) * 2 ^ n) = ((x * 2 ^ n : Nat) : Int) := by simp
  rw [this]; rfl
theorem rotr_lt {x n : Nat} (hx : x < 2 ^ 32) : Sha.rotr x n < 2 ^ 32 := Nat.or_lt_two_pow (Nat.mod_lt _ (by decide)) (Nat.lt_of_le_of_lt (Nat.div_le_self ..) hx)
/-- the first i words of 64 -/
def wc (b : List Nat) (i : Nat) : List Int := (Sha.words b i).map (fun (n : Nat) => (n : Int)) ++ List.replicate (64 - i) 0
theorem words_len (b : List Nat) : ∀ t, (Sha.words b t).length = t
  | 0 => rfl
  | t + 1 => by simp [Sha.words, words_len b t]
theorem wc_get {b : List Nat} {i j : Nat} (h : j < i) : (wc b i).getD j 0 = (((Sha.words b i).getD j 0 : Nat) : Int) := by
  have hl := words_len b i
  simp only [wc, List.getD_eq_getElem?_getD]
  rw [List.getElem?_append_left (by simp [hl, h]), List.getElem?_map, List.getElem?_eq_getElem (by omega)]
  rfl
theorem wc_set {b : List Nat} {i : Nat} {x : Int} (h : i < 64) (hx : x = ((Sha.word b (Sha.words b i) i : Nat) : Int)) : (wc b i).set i x = wc b (i + 1) := by
  have hl := words_len b i
  have e : List.replicate (64 - i) (0 : Int) = 0 :: List.replicate (64 - (i + 1)) 0 := by
    rw [← List.replicate_succ]; congr 1; omega
  rw [wc, e, List.set_append_right _ _ (by simp [hl]), wc, Sha.words, hx]
  simp [hl]
theorem word_lt {b : List Nat} (hb : ∀ x ∈ b, x < 256) (w : List Nat) (t : Nat) : Sha.word b w t < 2 ^ 32 := by
  have g : ∀ k, b.getD k 0 < 256 := fun k => by
    simp only [List.getD_eq_getElem?_getD]
    cases h : b[k]? with
    | none => simp
    | some x => simpa using hb x (List.mem_of_getElem? h)
  unfold Sha.word
  split
  · have := g (4 * t); have := g (4 * t + 1); have := g (4 * t + 2); have := g (4 * t + 3); omega
  · exact Nat.mod_lt _ (by decide)
theorem words_lt {b : List Nat} (hb : ∀ x ∈ b, x < 256) : ∀ (t : Nat) (k : Nat), (Sha.words b t).getD k 0 < 2 ^ 32
  | 0, k => by simp [Sha.words]
  | t + 1, k => by
    have ih := words_lt hb t k
    have hl := words_len b t
    simp only [Sha.words, List.getD_eq_getElem?_getD] at ih ⊢
    rcases Nat.lt_trichotomy k t with h | h | h
    · rw [List.getElem?_append_left (by omega)]; exact ih
    · subst h; rw [List.getElem?_append_right (by omega), hl]; simpa using word_lt hb _ _
    · rw [List.getElem?_eq_none (by simp; omega)]; simp
theorem Lb.at {m : Mem} {b o n c j : Nat} {l : List Int} (h : Lb m (.slice (some ⟨b, o, none⟩) n c) l) {x : Int} (hj : l[j]? = some x) : mcell m b (o + j) = some (.int .u8 x) := by
  obtain ⟨arr, t, fr, h1, h2⟩ := h.range
  exact mcell_of h1 (h2 j _ (by simp [hj]))
theorem be4_nat {a b c d : Nat} (ha : a < 256) (hb : b < 256) (hc : c < 256) (hd : d < 256) :
    ((a * 2 ^ 24 % 4294967296 ||| b * 2 ^ 16 % 4294967296) ||| c * 2 ^ 8 % 4294967296) ||| d = a * 16777216 + b * 65536 + c * 256 + d := by
  have q24 : (2 : Nat) ^ 24 = 16777216 := rfl
  have q16 : (2 : Nat) ^ 16 = 65536 := rfl
  have q8 : (2 : Nat) ^ 8 = 256 := rfl
  have m1 := @or_low a (b * 65536) 24
  have m2 := @or_low (a * 256 + b) (c * 256) 16
  have m3 := @or_low (a * 65536 + b * 256 + c) d 8
  rw [q24] at m1 ⊢
  rw [q16] at m2 ⊢
  rw [q8] at m3 ⊢
  have m1 := m1 (by omega)
  have m2 := m2 (by omega)
  have m3 := m3 (by omega)
  rw [Nat.mod_eq_of_lt (show a * 16777216 < 4294967296 by omega), Nat.mod_eq_of_lt (show b * 65536 < 4294967296 by omega), Nat.mod_eq_of_lt (show c * 256 < 4294967296 by omega), m1,
    show a * 16777216 + b * 65536 = (a * 256 + b) * 65536 by omega, m2, show (a * 256 + b) * 65536 + c * 256 = (a * 65536 + b * 256 + c) * 256 by omega, m3, show (a * 65536 + b * 256 + c) * 256 + d = a * 16777216 + b * 65536 + c * 256 + d by omega]
theorem be4_int {a b c d : Nat} (ha : a < 256) (hb : b < 256) (hc : c < 256) (hd : d < 256) :
    bitsOf .or .u32 (bitsOf .or .u32 (bitsOf .or .u32 (shlOf .u32 (a : Int) 24) (shlOf .u32 (b : Int) 16)) (shlOf .u32 (c : Int) 8)) (d : Int) = ((a * 16777216 + b * 65536 + c * 256 + d : Nat) : Int) := by
  have ea := shl_u32 (x := a) (n := 24) (by decide)
  have eb := shl_u32 (x := b) (n := 16) (by decide)
  have ec := shl_u32 (x := c) (n := 8) (by decide)
  rw [show ((24 : Int)) = ((24 : Nat) : Int) from rfl, show ((16 : Int)) = ((16 : Nat) : Int) from rfl, show ((8 : Int)) = ((8 : Nat) : Int) from rfl, ea, eb, ec]
  have p1 : a * 2 ^ 24 % Sha.M < 2 ^ 32 := Nat.mod_lt _ (by decide)
  have p2 : b * 2 ^ 16 % Sha.M < 2 ^ 32 := Nat.mod_lt _ (by decide)
  have p3 : c * 2 ^ 8 % Sha.M < 2 ^ 32 := Nat.mod_lt _ (by decide)
  rw [or_u32 p1 p2, or_u32 (Nat.or_lt_two_pow p1 p2) p3, or_u32 (Nat.or_lt_two_pow (Nat.or_lt_two_pow p1 p2) p3) (Nat.lt_of_lt_of_le hd (by decide)), be4_nat ha hb hc hd]
theorem getD_lt {bs : List Nat} {n : Nat} (hn : 0 < n) (hb : ∀ x ∈ bs, x < n) (k : Nat) : bs.getD k 0 < n := by
  simp only [List.getD_eq_getElem?_getD]
  cases h : bs[k]? with
  | none => simpa using hn
  | some x => simpa using hb x (List.mem_of_getElem? h)
theorem w32 {a : Nat} (h : a < 256) : IntKind.u32.wrap (a : Int) = (a : Int) := wu32 (by omega) (by omega)
theorem word_bytes {bs : List Nat} (hb : ∀ x ∈ bs, x < 256) {i : Nat} (hi : i < 16) {w : List Nat} :
    bitsOf .or .u32 (bitsOf .or .u32 (bitsOf .or .u32 (shlOf .u32 (IntKind.u32.wrap ((bs.getD (4 * i + 0) 0 : Nat) : Int)) 24) (shlOf .u32 (IntKind.u32.wrap ((bs.getD (4 * i + 1) 0 : Nat) : Int)) 16)) (shlOf .u32 (IntKind.u32.wrap ((bs.getD (4 * i + 2) 0 : Nat) : Int)) 8)) (IntKind.u32.wrap ((bs.getD (4 * i + 3) 0 : Nat) : Int))
      = ((Sha.word bs w i : Nat) : Int) := by
  have g := getD_lt (by decide) hb
  rw [w32 (g _), w32 (g _), w32 (g _), w32 (g _), be4_int (g _) (g _) (g _) (g _), Sha.word, if_pos hi, Nat.add_zero]
theorem add_u32 (a b : Nat) : IntKind.u32.wrap ((a : Int) + (b : Int)) = (((a + b) % Sha.M : Nat) : Int) := by
  rw [IntKind.wrap_u32, ← Int.natCast_add]; rfl
theorem s0_eq {x : Nat} (hx : x < 2 ^ 32) : bitsOf .xor .u32 (bitsOf .xor .u32 ((Sha.rotr x 7 : Nat) : Int) ((Sha.rotr x 18 : Nat) : Int)) (shrOf .u32 (x : Int) 3) = ((Sha.s0 x : Nat) : Int) := by
  have e := shr_nat (k := .u32) (x := x) (n := 3) (by decide)
  rw [show ((3 : Int)) = ((3 : Nat) : Int) from rfl, e, xor_u32 (rotr_lt hx) (rotr_lt hx), xor_u32 (Nat.xor_lt_two_pow (rotr_lt hx) (rotr_lt hx)) (Nat.lt_of_le_of_lt (Nat.div_le_self ..) hx)]
  rfl
theorem s1_eq {x : Nat} (hx : x < 2 ^ 32) : bitsOf .xor .u32 (bitsOf .xor .u32 ((Sha.rotr x 17 : Nat) : Int) ((Sha.rotr x 19 : Nat) : Int)) (shrOf .u32 (x : Int) 10) = ((Sha.s1 x : Nat) : Int) := by
  have e := shr_nat (k := .u32) (x := x) (n := 10) (by decide)
  rw [show ((10 : Int)) = ((10 : Nat) : Int) from rfl, e, xor_u32 (rotr_lt hx) (rotr_lt hx), xor_u32 (Nat.xor_lt_two_pow (rotr_lt hx) (rotr_lt hx)) (Nat.lt_of_le_of_lt (Nat.div_le_self ..) hx)]
  rfl
theorem mod4 (a b c d : Nat) : (((a + b) % Sha.M + c) % Sha.M + d) % Sha.M = (a + b + c + d) % Sha.M := by show (((a + b) % 4294967296 + c) % 4294967296 + d) % 4294967296 = (a + b + c + d) % 4294967296; omega
theorem word_later {bs : List Nat} {i : Nat} (hw : ∀ k, (Sha.words bs i).getD k 0 < 2 ^ 32) (hi : 16 ≤ i) :
    IntKind.u32.wrap (IntKind.u32.wrap (IntKind.u32.wrap ((((Sha.words bs i).getD (i - 16) 0 : Nat) : Int) + bitsOf .xor .u32 (bitsOf .xor .u32 ((Sha.rotr ((Sha.words bs i).getD (i - 15) 0) 7 : Nat) : Int) ((Sha.rotr ((Sha.words bs i).getD (i - 15) 0) 18 : Nat) : Int)) (shrOf .u32 (((Sha.words bs i).getD (i - 15) 0 : Nat) : Int) 3)) + (((Sha.words bs i).getD (i - 7) 0 : Nat) : Int))
      + bitsOf .xor .u32 (bitsOf .xor .u32 ((Sha.rotr ((Sha.words bs i).getD (i - 2) 0) 17 : Nat) : Int) ((Sha.rotr ((Sha.words bs i).getD (i - 2) 0) 19 : Nat) : Int)) (shrOf .u32 (((Sha.words bs i).getD (i - 2) 0 : Nat) : Int) 10)) = ((Sha.word bs (Sha.words bs i) i : Nat) : Int) := by
  rw [s0_eq (hw _), s1_eq (hw _), add_u32, add_u32, add_u32, mod4, Sha.word, if_neg (by omega)]
end Go.E.Ytcjmmhamnglmkaa

/-
  Contracts of sha: a block.
-/
namespace Go.E.Ytcjmmhamnglmkaa
open Go.Proofs
set_option maxRecDepth 100000
theorem nc_get (l : List Nat) (k : Nat) : (nc l).getD k 0 = ((l.getD k 0 : Nat) : Int) := by
  simp only [nc, List.getD_eq_getElem?_getD, List.getElem?_map]
  cases l[k]? <;> rfl
/-- eight words -/
structure W8 (v : List Nat) : Prop where
  len : v.length = 8
  lt : ∀ k, v.getD k 0 < 2 ^ 32
theorem step_w8 {k w : Nat} {v : List Nat} (h : W8 v) : W8 (Sha.step k w v) := by
  refine ⟨rfl, fun j => getD_lt (by decide) (fun x hx => ?_) j⟩
  simp only [Sha.step, List.mem_cons, List.not_mem_nil, or_false] at hx
  rcases hx with rfl | rfl | rfl | rfl | rfl | rfl | rfl | rfl
  · exact Nat.mod_lt _ (by decide)
  · exact h.lt 0
  · exact h.lt 1
  · exact h.lt 2
  · exact Nat.mod_lt _ (by decide)
  · exact h.lt 4
  · exact h.lt 5
  · exact h.lt 6
theorem rounds_w8 {w v : List Nat} (h : W8 v) : ∀ t, W8 (Sha.rounds w v t)
  | 0 => h
  | t + 1 => step_w8 (rounds_w8 h t)
theorem xor3 {a b c : Nat} (ha : a < 2 ^ 32) (hb : b < 2 ^ 32) (hc : c < 2 ^ 32) : bitsOf .xor .u32 (bitsOf .xor .u32 (a : Int) (b : Int)) (c : Int) = ((a ^^^ b ^^^ c : Nat) : Int) := by
  rw [xor_u32 ha hb, xor_u32 (Nat.xor_lt_two_pow ha hb) hc]
theorem and_lt {a b : Nat} (ha : a < 2 ^ 32) : a &&& b < 2 ^ 32 := Nat.lt_of_le_of_lt Nat.and_le_left ha
theorem ch_eq {e f g : Nat} (he : e < 2 ^ 32) (hf : f < 2 ^ 32) (hg : g < 2 ^ 32) :
    bitsOf .xor .u32 (bitsOf .and .u32 (e : Int) (f : Int)) (bitsOf .and .u32 (bitsOf .xor .u32 (if IntKind.u32.signed = true then -1 else IntKind.u32.max) (e : Int)) (g : Int)) = ((Sha.ch e f g : Nat) : Int) := by
  have hn : 4294967295 - e < 2 ^ 32 := by omega
  rw [not_u32 he, and_u32 he hf, and_u32 hn hg, xor_u32 (and_lt he) (and_lt hn)]; rfl
theorem maj_eq {a b c : Nat} (ha : a < 2 ^ 32) (hb : b < 2 ^ 32) (hc : c < 2 ^ 32) :
    bitsOf .xor .u32 (bitsOf .xor .u32 (bitsOf .and .u32 (a : Int) (b : Int)) (bitsOf .and .u32 (a : Int) (c : Int))) (bitsOf .and .u32 (b : Int) (c : Int)) = ((Sha.maj a b c : Nat) : Int) := by
  rw [and_u32 ha hb, and_u32 ha hc, and_u32 hb hc, xor3 (and_lt ha) (and_lt ha) (and_lt hb)]; rfl
theorem mod5 (a b c d e : Nat) : ((((a + b) % Sha.M + c) % Sha.M + d) % Sha.M + e) % Sha.M = (a + b + c + d + e) % Sha.M := by
  show ((((a + b) % 4294967296 + c) % 4294967296 + d) % 4294967296 + e) % 4294967296 = (a + b + c + d + e) % 4294967296; omega
theorem x_eq {v : List Nat} (h : W8 v) (k w : Nat) :
    IntKind.u32.wrap (IntKind.u32.wrap (IntKind.u32.wrap (IntKind.u32.wrap (((v.getD 7 0 : Nat) : Int) + bitsOf .xor .u32 (bitsOf .xor .u32 ((Sha.rotr (v.getD 4 0) 6 : Nat) : Int) ((Sha.rotr (v.getD 4 0) 11 : Nat) : Int)) ((Sha.rotr (v.getD 4 0) 25 : Nat) : Int))
      + bitsOf .xor .u32 (bitsOf .and .u32 ((v.getD 4 0 : Nat) : Int) ((v.getD 5 0 : Nat) : Int)) (bitsOf .and .u32 (bitsOf .xor .u32 (if IntKind.u32.signed = true then -1 else IntKind.u32.max) ((v.getD 4 0 : Nat) : Int)) ((v.getD 6 0 : Nat) : Int))) + (k : Int)) + (w : Int))
      = (((v.getD 7 0 + Sha.S1 (v.getD 4 0) + Sha.ch (v.getD 4 0) (v.getD 5 0) (v.getD 6 0) + k + w) % Sha.M : Nat) : Int) := by
  rw [xor3 (rotr_lt (h.lt 4)) (rotr_lt (h.lt 4)) (rotr_lt (h.lt 4)), ch_eq (h.lt 4) (h.lt 5) (h.lt 6), add_u32, add_u32, add_u32, add_u32, mod5]; rfl
theorem y_eq {v : List Nat} (h : W8 v) :
    IntKind.u32.wrap (bitsOf .xor .u32 (bitsOf .xor .u32 ((Sha.rotr (v.getD 0 0) 2 : Nat) : Int) ((Sha.rotr (v.getD 0 0) 13 : Nat) : Int)) ((Sha.rotr (v.getD 0 0) 22 : Nat) : Int)
      + bitsOf .xor .u32 (bitsOf .xor .u32 (bitsOf .and .u32 ((v.getD 0 0 : Nat) : Int) ((v.getD 1 0 : Nat) : Int)) (bitsOf .and .u32 ((v.getD 0 0 : Nat) : Int) ((v.getD 2 0 : Nat) : Int))) (bitsOf .and .u32 ((v.getD 1 0 : Nat) : Int) ((v.getD 2 0 : Nat) : Int)))
      = (((Sha.S0 (v.getD 0 0) + Sha.maj (v.getD 0 0) (v.getD 1 0) (v.getD 2 0)) % Sha.M : Nat) : Int) := by
  rw [xor3 (rotr_lt (h.lt 0)) (rotr_lt (h.lt 0)) (rotr_lt (h.lt 0)), maj_eq (h.lt 0) (h.lt 1) (h.lt 2), add_u32]; rfl
theorem step_eq {v : List Nat} (h : W8 v) {k w : Nat} : [IntKind.u32.wrap (IntKind.u32.wrap (IntKind.u32.wrap (IntKind.u32.wrap (IntKind.u32.wrap (((v.getD 7 0 : Nat) : Int) + bitsOf .xor .u32 (bitsOf .xor .u32 ((Sha.rotr (v.getD 4 0) 6 : Nat) : Int) ((Sha.rotr (v.getD 4 0) 11 : Nat) : Int)) ((Sha.rotr (v.getD 4 0) 25 : Nat) : Int))
      + bitsOf .xor .u32 (bitsOf .and .u32 ((v.getD 4 0 : Nat) : Int) ((v.getD 5 0 : Nat) : Int)) (bitsOf .and .u32 (bitsOf .xor .u32 (if IntKind.u32.signed = true then -1 else IntKind.u32.max) ((v.getD 4 0 : Nat) : Int)) ((v.getD 6 0 : Nat) : Int))) + (k : Int)) + (w : Int)) + IntKind.u32.wrap (bitsOf .xor .u32 (bitsOf .xor .u32 ((Sha.rotr (v.getD 0 0) 2 : Nat) : Int) ((Sha.rotr (v.getD 0 0) 13 : Nat) : Int)) ((Sha.rotr (v.getD 0 0) 22 : Nat) : Int)
      + bitsOf .xor .u32 (bitsOf .xor .u32 (bitsOf .and .u32 ((v.getD 0 0 : Nat) : Int) ((v.getD 1 0 : Nat) : Int)) (bitsOf .and .u32 ((v.getD 0 0 : Nat) : Int) ((v.getD 2 0 : Nat) : Int))) (bitsOf .and .u32 ((v.getD 1 0 : Nat) : Int) ((v.getD 2 0 : Nat) : Int)))),
      ((v.getD 0 0 : Nat) : Int), ((v.getD 1 0 : Nat) : Int), ((v.getD 2 0 : Nat) : Int),
      IntKind.u32.wrap (((v.getD 3 0 : Nat) : Int) + IntKind.u32.wrap (IntKind.u32.wrap (IntKind.u32.wrap (IntKind.u32.wrap (((v.getD 7 0 : Nat) : Int) + bitsOf .xor .u32 (bitsOf .xor .u32 ((Sha.rotr (v.getD 4 0) 6 : Nat) : Int) ((Sha.rotr (v.getD 4 0) 11 : Nat) : Int)) ((Sha.rotr (v.getD 4 0) 25 : Nat) : Int))
      + bitsOf .xor .u32 (bitsOf .and .u32 ((v.getD 4 0 : Nat) : Int) ((v.getD 5 0 : Nat) : Int)) (bitsOf .and .u32 (bitsOf .xor .u32 (if IntKind.u32.signed = true then -1 else IntKind.u32.max) ((v.getD 4 0 : Nat) : Int)) ((v.getD 6 0 : Nat) : Int))) + (k : Int)) + (w : Int))),
      ((v.getD 4 0 : Nat) : Int), ((v.getD 5 0 : Nat) : Int), ((v.getD 6 0 : Nat) : Int)] = nc (Sha.step k w v) := by
  rw [x_eq h, y_eq h, add_u32, add_u32]; rfl
theorem mix_get {B h : List Nat} (hh : h.length = 8) {i : Nat} (hi : i < 8) : ((nc B).take i ++ (nc h).drop i).getD i 0 = ((h.getD i 0 : Nat) : Int) ∨ B.length < i := by
  by_cases hb : B.length < i
  · exact .inr hb
  · left
    have hl : ((nc B).take i).length = i := by simp; omega
    simp only [List.getD_eq_getElem?_getD]
    rw [List.getElem?_append_right (by omega), hl, Nat.sub_self, List.getElem?_drop, Nat.add_zero, List.getElem?_map, List.getElem?_eq_getElem (by omega)]
    rfl
theorem add8_len (h v : List Nat) : (Sha.add8 h v).length = 8 := by simp [Sha.add8]
theorem mix_get8 {x v h : List Nat} (hh : h.length = 8) {i : Nat} (hi : i < 8) : ((nc (Sha.add8 x v)).take i ++ (nc h).drop i).getD i 0 = ((h.getD i 0 : Nat) : Int) :=
  (mix_get hh hi).resolve_right (by rw [add8_len]; omega)
theorem mix_set {v h : List Nat} (hh : h.length = 8) {i : Nat} (hi : i < 8) : ((nc (Sha.add8 h v)).take i ++ (nc h).drop i).set i (((h.getD i 0 + v.getD i 0) % Sha.M : Nat) : Int) = (nc (Sha.add8 h v)).take (i + 1) ++ (nc h).drop (i + 1) := by
  have hl : ((nc (Sha.add8 h v)).take i).length = i := by simp [add8_len]; omega
  have hB : (nc (Sha.add8 h v)).length = 8 := by simp [add8_len]
  have e : (nc h).drop i = (((h.getD i 0 : Nat) : Int)) :: (nc h).drop (i + 1) := by
    rw [List.drop_eq_getElem_cons (by simp; omega)]; simp [List.getD_eq_getElem?_getD, List.getElem?_eq_getElem (show i < h.length by omega)]
  rw [e, List.set_append_right _ _ (by omega), hl, Nat.sub_self, List.set_cons_zero, List.take_succ_eq_append_getElem (by omega), List.append_assoc]
  simp [Sha.add8]
end Go.E.Ytcjmmhamnglmkaa

/-
  Contracts of sha: the digest.
-/
namespace Go.E.Ytcjmmhamnglmkaa
open Go.Proofs
set_option maxRecDepth 100000
/-- the first n bytes of 32 -/
def dgc (h : List Nat) (n : Nat) : List Int := (nc (Sha.digest h)).take n ++ List.replicate (32 - n) 0
theorem digest_len (h : List Nat) : (Sha.digest h).length = 32 := by simp [Sha.digest]
theorem dgc_set {h : List Nat} {i k : Nat} (hi : i < 8) (hk : k < 4) : (dgc h (4 * i + k)).set (4 * i + k) ((h.getD i 0 / 256 ^ (3 - k) % 256 : Nat) : Int) = dgc h (4 * i + (k + 1)) := by
  have hB : (nc (Sha.digest h)).length = 32 := by simp [digest_len]
  have hl : ((nc (Sha.digest h)).take (4 * i + k)).length = 4 * i + k := by rw [List.length_take]; omega
  have e : List.replicate (32 - (4 * i + k)) (0 : Int) = 0 :: List.replicate (32 - (4 * i + (k + 1))) 0 := by
    rw [← List.replicate_succ]; congr 1; omega
  have d1 : (4 * i + k) / 4 = i := by omega
  have d2 : (4 * i + k) % 4 = k := by omega
  rw [dgc, e, List.set_append_right _ _ (by omega), hl, Nat.sub_self, List.set_cons_zero, dgc, show 4 * i + (k + 1) = 4 * i + k + 1 by omega, List.take_succ_eq_append_getElem (by omega), List.append_assoc]
  simp [Sha.digest, d1, d2]
theorem byte_eq {x k : Nat} (hk : k < 4) : IntKind.u8.wrap (shrOf .u32 (x : Int) ((24 - 8 * k : Nat) : Int)) = ((x / 256 ^ (3 - k) % 256 : Nat) : Int) := by
  rw [shr_nat (by show 24 - 8 * k ≤ 32; omega), IntKind.wrap_u8]
  have : 2 ^ (24 - 8 * k) = 256 ^ (3 - k) := by
    rw [show (256 : Nat) = 2 ^ 8 from rfl, ← Nat.pow_mul]; congr 1; omega
  rw [this]; rfl
end Go.E.Ytcjmmhamnglmkaa

/-
  Contracts of sha: bytes with what stands behind them.
-/
namespace Go.E.Ytcjmmhamnglmkaa
open Go.Proofs
set_option maxRecDepth 100000
theorem nc_append (a b : List Nat) : nc (a ++ b) = nc a ++ nc b := by simp [nc]
theorem zeros_at {n k : Nat} (hk : k ≤ Sha.zeros n) : (n + 1 + k) % 64 = 56 ↔ k = Sha.zeros n := by
  unfold Sha.zeros at *
  omega
theorem be8_len (n : Nat) : (Sha.be8 n).length = 8 := by simp [Sha.be8]
theorem be8_byte {n j : Nat} (hj : j < 8) : IntKind.u8.wrap (shrOf .u64 (n : Int) ((8 * (7 - j) : Nat) : Int)) = ((n / 256 ^ (7 - j) % 256 : Nat) : Int) := by
  rw [shr_nat (by show 8 * (7 - j) ≤ 64; omega), IntKind.wrap_u8]
  have : 2 ^ (8 * (7 - j)) = 256 ^ (7 - j) := by rw [show (256 : Nat) = 2 ^ 8 from rfl, ← Nat.pow_mul]
  rw [this]; rfl
theorem be8_take {n j : Nat} (hj : j < 8) : (Sha.be8 n).take j ++ [n / 256 ^ (7 - j) % 256] = (Sha.be8 n).take (j + 1) := by
  rw [List.take_succ_eq_append_getElem (by rw [be8_len]; exact hj)]; simp [Sha.be8]
end Go.E.Ytcjmmhamnglmkaa

/-
  Contracts of sha: the digest of lists of bytes.
-/
namespace Go.E.Ytcjmmhamnglmkaa
open Go.Proofs
set_option maxRecDepth 100000
abbrev ptrV (b : Nat) : CV := .v (.pointer (some ⟨b, 0, none⟩))
/-- the k-th piece -/
abbrev piece (b o k : Nat) : CV := .v (.slice (some ⟨b, o + 64 * k, none⟩) 64 64)
end Go.E.Ytcjmmhamnglmkaa

/-
  Contracts of sha: the digest of lists of bytes.
-/
namespace Go.E.Ytcjmmhamnglmkaa
open Go.Proofs
set_option maxRecDepth 100000
theorem Lb.piece {m : Mem} {b o n c : Nat} {l : List Int} (h : Lb m (.slice (some ⟨b, o, none⟩) n c) l) (i len : Nat) (hk : i + len ≤ l.length) : Lb m (.slice (some ⟨b, o + i, none⟩) len len) ((l.drop i).take len) := by
  rcases h.cases with ⟨c, h1, h2⟩ | ⟨b', o', c', arr, t, fr, h1, h2, h3, h4⟩
  · cases h1
  · cases h1
    refine Lb.mk h2 (by simp; omega) (Nat.le_refl _) (fun j x hj => ?_)
    rw [List.getElem?_take] at hj
    split at hj
    · rw [List.getElem?_drop] at hj
      rw [Nat.add_assoc]; exact h4 _ _ hj
    · cases hj
theorem Lb.cap {m : Mem} {b o n c : Nat} {l : List Int} (h : Lb m (.slice (some ⟨b, o, none⟩) n c) l) : l.length ≤ c := by
  rcases h.cases with ⟨c, h1, h2⟩ | ⟨b', o', c', arr, t, fr, h1, h2, h3, h4⟩
  · cases h1
  · cases h1; exact h3
theorem blocks_succ : ∀ (k : Nat) (h p : List Nat), Sha.blocks h (k + 1) p = Sha.block (Sha.blocks h k p) ((p.drop (64 * k)).take 64)
  | 0, h, p => by simp [Sha.blocks]
  | k + 1, h, p => by
    rw [Sha.blocks, blocks_succ k, Sha.blocks, List.drop_drop]
    congr 3; omega
theorem add8_w8 (h v : List Nat) : W8 (Sha.add8 h v) := by
  refine ⟨by simp [Sha.add8], fun j => getD_lt (by decide) (fun x hx => ?_) j⟩
  simp only [Sha.add8, List.mem_map] at hx
  obtain ⟨i, _, rfl⟩ := hx
  exact Nat.mod_lt _ (by decide)
theorem blocks_w8 {h : List Nat} (hh : W8 h) (p : List Nat) : ∀ k, W8 (Sha.blocks h k p)
  | 0 => hh
  | k + 1 => by rw [blocks_succ]; exact add8_w8 _ _
theorem H0_w8 : W8 Sha.H0 := ⟨rfl, fun j => getD_lt (by decide) (by decide) j⟩
theorem pad_len (l : List Nat) : (Sha.pad l).length = 64 * ((Sha.pad l).length / 64) := by
  have : (Sha.pad l).length % 64 = 0 := by
    simp only [Sha.pad, List.length_append, List.length_replicate, be8_len, List.length_cons, List.length_nil, Sha.zeros]
    omega
  omega
theorem pad_le (l : List Nat) : (Sha.pad l).length ≤ l.length + 73 := by
  simp only [Sha.pad, List.length_append, List.length_replicate, be8_len, List.length_cons, List.length_nil, Sha.zeros]
  omega
theorem pad_byte {l : List Nat} (h : ∀ x ∈ l, x < 256) : ∀ x ∈ Sha.pad l, x < 256 := by
  intro x hx
  simp only [Sha.pad, List.mem_append, List.mem_singleton, List.mem_replicate, Sha.be8, List.mem_map] at hx
  rcases hx with ((h1 | rfl) | ⟨_, rfl⟩) | ⟨i, _, rfl⟩
  · exact h _ h1
  · decide
  · decide
  · exact Nat.mod_lt _ (by decide)
theorem over_obj {old : List Value} {new : LB} {t : TypeId} (hk : old.length ≤ LB.size new) : Obj.cells ((old.toArray).toList.take 0 ++ (LB.cells new ++ (old.toArray).toList.drop (0 + LB.size new))).toArray t = .cells (LB.cells new).toArray t := by
  have : (old.toArray).toList.drop (0 + LB.size new) = [] := List.drop_eq_nil_of_le (by simpa using hk)
  rw [this]; simp
end Go.E.Ytcjmmhamnglmkaa

/-
  Contracts of sha: the point, the number of blocks.
-/
namespace Go.E.Ytcjmmhamnglmkaa
open Go.Proofs
set_option maxRecDepth 100000
theorem catB1 {v : Value} {l : List Nat} : catB [(v, nc l)] = nc l := by simp [catB]
theorem catB2 {v w : Value} {l k : List Nat} : catB [(v, nc l), (w, nc k)] = nc (l ++ k) := by simp [catB, nc]
/-- the point, step by step -/
def pt (l : List Nat) (i : Nat) : Nat := (List.range i).foldl (fun n i => n * 256 + (Sha.sum l).getD i 0) 0
theorem pt_succ (l : List Nat) (i : Nat) : pt l (i + 1) = pt l i * 256 + (Sha.sum l).getD i 0 := by simp [pt, List.range_succ]
theorem sum_lt (l : List Nat) (i : Nat) : (Sha.sum l).getD i 0 < 256 := by
  refine getD_lt (by decide) (fun x hx => ?_) i
  simp only [Sha.sum, Sha.digest, List.mem_map] at hx
  obtain ⟨i, _, rfl⟩ := hx
  exact Nat.mod_lt _ (by decide)
theorem pt_lt (l : List Nat) : ∀ i, pt l i < 256 ^ i
  | 0 => by simp [pt]
  | i + 1 => by
    have := pt_lt l i; have := sum_lt l i
    rw [pt_succ, Nat.pow_succ]; omega
theorem shl8 {x : Nat} (hx : x < 72057594037927936) : shlOf .u64 (x : Int) 8 = ((x * 256 : Nat) : Int) := by
  show IntKind.u64.wrap ((x : Int) * 2 ^ (min ((8 : Int).toNat) 64)) = _
  have : (min ((8 : Int).toNat) 64) = 8 := by decide
  rw [this, show ((2 : Int) ^ 8) = 256 from rfl, wu (by omega) (by omega)]; omega
theorem pt_or {l : List Nat} {i : Nat} (hi : i < 8) : bitsOf .or .u64 (shlOf .u64 ((pt l i : Nat) : Int) 8) (IntKind.u64.wrap (((Sha.sum l).getD i 0 : Nat) : Int)) = ((pt l (i + 1) : Nat) : Int) := by
  have h1 := pt_lt l i
  have h2 : (256 : Nat) ^ i ≤ 256 ^ 7 := Nat.pow_le_pow_right (by decide) (by omega)
  rw [show (256 : Nat) ^ 7 = 72057594037927936 from rfl] at h2
  have h3 := sum_lt l i
  rw [pt_succ]
  generalize pt l i = x at h1 ⊢
  generalize (Sha.sum l).getD i 0 = y at h3 ⊢
  have hx : x < 72057594037927936 := Nat.lt_of_lt_of_le h1 h2
  clear h1 h2
  rw [shl8 hx, wu (n := (y : Int)) (by omega) (by omega), or_u64 (Nat.lt_of_lt_of_le (show x * 256 < 18446744073709551616 by omega) (by decide)) (Nat.lt_of_lt_of_le h3 (by decide))]
  have := @or_low x y 8 (by simpa using h3)
  rw [show (2 : Nat) ^ 8 = 256 from rfl] at this
  rw [this]
end Go.E.Ytcjmmhamnglmkaa

/-
  The digest of 'abc'; builds.
-/
namespace Go.E.Ytcjmmhamnglmkaa
open Go.Proofs
set_option maxRecDepth 100000
theorem abc_sum : Sha.sum [97, 98, 99] = [186, 120, 22, 191, 143, 1, 207, 234, 65, 65, 64, 222, 93, 174, 34, 35, 176, 3, 97, 163, 150, 23, 122, 156, 180, 16, 255, 97, 242, 0, 21, 173] := by
  rw [← Sha.sumK_eq]; decide +kernel
def abcD : List Int := [186, 120, 22, 191, 143, 1, 207, 234, 65, 65, 64, 222, 93, 174, 34, 35, 176, 3, 97, 163, 150, 23, 122, 156, 180, 16, 255, 97, 242, 0, 21, 173]
end Go.E.Ytcjmmhamnglmkaa

/-
  Contracts of tree: digests.
-/
namespace Go.E.Ytcjmmhamnglmkaa
open Go.Proofs
set_option maxRecDepth 100000
namespace Tr
/-- a tree is 672 bytes; the digest at a place -/
def dig (t : List Nat) (p : Nat) : List Nat := (t.drop (32 * p)).take 32
def put (t : List Nat) (p : Nat) (d : List Nat) : List Nat := t.take (32 * p) ++ d ++ t.drop (32 * p + 32)
/-- what an inner place's digest is made of -/
def below (t : List Nat) (p : Nat) : List Nat := if p < 5 then 1 :: ((kids p).flatMap fun k => dig t k.toNat) else []
structure Ok (t : List Nat) : Prop where
  len : t.length = 672
  byt : ∀ x ∈ t, x < 256
theorem dig_len {t : List Nat} (h : t.length = 672) {p : Nat} (hp : p < 21) : (dig t p).length = 32 := by simp [dig]; omega
theorem dig_byt {t : List Nat} (h : ∀ x ∈ t, x < 256) (p : Nat) : ∀ x ∈ dig t p, x < 256 := fun x hx => h x (List.mem_of_mem_drop (List.mem_of_mem_take hx))
theorem put_ok {t d : List Nat} (h : Ok t) (hd : d.length = 32) (hb : ∀ x ∈ d, x < 256) {p : Nat} (hp : p < 21) : Ok (put t p d) := by
  refine ⟨by have := h.len; simp [put]; omega, fun x hx => ?_⟩
  simp only [put, List.mem_append] at hx
  rcases hx with (hx | hx) | hx
  · exact h.byt x (List.mem_of_mem_take hx)
  · exact hb x hx
  · exact h.byt x (List.mem_of_mem_drop hx)
theorem below_len {t : List Nat} (h : t.length = 672) {p : Nat} : (below t p).length ≤ 129 := by
  unfold below
  split
  · rename_i h5
    unfold kids
    rw [if_pos (by omega)]
    simp only [List.flatMap_cons, List.flatMap_nil, List.length_cons, List.length_append, List.length_nil, dig, List.length_take]
    omega
  · simp
theorem below_byt {t : List Nat} (h : Ok t) {p : Nat} : ∀ x ∈ below t p, x < 256 := by
  unfold below
  split
  · intro x hx
    rcases List.mem_cons.1 hx with rfl | hx
    · decide
    · obtain ⟨k, _, hk⟩ := List.mem_flatMap.1 hx
      exact dig_byt h.byt _ x hk
  · simp
end Tr
theorem nc_cut (t : List Nat) (i n : Nat) : ((nc t).drop i).take n = nc ((t.drop i).take n) := by simp only [nc, List.map_drop, List.map_take]
abbrev treeV (t : List Nat) : CV := .a [.ints .u8 672 (nc t)]
abbrev digV' (d : List Nat) : CV := .a [.ints .u8 32 (nc d)]
theorem dig_lb {m : Mem} {b k : Nat} {t : List Nat} {T : TypeId} {fr : Nat × Nat} (h : m b = some (.cells (LB.cells [.ints .u8 672 (nc t)]).toArray T fr)) (ht : t.length = 672) (hk : k < 21) : Lb m (.slice (some ⟨b, k * 32, none⟩) 32 32) (nc (Tr.dig t k)) := by
  refine Lb.mk h (by simp [Tr.dig]; omega) (Nat.le_refl _) (fun j x hj => ?_)
  rw [Tr.dig, ← nc_cut, List.getElem?_take] at hj
  split at hj
  · rw [List.getElem?_drop, Nat.mul_comm] at hj
    simp [LB.cells, Seg.cells]
    simp at hj
    obtain ⟨y, h1, rfl⟩ := hj
    exact ⟨y, h1, rfl⟩
  · cases hj
end Go.E.Ytcjmmhamnglmkaa

/-
  Lists of digests.
-/
namespace Go.E.Ytcjmmhamnglmkaa
open Go.Proofs
set_option maxRecDepth 100000
def dcs (D : List (List Nat)) : List Value := D.flatMap fun d => (nc d).map (Value.int .u8)
def D32 (D : List (List Nat)) : Prop := ∀ d ∈ D, d.length = 32
theorem dcs_append (a b : List (List Nat)) : dcs (a ++ b) = dcs a ++ dcs b := by simp [dcs]
theorem dcs_len : ∀ {D : List (List Nat)}, D32 D → (dcs D).length = D.length * 32
  | [], _ => rfl
  | d :: D, h => by
    have ih := dcs_len (D := D) fun x hx => h x (by simp [hx])
    have := h d (by simp)
    simp only [dcs, List.flatMap_cons, List.length_append, List.length_map, List.length_cons] at ih ⊢
    omega
theorem dcs_one {D : List (List Nat)} : ∀ u ∈ dcs D, u.oneCell' = true := by
  intro u hu
  obtain ⟨d, _, h⟩ := List.mem_flatMap.1 hu
  obtain ⟨x, _, rfl⟩ := List.mem_map.1 h
  rfl
theorem dcs_at : ∀ {D : List (List Nat)} {i j : Nat} {u : Value}, D32 D → (hi : i < D.length) → ((nc D[i]).map (Value.int .u8))[j]? = some u → (dcs D)[i * 32 + j]? = some u
  | d :: D, 0, j, u, h, _, hu => by
    have hl := (List.getElem?_eq_some_iff.1 hu).1
    simp only [dcs, List.flatMap_cons]
    rw [List.getElem?_append_left (by simpa using hl)]
    simpa using hu
  | d :: D, i + 1, j, u, h, hi, hu => by
    have hd := h d (by simp)
    have ih := dcs_at (D := D) (i := i) (j := j) (u := u) (fun x hx => h x (by simp [hx])) (by simpa using hi) (by simpa using hu)
    simp only [dcs, List.flatMap_cons] at ih ⊢
    rw [List.getElem?_append_right (by simp [hd]; omega)]
    simp only [List.length_map, hd]
    rw [show (i + 1) * 32 + j - 32 = i * 32 + j by omega]
    exact ih
/-- digests that lie somewhere; owned; or none, wherever -/
structure Dl (m : Mem) (v : Value) (D : List (List Nat)) : Prop where
  lies : Lies m 32 v (dcs D)
  ok : D32 D
def Da (m : Mem) (v : Value) (D : List (List Nat)) : Prop := Dl m v D ∨ (D = [] ∧ ∃ a, v = .slice (some a) 0 0)
theorem Dl.sub {m m' : Mem} {v : Value} {D : List (List Nat)} (h : Dl m v D) (hs : Sub m m') : Dl m' v D := ⟨h.lies.sub hs, h.ok⟩
theorem Dl.da {m : Mem} {v : Value} {D : List (List Nat)} (h : Dl m v D) : Da m v D := .inl h
theorem Da.sub {m m' : Mem} {v : Value} {D : List (List Nat)} (h : Da m v D) (hs : Sub m m') : Da m' v D := h.imp (·.sub hs) id
theorem Da.ok {m : Mem} {v : Value} {D : List (List Nat)} (h : Da m v D) : D32 D := by
  rcases h with h | ⟨rfl, _⟩
  · exact h.ok
  · intro d hd; cases hd
theorem Dl.shape {m : Mem} {v : Value} {D : List (List Nat)} (h : Dl m v D) : ∃ a c, v = .slice a D.length c := by
  have hl := dcs_len h.ok
  rcases h.lies with ⟨c, rfl, e⟩ | ⟨b, o, c, n, arr, t, fr, rfl, _, e, _⟩
  · rw [e] at hl
    have : D.length = 0 := by simp only [List.length_nil] at hl; omega
    exact ⟨none, c, by rw [this]⟩
  · have : D.length = n := by omega
    exact ⟨_, c, by rw [this]⟩
theorem Da.shape {m : Mem} {v : Value} {D : List (List Nat)} (h : Da m v D) : ∃ a c, v = .slice a D.length c := by
  rcases h with h | ⟨rfl, a, rfl⟩
  · exact h.shape
  · exact ⟨_, _, rfl⟩
theorem Dl.real {m : Mem} {v : Value} {D : List (List Nat)} (h : Dl m v D) {i : Nat} (hi : i < D.length) : ∃ b o c, v = .slice (some ⟨b, o, none⟩) D.length c ∧ ∀ j (hj : j < D.length), MRange m b (o + j * 32) (LB.cells [.ints .u8 32 (nc D[j])]) := by
  have hl := dcs_len h.ok
  rcases h.lies with ⟨c, rfl, e⟩ | ⟨b, o, c, n, arr, t, fr, rfl, g1, e, _, g2, _⟩
  · rw [e] at hl; simp at hl; omega
  · have : D.length = n := by omega
    refine ⟨b, o, c, by rw [this], fun j hj => ⟨arr, t, fr, g1, fun k u hu => ?_⟩⟩
    rw [Nat.add_assoc]
    exact g2 _ _ (dcs_at h.ok hj (by simpa [LB.cells, Seg.cells] using hu))
theorem Da.real {m : Mem} {v : Value} {D : List (List Nat)} (h : Da m v D) {i : Nat} (hi : i < D.length) : ∃ b o c, v = .slice (some ⟨b, o, none⟩) D.length c ∧ ∀ j (hj : j < D.length), MRange m b (o + j * 32) (LB.cells [.ints .u8 32 (nc D[j])]) := by
  rcases h with h | ⟨rfl, _⟩
  · exact h.real hi
  · simp at hi
end Go.E.Ytcjmmhamnglmkaa

/-
  Contracts of walk.
-/
namespace Go.E.Ytcjmmhamnglmkaa
open Go.Proofs
set_option maxRecDepth 100000
theorem nc_inj {a b : List Nat} (h : nc a = nc b) : a = b := by
  have := congrArg (List.map Int.toNat) h
  simpa [nc, Function.comp_def] using this
theorem eqLB_dig (n k : Nat) (a b : List Nat) : eqLB [.ints .u8 n (nc a)] [.ints .u8 k (nc b)] = decide (a = b) := by
  by_cases h : a = b
  · subst h; simp [eqLB]
  · have : ¬ nc a = nc b := fun e => h (nc_inj e)
    simp only [eqLB, decide_eq_false h, Bool.and_true]
    exact beq_false_of_ne this
theorem dig_at (t : List Nat) (k : Nat) : ((nc t).drop (times (k : Int) 32)).take 32 = nc (Tr.dig t k) := by
  have : times (k : Int) 32 = 32 * k := by simp [times]; omega
  rw [this, nc_cut]; rfl
def Pls (l : List Int) : Prop := ∀ x ∈ l, -9223372036854775808 ≤ x ∧ x ≤ 9223372036854775807
namespace Tr
def digs (t : List Nat) (l : List Int) : List (List Nat) := (kidsL l).map fun k => dig t k.toNat
/-- the children of places whose digests are unlike others -/
def unl (t : List Nat) : List Int → List (List Nat) → List Int
  | k :: ks, d :: ds => if dig t k.toNat = d then unl t ks ds else k :: unl t ks ds
  | _, _ => []
theorem unl_snoc (t : List Nat) : ∀ {ks : List Int} {ds : List (List Nat)} {k : Int} {d : List Nat}, ks.length = ds.length → unl t (ks ++ [k]) (ds ++ [d]) = if dig t k.toNat = d then unl t ks ds else unl t ks ds ++ [k]
  | [], [], k, d, _ => by simp [unl]
  | k' :: ks, d' :: ds, k, d, h => by
    have ih := unl_snoc t (ks := ks) (ds := ds) (k := k) (d := d) (by simpa using h)
    simp only [List.cons_append, unl, ih]
    split <;> split <;> simp
theorem unl_len (t : List Nat) : ∀ {ks : List Int} {ds : List (List Nat)}, (unl t ks ds).length ≤ ks.length
  | [], _ => by simp [unl]
  | k :: ks, [] => by simp [unl]
  | k :: ks, d :: ds => by
    have := unl_len t (ks := ks) (ds := ds)
    unfold unl
    split
    · simp only [List.length_cons]; omega
    · simp only [List.length_cons]; omega
end Tr
end Go.E.Ytcjmmhamnglmkaa

/-
  Contracts of walk: the walk.
-/
namespace Go.E.Ytcjmmhamnglmkaa
open Go.Proofs
set_option maxRecDepth 100000
namespace Tr
def leaves (l : List Int) : List Int := (l.map leafOf).filter fun n => decide (0 ≤ n)
end Tr
end Go.E.Ytcjmmhamnglmkaa

/-
  Contracts of walk: a walk of two trees.
-/
namespace Go.E.Ytcjmmhamnglmkaa
open Go.Proofs
set_option maxRecDepth 100000
namespace Tr
def wk (a b : List Nat) : Nat → List Int → Nat → Nat → List Int × Nat × Nat
  | 0, _, looks, r => ([], looks, r)
  | f + 1, l, looks, r => if (digs b l).length = 0 then (l, looks, r + 1) else
    let l' := unl a (kidsL l) (digs b l)
    if l'.length = 0 then ([], looks + (digs b l).length, r + 1) else wk a b f l' (looks + (digs b l).length) (r + 1)
def walk (a b : List Nat) : List Int × Nat × Nat := if dig a 0 = dig b 0 then ([], 1, 0) else wk a b 3 [0] 1 0
/-- the places of a level -/
def Lev (f : Nat) (l : List Int) : Prop := (f = 3 ∧ l = [0]) ∨ (f = 2 ∧ ∀ x ∈ l, 1 ≤ x ∧ x < 5) ∨ (f = 1 ∧ ∀ x ∈ l, 5 ≤ x ∧ x < 21)
theorem unl_sub (t : List Nat) : ∀ {ks : List Int} {ds : List (List Nat)}, ∀ x ∈ unl t ks ds, x ∈ ks
  | [], _, x, h => by simp [unl] at h
  | k :: ks, [], x, h => by simp [unl] at h
  | k :: ks, d :: ds, x, h => by
    unfold unl at h
    split at h
    · exact List.mem_cons_of_mem _ (unl_sub t x h)
    · rcases List.mem_cons.1 h with rfl | h
      · simp
      · exact List.mem_cons_of_mem _ (unl_sub t x h)
theorem digs_len (t : List Nat) (l : List Int) : (digs t l).length = (kidsL l).length := by simp [digs]
theorem Lev.step {f : Nat} {l : List Int} (h : Lev f l) (hd : (kidsL l).length ≠ 0) {a : List Nat} {D : List (List Nat)} : ∃ f', f = f' + 1 ∧ 0 < f' ∧ Lev f' (unl a (kidsL l) D) := by
  rcases h with ⟨rfl, rfl⟩ | ⟨rfl, h⟩ | ⟨rfl, h⟩
  · refine ⟨2, rfl, by decide, .inr (.inl ⟨rfl, fun x hx => ?_⟩)⟩
    have := unl_sub _ x hx
    simp [kidsL, kids] at this
    omega
  · refine ⟨1, rfl, by decide, .inr (.inr ⟨rfl, fun x hx => ?_⟩)⟩
    obtain ⟨p, hp, hk⟩ := List.mem_flatMap.1 (unl_sub _ x hx)
    have := h p hp
    unfold kids at hk
    rw [if_pos (by omega)] at hk
    simp at hk
    omega
  · exfalso
    apply hd
    have : kidsL l = [] := by
      rw [kidsL, List.flatMap_eq_nil_iff]
      intro p hp
      have := h p hp
      rw [kids, if_neg (by omega)]
    rw [this]; rfl
theorem Lev.pls {f : Nat} {l : List Int} (h : Lev f l) : Pls l := by
  intro x hx
  rcases h with ⟨rfl, rfl⟩ | ⟨rfl, h⟩ | ⟨rfl, h⟩
  · simp at hx; omega
  · have := h x hx; omega
  · have := h x hx; omega
theorem wk_end {a b : List Nat} {f : Nat} {l : List Int} {looks r : Nat} (h : (kidsL l).length = 0) : wk a b (f + 1) l looks r = (l, looks, r + 1) := by rw [wk, if_pos (by rw [digs_len]; exact h)]
theorem wk_none {a b : List Nat} {f : Nat} {l : List Int} {looks r : Nat} (h : (kidsL l).length ≠ 0) (h2 : (unl a (kidsL l) (digs b l)).length = 0) : wk a b (f + 1) l looks r = ([], looks + (kidsL l).length, r + 1) := by
  rw [wk, if_neg (by rw [digs_len]; exact h)]
  simp only [h2, if_true, digs_len]
theorem wk_more {a b : List Nat} {f : Nat} {l : List Int} {looks r : Nat} (h : (kidsL l).length ≠ 0) (h2 : (unl a (kidsL l) (digs b l)).length ≠ 0) : wk a b (f + 1) l looks r = wk a b f (unl a (kidsL l) (digs b l)) (looks + (kidsL l).length) (r + 1) := by
  rw [wk, if_neg (by rw [digs_len]; exact h)]
  simp only [h2, if_false, digs_len]
end Tr
end Go.E.Ytcjmmhamnglmkaa

/-
  Contracts of maundref20: places.
-/
namespace Go.E.Ytcjmmhamnglmkaa
open Go.Proofs
set_option maxRecDepth 100000
theorem buildI4 {m : Mem} {x y z w : Int} : PrimSpec Try.prog (.buildSlice 41 4 [0, 1, 2, 3]) [.v (.int .i64 x), .v (.int .i64 y), .v (.int .i64 z), .v (.int .i64 w)] m fun r m' => ∃ b, m b = none ∧ r = [.v (.slice (some ⟨b, 0, none⟩) 4 4)] ∧ m' = m.set b (.cells (ic [x, y, z, w]).toArray 3) :=
  buildSlice_spec (n := 4) tt_ok hIs rfl hI' rfl rfl (by simp [CV.cs]) (by simp) (by simp)
theorem Io.blk {m : Mem} {b n : Nat} {l : List Int} (h : m b = some (.cells (ic l).toArray 3)) (hn : l.length = n) : Io m (.slice (some ⟨b, 0, none⟩) n n) l := by
  subst hn
  refine .inr ⟨b, 0, l.length, l.length, _, rfl, h, by simp, Nat.le_refl _, by simp, fun j u hu => ?_, ic_one⟩
  rw [Nat.zero_add, List.getElem?_toArray]; exact hu
namespace Tr
/-- does a walk come to a place? -/
def comesF (a b : List Nat) : Nat → Int → Bool
  | 0, _ => true
  | f + 1, p => if p < 0 then true else decide (dig a p.toNat ≠ dig b p.toNat) && comesF a b f (up p)
def comes (a b : List Nat) (p : Nat) : Bool := comesF a b 4 p
end Tr
end Go.E.Ytcjmmhamnglmkaa

/-
  Contracts of maundref21.
-/
namespace Go.E.Ytcjmmhamnglmkaa
open Go.Proofs
set_option maxRecDepth 100000
end Go.E.Ytcjmmhamnglmkaa

/-
  Contracts of maundref21: the leaves, the looks, and the levels.
-/
namespace Go.E.Ytcjmmhamnglmkaa
open Go.Proofs
set_option maxRecDepth 100000
namespace Tr
def lev (p : Nat) : Nat := if p = 0 then 0 else if p < 5 then 1 else 2
def rout (a b : List Nat) : Nat → List Int
  | 0 => []
  | k + 1 => if comes a b k then (if 4 < k then rout a b k ++ [(k : Int) - 5] else rout a b k) else rout a b k
def rlooks (a b : List Nat) : Nat → Nat
  | 0 => 1
  | k + 1 => if comes a b k then rlooks a b k + (kids k).length else rlooks a b k
def rlev (a b : List Nat) (j : Nat) : Nat → Bool
  | 0 => false
  | k + 1 => if comes a b k && decide (lev k = j) then true else rlev a b j k
def cnt (x y z : Bool) : Nat := (if x then 1 else 0) + (if y then 1 else 0) + (if z then 1 else 0)
theorem rout_len (a b : List Nat) : ∀ k, (rout a b k).length ≤ k
  | 0 => by simp [rout]
  | k + 1 => by
    have := rout_len a b k
    unfold rout
    split
    · split
      · simp; omega
      · omega
    · omega
theorem rlooks_le (a b : List Nat) : ∀ k, rlooks a b k ≤ 1 + 4 * k
  | 0 => by simp [rlooks]
  | k + 1 => by
    have := rlooks_le a b k; have := kids_len k
    unfold rlooks
    split <;> omega
end Tr
end Go.E.Ytcjmmhamnglmkaa

/-
  A walk is what the document says of it: plainly.
-/
namespace Go.E.Ytcjmmhamnglmkaa
open Go.Proofs
set_option maxRecDepth 100000
namespace Tr
def uu (a b : List Nat) (k : Int) : Bool := decide (dig a k.toNat ≠ dig b k.toNat)
theorem unl_filter (a b : List Nat) : ∀ ks : List Int, unl a ks (ks.map fun k => dig b k.toNat) = ks.filter (uu a b)
  | [] => by simp [unl]
  | k :: ks => by
    rw [List.map_cons, unl, unl_filter a b ks, List.filter_cons]
    by_cases h : dig a k.toNat = dig b k.toNat
    · rw [if_pos h, if_neg (by simp [uu, h])]
    · rw [if_neg h, if_pos (by simp [uu, h])]
theorem comesF_neg {a b : List Nat} {f : Nat} {p : Int} (h : p < 0) : comesF a b f p = true := by
  cases f with
  | zero => rfl
  | succ f => rw [comesF, if_pos h]
theorem comesF_pos {a b : List Nat} {f p : Nat} : comesF a b (f + 1) (p : Int) = (uu a b p && comesF a b f (up p)) := by
  rw [comesF, if_neg (by omega)]; rfl
theorem comes_0 (a b : List Nat) : comes a b 0 = uu a b 0 := by
  have h0 : up ((0 : Nat) : Int) = -1 := by rw [up, if_neg (by omega)]
  rw [comes, comesF_pos, h0, comesF_neg (by decide), Bool.and_true]; rfl
theorem comes_1 (a b : List Nat) {q : Nat} (h : 1 ≤ q ∧ q < 5) : comes a b q = (uu a b q && uu a b 0) := by
  have h0 : up ((0 : Nat) : Int) = -1 := by rw [up, if_neg (by omega)]
  have h1 : up (q : Int) = ((0 : Nat) : Int) := by rw [up, if_pos (by omega)]; omega
  rw [comes, comesF_pos, h1, comesF_pos, h0, comesF_neg (by decide), Bool.and_true]; rfl
theorem comes_2 (a b : List Nat) {p q : Nat} (h : 1 ≤ q ∧ q < 5) (hp : 4 * q + 1 ≤ p ∧ p ≤ 4 * q + 4) : comes a b p = (uu a b p && (uu a b q && uu a b 0)) := by
  have h0 : up ((0 : Nat) : Int) = -1 := by rw [up, if_neg (by omega)]
  have h1 : up (q : Int) = ((0 : Nat) : Int) := by rw [up, if_pos (by omega)]; omega
  have h2 : up (p : Int) = (q : Int) := by rw [up, if_pos (by omega)]; omega
  rw [comes, comesF_pos, h2, comesF_pos, h1, comesF_pos, h0, comesF_neg (by decide), Bool.and_true]; rfl
theorem rout_filter (a b : List Nat) : ∀ k, rout a b k = ((List.range k).filter fun p => comes a b p && decide (4 < p)).map fun (p : Nat) => (p : Int) - 5
  | 0 => rfl
  | k + 1 => by
    rw [rout, rout_filter a b k, List.range_succ, List.filter_append, List.map_append]
    by_cases hc : comes a b k = true
    · by_cases h4 : 4 < k
      · simp [hc, h4]
      · simp [hc, h4]
    · simp [hc]
def blk (q : Nat) : List Nat := [4 * q + 1, 4 * q + 2, 4 * q + 3, 4 * q + 4]
theorem kids_blk {q : Nat} (h : q < 5) : kids q = (blk q).map fun (p : Nat) => (p : Int) := by
  rw [kids, if_pos (by omega)]; simp [blk]
theorem range21 : List.range 21 = [0, 1, 2, 3, 4] ++ (blk 1 ++ (blk 2 ++ (blk 3 ++ blk 4))) := by decide
/-- a block's leaves -/
def lvs (a b : List Nat) (q : Nat) : List Int := if uu a b q then (kids q).filter (uu a b) else []
theorem blk_filter {a b : List Nat} (h0 : uu a b 0 = true) {q : Nat} (h : 1 ≤ q ∧ q < 5) : ((blk q).filter fun p => comes a b p && decide (4 < p)).map (fun (p : Nat) => (p : Int) - 5) = (lvs a b q).map fun p => p - 5 := by
  have hc : (blk q).filter (fun p => comes a b p && decide (4 < p)) = (blk q).filter (fun (p : Nat) => uu a b p && uu a b q) := by
    refine List.filter_congr fun p hp => ?_
    have hp' : 4 * q + 1 ≤ p ∧ p ≤ 4 * q + 4 := by simp [blk] at hp; omega
    rw [comes_2 a b h hp', h0, Bool.and_true, decide_eq_true (by omega), Bool.and_true]
  rw [hc, lvs]
  by_cases hq : uu a b q = true
  · rw [if_pos hq, kids_blk h.2, List.filter_map, List.map_map]
    simp only [hq, Bool.and_true]
    rfl
  · rw [if_neg hq]
    have : uu a b q = false := by simpa using hq
    simp [this]
theorem rout_all {a b : List Nat} (h0 : uu a b 0 = true) : rout a b 21 = (lvs a b 1 ++ (lvs a b 2 ++ (lvs a b 3 ++ lvs a b 4))).map fun p => p - 5 := by
  rw [rout_filter, range21, List.filter_append, List.filter_append, List.filter_append, List.filter_append, List.map_append, List.map_append, List.map_append, List.map_append, blk_filter h0 (by decide), blk_filter h0 (by decide), blk_filter h0 (by decide), blk_filter h0 (by decide)]
  simp
theorem rout_none {a b : List Nat} (h0 : uu a b 0 = false) : rout a b 21 = [] := by
  rw [rout_filter, List.map_eq_nil_iff, List.filter_eq_nil_iff]
  intro p hp
  have hp21 := List.mem_range.1 hp
  by_cases h4 : 4 < p
  · rw [comes_2 a b (q := (p - 1) / 4) (by omega) (by omega), h0]; simp
  · simp [h4]
theorem rlooks_5 (a b : List Nat) : ∀ k, rlooks a b (5 + k) = rlooks a b 5
  | 0 => rfl
  | k + 1 => by
    rw [show 5 + (k + 1) = (5 + k) + 1 by omega, rlooks, rlooks_5 a b k]
    have : kids ((5 + k : Nat) : Int) = [] := by rw [kids, if_neg (by omega)]
    rw [this]; simp
theorem rlev2 (a b : List Nat) : ∀ k, rlev a b 2 k = !(rout a b k).isEmpty
  | 0 => rfl
  | k + 1 => by
    rw [rlev, rout, rlev2 a b k]
    by_cases hc : comes a b k = true
    · by_cases h4 : 4 < k
      · have : lev k = 2 := by rw [lev, if_neg (by omega), if_neg (by omega)]
        simp [hc, h4, this]
      · have : lev k ≠ 2 := by unfold lev; split; decide; rw [if_pos (by omega)]; decide
        simp [hc, h4, this]
    · simp [hc]
theorem rlev_5 (a b : List Nat) {j : Nat} (hj : j < 2) : ∀ k, rlev a b j (5 + k) = rlev a b j 5
  | 0 => rfl
  | k + 1 => by
    rw [show 5 + (k + 1) = (5 + k) + 1 by omega, rlev, rlev_5 a b hj k]
    have : lev (5 + k) = 2 := by rw [lev, if_neg (by omega), if_neg (by omega)]
    rw [this, decide_eq_false (by omega), Bool.and_false]; rfl
theorem kidsL_nil_of {l : List Int} (h : ∀ x ∈ l, 5 ≤ x) : kidsL l = [] := by
  rw [kidsL, List.flatMap_eq_nil_iff]
  intro p hp
  have := h p hp
  rw [kids, if_neg (by omega)]
theorem lv2 (a b : List Nat) : (kidsL ([1, 2, 3, 4].filter (uu a b))).filter (uu a b) = lvs a b 1 ++ (lvs a b 2 ++ (lvs a b 3 ++ lvs a b 4)) := by
  cases h1 : uu a b 1 <;> cases h2 : uu a b 2 <;> cases h3 : uu a b 3 <;> cases h4 : uu a b 4 <;> simp [lvs, kidsL, h1, h2, h3, h4]
theorem lv1_len (a b : List Nat) : (kidsL ([1, 2, 3, 4].filter (uu a b))).length = 4 * ([1, 2, 3, 4].filter (uu a b)).length := by
  cases h1 : uu a b 1 <;> cases h2 : uu a b 2 <;> cases h3 : uu a b 3 <;> cases h4 : uu a b 4 <;> simp [kidsL, kids, h1, h2, h3, h4]
theorem lvs_ge {a b : List Nat} : ∀ x ∈ lvs a b 1 ++ (lvs a b 2 ++ (lvs a b 3 ++ lvs a b 4)), 5 ≤ x ∧ x < 21 := by
  have h : ∀ q : Nat, 1 ≤ q ∧ q < 5 → ∀ x ∈ lvs a b q, 5 ≤ x ∧ x < 21 := fun q hq x hx => by
    unfold lvs at hx
    split at hx
    · have := (List.mem_filter.1 hx).1
      rw [kids, if_pos (by omega)] at this
      simp at this; omega
    · simp at hx
  intro x hx
  simp only [List.mem_append] at hx
  rcases hx with hx | hx | hx | hx
  · exact h 1 (by decide) x hx
  · exact h 2 (by decide) x hx
  · exact h 3 (by decide) x hx
  · exact h 4 (by decide) x hx
theorem leaves_of {l : List Int} (h : ∀ x ∈ l, 5 ≤ x ∧ x < 21) : leaves l = l.map fun p => p - 5 := by
  have h1 : l.map leafOf = l.map fun p => p - 5 := List.map_congr_left fun p hp => by rw [leafOf, if_pos (h p hp)]
  rw [leaves, h1, List.filter_eq_self]
  intro x hx
  obtain ⟨p, hp, rfl⟩ := List.mem_map.1 hx
  have := h p hp
  exact decide_eq_true (by omega)
theorem walk_ref (a b : List Nat) : leaves (walk a b).1 = rout a b 21 ∧ (walk a b).2.1 = rlooks a b 21 ∧ (walk a b).2.2 = cnt (rlev a b 0 21) (rlev a b 1 21) (rlev a b 2 21) := by
  have e1 := rlooks_5 a b 16
  have e2 := rlev_5 a b (j := 0) (by decide) 16
  have e3 := rlev_5 a b (j := 1) (by decide) 16
  have c0 := comes_0 a b
  have c1 := comes_1 a b (q := 1) (by decide)
  have c2 := comes_1 a b (q := 2) (by decide)
  have c3 := comes_1 a b (q := 3) (by decide)
  have c4 := comes_1 a b (q := 4) (by decide)
  rw [show 5 + 16 = 21 from rfl] at e1 e2 e3
  rw [e1, e2, e3, rlev2]
  by_cases h0 : dig a 0 = dig b 0
  · have hu : uu a b 0 = false := by simp [uu, h0]
    rw [rout_none hu, walk, if_pos h0]
    simp only [rlooks, rlev, c0, c1, c2, c3, c4, hu, Bool.and_false, Bool.false_and]
    refine ⟨rfl, rfl, rfl⟩
  · have hu : uu a b 0 = true := by simp [uu, h0]
    have hk0 : kidsL [0] = [1, 2, 3, 4] := rfl
    have hd0 : ∀ l : List Int, digs b l = (kidsL l).map fun k => dig b k.toNat := fun l => rfl
    have hge := @lvs_ge a b
    rw [rout_all hu, walk, if_neg h0]
    rw [← lv2] at hge ⊢
    have hll := lv1_len a b
    have hro : rlooks a b 5 = 5 + 4 * ([1, 2, 3, 4].filter (uu a b)).length := by
      simp only [rlooks, c0, c1, c2, c3, c4, hu, Bool.and_true]
      cases h1 : uu a b 1 <;> cases h2 : uu a b 2 <;> cases h3 : uu a b 3 <;> cases h4 : uu a b 4 <;> simp [kids, h1, h2, h3, h4]
    have hr0 : rlev a b 0 5 = true := by
      simp only [rlev, c0, c1, c2, c3, c4, hu, Bool.and_true]
      cases h1 : uu a b 1 <;> cases h2 : uu a b 2 <;> cases h3 : uu a b 3 <;> cases h4 : uu a b 4 <;> simp [lev, h1, h2, h3, h4]
    have hr1 : rlev a b 1 5 = !(([1, 2, 3, 4].filter (uu a b)).isEmpty) := by
      simp only [rlev, c0, c1, c2, c3, c4, hu, Bool.and_true]
      cases h1 : uu a b 1 <;> cases h2 : uu a b 2 <;> cases h3 : uu a b 3 <;> cases h4 : uu a b 4 <;> simp [lev, h1, h2, h3, h4]
    rw [hro, hr0, hr1]
    have w0 := wk_none (a := a) (b := b) (f := 2) (l := [0]) (looks := 1) (r := 0) (by rw [hk0]; decide)
    have w1 := wk_more (a := a) (b := b) (f := 2) (l := [0]) (looks := 1) (r := 0) (by rw [hk0]; decide)
    rw [hd0, unl_filter, hk0] at w0 w1
    generalize hL1 : [1, 2, 3, 4].filter (uu a b) = L1 at *
    by_cases hz : L1.length = 0
    · have hL : L1 = [] := List.length_eq_zero_iff.1 hz
      rw [w0 hz]
      subst hL
      refine ⟨?_, rfl, rfl⟩
      simp [kidsL, leaves]
    · have hne : L1.isEmpty = false := by
        cases L1 with
        | nil => simp at hz
        | cons x l => rfl
      have w2 := wk_none (a := a) (b := b) (f := 1) (l := L1) (looks := 1 + 4) (r := 0 + 1) (by omega)
      have w3 := wk_more (a := a) (b := b) (f := 1) (l := L1) (looks := 1 + 4) (r := 0 + 1) (by omega)
      rw [hd0, unl_filter] at w2 w3
      rw [w1 hz]
      generalize hL2 : (kidsL L1).filter (uu a b) = L2 at *
      show leaves (wk a b 2 L1 (1 + 4) (0 + 1)).1 = _ ∧ (wk a b 2 L1 (1 + 4) (0 + 1)).2.1 = _ ∧ (wk a b 2 L1 (1 + 4) (0 + 1)).2.2 = _
      by_cases hz2 : L2.length = 0
      · have hL : L2 = [] := List.length_eq_zero_iff.1 hz2
        rw [w2 hz2]
        subst hL
        refine ⟨rfl, by simp only [hll], ?_⟩
        rw [hne]; rfl
      · have hne2 : (L2.map fun p => p - 5).isEmpty = false := by
          cases L2 with
          | nil => simp at hz2
          | cons x l => rfl
        have hk2 : (kidsL L2).length = 0 := by rw [kidsL_nil_of fun x hx => (hge x hx).1]; rfl
        rw [w3 hz2, wk_end hk2]
        refine ⟨leaves_of hge, by simp only [hll], ?_⟩
        rw [hne, hne2]; rfl
end Tr
end Go.E.Ytcjmmhamnglmkaa

/-
  Contracts of tree: trees of texts.
-/
namespace Go.E.Ytcjmmhamnglmkaa
open Go.Proofs
set_option maxRecDepth 100000
namespace Tr
/-- a leaf's digest -/
def leafD (l : List Nat) : List Nat := Sha.sum (0 :: l)
def lv (ls : List (List Nat)) : Nat → List Nat
  | 0 => List.replicate 672 0
  | i + 1 => put (lv ls i) (5 + i) (leafD (ls.getD i []))
def inn (t : List Nat) : Nat → List Nat
  | 0 => t
  | j + 1 => put (inn t j) (4 - j) (Sha.sum (below (inn t j) (4 - j)))
def ofT (ls : List (List Nat)) : List Nat := inn (lv ls 16) 5
theorem sum_len (l : List Nat) : (Sha.sum l).length = 32 := by simp [Sha.sum, Sha.digest]
theorem sum_byt (l : List Nat) : ∀ x ∈ Sha.sum l, x < 256 := by
  intro x hx
  simp only [Sha.sum, Sha.digest, List.mem_map] at hx
  obtain ⟨i, _, rfl⟩ := hx
  exact Nat.mod_lt _ (by decide)
theorem inn_succ (t : List Nat) (j : Nat) : inn t (j + 1) = put (inn t j) (4 - j) (Sha.sum (below (inn t j) (4 - j))) := rfl
theorem lv_ok (ls : List (List Nat)) : ∀ {i : Nat}, i ≤ 16 → Ok (lv ls i)
  | 0, _ => ⟨by simp [lv], by simp [lv]⟩
  | i + 1, h => put_ok (lv_ok ls (by omega)) (sum_len _) (sum_byt _) (by omega)
theorem inn_ok {t : List Nat} (h : Ok t) : ∀ (j : Nat), Ok (inn t j)
  | 0 => h
  | j + 1 => put_ok (inn_ok h j) (sum_len _) (sum_byt _) (by omega)
theorem ofT_ok (ls : List (List Nat)) : Ok (ofT ls) := inn_ok (lv_ok ls (Nat.le_refl _)) 5
end Tr
theorem nc_put (t d : List Nat) (p : Nat) (hd : d.length = 32) : (nc t).take (32 * p) ++ (nc d ++ (nc t).drop (32 * p + 32)) = nc (Tr.put t p d) := by
  simp only [nc, Tr.put, List.map_append, List.map_take, List.map_drop, List.append_assoc]
theorem put_eq (t : List Nat) {d : List Nat} {k : Nat} (hd : d.length = 32) : (nc t).take (times (k : Int) 32) ++ (nc d ++ (nc t).drop (times (k : Int) 32 + 32)) = nc (Tr.put t k d) := by
  have : times (k : Int) 32 = 32 * k := by simp [times]; omega
  rw [this]; exact nc_put t d k hd
end Go.E.Ytcjmmhamnglmkaa

/-
  Contracts of tree: a leaf's new text.
-/
namespace Go.E.Ytcjmmhamnglmkaa
open Go.Proofs
set_option maxRecDepth 100000
namespace Tr
def upF : Nat → List Nat → Int → List Nat
  | 0, t, _ => t
  | f + 1, t, p => if p < 0 then t else upF f (put t p.toNat (Sha.sum (below t p.toNat))) (up p)
theorem upF_ok : ∀ {f : Nat} {t : List Nat} {p : Int}, Ok t → p < 5 → Ok (upF f t p)
  | 0, _, _, h, _ => h
  | f + 1, t, p, h, hp => by
    unfold upF
    split
    · exact h
    · exact upF_ok (put_ok h (sum_len _) (sum_byt _) (by omega)) (by unfold up; split <;> omega)
theorem upF_neg {f : Nat} {t : List Nat} {p : Int} (h : p < 0) : upF f t p = t := by
  cases f with
  | zero => rfl
  | succ f => rw [upF, if_pos h]
theorem upF_step {f : Nat} {t : List Nat} {p : Int} (h : ¬ p < 0) : upF (f + 1) t p = upF f (put t p.toNat (Sha.sum (below t p.toNat))) (up p) := by rw [upF, if_neg h]
/-- a tree with a leaf's text -/
def withT (t : List Nat) (n : Nat) (l : List Nat) : List Nat := upF 3 (put t (5 + n) (leafD l)) (up (5 + n))
end Tr
end Go.E.Ytcjmmhamnglmkaa

/-
  Trees as lists of digests; the digests of fixed trees.
-/
namespace Go.E.Ytcjmmhamnglmkaa
open Go.Proofs
set_option maxRecDepth 100000
namespace Tr
theorem flat_len : ∀ {ds : List (List Nat)}, D32 ds → ds.flatten.length = 32 * ds.length
  | [], _ => rfl
  | d :: ds, h => by
    have ih := flat_len (ds := ds) fun x hx => h x (by simp [hx])
    have := h d (by simp)
    rw [List.flatten_cons, List.length_append, List.length_cons]; omega
theorem flat_split {ds : List (List Nat)} (h : D32 ds) {p : Nat} (hp : p < ds.length) : ds.flatten = (ds.take p).flatten ++ (ds[p] ++ (ds.drop (p + 1)).flatten) ∧ (ds.take p).flatten.length = 32 * p ∧ ds[p].length = 32 := by
  refine ⟨?_, ?_, h _ (List.getElem_mem hp)⟩
  · have : ds = ds.take p ++ (ds[p] :: ds.drop (p + 1)) := by rw [List.getElem_cons_drop, List.take_append_drop]
    conv => lhs; rw [this]
    rw [List.flatten_append, List.flatten_cons]
  · rw [flat_len fun x hx => h x (List.mem_of_mem_take hx), List.length_take]; omega
theorem dig_flat {ds : List (List Nat)} (h : D32 ds) {p : Nat} (hp : p < ds.length) : dig ds.flatten p = ds[p] := by
  obtain ⟨e, h1, h2⟩ := flat_split h hp
  rw [dig, e, List.drop_append, h1, Nat.sub_self, List.drop_zero, List.drop_of_length_le (by omega), List.nil_append, List.take_append_of_le_length (by omega), List.take_of_length_le (by omega)]
theorem put_flat {ds : List (List Nat)} (h : D32 ds) {p : Nat} (hp : p < ds.length) {d : List Nat} (hd : d.length = 32) : put ds.flatten p d = (ds.set p d).flatten ∧ D32 (ds.set p d) := by
  obtain ⟨e, h1, h2⟩ := flat_split h hp
  refine ⟨?_, fun x hx => ?_⟩
  · have e2 : (ds.set p d).flatten = (ds.take p).flatten ++ (d ++ (ds.drop (p + 1)).flatten) := by
      rw [List.set_eq_take_append_cons_drop, if_pos hp, List.flatten_append, List.flatten_cons]
    rw [e2, put, e, List.take_append_of_le_length (by omega), List.take_of_length_le (by omega), List.drop_append, h1, List.drop_of_length_le (by omega), List.nil_append, List.drop_append, h2, List.drop_of_length_le (by omega), List.nil_append, show 32 * p + 32 - 32 * p - 32 = 0 by omega, List.drop_zero, List.append_assoc]
  · rcases List.mem_or_eq_of_mem_set hx with hx | rfl
    · exact h x hx
    · exact hd
theorem below_flat {ds : List (List Nat)} (h : D32 ds) (hl : ds.length = 21) {p : Nat} (hp : p < 5) : below ds.flatten p = 1 :: (ds.getD (4 * p + 1) [] ++ (ds.getD (4 * p + 2) [] ++ (ds.getD (4 * p + 3) [] ++ ds.getD (4 * p + 4) []))) := by
  rw [below, if_pos hp, kids, if_pos (by omega)]
  have g : ∀ k : Nat, k < 21 → dig ds.flatten k = ds.getD k [] := fun k hk => by
    rw [dig_flat h (by omega), List.getD_eq_getElem?_getD, List.getElem?_eq_getElem (by omega)]; rfl
  simp only [List.flatMap_cons, List.flatMap_nil, List.append_nil]
  rw [show (4 * (p : Int) + 1).toNat = 4 * p + 1 by omega, show (4 * (p : Int) + 2).toNat = 4 * p + 2 by omega, show (4 * (p : Int) + 3).toNat = 4 * p + 3 by omega, show (4 * (p : Int) + 4).toNat = 4 * p + 4 by omega, g _ (by omega), g _ (by omega), g _ (by omega), g _ (by omega)]
end Tr
end Go.E.Ytcjmmhamnglmkaa
