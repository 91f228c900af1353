/-
  Sn10, Sn12, Sn13, Sn14, Sn15, RdP, WireR, Sn16, Sn17, Sn18
-/
import Derived.Test.YtgjlajcebcmbaaaGreatDoorSnapLivesZ11
/-
  What must come of fixed calls: snapshots.
-/
namespace Go.E.YtgjlajcebcmbaaaGreatDoor
open Go.Proofs
set_option maxRecDepth 100000
def alR : List (List Int) := [[97, 98], [99]]
def alB : List Nat := toN (Fr.cat alR)
theorem alR_ok : allRec alR = true := by decide
theorem alR_byt : ∀ r ∈ alR, Byt r := by decide
theorem low_nil (n : Nat) : Low [] n := by simp [Low]
theorem smx_nil : Smx [] 0 0 := ⟨by simp, by simp, by simp, by omega, by omega⟩
theorem al17_may : mayN [] ((7 : Nat) : Int) = true := may_low (B := []) rfl (low_nil 7) (by omega) (by omega)
theorem alB_len : alB.length ≤ 3000 := by
  have := cat_small (l := alR) (by decide)
  rw [alB, toN_len]
  simp [alR] at this ⊢; omega
set_option maxHeartbeats 8000000 in
theorem alive17_spec {m : Mem} (hg : Glob m) : Spec Tryz.prog 7 [] m fun r m' => r = [boolV true] ∧ Sub m m' := by
  have hcb : Byt (Fr.cat alR) := Fr.cat_byt alR_byt
  have hnc : nc alB = Fr.cat alR := nc_toN hcb
  have h256 : ∀ x ∈ alB, x < 256 := toN_byt hcb
  have hlB := alB_len
  refine en7 rfl (goY ?_)
  conv => whnf
  refine xcall (new_spec (q := 0) (by decide)) ?_
  rintro _ m0 ⟨bf, p, rfl, hs, h⟩
  conv => whnf
  refine ⟨fun h => absurd h (by first | decide | simp), fun _ => ?_⟩
  conv => whnf
  refine ⟨fun h => absurd h (by first | decide | simp), fun _ => ?_⟩
  conv => whnf
  refine .mk _ (build2) ?_
  rintro _ _ ⟨b1, hb1, rfl, rfl⟩
  conv => whnf
  have hs := hs.new hb1 (.cells (bc [97, 98]).toArray 5)
  refine .mk _ (conv_spec (l := [97, 98]) (Mem.set_same ..)) ?_
  rintro _ _ ⟨rfl, rfl⟩
  conv => whnf
  have hs := hs.setAt (i := 0) rfl (blk1_same ..) (.cells (bc [97, 98]).toArray 5 ((bc [97, 98]).toArray.size, (bc [97, 98]).toArray.size + 1))
  rw [blk1_set] at hs
  have hs : Split _ [blk1 b1 (.cells (bc [97, 98]).toArray 5 ((bc [97, 98]).toArray.size, (bc [97, 98]).toArray.size + 1)), p, m] := hs
  refine .mk _ (build1) ?_
  rintro _ _ ⟨b2, hb2, rfl, rfl⟩
  conv => whnf
  have hs := hs.new hb2 (.cells (bc [99]).toArray 5)
  refine .mk _ (conv_spec (l := [99]) (Mem.set_same ..)) ?_
  rintro _ _ ⟨rfl, rfl⟩
  conv => whnf
  have hs := hs.setAt (i := 0) rfl (blk1_same ..) (.cells (bc [99]).toArray 5 ((bc [99]).toArray.size, (bc [99]).toArray.size + 1))
  rw [blk1_set] at hs
  have hs : Split _ [blk1 b2 (.cells (bc [99]).toArray 5 ((bc [99]).toArray.size, (bc [99]).toArray.size + 1)), blk1 b1 (.cells (bc [97, 98]).toArray 5 ((bc [97, 98]).toArray.size, (bc [97, 98]).toArray.size + 1)), p, m] := hs
  refine .mk _ (buildL2) ?_
  rintro _ _ ⟨b3, hb3, rfl, rfl⟩
  conv => whnf
  have hs := hs.new hb3 (.cells #[.slice (some ⟨b1, 0, none⟩) 2 2, .slice (some ⟨b2, 0, none⟩) 1 1] 37)
  have hsM := hs.drop.drop.drop
  have hL : Lists _ (.slice (some ⟨b3, 0, none⟩) 2 2) [(.slice (some ⟨b1, 0, none⟩) 2 2, [97, 98]), (.slice (some ⟨b2, 0, none⟩) 1 1, [99])] :=
    Lists.two (Mem.set_same ..) (Lb.blkf (hs.sub (a := blk1 b1 (.cells (bc [97, 98]).toArray 5 ((bc [97, 98]).toArray.size, (bc [97, 98]).toArray.size + 1))) (by simp) _ _ (blk1_same ..)) rfl).la (Lb.blkf (hs.sub (a := blk1 b2 (.cells (bc [99]).toArray 5 ((bc [99]).toArray.size, (bc [99]).toArray.size + 1))) (by simp) _ _ (blk1_same ..)) rfl).la
  clear hs
  generalize Mem.set _ b3 _ = M at hsM hL ⊢
  refine xcall (begin_ok (n := ((7 : Nat) : Int)) (hg.sub (hsM.sub (a := m) (by simp))) (h.grow (hsM.sub (a := p) (by simp))) smx_nil.sm smx_nil.nms al17_may (.inl hL) (by intro r hr; simp at hr; rcases hr with rfl | rfl; exact (by decide : Byt [97, 98]); exact (by decide : Byt [99])) (by simp) (by intro r hr; simp at hr; rcases hr with rfl | rfl <;> simp)) ?_
  rintro r m1 hb
  rw [if_pos (show allRec ([(Value.slice (some ⟨b1, 0, none⟩) 2 2, [97, 98]), (Value.slice (some ⟨b2, 0, none⟩) 1 1, [99])].map (·.2)) = true from alR_ok)] at hb
  obtain ⟨bs, v', pv, rfl, hs, hpv⟩ := hb
  have hs : Split m1 [blk1 bs (saveO bf ((7 : Nat) : Int) v' 1), pv, p, m] := hs.under (a := [_, _]) hsM
  have hpv : Bs pv v' (nc alB) := by rw [hnc]; exact hpv
  conv => whnf
  refine xcall (saveStep_spec (n := 7) (st := 1) hg hs hpv h smx_nil.sm h256 (by omega) (by decide) smx_nil.nms (by decide) (by decide) (by decide)) ?_
  rintro _ m2 ⟨p, nb1, ns1, rfl, hs, h, hnb1, hns1⟩
  conv => whnf
  rw [step1 (B := []) rfl (low_nil 7)] at hs h ⊢
  have hx := smx_nil.st (B := []) (n := 7) (l := alB) (by decide) rfl hlB (nb' := nb1) (ns' := ns1) (by omega) (by omega) 1
  refine xcall (saveStep_spec (n := 7) (st := 2) hg hs hpv h hx.sm h256 (by omega) (by decide) hx.nms (by decide) (by decide) (by decide)) ?_
  rintro _ m3 ⟨p, nb2, ns2, rfl, hs, h, hnb2, hns2⟩
  conv => whnf
  rw [step2 (low_nil 7)] at hs h ⊢
  have hx := smx_nil.st (B := []) (n := 7) (l := alB) (by decide) rfl hlB (nb' := nb2) (ns' := ns2) (by omega) (by omega) 2
  refine xcall (saveStep_spec (n := 7) (st := 3) hg hs hpv h hx.sm h256 (by omega) (by decide) hx.nms (by decide) (by decide) (by decide)) ?_
  rintro _ m4 ⟨p, nb3, ns3, rfl, hs, h, hnb3, hns3⟩
  conv => whnf
  rw [step3 (low_nil 7) (by decide)] at hs h ⊢
  have hx := smx_nil.st (B := []) (n := 7) (l := alB) (by decide) rfl hlB (nb' := nb3) (ns' := ns3) (by omega) (by omega) 3
  refine xcall (saveStep_spec (n := 7) (st := 4) hg hs hpv h hx.sm h256 (by omega) (by decide) hx.nms (by decide) (by decide) (by decide)) ?_
  rintro _ m5 ⟨p, nb4, ns4, rfl, hs, h, hnb4, hns4⟩
  conv => whnf
  rw [step4 (low_nil 7) (by decide) (by decide)] at hs h ⊢
  have hx := smx_nil.st (B := []) (n := 7) (l := alB) (by decide) rfl hlB (nb' := nb4) (ns' := ns4) (by omega) (by omega) 4
  have hx : Smx [⟨Sn.nm 7, alB, alB.length⟩] nb4 ns4 := hx
  refine xcall (saveStep_spec (n := 7) (st := 0) hg hs hpv h hx.sm h256 (by omega) (by decide) hx.nms (by decide) (by decide) (by decide)) ?_
  rintro _ m6 ⟨p, nb5, ns5, rfl, hs, h, hnb5, hns5⟩
  conv => whnf
  have e0 : stepA 0 7 alB 0 [⟨Sn.nm 7, alB, alB.length⟩] = ⟨[⟨Sn.nm 7, alB, alB.length⟩], 0, 0, 4⟩ := rfl
  rw [e0] at hs h ⊢
  have hx : Smx [⟨Sn.nm 7, alB, alB.length⟩] nb5 ns5 := ⟨hx.l, hx.s, hx.n, by omega, by omega⟩
  have hs : Split m6 [blk1 bs (saveO bf ((7 : Nat) : Int) v' 0), pv, p, m] := hs
  have hp6 : Sub p m6 := hs.sub (a := p) (by simp)
  have hg6 : Glob m6 := hg.sub (hs.sub (a := m) (by simp))
  refine xcall (load_A hg6 (h.grow hp6) hx.sm hx.nms) ?_
  rintro _ m7 ⟨vl, ps, pl, rfl, hsl, hls, hpr⟩
  conv => whnf
  have hnums : numsA [⟨Sn.nm 7, alB, alB.length⟩] = [7] := numsA_eq (by simp) (by simp [numsN, numOf_nm (n := 7) (by decide) (by decide)])
  have hld : loadA [⟨Sn.nm 7, alB, alB.length⟩] = (7, alR, 0) := load_of (n := 7) (by rw [hnums]; rfl) (show fileA [⟨Sn.nm 7, alB, alB.length⟩] (Sn.nm 7) = some ⟨Sn.nm 7, toN (Fr.cat alR), alB.length⟩ by simp [fileA, alB]) alR_ok alR_byt
  rw [hld] at hpr ⊢
  have hs7 : Split m7 [pl, p, m] := hsl.under (a := [pl]) hs.drop.drop
  have hp7 : Sub p m7 := hs7.sub (a := p) (by simp)
  have hg7 : Glob m7 := hg.sub (hs7.sub (a := m) (by simp))
  have hmay : mayN [⟨Sn.nm 7, alB, alB.length⟩] 7 = false := by
    unfold mayN; rw [hnums]; rfl
  refine xcall (begin_bad hg7 (h.grow hp7) hx.sm hx.nms hmay) ?_
  rintro _ m8 ⟨rfl, hs8⟩
  conv => whnf
  have hg8 := hg7.sub hs8
  first | refine xretk (name_ok (n := 7) hg8 (by decide) (by decide)) ?_ | refine xret (name_ok (n := 7) hg8 (by decide) (by decide)) ?_
  conv => whnf
  first | refine xretk (number_spec (s := ⟨#[115, 110, 97, 112, 45, 48, 48, 48, 48, 48, 55]⟩) hg8 (by decide)) ?_ | refine xret (number_spec (s := ⟨#[115, 110, 97, 112, 45, 48, 48, 48, 48, 48, 55]⟩) hg8 (by decide)) ?_
  conv => whnf
  have e7 : (⟨#[115, 110, 97, 112, 45, 48, 48, 48, 48, 48, 55]⟩ : ByteArray) = Sn.nm 7 := by decide
  have en7 : numOf ⟨#[115, 110, 97, 112, 45, 48, 48, 48, 48, 48, 55]⟩ = some 7 := by rw [e7]; exact numOf_nm (by decide) (by decide)
  first | refine xretk (number_spec (s := ⟨#[115, 110, 97, 112, 45, 55]⟩) hg8 (by decide)) ?_ | refine xret (number_spec (s := ⟨#[115, 110, 97, 112, 45, 55]⟩) hg8 (by decide)) ?_
  conv => whnf
  have en8 : numOf ⟨#[115, 110, 97, 112, 45, 55]⟩ = none := numOf_size (by decide)
  rw [en7, en8]
  have hpl : ps.length = 2 := by have := congrArg List.length hpr; simpa [alR] using this
  obtain ⟨av, cv, rfl⟩ := hls.shape
  obtain ⟨q1, q2, rfl⟩ : ∃ a b, ps = [a, b] := by
    match ps, hpl with
    | [a, b], _ => exact ⟨a, b, rfl⟩
  obtain ⟨x1, l1⟩ := q1
  obtain ⟨x2, l2⟩ := q2
  obtain ⟨rfl, rfl⟩ : l1 = [97, 98] ∧ l2 = [99] := by simpa [alR] using hpr
  have hls8 := hls.sub ((hs7.sub (a := pl) (by simp)).trans hs8)
  obtain ⟨bl, ol, cl, e1, hel⟩ := hls8.real (i := 0) (by simp)
  injection e1 with e1 e2 e3
  subst e1
  have hel := hel 0 (by simp)
  have hx1 : La m8 x1 [97, 98] := hls8.la (x1, [97, 98]) (by simp)
  obtain ⟨br, orr, cr, rfl⟩ := (hx1.lb (by decide)).real (by decide)
  conv => whnf
  refine ⟨fun h => absurd h (by simp), fun _ => ?_⟩
  conv => whnf
  refine ⟨fun _ => ?_, fun h => absurd h (by first | decide | simp)⟩
  conv => whnf
  refine ⟨fun _ => ?_, fun h => absurd h (by first | decide | simp)⟩
  conv => whnf
  refine ⟨fun _ => ?_, fun h => absurd h (by first | decide | simp)⟩
  conv => whnf
  refine ⟨fun _ => ?_, fun h => absurd h (by first | decide | simp)⟩
  conv => whnf
  refine ⟨fun _ => ?_, fun h => absurd h (by first | decide | simp)⟩
  conv => whnf
  refine ⟨fun _ => ?_, fun h => absurd h (by first | decide | simp)⟩
  conv => whnf
  refine ⟨fun _ => ?_, fun h => absurd h (by first | decide | simp)⟩
  conv => whnf
  repeat (refine And.intro (by first | omega | (simp only [times, List.length_cons, List.length_nil]; omega)) ?_; conv => whnf)
  refine ⟨_, hel, rfl, ?_⟩
  conv => whnf
  refine .inr ⟨[97, 98], rfl, _, _, rfl, (hx1.lb (by decide)).range, ?_⟩
  conv => whnf
  refine ⟨fun _ => ?_, fun h => absurd h (by rw [strOf_list, ByteArray.toList_eq]; decide)⟩
  conv => whnf
  refine ⟨fun _ => ?_, fun h => absurd h (by first | decide | simp)⟩
  conv => whnf
  refine ⟨fun _ => ?_, fun h => absurd h (by first | decide | simp)⟩
  conv => whnf
  refine ⟨fun _ => ?_, fun h => absurd h (by (rw [e7] at h; simp at h))⟩
  conv => whnf
  refine ⟨fun _ => ?_, fun h => absurd h (by first | decide | simp)⟩
  conv => whnf
  refine ⟨fun _ => ?_, fun h => absurd h (by first | decide | simp)⟩
  conv => whnf
  refine ⟨fun _ => ?_, fun h => absurd h (by first | decide | simp)⟩
  conv => whnf
  refine ⟨fun _ => ?_, fun h => absurd h (by first | decide | simp)⟩
  conv => whnf
  have hb8 : m8 bs = some (saveO bf ((7 : Nat) : Int) v' 0) := hs8 _ _ (hsl.sub (a := m6) (by simp) _ _ (hs.sub (a := blk1 bs (saveO bf ((7 : Nat) : Int) v' 0)) (by simp) _ _ (blk1_same ..)))
  first | refine xretk (stage_spec hb8) ?_ | refine xret (stage_spec hb8) ?_
  conv => whnf
  refine ⟨fun _ => ?_, fun h => absurd h (by first | decide | simp)⟩
  conv => whnf
  refine xcall (numbers_A hg8 ((h.grow hp7).grow hs8) hx.sm hx.nms) ?_
  rintro _ m9 ⟨vn, pn, rfl, hsn, hvn⟩
  conv => whnf
  rw [hnums] at hvn
  obtain ⟨an, cn, rfl⟩ := hvn.il.shape
  conv => whnf
  exact ⟨rfl, ((hs7.sub (a := m) (by simp)).trans hs8).trans (hsn.sub (a := m8) (by simp))⟩
end Go.E.YtgjlajcebcmbaaaGreatDoor

/-
  Laws of snapshots: lists that are the same; what is too much.
-/
namespace Go.E.YtgjlajcebcmbaaaGreatDoor
open Go.Proofs
set_option maxRecDepth 100000
theorem La.cases' {m : Mem} {v : Value} {l : List Int} (h : La m v l) : (∃ c, v = .slice none 0 c ∧ l = []) ∨ (∃ b o c, v = .slice (some ⟨b, o, none⟩) l.length c ∧ MRange m b o (bc l)) ∨ (∃ a, v = .slice (some a) 0 0 ∧ l = []) := by
  rcases h with h | ⟨rfl, a, rfl⟩
  · rcases Lb.cases h with ⟨c, rfl, rfl⟩ | ⟨b, o, c, arr, t, fr, rfl, p1, p2, p3⟩
    · exact .inl ⟨c, rfl, rfl⟩
    · exact .inr (.inl ⟨b, o, c, rfl, h.range⟩)
  · exact .inr (.inr ⟨a, rfl, rfl⟩)
theorem by8_nil : ByteArray.empty.toList = by8 [] := by rw [ByteArray.toList_eq]; rfl
set_option maxHeartbeats 4000000 in
theorem same17_spec {m : Mem} {v w : Value} {ps qs : List (Value × List Int)} (hv : LsA m v ps) (hw : LsA m w qs) (hbp : ∀ p ∈ ps, Byt p.2) (hbq : ∀ p ∈ qs, Byt p.2) (hl : ps.length ≤ 100000000) : Ret Tryz.prog 17 [.v v, .v w] m [boolV (decide (ps.map (·.2) = qs.map (·.2)))] := by
  obtain ⟨a, c, rfl⟩ := hv.shape
  obtain ⟨aw, cw, rfl⟩ := hw.shape
  refine en17 rfl (goY ?_)
  conv => whnf
  refine ⟨fun h => ?_, fun h => ?_⟩
  · conv => whnf
    have : ps.map (·.2) ≠ qs.map (·.2) := fun e => by have := congrArg List.length e; simp at this; simp [this] at h
    rw [decide_eq_false this]
    exact ⟨rfl, rfl⟩
  have hlk : ps.length = qs.length := by simp at h; omega
  clear h
  conv => whnf
  refine .mk (ι := Nat) (fun i => ps.length - i) (fun i mm => i ≤ ps.length ∧ (ps.take i).map (·.2) = (qs.take i).map (·.2) ∧ mm = m) (fun i => [(0, .c (.v (.slice a ps.length c))), (1, .c (.v (.slice aw qs.length cw))), (5, .c (i64 i))]) (fun _ => []) 0 ⟨by omega, by simp, rfl⟩ ?_ ?_
  · conv => whnf
    repeat (refine And.intro (by first | with_reducible rfl | exact congrArg (Value.int _) (wi (by omega) (by omega)) | exact wi (by omega) (by omega) | rfl) ?_; conv => whnf)
    first | exact trivial | exact fun _ _ h => h
  rintro i mm ⟨hi, htk, he⟩
  subst mm
  conv => whnf
  refine ⟨fun h1 => ?_, fun h1 => ?_⟩
  · have h1' := of_decide_eq_true h1
    have hlt : i < ps.length := by omega
    have hltk : i < qs.length := by omega
    obtain ⟨b, o, c', hh, hg⟩ := hv.real hlt
    injection hh with hh1 _ hh3
    subst hh1
    clear hh3 c'
    obtain ⟨bw, ow, c', hh, hgw⟩ := hw.real hltk
    injection hh with hh1 _ hh3
    subst hh1
    clear hh3 c'
    have hla := hv.la _ (List.getElem_mem hlt)
    have hlb := hw.la _ (List.getElem_mem hltk)
    have hpb := hbp _ (List.getElem_mem hlt)
    have hqb := hbq _ (List.getElem_mem hltk)
    have hgi := hg i hlt
    have hgwi := hgw i hltk
    have hstep : (ps.take (i + 1)).map (·.2) = (qs.take (i + 1)).map (·.2) ↔ ps[i].2 = qs[i].2 := by
      rw [List.take_succ_eq_append_getElem hlt, List.take_succ_eq_append_getElem hltk, List.map_append, List.map_append, htk]
      simp
    have hall : ps[i].2 ≠ qs[i].2 → ps.map (·.2) ≠ qs.map (·.2) := fun hne e => hne (by
      have := congrArg (fun l => l[i]?) e
      simpa [List.getElem?_eq_getElem hlt, List.getElem?_eq_getElem hltk] using this)
    generalize ps[i] = pi at *
    generalize qs[i] = qi at *
    obtain ⟨pv, pl⟩ := pi
    obtain ⟨qv, ql⟩ := qi
    simp only at *
    rcases La.cases' hla with ⟨pc, rfl, rfl⟩ | ⟨pb, po, pc, rfl, p1⟩ | ⟨pa, rfl, rfl⟩ <;> rcases La.cases' hlb with ⟨qc, rfl, rfl⟩ | ⟨qb, qo, qc, rfl, q1⟩ | ⟨qa, rfl, rfl⟩
    all_goals
      conv => whnf
      repeat (refine And.intro (by first | omega | (simp only [times]; omega)) ?_; conv => whnf)
      refine ⟨_, by simp only [times, Int.toNat_natCast, Nat.mul_one]; exact hgi, rfl, ?_⟩
      conv => whnf
      first | (refine .inr ⟨pl, rfl, _, _, rfl, p1, ?_⟩; conv => whnf) | (refine .inl ⟨rfl, ?_⟩; conv => whnf) | skip
      first | (refine And.intro (by omega) ?_; conv => whnf) | skip
      refine ⟨_, by simp only [times, Int.toNat_natCast, Nat.mul_one]; exact hgwi, rfl, ?_⟩
      conv => whnf
      first | (refine .inr ⟨ql, rfl, _, _, rfl, q1, ?_⟩; conv => whnf) | (refine .inl ⟨rfl, ?_⟩; conv => whnf) | skip
      try rw [by8_nil]
      try rw [strOf_list]
      try rw [strOf_list]
      refine ⟨fun h2 => ?_, fun h2 => ?_⟩
      · conv => whnf
        refine ⟨?_, rfl⟩
        rw [decide_eq_false (hall (fun e => by have h3 := congrArg by8 e; rw [h3] at h2; simp at h2))]
      · conv => whnf
        refine ⟨i + 1, ⟨by omega, hstep.2 (by8_inj hpb hqb (by have h4 := h2; simp only [Bool.not_eq_eq_eq_not, Bool.not_false, beq_iff_eq] at h4; first | exact h4 | rfl)), rfl⟩, by omega, ?_⟩
        conv => whnf
        repeat (refine And.intro (by first | with_reducible rfl | (first | exact congrArg (Value.int _) (iadd1 (by omega))) | exact congrArg (Value.int _) (wi (by omega) (by omega)) | exact wi (by omega) (by omega) | rfl) ?_; conv => whnf)
        first | exact trivial | exact fun _ _ h => h
  · have h1' := of_decide_eq_false h1
    obtain rfl : i = ps.length := by omega
    rw [List.take_length, hlk, List.take_length] at htk
    conv => whnf
    rw [decide_eq_true htk]
    exact ⟨rfl, rfl⟩
/-- a list that is not too much -/
def SmL (ps : List (List Int)) : Prop := ps.length ≤ 5 ∧ ∀ r ∈ ps, r.length ≤ 500 ∨ (20000 < r.length ∧ r.length ≤ 20010)
abbrev sopS (k n : Int) (v : Value) (o : Opr) : LB := [.one (.int .i64 k), .one (.int .i64 n), .one v, .one (.int .i64 o.kind), .one (.int .i64 o.n), .one (.string o.name), .one (.string o.nto), .one (.slice o.ab o.b.length o.cb), .one (.slice o.al o.last.length o.cl)]
set_option maxHeartbeats 4000000 in
theorem great17_spec {m : Mem} {k n : Int} {v : Value} {ps : List (Value × List Int)} {o : Opr} (hv : LsA m v ps) (ho : o.Ok m) : Spec Tryz.prog 13 [.a (sopS k n v o)] m fun r m' => ∃ b, r = [boolV b] ∧ Sub m m' ∧ (b = false → SmL (ps.map (·.2)) ∧ o.Small) := by
  obtain ⟨a, c, rfl⟩ := hv.shape
  refine en13 rfl (goY ?_)
  conv => whnf
  refine .mk (ι := Nat) (fun i => ps.length - i) (fun i mm => i ≤ ps.length ∧ (0 < i → ps.length ≤ 5) ∧ (∀ r ∈ ps.take i, r.2.length ≤ 500 ∨ (20000 < r.2.length ∧ r.2.length ≤ 20010)) ∧ mm = m) (fun i => [(1, .p 0 0), (3, .c (i64 i))]) (fun _ => [(42, sopS k n (.slice a ps.length c) o)]) 0 ⟨by omega, by omega, by simp, rfl⟩ ?_ ?_
  · conv => whnf
    repeat (refine And.intro (by first | with_reducible rfl | exact congrArg (Value.int _) (wi (by omega) (by omega)) | exact wi (by omega) (by omega) | rfl) ?_; conv => whnf)
    first | exact trivial | exact fun _ _ h => h
  rintro i mm ⟨hi, h5, hall, he⟩
  subst mm
  conv => whnf
  refine ⟨fun hc => ?_, fun hc => ?_⟩
  · have hlt : i < ps.length := by have := of_decide_eq_true hc; omega
    clear hc
    obtain ⟨b, o', c', hh, hg⟩ := hv.real hlt
    injection hh with hh1 _ hh3
    subst hh1
    clear hh3 c'
    have hg := hg i hlt
    have hla := hv.la _ (List.getElem_mem hlt)
    obtain ⟨ae, ce, hshape⟩ := hla.shape
    rw [hshape] at hg
    have htk : ps.take (i + 1) = ps.take i ++ [ps[i]] := List.take_succ_eq_append_getElem hlt
    conv => whnf
    refine ⟨fun h1 => ?_, fun h1 => ?_⟩
    · conv => whnf
      exact ⟨_, rfl, Sub.refl _, fun h => (by cases h)⟩
    have h1' := of_decide_eq_false h1
    clear h1
    have fin : (ps[i].2.length ≤ 500 ∨ (20000 < ps[i].2.length ∧ ps[i].2.length ≤ 20010)) → ∀ r ∈ ps.take (i + 1), r.2.length ≤ 500 ∨ (20000 < r.2.length ∧ r.2.length ≤ 20010) := fun h r hr => by
      rw [htk] at hr
      rcases List.mem_append.1 hr with hr | hr
      · exact hall r hr
      · rw [List.mem_singleton.1 hr]; exact h
    generalize ps[i].2.length = z at hg fin
    conv => whnf
    repeat (refine And.intro (by first | omega | (simp only [times]; omega)) ?_; conv => whnf)
    refine ⟨_, by simp only [times, Int.toNat_natCast, Nat.mul_one]; exact hg, rfl, ?_⟩
    conv => whnf
    refine ⟨fun h2 => ?_, fun h2 => ?_⟩
    · have h2' := of_decide_eq_true h2
      clear h2
      conv => whnf
      repeat (refine And.intro (by first | omega | (simp only [times]; omega)) ?_; conv => whnf)
      refine ⟨_, by simp only [times, Int.toNat_natCast, Nat.mul_one]; exact hg, rfl, ?_⟩
      conv => whnf
      refine ⟨fun h3 => ?_, fun h3 => ?_⟩
      · conv => whnf
        exact ⟨_, rfl, Sub.refl _, fun h => (by cases h)⟩
      have h3' := of_decide_eq_false h3
      clear h3
      conv => whnf
      repeat (refine And.intro (by first | omega | (simp only [times]; omega)) ?_; conv => whnf)
      refine ⟨_, by simp only [times, Int.toNat_natCast, Nat.mul_one]; exact hg, rfl, ?_⟩
      conv => whnf
      refine ⟨fun h4 => ?_, fun h4 => ?_⟩
      · conv => whnf
        exact ⟨_, rfl, Sub.refl _, fun h => (by cases h)⟩
      have h4' := of_decide_eq_false h4
      clear h4
      conv => whnf
      refine ⟨i + 1, ⟨by omega, by omega, fin (by omega), rfl⟩, by first | omega | (simp only; omega), ?_⟩
      conv => whnf
      repeat (refine And.intro (by first | with_reducible rfl | (first | exact congrArg (Value.int _) (iadd1 (by omega))) | exact congrArg (Value.int _) (wi (by omega) (by omega)) | exact wi (by omega) (by omega) | rfl) ?_; conv => whnf)
      first | exact trivial | exact fun _ _ h => h
    · have h2' := of_decide_eq_false h2
      clear h2
      conv => whnf
      repeat (refine And.intro (by first | omega | (simp only [times]; omega)) ?_; conv => whnf)
      refine ⟨_, by simp only [times, Int.toNat_natCast, Nat.mul_one]; exact hg, rfl, ?_⟩
      conv => whnf
      refine ⟨fun h4 => ?_, fun h4 => ?_⟩
      · conv => whnf
        exact ⟨_, rfl, Sub.refl _, fun h => (by cases h)⟩
      clear h4
      conv => whnf
      refine ⟨i + 1, ⟨by omega, by omega, fin (by omega), rfl⟩, by first | omega | (simp only; omega), ?_⟩
      conv => whnf
      repeat (refine And.intro (by first | with_reducible rfl | (first | exact congrArg (Value.int _) (iadd1 (by omega))) | exact congrArg (Value.int _) (wi (by omega) (by omega)) | exact wi (by omega) (by omega) | rfl) ?_; conv => whnf)
      first | exact trivial | exact fun _ _ h => h
  · have hc' := of_decide_eq_false hc
    obtain rfl : i = ps.length := by omega
    rw [List.take_length] at hall
    clear hc
    conv => whnf
    refine xcall (great_spec (o := o) ho) ?_
    rintro _ m1 ⟨g, rfl, hs, hgs⟩
    conv => whnf
    refine ⟨g, rfl, hs, fun h => ⟨⟨by rw [List.length_map]; omega, fun r hr => ?_⟩, hgs h⟩⟩
    obtain ⟨x, hx, rfl⟩ := List.mem_map.1 hr
    exact hall x hx
end Go.E.YtgjlajcebcmbaaaGreatDoor

/-
  Law SnapWhole.
-/
namespace Go.E.YtgjlajcebcmbaaaGreatDoor
open Go.Proofs
set_option maxRecDepth 100000
/-- what must be of files ahead of a crash -/
structure Wh (A : List Af) (st : Int) (R1 R2 : List (List Int)) : Prop where
  low : Low (rmA A tmpN) 9
  len : A.length ≤ 9
  load : ∀ A', (∃ g : Af → Af, A' = A.map g ∧ ∀ a ∈ A, Cr a (g a)) → loadA A' = if st = 4 ∨ st = 0 then (5, R2, 0) else (3, R1, 0)
theorem Wh.crash {A : List Af} {st : Int} {R1 R2 : List (List Int)} (h : Wh A st R1 R2) (hA : ∀ a ∈ A, a.safe ≤ a.l.length) (last : List Int) : loadA (crashA A last) = (if st = 4 ∨ st = 0 then (5, R2, 0) else (3, R1, 0)) ∧ Low (rmA (crashA A last) tmpN) 9 ∧ (crashA A last).length ≤ 9 := by
  obtain ⟨g, h1, h2⟩ := crash_map (last := last) hA
  refine ⟨h.load _ ⟨g, h1, fun a ha => (h2 a ha).1⟩, ?_, by rw [h1, List.length_map]; exact h.len⟩
  intro b hb
  obtain ⟨hb1, hb2⟩ := List.mem_filter.1 hb
  rw [h1] at hb1
  obtain ⟨a, ha, rfl⟩ := List.mem_map.1 hb1
  have e := (h2 a ha).1.name
  rw [e] at hb2 ⊢
  exact h.low a (List.mem_filter.2 ⟨ha, hb2⟩)
theorem Smx.crash {A : List Af} {nb ns : Nat} (h : Smx A nb ns) (hA : ∀ a ∈ A, a.safe ≤ a.l.length) (last : List Int) : Smx (crashA A last) nb ns := by
  obtain ⟨g, h1, h2⟩ := crash_map (last := last) hA
  rw [h1]
  refine ⟨fun x hx => ?_, fun x hx => ?_, by rw [List.length_map]; exact h.n, h.nb, h.ns⟩
  · obtain ⟨a, ha, rfl⟩ := List.mem_map.1 hx
    exact Nat.le_trans (h2 a ha).1.len (h.l a ha)
  · obtain ⟨a, ha, rfl⟩ := List.mem_map.1 hx
    rw [(h2 a ha).1.name]; exact h.s a ha
theorem toN_cat_nums {n : Nat} {l : List Nat} {s : Nat} (h1 : 1 ≤ n) (h2 : n ≤ 999999) : numsA [⟨Sn.nm n, l, s⟩] = [n] := numsA_eq (by simp) (by simp [numsN, numOf_nm h1 h2])
theorem load_one {n : Nat} {R : List (List Int)} {s : Nat} (h1 : 1 ≤ n) (h2 : n ≤ 999999) (hR : allRec R = true) (hb : ∀ r ∈ R, Byt r) : loadA [⟨Sn.nm n, toN (Fr.cat R), s⟩] = (n, R, 0) :=
  load_of (s := s) (by rw [toN_cat_nums h1 h2]; rfl) (by simp [fileA]) hR hb
set_option maxHeartbeats 8000000 in
theorem whole_end {m mm p : Mem} {bf nb ns : Nat} {A : List Af} {va : Value} {pa : List (Value × List Int)} (hg : Glob m) (hs : Split mm [p, m]) (h : FA p bf 0 nb ns A) (hk : Smx A nb ns) (hnb : nb ≤ 200000) (hns : ns ≤ 400)
    (hva : LsA m va pa) (hba : ∀ r ∈ pa, Byt r.2) (hra : allRec (pa.map (·.2)) = true) (hla : pa.length ≤ 5) (hsa : ∀ r ∈ pa, r.2.length ≤ 500) (hlow : Low (rmA A tmpN) 9) (hlen : A.length ≤ 9) :
    xwpY c5 (restAt 18 (bodyOf Tryz.f5)) (QRetY tt.get Tryz.f5.results.toList fun r m' => r = [boolV true] ∧ Sub m m')
      [(0, .c (.v va)), (9, .c (ptrB bf))] [] mm [] := by
  have hR : ∀ r ∈ pa.map (·.2), Byt r := fun r hr => by obtain ⟨x, hx, rfl⟩ := List.mem_map.1 hr; exact hba x hx
  conv => whnf
  refine .at ?_
  conv => whnf
  refine xcall (saveL_ok (n := 9) (s := 4) (B := rmA A tmpN) hg hs h hk hnb hns (Nat.le_trans (List.length_filter_le _ _) hlen) rfl hlow (by decide) (by decide) hra hva hba hla hsa (by decide)) ?_
  rintro _ m1 ⟨p1, nb1, ns1, rfl, hs1, h1, hnb1, hns1⟩
  conv => whnf
  have hx : Smx (stA (rmA A tmpN) 9 (toN (Fr.cat (pa.map (·.2)))) A 4) nb1 ns1 := hk.st (Nat.le_trans (List.length_filter_le _ _) hlen) rfl (by
    rw [toN_len]
    have := cat_small (l := pa.map (·.2)) fun r hr => by obtain ⟨x, hx, rfl⟩ := List.mem_map.1 hr; exact hsa x hx
    rw [List.length_map] at this
    omega) (by omega) (by omega) 4
  rw [show stA (rmA A tmpN) 9 (toN (Fr.cat (pa.map (·.2)))) A 4 = [⟨Sn.nm 9, toN (Fr.cat (pa.map (·.2))), (toN (Fr.cat (pa.map (·.2)))).length⟩] from rfl] at hx h1
  rw [show stN 4 = 0 from rfl]
  refine ⟨fun h => absurd h (by first | decide | simp), fun _ => ?_⟩
  conv => whnf
  have hld := load_one (n := 9) (s := (toN (Fr.cat (pa.map (·.2)))).length) (by decide) (by decide) hra hR
  have hnu := toN_cat_nums (n := 9) (l := toN (Fr.cat (pa.map (·.2)))) (s := (toN (Fr.cat (pa.map (·.2)))).length) (by decide) (by decide)
  generalize ([⟨Sn.nm 9, toN (Fr.cat (pa.map (·.2))), (toN (Fr.cat (pa.map (·.2)))).length⟩] : List Af) = A1 at *
  have hg1 : Glob m1 := hg.sub (hs1.sub (a := m) (by simp))
  refine xcall (load_A hg1 (h1.grow (hs1.sub (a := p1) (by simp))) hx.sm hx.nms) ?_
  rintro _ m2 ⟨v2, ps2, p2, rfl, hs2, hls2, hpr2⟩
  conv => whnf
  have hs2 : Split m2 [p2, p1, m] := hs2.under (a := [p2]) hs1
  rw [hld] at hpr2 ⊢
  refine xcall (alive17_spec (hg.sub (hs2.sub (a := m) (by simp)))) ?_
  rintro _ m3 ⟨rfl, hs3⟩
  conv => whnf
  refine ⟨fun _ => ?_, fun h => absurd h (by first | decide | simp)⟩
  conv => whnf
  refine ⟨fun _ => ?_, fun h => absurd h (by first | decide | simp)⟩
  conv => whnf
  have hbp : ∀ p ∈ ps2, Byt p.2 := fun p hp => by
    have : p.2 ∈ ps2.map (·.2) := List.mem_map.2 ⟨p, hp, rfl⟩
    rw [hpr2] at this
    exact hR _ this
  have hlp : ps2.length ≤ 5 := by
    have := congrArg List.length hpr2
    simp only [List.length_map] at this
    omega
  first | refine xretk (same17_spec (.inl (hls2.sub ((hs2.sub (a := p2) (by simp)).trans hs3))) (hva.sub ((hs2.sub (a := m) (by simp)).trans hs3)) hbp hba (by omega)) ?_ | refine xret (same17_spec (.inl (hls2.sub ((hs2.sub (a := p2) (by simp)).trans hs3))) (hva.sub ((hs2.sub (a := m) (by simp)).trans hs3)) hbp hba (by omega)) ?_
  conv => whnf
  rw [decide_eq_true hpr2]
  refine ⟨fun _ => ?_, fun h => absurd h (by first | decide | simp)⟩
  conv => whnf
  refine ⟨fun _ => ?_, fun h => absurd h (by first | decide | simp)⟩
  conv => whnf
  have hp3 : Sub p1 m3 := (hs2.sub (a := p1) (by simp)).trans hs3
  have hm3 : Sub m m3 := (hs2.sub (a := m) (by simp)).trans hs3
  refine xcall (numbers_A (hg.sub hm3) (h1.grow hp3) hx.sm hx.nms) ?_
  rintro _ m4 ⟨vn, pn, rfl, hsn, hvn⟩
  conv => whnf
  rw [hnu] at hvn
  obtain ⟨an, cn, rfl⟩ := hvn.il.shape
  conv => whnf
  exact ⟨rfl, hm3.trans (hsn.sub (a := m3) (by simp))⟩
set_option maxHeartbeats 8000000 in
theorem whole_tail {m mm p : Mem} {bf nb ns : Nat} {A : List Af} {va vb vl : Value} {pa pb : List (Value × List Int)} {last : List Int} {st : Int} (hg : Glob m) (hs : Split mm [p, m]) (h : FA p bf 0 nb ns A) (hk : Smx A nb ns) (hnb : nb ≤ 150000) (hns : ns ≤ 300)
    (hva : LsA m va pa) (hvb : LsA m vb pb) (hba : ∀ r ∈ pa, Byt r.2) (hbb : ∀ r ∈ pb, Byt r.2) (hra : allRec (pa.map (·.2)) = true) (hla : pa.length ≤ 5) (hsa : ∀ r ∈ pa, r.2.length ≤ 500) (hlb : pb.length ≤ 5)
    (hw : Wh A st (pa.map (·.2)) (pb.map (·.2))) (hl : Ia m vl last) (hlast : last.length ≤ 9223372036854775807) (hI : ∀ x ∈ last, -9223372036854775808 ≤ x ∧ x ≤ 9223372036854775807) :
    xwpY c5 (restAt 9 (bodyOf Tryz.f5)) (QRetY tt.get Tryz.f5.results.toList fun r m' => r = [boolV true] ∧ Sub m m')
      [(0, .c (.v va)), (1, .c (.v vb)), (3, .c (.v vl)), (9, .c (ptrB bf)), (11, .c (i64 st))] [] mm [] := by
  have hpm : Sub p mm := hs.sub (by simp)
  have hmm : Sub m mm := hs.sub (by simp)
  have hcr := hw.crash h.safe last
  conv => whnf
  refine .at ?_
  conv => whnf
  refine xcall (crash_A (last := last) h hs hk.sm hl hlast hI) ?_
  rintro _ m1 ⟨p1, rfl, hs1, h1⟩
  conv => whnf
  obtain ⟨c1, c2, c3⟩ := hcr
  have hk1 := hk.crash h.safe last
  generalize crashA A last = A1 at *
  have hg1 : Glob m1 := hg.sub (hs1.sub (a := m) (by simp))
  have fin := fun mm hsm => whole_end (mm := mm) (bf := bf) hg hsm h1 hk1 (by omega) (by omega) hva hba hra hla hsa c2 c3
  refine xcall (load_A hg1 (h1.grow (hs1.sub (a := p1) (by simp))) hk1.sm hk1.nms) ?_
  rintro _ m2 ⟨v2, ps2, p2, rfl, hs2, hls2, hpr2⟩
  conv => whnf
  have hs2 : Split m2 [p2, p1, m] := hs2.under (a := [p2]) hs1
  have hm2 : Sub m m2 := hs2.sub (by simp)
  by_cases hst : st = 4 ∨ st = 0
  · rw [if_pos hst] at c1
    rw [c1] at hpr2 ⊢
    refine ⟨fun h => absurd h (by first | decide | simp), fun _ => ?_⟩
    conv => whnf
    have hlp : ps2.length ≤ 5 := by
      have := congrArg List.length hpr2
      simp only [List.length_map] at this
      omega
    have hbp : ∀ p ∈ ps2, Byt p.2 := fun p hp => by
      have : p.2 ∈ ps2.map (·.2) := List.mem_map.2 ⟨p, hp, rfl⟩
      rw [hpr2] at this
      obtain ⟨x, hx, e⟩ := List.mem_map.1 this
      rw [← e]; exact hbb x hx
    have hsame := same17_spec (.inl (hls2.sub (hs2.sub (a := p2) (by simp)))) (hvb.sub hm2) hbp hbb (by omega)
    rw [decide_eq_true hpr2] at hsame
    rcases hst with rfl | rfl
    · refine ⟨fun _ => ?_, fun h => absurd h (by first | decide | simp)⟩
      conv => whnf
      refine ⟨fun h => absurd h (by first | decide | simp), fun _ => ?_⟩
      conv => whnf
      first | refine xretk (hsame) ?_ | refine xret (hsame) ?_
      conv => whnf
      refine ⟨fun h => absurd h (by first | decide | simp), fun _ => ?_⟩
      conv => whnf
      have tl := fin m2 hs2.drop
      conv at tl => whnf
      refine .via _ _ ?_ tl
      conv => whnf
      repeat (refine And.intro (by first | with_reducible rfl | exact congrArg (Value.int _) (wi (by omega) (by omega)) | exact wi (by omega) (by omega) | rfl) ?_; conv => whnf)
      first | exact trivial | exact fun _ _ h => h
    · refine ⟨fun h => absurd h (by first | decide | simp), fun _ => ?_⟩
      conv => whnf
      refine ⟨fun _ => ?_, fun h => absurd h (by first | decide | simp)⟩
      conv => whnf
      refine ⟨fun h => absurd h (by first | decide | simp), fun _ => ?_⟩
      conv => whnf
      first | refine xretk (hsame) ?_ | refine xret (hsame) ?_
      conv => whnf
      refine ⟨fun h => absurd h (by first | decide | simp), fun _ => ?_⟩
      conv => whnf
      have tl := fin m2 hs2.drop
      conv at tl => whnf
      refine .via _ _ ?_ tl
      conv => whnf
      repeat (refine And.intro (by first | with_reducible rfl | exact congrArg (Value.int _) (wi (by omega) (by omega)) | exact wi (by omega) (by omega) | rfl) ?_; conv => whnf)
      first | exact trivial | exact fun _ _ h => h
  · rw [if_neg hst] at c1
    rw [c1] at hpr2 ⊢
    refine ⟨fun h => absurd h (by first | decide | simp), fun _ => ?_⟩
    conv => whnf
    have hlp : ps2.length ≤ 5 := by
      have := congrArg List.length hpr2
      simp only [List.length_map] at this
      omega
    have hbp : ∀ p ∈ ps2, Byt p.2 := fun p hp => by
      have : p.2 ∈ ps2.map (·.2) := List.mem_map.2 ⟨p, hp, rfl⟩
      rw [hpr2] at this
      obtain ⟨x, hx, e⟩ := List.mem_map.1 this
      rw [← e]; exact hba x hx
    have hsame := same17_spec (.inl (hls2.sub (hs2.sub (a := p2) (by simp)))) (hva.sub hm2) hbp hba (by omega)
    rw [decide_eq_true hpr2] at hsame
    refine ⟨fun h => absurd h (by (simp at h; omega)), fun _ => ?_⟩
    conv => whnf
    refine ⟨fun h => absurd h (by (simp at h; omega)), fun _ => ?_⟩
    conv => whnf
    refine ⟨fun h => absurd h (by first | decide | simp), fun _ => ?_⟩
    conv => whnf
    first | refine xretk (hsame) ?_ | refine xret (hsame) ?_
    conv => whnf
    refine ⟨fun h => absurd h (by first | decide | simp), fun _ => ?_⟩
    conv => whnf
    have tl := fin m2 hs2.drop
    conv at tl => whnf
    refine .via _ _ ?_ tl
    conv => whnf
    repeat (refine And.intro (by first | with_reducible rfl | exact congrArg (Value.int _) (wi (by omega) (by omega)) | exact wi (by omega) (by omega) | rfl) ?_; conv => whnf)
    first | exact trivial | exact fun _ _ h => h
end Go.E.YtgjlajcebcmbaaaGreatDoor

/-
  Law SnapWhole: whole.
-/
namespace Go.E.YtgjlajcebcmbaaaGreatDoor
open Go.Proofs
set_option maxRecDepth 100000
theorem map_keep {A : List Af} {g : Af → Af} (h : ∀ a ∈ A, Cr a (g a)) (hs : ∀ a ∈ A, a.safe = a.l.length) : A.map g = A := (List.map_congr_left fun a ha => (h a ha).all (hs a ha)).trans (List.map_id _)
section
variable {R1 R2 : List (List Int)} (h1 : allRec R1 = true) (h2 : allRec R2 = true) (b1 : ∀ r ∈ R1, Byt r) (b2 : ∀ r ∈ R2, Byt r)
abbrev sf (n : Nat) (R : List (List Int)) : Af := ⟨Sn.nm n, toN (Fr.cat R), (toN (Fr.cat R)).length⟩
theorem low_sf {n m : Nat} {R : List (List Int)} (h1 : 1 ≤ n) (h2 : n < m) : Low [sf n R] m := fun b hb => ⟨n, h1, h2, by rw [List.mem_singleton.1 hb]⟩
theorem rm_low {B : List Af} {n : Nat} (h : Low B n) : rmA B tmpN = B := rm_none h.tmp
include h1 b1 in
theorem wh_one {st : Int} (hst : ¬ (st = 4 ∨ st = 0)) : Wh [sf 3 R1] st R1 R2 := by
  refine ⟨by rw [rm_low (n := 9) (low_sf (by decide) (by decide))]; exact low_sf (by decide) (by decide), by simp, fun A' ⟨g, hA, hg⟩ => ?_⟩
  rw [if_neg hst, hA, map_keep hg (by simp)]
  exact load_one (by decide) (by decide) h1 b1
include h2 b2 in
theorem wh_five {st : Int} (hst : st = 4 ∨ st = 0) : Wh [sf 5 R2] st R1 R2 := by
  refine ⟨by rw [rm_low (n := 9) (low_sf (by decide) (by decide))]; exact low_sf (by decide) (by decide), by simp, fun A' ⟨g, hA, hg⟩ => ?_⟩
  rw [if_pos hst, hA, map_keep hg (by simp)]
  exact load_one (by decide) (by decide) h2 b2
include h1 b1 in
theorem wh_tmp {st : Int} (hst : ¬ (st = 4 ∨ st = 0)) {x : Af} (hx : x.name = tmpN) : Wh ([sf 3 R1] ++ [x]) st R1 R2 := by
  have hl : Low [sf 3 R1] 9 := low_sf (by decide) (by decide)
  have hr := rm_last (B := [sf 3 R1]) (x := x) (by rw [hx]; exact hl.tmp)
  rw [hx] at hr
  refine ⟨by rw [hr]; exact hl, by simp, fun A' ⟨g, hA, hg⟩ => ?_⟩
  have e3 : g (sf 3 R1) = sf 3 R1 := (hg _ (by simp)).all rfl
  have ex : (g x).name = tmpN := by rw [(hg x (by simp)).name, hx]
  have hA' : A' = [sf 3 R1] ++ [g x] := by rw [hA, List.map_append, List.map_singleton, List.map_singleton, e3]
  rw [if_neg hst, hA']
  refine load_of (n := 3) (s := (toN (Fr.cat R1)).length) ?_ ?_ h1 b1
  · rw [numsA_eq (l := [3]) (by simp) (by
      simp only [List.map_append, List.map_singleton, ex]
      simp [numsN, numOf_nm (n := 3) (by decide) (by decide), numOf_size (s := tmpN) (by decide)])]
    rfl
  · simp [fileA]
include h2 b2 in
theorem wh_two {st : Int} (hst : st = 4 ∨ st = 0) : Wh ([sf 3 R1] ++ [sf 5 R2]) st R1 R2 := by
  have hl : Low ([sf 3 R1] ++ [sf 5 R2]) 9 := fun b hb => by
    rcases List.mem_append.1 hb with hb | hb
    · exact low_sf (by decide) (by decide) b hb
    · exact low_sf (by decide) (by decide) b hb
  refine ⟨by rw [rm_low hl]; exact hl, by simp, fun A' ⟨g, hA, hg⟩ => ?_⟩
  rw [if_pos hst, hA, map_keep hg (by simp)]
  refine load_of (n := 5) (s := (toN (Fr.cat R2)).length) ?_ ?_ h2 b2
  · rw [numsA_eq (l := [3, 5]) (by simp) (by
      simp [numsN, numOf_nm (n := 3) (by decide) (by decide), numOf_nm (n := 5) (by decide) (by decide)])]
    rfl
  · have : Sn.nm 5 ≠ Sn.nm 3 := fun e => by have := nm_inj (by decide) (by decide) e; omega
    simp [fileA, this]
end
def o0 : Opr := ⟨0, 0, ByteArray.empty, ByteArray.empty, none, 0, [], none, 0, []⟩
theorem o0_ok (m : Mem) : o0.Ok m := ⟨(Lb.nil m 0).la, by simp [o0], .inl (.inl ⟨0, rfl, rfl⟩), by simp [o0], by simp [o0], by simp [o0]⟩
theorem sml_rec {ps : List (Value × List Int)} (h : SmL (ps.map (·.2))) (hr : allRec (ps.map (·.2)) = true) : ∀ r ∈ ps, r.2.length ≤ 500 := fun r hx => by
  have h1 := h.2 r.2 (List.mem_map.2 ⟨r, hx, rfl⟩)
  have h2 := List.all_eq_true.1 hr r.2 (List.mem_map.2 ⟨r, hx, rfl⟩)
  have h3 : 1 ≤ r.2.length ∧ r.2.length ≤ 20000 := by simpa [Fr.isRec] using h2
  omega
theorem sml_len {ps : List (Value × List Int)} (h : SmL (ps.map (·.2))) : ps.length ≤ 5 := by have := h.1; rwa [List.length_map] at this
theorem sml_sz {ps : List (Value × List Int)} (h : SmL (ps.map (·.2))) : ∀ r ∈ ps, r.2.length ≤ 1000000 := fun r hx => by
  have := h.2 r.2 (List.mem_map.2 ⟨r, hx, rfl⟩)
  omega
set_option maxHeartbeats 8000000 in
theorem snapWhole_spec {m : Mem} {va vb vl : Value} {pa pb : List (Value × List Int)} {last : List Int} {n : Int} (hg : Glob m) (hva : LsA m va pa) (hvb : LsA m vb pb) (hba : ∀ r ∈ pa, Byt r.2) (hbb : ∀ r ∈ pb, Byt r.2) (hl : Ia m vl last) (hlast : last.length ≤ 9223372036854775807) (hI : ∀ x ∈ last, -9223372036854775808 ≤ x ∧ x ≤ 9223372036854775807) :
    Spec Tryz.prog 5 [.v va, .v vb, i64 n, .v vl] m fun r m' => r = [boolV true] ∧ Sub m m' := by
  have al : ∀ {m1 : Mem}, Sub m m1 → Spec Tryz.prog 7 [] m1 fun r m' => r = [boolV true] ∧ Sub m1 m' := fun hs => alive17_spec (hg.sub hs)
  refine en5 rfl (goY ?_)
  conv => whnf
  refine xcall (great17_spec (k := 0) (n := 0) (o := o0) hva (o0_ok m)) ?_
  rintro _ m1 ⟨g1, rfl, hs1, hg1⟩
  conv => whnf
  cases g1 with
  | true =>
    refine ⟨fun _ => ?_, fun h => absurd h (by first | decide | simp)⟩
    conv => whnf
    refine xcall (al hs1) ?_
    rintro _ m2 ⟨rfl, hs2⟩
    conv => whnf
    exact ⟨rfl, hs1.trans hs2⟩
  | false =>
  refine ⟨fun h => absurd h (by first | decide | simp), fun _ => ?_⟩
  conv => whnf
  refine xcall (great17_spec (k := 0) (n := 0) (o := o0) (hvb.sub hs1) (o0_ok m1)) ?_
  rintro _ m2 ⟨g2, rfl, hs2, hg2⟩
  conv => whnf
  have hs2 := hs1.trans hs2
  cases g2 with
  | true =>
    refine ⟨fun _ => ?_, fun h => absurd h (by first | decide | simp)⟩
    conv => whnf
    refine xcall (al hs2) ?_
    rintro _ m3 ⟨rfl, hs3⟩
    conv => whnf
    exact ⟨rfl, hs2.trans hs3⟩
  | false =>
  refine ⟨fun h => absurd h (by first | decide | simp), fun _ => ?_⟩
  conv => whnf
  refine ⟨fun hc => ?_, fun hc => ?_⟩
  · conv => whnf
    refine xcall (al hs2) ?_
    rintro _ m3 ⟨rfl, hs3⟩
    conv => whnf
    exact ⟨rfl, hs2.trans hs3⟩
  have hn0 : 0 ≤ n := by have := of_decide_eq_false hc; omega
  clear hc
  conv => whnf
  refine ⟨fun hc => ?_, fun hc => ?_⟩
  · conv => whnf
    refine xcall (al hs2) ?_
    rintro _ m3 ⟨rfl, hs3⟩
    conv => whnf
    exact ⟨rfl, hs2.trans hs3⟩
  have hn4 : n ≤ 4 := by have := of_decide_eq_false hc; omega
  clear hc
  obtain ⟨s, rfl⟩ : ∃ s : Nat, n = s := ⟨n.toNat, by omega⟩
  have sa := (hg1 rfl).1
  have sb := (hg2 rfl).1
  have hRa : ∀ r ∈ pa.map (·.2), Byt r := fun r hr => by obtain ⟨x, hx, rfl⟩ := List.mem_map.1 hr; exact hba x hx
  have hRb : ∀ r ∈ pb.map (·.2), Byt r := fun r hr => by obtain ⟨x, hx, rfl⟩ := List.mem_map.1 hr; exact hbb x hx
  conv => whnf
  refine xcall (new_spec (q := 0) (by decide)) ?_
  rintro _ m3 ⟨bf, p, rfl, hs, h⟩
  conv => whnf
  have hs : Split m3 [p, m] := hs.under (a := [p]) ((Split.one m).grow hs2)
  refine ⟨fun h => absurd h (by first | decide | simp), fun _ => ?_⟩
  conv => whnf
  refine ⟨fun h => absurd h (by first | decide | simp), fun _ => ?_⟩
  conv => whnf
  have hm3 : Sub m m3 := hs.sub (by simp)
  cases hra : allRec (pa.map (·.2)) with
  | false =>
    refine xcall (saveL_bad (n := 3) (s := 4) (hg.sub hm3) (h.grow (hs.sub (a := p) (by simp))) smx_nil.sm smx_nil.nms (.inr hra) (hva.sub hm3) hba (by have := sml_len sa; omega) (sml_sz sa)) ?_
    rintro _ m4 ⟨rfl, hs4⟩
    conv => whnf
    refine ⟨fun _ => ?_, fun h => absurd h (by first | decide | simp)⟩
    conv => whnf
    refine xcall (al (hm3.trans hs4)) ?_
    rintro _ m5 ⟨rfl, hs5⟩
    conv => whnf
    refine ⟨fun _ => ?_, fun h => absurd h (by first | decide | simp)⟩
    conv => whnf
    have hp5 : Sub p m5 := ((hs.sub (a := p) (by simp)).trans hs4).trans hs5
    have hm5 : Sub m m5 := (hm3.trans hs4).trans hs5
    refine xcall (numbers_A (hg.sub hm5) (h.grow hp5) smx_nil.sm smx_nil.nms) ?_
    rintro _ m6 ⟨vn, pn, rfl, hsn, hvn⟩
    conv => whnf
    rw [show numsA [] = [] from numsA_eq (by simp) (by simp [numsN])] at hvn
    obtain ⟨an, cn, rfl⟩ := hvn.il.shape
    conv => whnf
    exact ⟨rfl, hm5.trans (hsn.sub (a := m5) (by simp))⟩
  | true =>
    refine xcall (saveL_ok (n := 3) (s := 4) (B := []) hg hs h smx_nil (by decide) (by decide) (by decide) rfl (low_nil 3) (by decide) (by decide) hra hva hba (sml_len sa) (sml_rec sa hra) (by decide)) ?_
    rintro _ m4 ⟨p4, nb4, ns4, rfl, hs4, h4, hnb4, hns4⟩
    conv => whnf
    have hla3 : (toN (Fr.cat (pa.map (·.2)))).length ≤ 3000 := by
      rw [toN_len]
      have := cat_small (l := pa.map (·.2)) fun r hr => by obtain ⟨x, hx, rfl⟩ := List.mem_map.1 hr; exact sml_rec sa hra x hx
      rw [List.length_map] at this
      have := sml_len sa
      omega
    have hx4 : Smx [sf 3 (pa.map (·.2))] nb4 ns4 := smx_nil.st (B := []) (n := 3) (by decide) rfl hla3 (by omega) (by omega) 4
    have h4 : FA p4 bf 0 nb4 ns4 [sf 3 (pa.map (·.2))] := h4
    rw [show stN 4 = 0 from rfl]
    refine ⟨fun h => absurd h (by first | decide | simp), fun _ => ?_⟩
    conv => whnf
    have hm4 : Sub m m4 := hs4.sub (by simp)
    cases hrb : allRec (pb.map (·.2)) with
    | false =>
      refine xcall (saveL_bad (n := 5) (s := s) (hg.sub hm4) (h4.grow (hs4.sub (a := p4) (by simp))) hx4.sm hx4.nms (.inr hrb) (hvb.sub hm4) hbb (by have := sml_len sb; omega) (sml_sz sb)) ?_
      rintro _ m5 ⟨rfl, hs5⟩
      conv => whnf
      have tl := whole_tail hg (hs4.grow hs5) h4 hx4 (by omega) (by omega) hva hvb hba hbb hra (sml_len sa) (sml_rec sa hra) (sml_len sb) (wh_one (st := -1) hra hRa (by omega)) hl hlast hI
      conv at tl => whnf
      refine .via _ _ ?_ tl
      conv => whnf
      repeat (refine And.intro (by first | with_reducible rfl | exact congrArg (Value.int _) (wi (by omega) (by omega)) | exact wi (by omega) (by omega) | rfl) ?_; conv => whnf)
      first | exact trivial | exact fun _ _ h => h
    | true =>
      have hl5 : Low [sf 3 (pa.map (·.2))] 5 := low_sf (by decide) (by decide)
      refine xcall (saveL_ok (n := 5) (s := s) (B := [sf 3 (pa.map (·.2))]) hg hs4 h4 hx4 (by omega) (by omega) (by simp) (rm_low hl5) hl5 (by decide) (by decide) hrb hvb hbb (sml_len sb) (sml_rec sb hrb) (by omega)) ?_
      rintro _ m5 ⟨p5, nb5, ns5, rfl, hs5, h5, hnb5, hns5⟩
      conv => whnf
      have hlb3 : (toN (Fr.cat (pb.map (·.2)))).length ≤ 3000 := by
        rw [toN_len]
        have := cat_small (l := pb.map (·.2)) fun r hr => by obtain ⟨x, hx, rfl⟩ := List.mem_map.1 hr; exact sml_rec sb hrb x hx
        rw [List.length_map] at this
        have := sml_len sb
        omega
      have hx5 : Smx (stA [sf 3 (pa.map (·.2))] 5 (toN (Fr.cat (pb.map (·.2)))) [sf 3 (pa.map (·.2))] s) nb5 ns5 := hx4.st (by simp) (rm_low hl5) hlb3 (by omega) (by omega) s
      have hW : Wh (stA [sf 3 (pa.map (·.2))] 5 (toN (Fr.cat (pb.map (·.2)))) [sf 3 (pa.map (·.2))] s) (stN s) (pa.map (·.2)) (pb.map (·.2)) := by
        have hc : s = 0 ∨ s = 1 ∨ s = 2 ∨ s = 3 ∨ s = 4 := by omega
        rcases hc with rfl | rfl | rfl | rfl | rfl
        · exact wh_one hra hRa (by decide)
        · exact wh_tmp hra hRa (by decide) rfl
        · exact wh_tmp hra hRa (by decide) rfl
        · exact wh_two hrb hRb (by decide)
        · exact wh_five hrb hRb (by decide)
      have tl := whole_tail hg hs5 h5 hx5 (by omega) (by omega) hva hvb hba hbb hra (sml_len sa) (sml_rec sa hra) (sml_len sb) hW hl hlast hI
      conv at tl => whnf
      refine .via _ _ ?_ tl
      conv => whnf
      repeat (refine And.intro (by first | with_reducible rfl | exact congrArg (Value.int _) (wi (by omega) (by omega)) | exact wi (by omega) (by omega) | rfl) ?_; conv => whnf)
      first | exact trivial | exact fun _ _ h => h
end Go.E.YtgjlajcebcmbaaaGreatDoor

/-
  Law SnapLast.
-/
namespace Go.E.YtgjlajcebcmbaaaGreatDoor
open Go.Proofs
set_option maxRecDepth 100000
theorem wf_u16 {n : Int} (h : (Lit.int .u16 n).wf = true) : 0 ≤ n ∧ n < 65536 := by
  simp [Lit.wf, IntKind.min, IntKind.max, IntKind.signed, IntKind.bits] at h
  omega
/-- lists of lists of bytes -/
def LssA (m : Mem) (v : Value) (qs : List (Value × List (Value × List Int))) : Prop := (Lies m 1 v (qs.map (·.1)) ∨ (qs = [] ∧ ∃ a, v = .slice (some a) 0 0)) ∧ ∀ q ∈ qs, LsA m q.1 q.2 ∧ ∀ r ∈ q.2, Byt r.2
theorem LssA.shape {m : Mem} {v : Value} {qs : List (Value × List (Value × List Int))} (h : LssA m v qs) : ∃ a c, v = .slice a qs.length c := by
  rcases h.1 with h | ⟨rfl, a, rfl⟩
  · rcases h with ⟨c, rfl, e⟩ | ⟨b, o, c, n, arr, t, fr, rfl, _, e, _⟩
    · have : qs.length = 0 := by simpa using congrArg List.length e
      exact ⟨none, c, by rw [this]⟩
    · have : qs.length = n := by simpa using e
      exact ⟨_, c, by rw [this]⟩
  · exact ⟨_, _, rfl⟩
theorem LssA.real {m : Mem} {v : Value} {qs : List (Value × List (Value × List Int))} (h : LssA m v qs) {i : Nat} (hi : i < qs.length) : ∃ b o c, v = .slice (some ⟨b, o, none⟩) qs.length c ∧ ∀ (i : Nat) (hi : i < qs.length), mcell m b (o + i) = some qs[i].1 := by
  rcases h.1 with h | ⟨rfl, a, rfl⟩
  · rcases h with ⟨c, rfl, e⟩ | ⟨b, o, c, n, arr, t, fr, rfl, g1, e, _, g2, _⟩
    · have : qs.length = 0 := by simpa using congrArg List.length e
      omega
    · have : qs.length = n := by simpa using e
      exact ⟨b, o, c, by rw [this], fun j hj => mcell_of g1 (g2 j _ (by simp [hj]))⟩
  · simp at hi
theorem dat_rows2 {m : Mem} : ∀ {els : List (List Value)}, (∀ c ∈ els, Dat m (.slice (.slice (.int .u8))) c) → ∃ qs : List (Value × List (Value × List Int)), els = qs.map (fun p => [p.1]) ∧ ∀ q ∈ qs, LsA m q.1 q.2 ∧ ∀ r ∈ q.2, Byt r.2
  | [], _ => ⟨[], rfl, by simp⟩
  | c :: els, h => by
    obtain ⟨v, l, rfl, h1, h2, _⟩ := dat_lists (h c (by simp))
    obtain ⟨ps, rfl, h3⟩ := dat_rows2 (els := els) fun c hc => h c (by simp [hc])
    exact ⟨(v, l) :: ps, rfl, fun p hp => (List.mem_cons.1 hp).elim (fun e => e ▸ ⟨h1, h2⟩) (h3 p)⟩
theorem dat_lists2 {m : Mem} {cs : List Value} (h : Dat m (.slice (.slice (.slice (.int .u8)))) cs) : ∃ v qs, cs = [v] ∧ LssA m v qs ∧ qs.length ≤ maxLen := by
  obtain ⟨v, els, rfl, h1, h2, h3, h4⟩ := h
  obtain ⟨ps, rfl, h5⟩ := dat_rows2 h3
  refine ⟨v, ps, rfl, ⟨?_, h5⟩, by simpa using h4⟩
  rcases h1 with h1 | ⟨h1, a, rfl⟩
  · refine .inl ?_
    have e : (ps.map fun p => [p.1]).flatten = ps.map (·.1) := by
      clear h1 h2 h3 h4 h5
      induction ps with
      | nil => rfl
      | cons p ps ih => simp [ih]
    rw [e] at h1
    exact h1
  · exact .inr ⟨by simpa using h1, a, rfl⟩
/-- the files behind some saves -/
def stL (n : Nat) (R : List (List Int)) : List Af := if n = 0 then [] else [sf n R]
theorem stL_low {n m : Nat} {R : List (List Int)} (h : n < m) : Low (stL n R) m := by
  unfold stL
  split
  · exact low_nil m
  · exact low_sf (by omega) h
theorem stL_len (n : Nat) (R : List (List Int)) : (stL n R).length = if 0 < n then 1 else 0 := by
  unfold stL
  by_cases h : n = 0
  · rw [if_pos h, if_neg (by omega)]; rfl
  · rw [if_neg h, if_pos (by omega)]; rfl
theorem stL_nums {n : Nat} {R : List (List Int)} (hn : n ≤ 999999) : numsA (stL n R) = if n = 0 then [] else [n] := by
  unfold stL
  split
  · exact numsA_eq (by simp) (by simp [numsN])
  · exact toN_cat_nums (by omega) hn
theorem stL_load {n : Nat} {R : List (List Int)} (hn : n ≤ 999999) (hR : allRec R = true) (hb : ∀ r ∈ R, Byt r) (h0 : n = 0 → R = []) : loadA (stL n R) = (n, R, 0) := by
  by_cases h : n = 0
  · rw [h0 h]
    rw [loadA_none (by rw [stL_nums hn, if_pos h]), h]
  · unfold stL
    rw [if_neg h]
    exact load_one (by omega) hn hR hb
theorem stL_may {n : Nat} {R : List (List Int)} (hn : n ≤ 999999) : mayN (stL n R) n = false := by
  unfold mayN
  rw [stL_nums hn]
  by_cases h : n = 0
  · subst h; rfl
  · rw [if_neg h]; simp
theorem stL_smx {n nb ns : Nat} {R : List (List Int)} (hR : (Fr.cat R).length ≤ 3000) (h1 : nb ≤ 300000) (h2 : ns ≤ 500) : Smx (stL n R) nb ns := by
  unfold stL
  split
  · exact ⟨by simp, by simp, by simp, h1, h2⟩
  · exact ⟨fun a ha => by rw [List.mem_singleton.1 ha]; show (toN _).length ≤ 3000; rw [toN_len]; exact hR, fun a ha => by rw [List.mem_singleton.1 ha]; show (Sn.nm n).size ≤ 20; rw [Sn.nm_size]; decide, by simp, h1, h2⟩
set_option maxHeartbeats 8000000 in
theorem last_tail {m mm p p2 : Mem} {bf nb ns n : Nat} {R : List (List Int)} {v v2 : Value} {ps ps2 : List (Value × List Int)} (hg : Glob m) (hs : Split mm [p2, p, m]) (h : FA p bf 0 nb ns (stL n R)) (hk : Smx (stL n R) nb ns) (hn : n ≤ 999999)
    (hv : LsA m v ps) (hv2 : Lists p2 v2 ps2) (hb : ∀ r ∈ ps, Byt r.2) (hR : ps.map (·.2) = R) (hR2 : ps2.map (·.2) = R) (hl : ps.length ≤ 5) :
    xwpY c4 (restAt 17 (bodyOf Tryz.f4)) (QRetY tt.get Tryz.f4.results.toList fun r m' => r = [boolV true] ∧ Sub m m')
      [(5, .c (ptrB bf)), (7, .c (i64 n)), (8, .c (.v v)), (10, .c (i64 n)), (11, .c (.v v2)), (12, .c (i64 0)), (13, .c (i64 ((stL n R).length : Nat)))] [] mm [] := by
  have hpm : Sub p mm := hs.sub (by simp)
  have hmm : Sub m mm := hs.sub (by simp)
  conv => whnf
  refine .at ?_
  conv => whnf
  refine xcall (begin_bad (hg.sub hmm) (h.grow hpm) hk.sm hk.nms (stL_may hn)) ?_
  rintro _ m1 ⟨rfl, hs1⟩
  conv => whnf
  refine xcall (alive17_spec (hg.sub (hmm.trans hs1))) ?_
  rintro _ m2 ⟨rfl, hs2⟩
  conv => whnf
  have hs12 := hs1.trans hs2
  have hbp : ∀ p ∈ ps2, Byt p.2 := fun p hp => by
    have : p.2 ∈ ps2.map (·.2) := List.mem_map.2 ⟨p, hp, rfl⟩
    rw [hR2, ← hR] at this
    obtain ⟨x, hx, e⟩ := List.mem_map.1 this
    rw [← e]; exact hb x hx
  have hlp : ps2.length ≤ 5 := by
    have := congrArg List.length (hR2.trans hR.symm)
    simp only [List.length_map] at this
    omega
  refine ⟨fun _ => ?_, fun h => absurd h (by first | decide | simp)⟩
  conv => whnf
  refine ⟨fun _ => ?_, fun h => absurd h (by first | decide | simp)⟩
  conv => whnf
  first | refine xretk (same17_spec (.inl (hv2.sub ((hs.sub (a := p2) (by simp)).trans hs12))) (hv.sub (hmm.trans hs12)) hbp hb (by omega)) ?_ | refine xret (same17_spec (.inl (hv2.sub ((hs.sub (a := p2) (by simp)).trans hs12))) (hv.sub (hmm.trans hs12)) hbp hb (by omega)) ?_
  conv => whnf
  rw [decide_eq_true (hR2.trans hR.symm)]
  refine ⟨fun _ => ?_, fun h => absurd h (by first | decide | simp)⟩
  conv => whnf
  refine ⟨fun _ => ?_, fun h => absurd h (by first | decide | simp)⟩
  conv => whnf
  refine xcall (numbers_A (hg.sub (hmm.trans hs12)) (h.grow (hpm.trans hs12)) hk.sm hk.nms) ?_
  rintro _ m4 ⟨vn, pn, rfl, hsn, hvn⟩
  conv => whnf
  have hnl : (numsA (stL n R)).length = (stL n R).length := by rw [stL_nums hn, stL]; split <;> rfl
  have hncl := nc_len (numsA (stL n R))
  obtain ⟨an, cn, rfl⟩ := hvn.il.shape
  rw [hncl, hnl]
  refine ⟨fun _ => ?_, fun h => absurd h (by first | decide | simp)⟩
  conv => whnf
  exact ⟨rfl, (hmm.trans hs12).trans (hsn.sub (by simp))⟩
set_option maxHeartbeats 8000000 in
theorem snapLast_spec {m : Mem} {v : Value} {qs : List (Value × List (Value × List Int))} {n : Int} (hg : Glob m) (hv : LssA m v qs) (hn : 0 ≤ n ∧ n < 65536) :
    Spec Tryz.prog 4 [.v v, .v (.int .u16 n)] m fun r m' => r = [boolV true] ∧ Sub m m' := by
  have al : ∀ {m1 : Mem}, Sub m m1 → Spec Tryz.prog 7 [] m1 fun r m' => r = [boolV true] ∧ Sub m1 m' := fun hs => alive17_spec (hg.sub hs)
  obtain ⟨a, c, rfl⟩ := hv.shape
  refine en4 rfl (goY ?_)
  conv => whnf
  refine xcall (new_spec (q := 0) (by decide)) ?_
  rintro _ m1 ⟨bf, p, rfl, hs, h⟩
  conv => whnf
  have hm1 : Sub m m1 := hs.sub (by simp)
  refine ⟨fun h => absurd h (by first | decide | simp), fun _ => ?_⟩
  conv => whnf
  refine ⟨fun h => absurd h (by first | decide | simp), fun _ => ?_⟩
  conv => whnf
  refine ⟨fun hc => ?_, fun hc => ?_⟩
  · conv => whnf
    refine ⟨fun _ => ?_, fun h => absurd h (by first | decide | simp)⟩
    conv => whnf
    refine ⟨fun _ => ?_, fun h => absurd h (by first | decide | simp)⟩
    conv => whnf
    refine xcall (al hm1) ?_
    rintro _ m2 ⟨rfl, hs2⟩
    conv => whnf
    exact ⟨rfl, hm1.trans hs2⟩
  have hq8 : qs.length ≤ 8 := by have := of_decide_eq_false hc; omega
  clear hc
  obtain ⟨k, rfl⟩ : ∃ k : Nat, n = k := ⟨n.toNat, by omega⟩
  conv => whnf
  refine .mk (ι := Nat × Nat × Value) (fun i => qs.length - i.1) (fun ⟨i, at', lv⟩ mm => i ≤ qs.length ∧ at' ≤ 6 * i ∧ ∃ (p : Mem) (nb ns : Nat) (ps : List (Value × List Int)), Split mm [p, m] ∧ FA p bf 0 nb ns (stL at' (ps.map (·.2))) ∧ nb ≤ 12000 * i ∧ ns ≤ 4 * i ∧ LsA m lv ps ∧ (∀ r ∈ ps, Byt r.2) ∧ allRec (ps.map (·.2)) = true ∧ (at' = 0 → ps.map (·.2) = []) ∧ ps.length ≤ 5 ∧ (Fr.cat (ps.map (·.2))).length ≤ 3000)
    (fun ⟨i, at', lv⟩ => [(0, .c (.v (.slice a qs.length c))), (1, .c (.v (.int .u16 (k : Int)))), (5, .c (ptrB bf)), (7, .c (i64 at')), (8, .c (.v lv)), (9, .c (i64 i))]) (fun _ => []) (0, 0, .slice none 0 0)
    ⟨by omega, by omega, p, 0, 0, [], hs, h, by omega, by omega, .inl ⟨.inl ⟨0, rfl, rfl⟩, by simp⟩, by simp, rfl, fun _ => rfl, by simp, by simp [Fr.cat]⟩ ?_ ?_
  · conv => whnf
    repeat (refine And.intro (by first | with_reducible rfl | exact congrArg (Value.int _) (wi (by omega) (by omega)) | exact wi (by omega) (by omega) | rfl) ?_; conv => whnf)
    first | exact trivial | exact fun _ _ h => h
  rintro ⟨i, at', lv⟩ mm ⟨hi, hat, p, nb, ns, ps, hs, h, hnb, hns, hlv, hpb, hpr, hp0, hp5, hpc⟩
  have hmm : Sub m mm := hs.sub (by simp)
  have hR : ∀ r ∈ ps.map (·.2), Byt r := fun r hr => by obtain ⟨x, hx, rfl⟩ := List.mem_map.1 hr; exact hpb x hx
  have hk : Smx (stL at' (ps.map (·.2))) nb ns := stL_smx hpc (by omega) (by omega)
  conv => whnf
  refine ⟨fun hc => ?_, fun hc => ?_⟩
  · have hlt : i < qs.length := by have := of_decide_eq_true hc; omega
    clear hc
    obtain ⟨b, o, c', hh, hgi⟩ := hv.real hlt
    injection hh with hh1 _ hh3
    subst hh1
    clear hh3 c'
    have hgi := hgi i hlt
    obtain ⟨hq1, hq2⟩ := hv.2 _ (List.getElem_mem hlt)
    generalize qs[i] = q at hgi hq1 hq2
    obtain ⟨qv, qp⟩ := q
    simp only at hgi hq1 hq2
    have hone : qv.oneCell' = true := by obtain ⟨a, c, e⟩ := hq1.shape; rw [e]; rfl
    conv => whnf
    repeat (refine And.intro (by first | omega | (simp only [times]; omega)) ?_; conv => whnf)
    refine ⟨_, mcell_sub hgi hmm, hone, ?_⟩
    conv => whnf
    refine xcall (great17_spec (k := 0) (n := 0) (o := o0) (hq1.sub hmm) (o0_ok mm)) ?_
    rintro _ m1 ⟨g1, rfl, hs1, hg1⟩
    conv => whnf
    have hmm1 := hmm.trans hs1
    cases g1 with
    | true =>
      refine ⟨fun _ => ?_, fun h => absurd h (by first | decide | simp)⟩
      conv => whnf
      refine xcall (al hmm1) ?_
      rintro _ m2 ⟨rfl, hs2⟩
      conv => whnf
      exact ⟨rfl, hmm1.trans hs2⟩
    | false =>
    have sq := (hg1 rfl).1
    have hs := hs.grow hs1
    refine ⟨fun h => absurd h (by first | decide | simp), fun _ => ?_⟩
    conv => whnf
    have ew : IntKind.i64.wrap (IntKind.i64.wrap ((at' : Int) + 1) + IntKind.i64.wrap ((k : Int).tmod 5)) = ((at' + 1 + k % 5 : Nat) : Int) := by
      have : (k : Int).tmod 5 = ((k % 5 : Nat) : Int) := rfl
      rw [this, wi (n := (at' : Int) + 1) (by omega) (by omega), wi (n := ((k % 5 : Nat) : Int)) (by omega) (by omega), wi (by omega) (by omega)]; omega
    rw [ew]
    repeat (refine And.intro (by first | omega | (simp only [times]; omega)) ?_; conv => whnf)
    refine ⟨_, mcell_sub hgi hmm1, hone, ?_⟩
    conv => whnf
    have hlow : Low (stL at' (ps.map (·.2))) (at' + 1 + k % 5) := stL_low (by omega)
    have hlen1 : (stL at' (ps.map (·.2))).length ≤ 9 := by rw [stL_len]; split <;> omega
    cases hrq : allRec (qp.map (·.2)) with
    | false =>
      refine xcall (saveL_bad (n := ((at' + 1 + k % 5 : Nat) : Int)) (s := 4) (hg.sub hmm1) (h.grow (hs.sub (by simp))) hk.sm hk.nms (.inr hrq) (hq1.sub hmm1) hq2 (by have := sml_len sq; omega) (sml_sz sq)) ?_
      rintro _ m2 ⟨rfl, hs2⟩
      conv => whnf
      refine ⟨fun h => absurd h (by first | decide | simp), fun _ => ?_⟩
      conv => whnf
      refine ⟨(i + 1, at', lv), ⟨by omega, by omega, p, nb, ns, ps, hs.grow hs2, h, by omega, by omega, hlv, hpb, hpr, hp0, hp5, hpc⟩, by first | omega | (simp only; omega), ?_⟩
      conv => whnf
      repeat (refine And.intro (by first | with_reducible rfl | (first | exact congrArg (Value.int _) (iadd1 (by omega))) | exact congrArg (Value.int _) (wi (by omega) (by omega)) | exact wi (by omega) (by omega) | rfl) ?_; conv => whnf)
      first | exact trivial | exact fun _ _ h => h
    | true =>
      refine xcall (saveL_ok (n := at' + 1 + k % 5) (s := 4) (B := stL at' (ps.map (·.2))) hg hs h hk (by omega) (by omega) hlen1 (rm_low hlow) hlow (by omega) (by omega) hrq hq1 hq2 (sml_len sq) (sml_rec sq hrq) (by decide)) ?_
      rintro _ m4 ⟨p4, nb4, ns4, rfl, hs4, h4, hnb4, hns4⟩
      conv => whnf
      have h4 : FA p4 bf 0 nb4 ns4 (stL (at' + 1 + k % 5) (qp.map (·.2))) := by
        unfold stL
        rw [if_neg (by omega)]
        exact h4
      have hqc : (Fr.cat (qp.map (·.2))).length ≤ 3000 := by
        have := cat_small (l := qp.map (·.2)) fun r hr => by obtain ⟨x, hx, rfl⟩ := List.mem_map.1 hr; exact sml_rec sq hrq x hx
        rw [List.length_map] at this
        have := sml_len sq
        omega
      have hm4 : Sub m m4 := hs4.sub (by simp)
      rw [show stN 4 = 0 from rfl]
      refine ⟨fun _ => ?_, fun h => absurd h (by first | decide | simp)⟩
      conv => whnf
      repeat (refine And.intro (by first | omega | (simp only [times]; omega)) ?_; conv => whnf)
      rw [ew]
      refine ⟨_, mcell_sub hgi hm4, hone, ?_⟩
      conv => whnf
      refine ⟨(i + 1, at' + 1 + k % 5, qv), ⟨by omega, by omega, p4, nb4, ns4, qp, hs4, h4, by omega, by omega, hq1, hq2, hrq, fun h => absurd h (by omega), sml_len sq, hqc⟩, by first | omega | (simp only; omega), ?_⟩
      conv => whnf
      repeat (refine And.intro (by first | with_reducible rfl | (first | exact congrArg (Value.int _) (iadd1 (by omega))) | exact congrArg (Value.int _) (wi (by omega) (by omega)) | exact wi (by omega) (by omega) | rfl) ?_; conv => whnf)
      first | exact trivial | exact fun _ _ h => h
  · have hc' := of_decide_eq_false hc
    obtain rfl : i = qs.length := by omega
    clear hc
    conv => whnf
    refine xcall (load_A (hg.sub hmm) (h.grow (hs.sub (by simp))) hk.sm hk.nms) ?_
    rintro _ m2 ⟨v2, ps2, p2, rfl, hs2, hls2, hpr2⟩
    conv => whnf
    rw [stL_load (by omega) hpr hR hp0] at hpr2 ⊢
    have hs2 : Split m2 [p2, p, m] := hs2.under (a := [p2]) hs
    have tl := last_tail hg hs2 h hk (by omega) hlv hls2 hpb rfl hpr2 hp5
    conv at tl => whnf
    have hln := stL_len at' (ps.map (·.2))
    refine ⟨fun hc => ?_, fun hc => ?_⟩
    · have : 0 < at' := by have := of_decide_eq_true hc; omega
      rw [if_pos this] at hln
      rw [hln] at tl
      conv => whnf
      refine .via _ _ ?_ tl
      conv => whnf
      repeat (refine And.intro (by first | with_reducible rfl | exact congrArg (Value.int _) (wi (by omega) (by omega)) | exact wi (by omega) (by omega) | rfl) ?_; conv => whnf)
      first | exact trivial | exact fun _ _ h => h
    · have : ¬ 0 < at' := by have := of_decide_eq_false hc; omega
      rw [if_neg this] at hln
      rw [hln] at tl
      conv => whnf
      refine .via _ _ ?_ tl
      conv => whnf
      repeat (refine And.intro (by first | with_reducible rfl | exact congrArg (Value.int _) (wi (by omega) (by omega)) | exact wi (by omega) (by omega) | rfl) ?_; conv => whnf)
      first | exact trivial | exact fun _ _ h => h
end Go.E.YtgjlajcebcmbaaaGreatDoor

/-
  What is read of a number is the number's bytes, plainly.
-/
namespace Go.E
theorem beF_back : ∀ (f : Nat) (l : List Nat), l.length ≤ f → (∀ x ∈ l, x < 256) → (l ≠ [] → 0 < l.headD 0) → beF f (l.foldl (fun a c => 256 * a + c) 0) = l
  | 0, l, h, _, _ => by
    have : l = [] := List.eq_nil_of_length_eq_zero (by omega)
    subst this; rfl
  | f + 1, l, h, hb, h0 => by
    rcases List.eq_nil_or_concat l with rfl | ⟨L, c, rfl⟩
    · simp [beF]
    · rw [List.concat_eq_append] at *
      have hc := hb c (by simp)
      have hL : L ≠ [] → 0 < L.headD 0 := fun hn => by
        have := h0 (by simp)
        cases L with
        | nil => exact absurd rfl hn
        | cons x L => simpa using this
      have ih := beF_back f L (by simp at h; omega) (fun x hx => hb x (by simp [hx])) hL
      rw [List.foldl_append]
      simp only [List.foldl_cons, List.foldl_nil]
      generalize L.foldl (fun a c => 256 * a + c) 0 = v at ih ⊢
      have hne : ¬ 256 * v + c = 0 := by
        intro e
        have hv : v = 0 := by omega
        have hcz : c = 0 := by omega
        subst hv hcz
        have hL0 : L = [] := by
          rw [← ih]
          cases f <;> simp [beF]
        subst hL0
        have := h0 (by simp)
        simp at this
      rw [beF, if_neg hne, show (256 * v + c) / 256 = v by omega, show (256 * v + c) % 256 = c by omega, ih]
theorem beN_nat (l : List Int) (h : Byt l) : beN l = (((l.map Int.toNat).foldl (fun a c => 256 * a + c) 0 : Nat) : Int) := by
  have key : ∀ (l : List Int) (a : Nat), Byt l → l.foldl (fun a c => 256 * a + c) (a : Int) = (((l.map Int.toNat).foldl (fun a c => 256 * a + c) a : Nat) : Int) := fun l => by
    induction l with
    | nil => intro a _; rfl
    | cons x l ih =>
      intro a hb
      have hx := hb x (by simp)
      rw [List.foldl_cons, List.map_cons, List.foldl_cons, ← ih _ fun y hy => hb y (by simp [hy])]
      congr 1
      omega
  exact key l 0 h
theorem beB_beN {l : List Int} (h : Byt l) (hl : l.length ≤ 8) (h0 : l ≠ [] → 0 < hd0 l) : beB (beN l) = l := by
  have e := beF_back 8 (l.map Int.toNat) (by simpa using hl) (fun x hx => by
    obtain ⟨y, hy, rfl⟩ := List.mem_map.1 hx
    have := h y hy
    omega) (fun hn => by
      cases l with
      | nil => simp at hn
      | cons x l =>
        have h1 := h0 (by simp)
        simp only [hd0, List.headD_cons] at h1
        simp only [List.map_cons, List.headD_cons]
        omega)
  rw [beN_nat l h, beB, Int.toNat_natCast, e, List.map_map]
  refine (List.map_congr_left fun x hx => ?_).trans (List.map_id l)
  have := h x hx
  simp only [Function.comp, id]; omega
theorem rNum_inv {b t : List Int} {n : Int} (hb : Byt b) (h : rNum (b, 0) = (n, (t, 0))) : b = numB n ++ t := by
  cases b with
  | nil => simp [rNum, rTake] at h
  | cons x b =>
    have hx := hb x (by simp)
    by_cases h8 : x ≤ 8
    · by_cases hlen : b.length < x.toNat
      · have key : rNum (x :: b, 0) = (0, (b, 8)) := by simp [rNum, rTake, hd0, rMust, h8, hlen]
        rw [key] at h; cases h
      · by_cases hz : b.take x.toNat = [] ∨ 0 < hd0 (b.take x.toNat)
        · have key : rNum (x :: b, 0) = (beN (b.take x.toNat), (b.drop x.toNat, 0)) := by
            have hz2 : ((b.take x.toNat).isEmpty || decide (0 < hd0 (b.take x.toNat))) = true := by
              rcases hz with hz | hz
              · rw [hz]; rfl
              · rw [decide_eq_true hz, Bool.or_true]
            have e1 : rTake 1 (x :: b, 0) = ([x], (b, 0)) := by simp [rTake]
            have e2 : rMust (decide (hd0 [x] ≤ 8)) (b, 0) = (b, 0) := by simp [rMust, hd0, h8]
            have e3 : rTake (hd0 [x]).toNat (b, 0) = (b.take x.toNat, (b.drop x.toNat, 0)) := by simp [rTake, hd0, hlen]
            have e4 : rMust true (b.drop x.toNat, 0) = (b.drop x.toNat, 0) := by simp [rMust]
            unfold rNum
            simp only [e1, e2, e3, hz2, e4]
            simp
          rw [key] at h
          injection h with h1 h2
          injection h2 with h2 _
          subst h1 h2
          have hl : (b.take x.toNat).length = x.toNat := by rw [List.length_take]; omega
          have hbt : Byt (b.take x.toNat) := fun y hy => hb y (List.mem_cons_of_mem _ (List.mem_of_mem_take hy))
          have e5 := beB_beN hbt (by omega) (fun hne => hz.resolve_left hne)
          rw [numB, e5, hl, List.cons_append, List.take_append_drop]
          congr 1
          omega
        · have hz2 : ((b.take x.toNat).isEmpty || decide (0 < hd0 (b.take x.toNat))) = false := by
            rw [Bool.or_eq_false_iff]
            refine ⟨?_, decide_eq_false fun h => hz (.inr h)⟩
            cases hq : b.take x.toNat with
            | nil => exact absurd (.inl hq) hz
            | cons _ _ => rfl
          have e1 : rTake 1 (x :: b, 0) = ([x], (b, 0)) := by simp [rTake]
          have e2 : rMust (decide (hd0 [x] ≤ 8)) (b, 0) = (b, 0) := by simp [rMust, hd0, h8]
          have e3 : rTake (hd0 [x]).toNat (b, 0) = (b.take x.toNat, (b.drop x.toNat, 0)) := by simp [rTake, hd0, hlen]
          have e4 : rMust false (b.drop x.toNat, 0) = (b.drop x.toNat, 3) := by simp [rMust]
          unfold rNum at h
          simp only [e1, e2, e3, hz2, e4] at h
          simp at h
    · have e1 : rTake 1 (x :: b, 0) = ([x], (b, 0)) := by simp [rTake]
      have e2 : rMust (decide (hd0 [x] ≤ 8)) (b, 0) = (b, 3) := by simp [rMust, hd0, h8]
      have e3 : rTake (hd0 [x]).toNat (b, 3) = ([], (b, 3)) := by simp [rTake]
      unfold rNum at h
      simp only [e1, e2, e3] at h
      simp [rMust] at h
theorem rSmall_inv {most : Int} {b t : List Int} {n : Int} (hb : Byt b) (h : rSmall most (b, 0) = (n, (t, 0))) : b = numB n ++ t := by
  unfold rSmall at h
  rcases hr : rNum (b, 0) with ⟨k, u, e⟩
  rw [hr] at h
  simp only at h
  by_cases he : e = 0
  · subst he
    by_cases hc : (decide (0 ≤ most) && decide (k ≤ max most 0)) = true
    · rw [hc] at h
      simp only [rMust] at h
      simp at h
      obtain ⟨rfl, rfl⟩ := h
      exact rNum_inv hb hr
    · have hc' : (decide (0 ≤ most) && decide (k ≤ max most 0)) = false := by simpa using hc
      rw [hc'] at h
      simp [rMust] at h
  · rw [rMust_err he] at h
    simp [he] at h
end Go.E

/-
  Contracts of the document's own bytes.
-/
namespace Go.E.YtgjlajcebcmbaaaGreatDoor
open Go.Proofs
set_option maxRecDepth 100000

theorem rem256 (n : Int) (h : 0 ≤ n) : IntKind.u8.wrap (Int.tmod n 256) = ((n.toNat % 256 : Nat) : Int) := by
  rw [IntKind.wrap_u8, Int.tmod_eq_emod_of_nonneg h]; omega
theorem quo256 (n : Nat) (h : n < 18446744073709551616) : IntKind.u64.wrap (Int.tdiv (n : Int) 256) = ((n / 256 : Nat) : Int) := by
  rw [wu] <;> rw [Int.tdiv_eq_ediv_of_nonneg (by omega)] <;> omega
theorem beB_drop {n : Int} (hn : U64 n) {i : Nat} (hi : i < (beB n).length) : ((n.toNat / 256 ^ i % 256 : Nat) : Int) :: (beB n).drop ((beB n).length - i) = (beB n).drop ((beB n).length - (i + 1)) := by
  have h1 : (beB n).length - (i + 1) < (beB n).length := by omega
  rw [List.drop_eq_getElem_cons h1]
  have h := beB_at h1
  rw [List.getElem?_eq_getElem h1, Option.some.injEq] at h
  rw [h, show (beB n).length - 1 - ((beB n).length - (i + 1)) = i by omega, show (beB n).length - (i + 1) + 1 = (beB n).length - i by omega]
set_option maxHeartbeats 1000000 in
theorem rnum_spec {n : Int} (hn : U64 n) : Spec Tryz.prog 83 [u64 n] emp fun r p => ∃ v, r = [.v v] ∧ Bs p v (numB n) := by
  have h8 := beB_len n
  have hn0 := hn.1
  have hn1 := hn.2
  refine en83 rfl (goY ?_)
  conv => whnf
  refine .mk (ι := Nat × Value) (fun i => (beB n).length - i.1) (fun ⟨i, v⟩ mm => i ≤ (beB n).length ∧ Bs mm v ((beB n).drop ((beB n).length - i)))
    (fun ⟨i, v⟩ => [(0, .c (u64 ((n.toNat / 256 ^ i : Nat) : Int))), (3, .c (.v v))]) (fun _ => []) (0, .slice none 0 0) ⟨by omega, by simpa using Bs.nil _⟩ ?_ ?_
  · conv => whnf
    repeat (refine And.intro (by first | with_reducible rfl | (exact congrArg (Value.int _) (by simp; omega)) | exact congrArg (Value.int _) (wi (by omega) (by omega)) | exact wi (by omega) (by omega) | rfl) ?_; conv => whnf)
    first | exact trivial | exact fun _ _ h => h
  rintro ⟨i, v⟩ mm ⟨hi, hv⟩
  conv => whnf
  refine ⟨fun h => ?_, fun h => ?_⟩
  · have h' := of_decide_eq_true h
    have hlt : i < (beB n).length := (beB_pos hn i).1 (by omega)
    conv => whnf
    refine .mk _ (build1) ?_
    rintro _ _ ⟨b', hb', rfl, rfl⟩
    conv => whnf
    refine .mk _ (appendB (Bs.blk (Mem.set_same ..) rfl) (hv.lb.sub (Mem.sub_set _ hb')).la (by simp; omega)) ?_
    rintro _ m2 ⟨v2, rfl, h2⟩
    conv => whnf
    have h3 := h2.own
    rw [rem256 _ (by omega), List.singleton_append, Int.toNat_natCast, beB_drop hn hlt] at h3
    refine ⟨(i + 1, v2), ⟨by omega, h3⟩, ?_, ?_⟩
    · show (beB n).length - (i + 1) < (beB n).length - i
      omega
    · conv => whnf
      repeat (refine And.intro (by first | with_reducible rfl | (exact congrArg (Value.int _) ((quo256 _ (Nat.lt_of_le_of_lt (Nat.div_le_self _ _) (by omega))).trans (by rw [Nat.pow_succ, Nat.div_div_eq_div_mul]))) | exact congrArg (Value.int _) (wi (by omega) (by omega)) | exact wi (by omega) (by omega) | rfl) ?_; conv => whnf)
      first | exact trivial | exact fun _ _ h => h
  · have h' := of_decide_eq_false h
    have hi' : i = (beB n).length := by
      have := (not_congr (beB_pos hn i)).1 (by omega)
      omega
    subst hi'
    rw [Nat.sub_self, List.drop_zero] at hv
    obtain ⟨a, c, rfl⟩ := hv.lb.shape
    conv => whnf
    refine .mk _ (build1) ?_
    rintro _ _ ⟨b', hb', rfl, rfl⟩
    conv => whnf
    refine .mk _ (appendB (Bs.blk (Mem.set_same ..) rfl) (hv.lb.sub (Mem.sub_set _ hb')).la (by simp; omega)) ?_
    rintro _ m2 ⟨v2, rfl, h2⟩
    conv => whnf
    have h3 := h2.own
    rw [wu8 (by omega) (by omega)] at h3
    exact ⟨v2, rfl, h3⟩
end Go.E.YtgjlajcebcmbaaaGreatDoor

/-
  The document's reader: bytes, numbers.
-/
namespace Go.E.YtgjlajcebcmbaaaGreatDoor
open Go.Proofs
set_option maxRecDepth 100000
abbrev rdO (v : Value) (at' : Nat) (e : Int) : Obj := .cells #[v, .int .i64 (at' : Int), .int .i64 e] 143
section
variable {mm m : Mem} {bp at' k : Nat} {e : Int} {v : Value} {B : List Int}
theorem rdMust_spec {is : Bool} (hs : Split mm [blk1 bp (rdO v at' e), m]) (l : List Int) : Spec Tryz.prog 117 [ptrB bp, boolV is] mm fun r m' => r = [] ∧ Split m' [blk1 bp (rdO v at' (rMust is (l, e)).2), m] := by
  have hb : mm bp = some (rdO v at' e) := hs.sub (a := blk1 bp (rdO v at' e)) (by simp) _ _ (blk1_same ..)
  refine en117 rfl (goY ?_)
  conv => whnf
  refine ⟨_, mcell_of hb rfl, rfl, ?_⟩
  conv => whnf
  refine ⟨fun h1 => ?_, fun h1 => ?_⟩
  · have h1' : e = 0 := by simpa using h1
    conv => whnf
    refine ⟨fun h2 => ?_, fun h2 => ?_⟩
    · have h2' : is = false := by simpa using h2
      conv => whnf
      refine ⟨_, _, _, hb, ⟨by simp, by simp⟩, ?_⟩
      conv => whnf
      have hz := hs.setAt (i := 0) rfl (blk1_same ..) (rdO v at' 3)
      rw [blk1_set] at hz
      rw [rMust, if_pos ⟨h1', h2'⟩]
      exact ⟨rfl, hz⟩
    · have h2' : is = true := by simpa using h2
      conv => whnf
      rw [rMust, if_neg (by simp [h2'])]
      exact ⟨rfl, hs⟩
  · have h1' : ¬ e = 0 := by simpa using h1
    conv => whnf
    rw [rMust, if_neg (by simp [h1'])]
    exact ⟨rfl, hs⟩
set_option maxHeartbeats 4000000 in
theorem rdBytes_spec (hs : Split mm [blk1 bp (rdO v at' e), m]) (hv : Lb m v B) (hat : at' ≤ B.length) (hl : B.length ≤ 100000000) (hk : k ≤ 1000) :
    Spec Tryz.prog 141 [ptrB bp, i64 k] mm fun r m' => ∃ v' a2, r = [.v v'] ∧ Split m' [blk1 bp (rdO v a2 (rTake k (B.drop at', e)).2.2), m] ∧ a2 ≤ B.length ∧ B.drop a2 = (rTake k (B.drop at', e)).2.1 ∧ La m v' (rTake k (B.drop at', e)).1 := by
  have hb : mm bp = some (rdO v at' e) := hs.sub (a := blk1 bp (rdO v at' e)) (by simp) _ _ (blk1_same ..)
  obtain ⟨av, cv, rfl⟩ := hv.shape
  have hdl : (B.drop at').length = B.length - at' := List.length_drop ..
  refine en141 rfl (goY ?_)
  conv => whnf
  refine ⟨_, mcell_of hb rfl, rfl, ?_⟩
  conv => whnf
  refine ⟨fun h1 => ?_, fun h1 => ?_⟩
  · have h1' : e = 0 := by simpa using h1
    subst h1'
    conv => whnf
    refine ⟨_, mcell_of hb rfl, rfl, ?_⟩
    conv => whnf
    refine ⟨_, mcell_of hb rfl, rfl, ?_⟩
    conv => whnf
    have ew : IntKind.i64.wrap ((B.length : Int) - (at' : Int)) = ((B.length - at' : Nat) : Int) := by rw [wi (by omega) (by omega)]; omega
    rw [ew]
    refine ⟨fun h2 => ?_, fun h2 => ?_⟩
    · have h2' : B.length - at' < k := by have := of_decide_eq_true h2; omega
      have ht : rTake k (B.drop at', 0) = ([], (B.drop at', 8)) := by
        rw [rTake, if_neg (by simp), if_pos (by rw [hdl]; exact h2')]
      conv => whnf
      refine ⟨_, _, _, hb, ⟨by simp, by simp⟩, ?_⟩
      conv => whnf
      refine ⟨_, mcell_of (Mem.set_same ..) rfl, rfl, ?_⟩
      conv => whnf
      refine ⟨fun _ => ?_, fun h => absurd h (by first | decide | simp)⟩
      conv => whnf
      have hz := hs.setAt (i := 0) rfl (blk1_same ..) (rdO (.slice av B.length cv) at' 8)
      rw [blk1_set] at hz
      rw [ht]
      exact ⟨_, at', rfl, hz, hat, rfl, (Lb.nil _ 0).la⟩
    · have h2' : ¬ B.length - at' < k := by have := of_decide_eq_false h2; omega
      have ht : rTake k (B.drop at', 0) = ((B.drop at').take k, (B.drop (at' + k), 0)) := by
        rw [rTake, if_neg (by simp), if_neg (by rw [hdl]; exact h2'), List.drop_drop]
      conv => whnf
      refine ⟨_, mcell_of hb rfl, rfl, ?_⟩
      conv => whnf
      refine ⟨fun h => absurd h (by first | decide | simp), fun _ => ?_⟩
      conv => whnf
      have ea : IntKind.i64.wrap ((at' : Int) + (k : Int)) = ((at' + k : Nat) : Int) := by rw [wi (by omega) (by omega)]; omega
      have es : IntKind.i64.wrap (((at' + k : Nat) : Int) - (k : Int)) = (at' : Int) := by rw [wi (by omega) (by omega)]; omega
      refine ⟨_, mcell_of hb rfl, rfl, ?_⟩
      conv => whnf
      refine ⟨_, _, _, hb, ⟨by simp, by simp⟩, ?_⟩
      rw [ea]
      conv => whnf
      refine ⟨_, mcell_of (Mem.set_same ..) rfl, rfl, ?_⟩
      conv => whnf
      refine ⟨_, mcell_of (Mem.set_same ..) rfl, rfl, ?_⟩
      conv => whnf
      refine ⟨_, mcell_of (Mem.set_same ..) rfl, rfl, ?_⟩
      conv => whnf
      rw [es]
      have hz := hs.setAt (i := 0) rfl (blk1_same ..) (rdO (.slice av B.length cv) (at' + k) 0)
      rw [blk1_set] at hz
      have hmz : Sub m (mm.set bp (rdO (.slice av B.length cv) (at' + k) 0)) := Split.sub (l := [blk1 bp (rdO (.slice av B.length cv) (at' + k) 0), m]) hz (by simp)
      rw [ht]
      have fin : ∀ v', La (mm.set bp (rdO (.slice av B.length cv) (at' + k) 0)) v' ((B.drop at').take k) → True := fun _ _ => trivial
      rcases hv.cases with ⟨c, hh, hB⟩ | ⟨b, o, c, arr, t, fr, hh, g1, g2, g3⟩
      · subst hB
        injection hh with e1 e2 e3
        subst e1
        have hk0 : k = 0 := by simp at h2'; omega
        have ha0 : at' = 0 := by simpa using hat
        subst hk0 ha0
        conv => whnf
        repeat (refine And.intro (by first | omega | (simp only [times]; omega)) ?_; conv => whnf)
        refine ⟨_, _, rfl, hz, by simp, rfl, ?_⟩
        exact (Lb.nil _ _).la
      · injection hh with e1 e2 e3
        subst e1
        subst e3
        conv => whnf
        repeat (refine And.intro (by first | omega | (simp only [times]; omega)) ?_; conv => whnf)
        intro o' q1 q2
        have hla : La m (.slice (some ⟨b, o', none⟩) (at' + k - at') (cv - at')) ((B.drop at').take k) := by
          rw [show at' + k - at' = k by omega]
          by_cases hc : cv = at'
          · have hk0 : k = 0 := by omega
            subst hk0
            rw [List.take_zero]
            exact (Lb.mk (l := []) (n := 0) g1 rfl (Nat.zero_le _) (fun j n h => by simp at h)).la
          · have ho : o' = o + at' := by
              have := q1 (by rw [Int.toNat_natCast]; exact hc)
              rw [this, Int.toNat_natCast]; simp only; omega
            rw [ho]
            exact (Lb.cut' hv at' k (by omega) (by omega)).la
        clear q1 q2
        conv => whnf
        exact ⟨_, _, rfl, hz, by omega, rfl, hla⟩
  · have h1' : ¬ e = 0 := by simpa using h1
    have ht : rTake k (B.drop at', e) = ([], (B.drop at', e)) := by rw [rTake, if_pos h1']
    conv => whnf
    refine ⟨_, mcell_of hb rfl, rfl, ?_⟩
    conv => whnf
    refine ⟨fun _ => ?_, fun h => absurd h (by (simp [h1']))⟩
    conv => whnf
    rw [ht]
    exact ⟨_, at', rfl, hs, hat, rfl, (Lb.nil _ 0).la⟩
theorem rNum_nil : rNum (([] : List Int), 0) = (0, ([], 8)) := by simp [rNum, rTake]
abbrev e3F (l : List Int) (e : Int) : Int := (rMust (l.isEmpty || decide (0 < hd0 l)) (l, e)).2
theorem rMust_true (s : RS) : rMust true s = s := by simp [rMust]
theorem rMust_snd (b : Bool) (l l' : List Int) (e : Int) : (rMust b (l, e)).2 = (rMust b (l', e)).2 := by
  unfold rMust
  by_cases h : e = 0 ∧ b = false
  · rw [if_pos h, if_pos h]
  · rw [if_neg h, if_neg h]
set_option maxHeartbeats 4000000 in
theorem rdNum_tail {a2 : Nat} {vl : Value} {l : List Int} (hs : Split mm [blk1 bp (rdO v a2 e), m]) (hv : La m vl l) (hb : Byt l) (hl : l.length ≤ 8) {R : List CV → Mem → Prop} (hR : ∀ m', Split m' [blk1 bp (rdO v a2 (e3F l e)), m] → R [.v (.int .u64 (if e3F l e ≠ 0 then 0 else beN l))] m') :
    xwpY c116 (restAt 7 (bodyOf Tryz.f116)) (QRetY tt.get Tryz.f116.results.toList R)
      [(0, .c (ptrB bp)), (5, .c (.v vl))] [] mm [] := by
  have hmm : Sub m mm := hs.sub (by simp)
  obtain ⟨al, cl, rfl⟩ := hv.shape
  conv => whnf
  refine .at ?_
  conv => whnf
  refine .mk (ι := Nat) (fun i => l.length - i) (fun i mi => i ≤ l.length ∧ Split mi [blk1 bp (rdO v a2 (if i = 0 then e else e3F l e)), m]) (fun i => [(0, .c (ptrB bp)), (5, .c (.v (.slice al l.length cl))), (6, .c (.v (.int .u64 (beN (l.take i))))), (7, .c (i64 i))]) (fun _ => []) 0 ⟨by omega, hs⟩ ?_ ?_
  · conv => whnf
    repeat (refine And.intro (by first | with_reducible rfl | exact congrArg (Value.int _) (wi (by omega) (by omega)) | exact wi (by omega) (by omega) | rfl) ?_; conv => whnf)
    first | exact trivial | exact fun _ _ h => h
  rintro i mi ⟨hi, hsi⟩
  conv => whnf
  refine ⟨fun hc => ?_, fun hc => ?_⟩
  · have hlt : i < l.length := by have := of_decide_eq_true hc; omega
    clear hc
    have hne : l ≠ [] := by rintro rfl; simp at hlt
    obtain ⟨b, o, c', hh⟩ := (hv.lb hne).real hne
    injection hh with hh1 _ hh3
    subst hh1
    have hx := hb _ (List.getElem_mem hlt)
    have hat := Lb.at' (hv.lb hne) (List.getElem?_eq_getElem hlt)
    have hbi := beN_bound (hb.take i)
    have hbl : (256 : Int) ^ (l.take i).length ≤ 256 ^ 7 := by
      have : (l.take i).length ≤ 7 := by rw [List.length_take]; omega
      exact_mod_cast Nat.pow_le_pow_right (n := 256) (by decide) this
    have hsn : beN (l.take (i + 1)) = 256 * beN (l.take i) + l[i] := by rw [List.take_succ_eq_append_getElem hlt, beN_snoc]
    have hem : l.isEmpty = false := by cases l with | nil => simp at hlt | cons _ _ => rfl
    have hhd : i = 0 → l[i] = hd0 l := by
      rintro rfl
      cases l with
      | nil => simp at hlt
      | cons _ _ => rfl
    generalize l[i] = x at *
    generalize beN (l.take i) = n at *
    have ew : IntKind.u64.wrap (IntKind.u64.wrap (256 * n) + IntKind.u64.wrap x) = 256 * n + x := by
      rw [wu (n := 256 * n) (by omega) (by omega), wu (n := x) (by omega) (by omega), wu (by omega) (by omega)]
    conv => whnf
    rcases Nat.eq_zero_or_pos i with hi0 | hi0
    · subst hi0
      rw [if_pos rfl] at hsi
      refine ⟨fun h => absurd h (by first | decide | simp), fun _ => ?_⟩
      conv => whnf
      repeat (refine And.intro (by first | omega | (simp only [times]; omega)) ?_; conv => whnf)
      refine ⟨_, by simp only [times, Int.toNat_natCast, Nat.mul_one]; exact mcell_sub hat (hsi.sub (a := m) (by simp)), rfl, ?_⟩
      conv => whnf
      refine xcall (rdMust_spec (is := decide (0 < x)) hsi l) ?_
      rintro _ m2 ⟨rfl, hs2⟩
      conv => whnf
      have he3 : (rMust (decide (0 < x)) (l, e)).2 = e3F l e := by rw [e3F, hem, Bool.false_or, hhd rfl]
      rw [he3] at hs2
      repeat (refine And.intro (by first | omega | (simp only [times]; omega)) ?_; conv => whnf)
      refine ⟨_, by simp only [times, Int.toNat_natCast, Nat.mul_one]; exact mcell_sub hat (hs2.sub (a := m) (by simp)), rfl, ?_⟩
      conv => whnf
      rw [ew]
      refine ⟨1, ⟨by omega, hs2⟩, by first | omega | (simp only; omega), ?_⟩
      rw [hsn]
      conv => whnf
      repeat (refine And.intro (by first | with_reducible rfl | (first | exact congrArg (Value.int _) (iadd1 (by omega))) | exact congrArg (Value.int _) (wi (by omega) (by omega)) | exact wi (by omega) (by omega) | rfl) ?_; conv => whnf)
      first | exact trivial | exact fun _ _ h => h
    · rw [if_neg (by omega)] at hsi
      refine ⟨fun _ => ?_, fun h => absurd h (by (simp; omega))⟩
      conv => whnf
      refine xcall (rdMust_spec (is := true) hsi l) ?_
      rintro _ m2 ⟨rfl, hs2⟩
      conv => whnf
      rw [rMust_true] at hs2
      repeat (refine And.intro (by first | omega | (simp only [times]; omega)) ?_; conv => whnf)
      refine ⟨_, by simp only [times, Int.toNat_natCast, Nat.mul_one]; exact mcell_sub hat (hs2.sub (a := m) (by simp)), rfl, ?_⟩
      conv => whnf
      rw [ew]
      refine ⟨i + 1, ⟨by omega, hs2⟩, by first | omega | (simp only; omega), ?_⟩
      rw [hsn]
      conv => whnf
      repeat (refine And.intro (by first | with_reducible rfl | (first | exact congrArg (Value.int _) (iadd1 (by omega))) | exact congrArg (Value.int _) (wi (by omega) (by omega)) | exact wi (by omega) (by omega) | rfl) ?_; conv => whnf)
      first | exact trivial | exact fun _ _ h => h
  · have hc' := of_decide_eq_false hc
    obtain rfl : i = l.length := by omega
    have hbl : bp = bp := rfl
    rw [List.take_length]
    have hif : (if l.length = 0 then e else e3F l e) = e3F l e := by
      by_cases h0 : l.length = 0
      · have : l = [] := List.eq_nil_of_length_eq_zero h0
        subst this
        simp [e3F, rMust_true]
      · rw [if_neg h0]
    rw [hif] at hsi
    have hbm := hsi.sub (a := blk1 bp (rdO v a2 (e3F l e))) (by simp) _ _ (blk1_same ..)
    conv => whnf
    refine ⟨_, mcell_of hbm rfl, rfl, ?_⟩
    conv => whnf
    refine ⟨fun h1 => ?_, fun h1 => ?_⟩
    · have := hR _ hsi
      rw [if_pos (by simpa using h1)] at this
      conv => whnf
      exact this
    · have := hR _ hsi
      rw [if_neg (by simpa using h1)] at this
      conv => whnf
      exact this
set_option maxHeartbeats 4000000 in
theorem rdNum_spec (hs : Split mm [blk1 bp (rdO v 0 0), m]) (hv : Lb m v B) (hb : Byt B) (hl : B.length ≤ 100000000) :
    Spec Tryz.prog 116 [ptrB bp] mm fun r m' => ∃ a2, r = [.v (.int .u64 (rNum (B, 0)).1)] ∧ Split m' [blk1 bp (rdO v a2 (rNum (B, 0)).2.2), m] ∧ a2 ≤ B.length ∧ B.drop a2 = (rNum (B, 0)).2.1 := by
  refine en116 rfl (goY ?_)
  conv => whnf
  refine xcall (rdBytes_spec (k := 1) hs hv (Nat.zero_le _) hl (by decide)) ?_
  rintro _ m1 ⟨v1, a1, rfl, hs1, ha1, hd1, hv1⟩
  conv => whnf
  rw [List.drop_zero] at hs1 hd1 hv1
  cases B with
  | nil =>
    rw [show rTake 1 (([] : List Int), 0) = ([], ([], 8)) by simp [rTake]] at hs1 hd1 hv1
    rw [rNum_nil]
    obtain ⟨av, cv, rfl⟩ := hv1.shape
    conv => whnf
    refine ⟨fun h => absurd h (by first | decide | simp), fun _ => ?_⟩
    conv => whnf
    refine xcall (rdMust_spec (is := true) hs1 []) ?_
    rintro _ m2 ⟨rfl, hs2⟩
    conv => whnf
    rw [rMust_true] at hs2
    refine xcall (rdBytes_spec (k := 0) hs2 hv ha1 hl (by decide)) ?_
    rintro _ m3 ⟨v2, a2, rfl, hs3, ha2, hd2, hv2⟩
    conv => whnf
    have ht : rTake 0 (([] : List Int).drop a1, ((([], ([], 8)) : List Int × RS)).2.2) = ([], ([], 8)) := by simp [rTake]
    rw [ht] at hs3 hd2 hv2
    have tl := rdNum_tail (e := 8) (l := []) hs3 hv2 (by intro x hx; cases hx) (by simp) (R := fun r m' => ∃ a2, r = [.v (.int .u64 0)] ∧ Split m' [blk1 bp (rdO v a2 8), m] ∧ a2 ≤ 0 ∧ ([] : List Int).drop a2 = []) fun m' h => ⟨_, rfl, h, ha2, hd2⟩
    conv at tl => whnf
    refine .via _ _ ?_ tl
    conv => whnf
    repeat (refine And.intro (by first | with_reducible rfl | exact congrArg (Value.int _) (wi (by omega) (by omega)) | exact wi (by omega) (by omega) | rfl) ?_; conv => whnf)
    first | exact trivial | exact fun _ _ h => h
  | cons x B =>
    have hx := hb x (by simp)
    rw [show rTake 1 (x :: B, 0) = ([x], (B, 0)) by simp [rTake]] at hs1 hd1 hv1
    obtain ⟨b1, o1, c1, rfl⟩ := (hv1.lb (by simp)).real (by simp)
    have hcell := Lb.at' (hv1.lb (by simp)) (j := 0) (x := x) rfl
    conv => whnf
    refine ⟨fun _ => ?_, fun h => absurd h (by first | decide | simp)⟩
    conv => whnf
    refine ⟨by simp, ?_⟩
    conv => whnf
    refine ⟨_, mcell_sub hcell (hs1.sub (a := m) (by simp)), rfl, ?_⟩
    conv => whnf
    obtain ⟨k, rfl⟩ : ∃ k : Nat, x = k := ⟨x.toNat, by omega⟩
    rw [wi (n := (k : Int)) (by omega) (by omega)]
    refine xcall (rdMust_spec (is := decide ((k : Int) ≤ 8)) hs1 B) ?_
    rintro _ m2 ⟨rfl, hs2⟩
    conv => whnf
    have hBb : Byt B := fun y hy => hb y (by simp [hy])
    by_cases h8 : (k : Int) ≤ 8
    · have e2 : rMust (decide ((k : Int) ≤ 8)) (B, (([(k : Int)], (B, 0)) : List Int × RS).2.2) = (B, 0) := by simp [rMust, h8]
      rw [e2] at hs2
      refine xcall (rdBytes_spec (k := k) hs2 hv ha1 hl (by omega)) ?_
      rintro _ m3 ⟨v2, a2, rfl, hs3, ha2, hd2, hv2⟩
      conv => whnf
      rw [hd1] at hs3 hd2 hv2
      have ht := rTake_len (n := k) (s := ((B, 0) : RS))
      have hby := (rTake_byt (n := k) (s := ((B, 0) : RS)) hBb).1
      have hrn : rNum ((k : Int) :: B, 0) = (if e3F (rTake k (B, 0)).1 (rTake k (B, 0)).2.2 ≠ 0 then 0 else beN (rTake k (B, 0)).1, ((rTake k (B, 0)).2.1, e3F (rTake k (B, 0)).1 (rTake k (B, 0)).2.2)) := by
        have f1 : rTake 1 ((k : Int) :: B, 0) = ([(k : Int)], (B, 0)) := by simp [rTake]
        have f2 : rMust (decide (hd0 [(k : Int)] ≤ 8)) (B, 0) = (B, 0) := by simp [rMust, hd0, h8]
        have f3 : (hd0 [(k : Int)]).toNat = k := by simp [hd0]
        unfold rNum
        simp only [f1, f2, f3, List.cons_ne_nil, if_false]
        unfold e3F
        rw [rMust_snd _ (rTake k (B, 0)).1 (rTake k (B, 0)).2.1]
        congr 1
        exact Prod.ext rMust_fst rfl
      have tl := rdNum_tail (l := (rTake k (B, 0)).1) hs3 hv2 hby (by omega) (R := fun r m' => ∃ a2, r = [.v (.int .u64 (rNum ((k : Int) :: B, 0)).1)] ∧ Split m' [blk1 bp (rdO v a2 (rNum ((k : Int) :: B, 0)).2.2), m] ∧ a2 ≤ ((k : Int) :: B).length ∧ ((k : Int) :: B).drop a2 = (rNum ((k : Int) :: B, 0)).2.1) fun m' h => ⟨_, by rw [hrn], by rw [hrn]; exact h, ha2, by rw [hrn]; exact hd2⟩
      conv at tl => whnf
      refine .via _ _ ?_ tl
      conv => whnf
      repeat (refine And.intro (by first | with_reducible rfl | exact congrArg (Value.int _) (wi (by omega) (by omega)) | exact wi (by omega) (by omega) | rfl) ?_; conv => whnf)
      first | exact trivial | exact fun _ _ h => h
    · have e2 : rMust (decide ((k : Int) ≤ 8)) (B, (([(k : Int)], (B, 0)) : List Int × RS).2.2) = (B, 3) := by simp [rMust, h8]
      rw [e2] at hs2
      refine xcall (rdBytes_spec (k := k) hs2 hv ha1 hl (by omega)) ?_
      rintro _ m3 ⟨v2, a2, rfl, hs3, ha2, hd2, hv2⟩
      conv => whnf
      rw [hd1] at hs3 hd2 hv2
      have ht : rTake k (B, 3) = ([], (B, 3)) := by simp [rTake]
      have ht' : rTake k ((([(k : Int)], (B, 0)) : List Int × RS).2.1, ((B, 3) : RS).2) = ([], (B, 3)) := ht
      rw [ht'] at hs3 hd2 hv2
      have hrn : rNum ((k : Int) :: B, 0) = (0, (B, 3)) := by
        have f1 : rTake 1 ((k : Int) :: B, 0) = ([(k : Int)], (B, 0)) := by simp [rTake]
        have f2 : rMust (decide (hd0 [(k : Int)] ≤ 8)) (B, 0) = (B, 3) := by simp [rMust, hd0, h8]
        have f3 : (hd0 [(k : Int)]).toNat = k := by simp [hd0]
        unfold rNum
        simp only [f1, f2, f3, List.cons_ne_nil, if_false, ht]
        simp [rMust]
      have tl := rdNum_tail (e := 3) (l := []) hs3 hv2 (by intro x hx; cases hx) (by simp) (R := fun r m' => ∃ a2, r = [.v (.int .u64 (rNum ((k : Int) :: B, 0)).1)] ∧ Split m' [blk1 bp (rdO v a2 (rNum ((k : Int) :: B, 0)).2.2), m] ∧ a2 ≤ ((k : Int) :: B).length ∧ ((k : Int) :: B).drop a2 = (rNum ((k : Int) :: B, 0)).2.1) fun m' h => ⟨_, by rw [hrn]; rfl, by rw [hrn]; exact h, ha2, by rw [hrn]; exact hd2⟩
      conv at tl => whnf
      refine .via _ _ ?_ tl
      conv => whnf
      repeat (refine And.intro (by first | with_reducible rfl | exact congrArg (Value.int _) (wi (by omega) (by omega)) | exact wi (by omega) (by omega) | rfl) ?_; conv => whnf)
      first | exact trivial | exact fun _ _ h => h
theorem rSmall_eq (b : List Int) : rSmall 20000 (b, 0) = (if (rMust (decide ((rNum (b, 0)).1 ≤ 20000)) (rNum (b, 0)).2).2 ≠ 0 then 0 else (rNum (b, 0)).1, rMust (decide ((rNum (b, 0)).1 ≤ 20000)) (rNum (b, 0)).2) := by
  unfold rSmall
  simp only [show (decide ((0 : Int) ≤ 20000)) = true from rfl, Bool.true_and, show max (20000 : Int) 0 = 20000 from rfl]
set_option maxHeartbeats 4000000 in
theorem rdSmall_spec (hs : Split mm [blk1 bp (rdO v 0 0), m]) (hv : Lb m v B) (hb : Byt B) (hl : B.length ≤ 100000000) :
    Spec Tryz.prog 90 [ptrB bp, i64 20000] mm fun r m' => ∃ a2, r = [i64 (rSmall 20000 (B, 0)).1] ∧ Split m' [blk1 bp (rdO v a2 (rSmall 20000 (B, 0)).2.2), m] ∧ a2 ≤ B.length ∧ B.drop a2 = (rSmall 20000 (B, 0)).2.1 := by
  have hU := rNum_U (s := ((B, 0) : RS)) hb
  refine en90 rfl (goY ?_)
  conv => whnf
  refine xcall (rdNum_spec hs hv hb hl) ?_
  rintro _ m1 ⟨a2, rfl, hs1, ha, hd⟩
  conv => whnf
  rw [rSmall_eq]
  generalize rNum (B, 0) = r at *
  obtain ⟨n, l, e⟩ := r
  dsimp only at hs1 hd hU ⊢
  refine xcall (rdMust_spec (is := true) hs1 l) ?_
  rintro _ m2 ⟨rfl, hs2⟩
  conv => whnf
  rw [rMust_true] at hs2
  refine ⟨fun h => absurd h (by first | decide | simp), fun _ => ?_⟩
  conv => whnf
  have hn := hU.1
  refine xcall (rdMust_spec (is := decide (n ≤ 20000)) hs2 l) ?_
  rintro _ m3 ⟨rfl, hs3⟩
  conv => whnf
  have e1 : (rMust (decide (n ≤ 20000)) (l, e)).1 = l := rMust_fst
  have hs3 : Split m3 [blk1 bp (rdO v a2 (rMust (decide (n ≤ 20000)) (l, e)).2), m] := hs3
  have hbm := hs3.sub (a := blk1 bp (rdO v a2 (rMust (decide (n ≤ 20000)) (l, e)).2)) (by simp) _ _ (blk1_same ..)
  have hle : (rMust (decide (n ≤ 20000)) (l, e)).2 = 0 → n ≤ 20000 := fun h => by
    by_cases h1 : n ≤ 20000
    · exact h1
    · exfalso
      unfold rMust at h
      rw [decide_eq_false h1] at h
      by_cases h2 : e = 0
      · rw [if_pos ⟨h2, rfl⟩] at h; cases h
      · rw [if_neg (fun h3 => h2 h3.1)] at h; exact h2 h
  refine ⟨_, mcell_of hbm rfl, rfl, ?_⟩
  conv => whnf
  refine ⟨fun h1 => ?_, fun h1 => ?_⟩
  · conv => whnf
    rw [if_pos (by simpa using h1)]
    exact ⟨a2, rfl, hs3, ha, by rw [e1]; exact hd⟩
  · have h1' : (rMust (decide (n ≤ 20000)) (l, e)).2 = 0 := by simpa using h1
    have hn2 := hle h1'
    conv => whnf
    rw [if_neg (by simpa using h1')]
    exact ⟨a2, by rw [wi (by omega) (by omega)], hs3, ha, by rw [e1]; exact hd⟩
end
end Go.E.YtgjlajcebcmbaaaGreatDoor

/-
  The document's frames: sums, records written and read.
-/
namespace Go.E.YtgjlajcebcmbaaaGreatDoor
open Go.Proofs
set_option maxRecDepth 100000
theorem toNat64 {a : Nat} (h : a < 2 ^ 64) : (BitVec.ofInt 64 (a : Int)).toNat = a := by
  rw [BitVec.toNat_ofInt]
  omega
theorem xor_u64 {a b : Nat} (ha : a < 2 ^ 64) (hb : b < 2 ^ 64) : bitsOf .xor .u64 (a : Int) (b : Int) = ((a ^^^ b : Nat) : Int) := by
  have h := Nat.xor_lt_two_pow ha hb
  show IntKind.u64.wrap ((BitVec.ofInt 64 a ^^^ BitVec.ofInt 64 b).toNat : Int) = _
  rw [BitVec.toNat_xor, toNat64 ha, toNat64 hb, wu (by omega) (by omega)]
theorem xor_low {s b : Nat} (hb : b < 256) : s - s % 256 + (s % 256 ^^^ b) = s ^^^ b := by
  have h1 : (s ^^^ b) % 256 = s % 256 ^^^ b := by
    have := Nat.xor_mod_two_pow (a := s) (b := b) (n := 8)
    rw [show (2 : Nat) ^ 8 = 256 from rfl] at this
    rw [this, Nat.mod_eq_of_lt hb]
  have h2 : (s ^^^ b) / 256 = s / 256 := by
    have := @Nat.shiftRight_xor_distrib 8 s b
    rw [Nat.shiftRight_eq_div_pow, Nat.shiftRight_eq_div_pow, Nat.shiftRight_eq_div_pow, show (2 : Nat) ^ 8 = 256 from rfl, Nat.div_eq_of_lt hb, Nat.xor_zero] at this
    exact this
  have h3 := Nat.div_add_mod (s ^^^ b) 256
  have h4 := Nat.div_add_mod s 256
  rw [h1, h2] at h3
  omega
set_option maxHeartbeats 4000000 in
theorem refSum_spec {m : Mem} {v : Value} {l : List Int} (hv : La m v l) (hb : Byt l) (hl : l.length ≤ 100000000) : Ret Tryz.prog 82 [.v v] m [u32' ((Fr.crc l : Nat) : Int)] := by
  obtain ⟨a, c, rfl⟩ := hv.shape
  refine en82 rfl (goY ?_)
  conv => whnf
  refine .mk (ι := Nat) (fun i => l.length - i) (fun i mm => i ≤ l.length ∧ mm = m) (fun i => [(0, .c (.v (.slice a l.length c))), (3, .c (.v (.int .u64 (((l.take i).foldl (fun s c => Fr.crc1 s c.toNat) 4294967295 : Nat) : Int)))), (4, .c (i64 i))]) (fun _ => []) 0 ⟨by omega, rfl⟩ ?_ ?_
  · conv => whnf
    repeat (refine And.intro (by first | with_reducible rfl | exact congrArg (Value.int _) (wi (by omega) (by omega)) | exact wi (by omega) (by omega) | rfl) ?_; conv => whnf)
    first | exact trivial | exact fun _ _ h => h
  rintro i mm ⟨hi, he⟩
  subst mm
  conv => whnf
  refine ⟨fun h1 => ?_, fun h1 => ?_⟩
  · have h1' := of_decide_eq_true h1
    have hlt : i < l.length := by omega
    have hne : l ≠ [] := by intro e; subst e; simp at hlt
    obtain ⟨b, o, c', hh⟩ := La.real hv hne
    injection hh with hh1 _ hh3
    subst hh1
    clear hh3 c'
    have hx := hb l[i] (List.getElem_mem hlt)
    conv => whnf
    repeat (refine And.intro (by first | omega | (simp only [times]; omega)) ?_; conv => whnf)
    refine ⟨_, by have := Lb.at' (hv.lb hne) (List.getElem?_eq_getElem hlt); simp only [times, Int.toNat_natCast, Nat.mul_one]; exact this, rfl, ?_⟩
    have hs := Fr.fold_lt (l := l.take i) (s := 4294967295) (by decide) (hb.take i)
    have hft := fold_take hlt
    generalize (l.take i).foldl (fun s c => Fr.crc1 s c.toNat) 4294967295 = s0 at hs hft ⊢
    obtain ⟨y, hy⟩ : ∃ y : Nat, l[i] = y := ⟨l[i].toNat, by omega⟩
    rw [hy] at hx hft ⊢
    rw [Int.toNat_natCast] at hft
    have ex : IntKind.u64.wrap (IntKind.u64.wrap ((s0 : Int) - ((s0 : Int)).tmod 256) + bitsOf .xor .u64 (((s0 : Int)).tmod 256) (IntKind.u64.wrap (y : Int))) = ((s0 ^^^ y : Nat) : Int) := by
      have e1 : ((s0 : Int)).tmod 256 = ((s0 % 256 : Nat) : Int) := rfl
      have h1 : s0 % 256 ^^^ y < 2 ^ 8 := Nat.xor_lt_two_pow (by omega) (by omega)
      have h2 := xor_low (s := s0) (b := y) (by omega)
      rw [e1, wu (n := (y : Int)) (by omega) (by omega), xor_u64 (by omega) (by omega), wu (n := (s0 : Int) - ((s0 % 256 : Nat) : Int)) (by omega) (by omega), wu (by omega) (by omega)]
      omega
    have hs' : s0 ^^^ y < 2 ^ 32 := Nat.xor_lt_two_pow hs (by omega)
    have hc1 : Fr.crc1 s0 y = Fr.stps 8 (s0 ^^^ y) := rfl
    rw [hc1] at hft
    conv => whnf
    generalize s0 ^^^ y = s1 at hs' hft ex ⊢
    refine .mk (ι := Nat) (fun k => 8 - k) (fun k mm => k ≤ 8 ∧ mm = m) (fun k => [(0, .c (.v (.slice (some ⟨b, o, none⟩) l.length c))), (3, .c (.v (.int .u64 ((Fr.stps k s1 : Nat) : Int)))), (4, .c (i64 i)), (5, .c (i64 k))]) (fun _ => []) 0 ⟨by omega, rfl⟩ ?_ ?_
    · conv => whnf
      repeat (refine And.intro (by first | with_reducible rfl | (first | exact congrArg (Value.int _) ex) | exact congrArg (Value.int _) (wi (by omega) (by omega)) | exact wi (by omega) (by omega) | rfl) ?_; conv => whnf)
      first | exact trivial | exact fun _ _ h => h
    rintro k mm ⟨hk, he⟩
    subst mm
    conv => whnf
    refine ⟨fun h2 => ?_, fun h2 => ?_⟩
    · have h2' := of_decide_eq_true h2
      have hlk : k < 8 := by omega
      have hsk := Fr.stps_lt (k := k) hs'
      have hsu := Fr.stps_succ k s1
      generalize Fr.stps k s1 = s2 at hsk hsu ⊢
      have ea : ((s2 : Int)).tmod 2 = ((s2 % 2 : Nat) : Int) := rfl
      have er : ((s2 : Int)).tdiv 2 = ((s2 / 2 : Nat) : Int) := rfl
      conv => whnf
      rw [ea, er]
      have hhalf : s2 / 2 < 2 ^ 32 := by omega
      refine ⟨fun h3 => ?_, fun h3 => ?_⟩
      · have h3' : s2 % 2 = 1 := by simp at h3; omega
        have est : Fr.stp s2 = (s2 / 2) ^^^ 3988292384 := by rw [Fr.stp, if_pos h3']
        have ex2 : bitsOf .xor .u64 (IntKind.u64.wrap ((s2 / 2 : Nat) : Int)) 3988292384 = ((s2 / 2 ^^^ 3988292384 : Nat) : Int) := by
          rw [wu (by omega) (by omega)]
          exact xor_u64 (a := s2 / 2) (b := 3988292384) (by omega) (by decide)
        conv => whnf
        refine ⟨k + 1, ⟨by omega, rfl⟩, by omega, ?_⟩
        rw [hsu, est]
        conv => whnf
        repeat (refine And.intro (by first | with_reducible rfl | (first | exact congrArg (Value.int _) (iadd1 (by omega)) | exact congrArg (Value.int _) ex2) | exact congrArg (Value.int _) (wi (by omega) (by omega)) | exact wi (by omega) (by omega) | rfl) ?_; conv => whnf)
        first | exact trivial | exact fun _ _ h => h
      · have h3' : ¬ s2 % 2 = 1 := by simp at h3; omega
        have est : Fr.stp s2 = s2 / 2 := by rw [Fr.stp, if_neg h3']
        conv => whnf
        refine ⟨k + 1, ⟨by omega, rfl⟩, by omega, ?_⟩
        rw [hsu, est]
        conv => whnf
        repeat (refine And.intro (by first | with_reducible rfl | (first | exact congrArg (Value.int _) (iadd1 (by omega)) | exact congrArg (Value.int _) (wu (by omega) (by omega))) | exact congrArg (Value.int _) (wi (by omega) (by omega)) | exact wi (by omega) (by omega) | rfl) ?_; conv => whnf)
        first | exact trivial | exact fun _ _ h => h
    · have h2' := of_decide_eq_false h2
      obtain rfl : k = 8 := by omega
      conv => whnf
      refine ⟨i + 1, ⟨by omega, rfl⟩, by omega, ?_⟩
      rw [hft]
      conv => whnf
      repeat (refine And.intro (by first | with_reducible rfl | (first | exact congrArg (Value.int _) (iadd1 (by omega))) | exact congrArg (Value.int _) (wi (by omega) (by omega)) | exact wi (by omega) (by omega) | rfl) ?_; conv => whnf)
      first | exact trivial | exact fun _ _ h => h
  · have h1' := of_decide_eq_false h1
    obtain rfl : i = l.length := by omega
    rw [List.take_length]
    have hs := Fr.fold_lt (l := l) (s := 4294967295) (by decide) hb
    have hcr : Fr.crc l = 4294967295 - l.foldl (fun s c => Fr.crc1 s c.toNat) 4294967295 := by
      rw [Fr.crc]
      generalize l.foldl (fun s c => Fr.crc1 s c.toNat) 4294967295 = s0 at hs ⊢
      have h1 : (BitVec.ofNat 32 s0 ^^^ BitVec.allOnes 32).toNat = 2 ^ 32 - 1 - s0 := by
        rw [BitVec.xor_allOnes, BitVec.toNat_not, BitVec.toNat_ofNat, Nat.mod_eq_of_lt hs]
      rw [BitVec.toNat_xor, BitVec.toNat_ofNat, Nat.mod_eq_of_lt hs, BitVec.toNat_allOnes] at h1
      exact h1
    generalize l.foldl (fun s c => Fr.crc1 s c.toNat) 4294967295 = s0 at hs hcr ⊢
    conv => whnf
    refine ⟨?_, rfl⟩
    rw [hcr]
    rw [wu (n := 4294967295 - (s0 : Int)) (by omega) (by omega), wu32 (by omega) (by omega), show (4294967295 : Int) - (s0 : Int) = ((4294967295 - s0 : Nat) : Int) by omega]
set_option maxHeartbeats 4000000 in
theorem refWrite_spec {m : Mem} {v : Value} {l : List Int} (hv : La m v l) (hb : Byt l) (hl : l.length ≤ 1000000) : Spec Tryz.prog 42 [.v v] m fun r m' => ∃ v' p, r = [.v v'] ∧ Split m' [p, m] ∧ Bs p v' (Fr.wr l) := by
  have h9 := numB_len (l.length : Int)
  have hcr := Fr.crc_lt hb
  refine en42 rfl (goY ?_)
  conv => whnf
  first | refine xretk (refSum_spec hv hb (by omega)) ?_ | refine xret (refSum_spec hv hb (by omega)) ?_
  conv => whnf
  obtain ⟨a, c, hsh⟩ := hv.shape
  subst hsh
  conv => whnf
  rw [wu (n := (l.length : Int)) (by omega) (by omega)]
  refine xcall (Spec.new (Split.one m) (rnum_spec (n := (l.length : Int)) ⟨by omega, by omega⟩)) ?_
  rintro _ m1 ⟨p, ⟨v1, rfl, hv1⟩, hs1⟩
  conv => whnf
  refine .mk _ (appendBat (i := 0) hs1 rfl hv1 (hv.sub (hs1.sub (a := m) (by simp))) (by omega)) ?_
  rintro _ m2 ⟨v2, p2, rfl, hs2, hv2⟩
  conv => whnf
  have hs2 : Split m2 [p2, m] := hs2
  have hv2 := hv2.own
  generalize hs0 : Fr.crc l = s0 at *
  have f1 : IntKind.u8.wrap (((s0 : Int)).tmod 256) = ((s0 % 256 : Nat) : Int) := by
    rw [show ((s0 : Int)).tmod 256 = ((s0 % 256 : Nat) : Int) from rfl, IntKind.wrap_u8]; omega
  have f2 : ∀ d : Nat, IntKind.u8.wrap ((IntKind.u32.wrap (((s0 / d : Nat) : Int))).tmod 256) = ((s0 / d % 256 : Nat) : Int) := fun d => by
    have hd : s0 / d ≤ s0 := Nat.div_le_self _ _
    generalize s0 / d = z at hd ⊢
    rw [wu32 (by omega) (by omega), show ((z : Int)).tmod 256 = ((z % 256 : Nat) : Int) from rfl, IntKind.wrap_u8]; omega
  have f3 : IntKind.u8.wrap (IntKind.u32.wrap (((s0 / 16777216 : Nat) : Int))) = ((s0 / 16777216 % 256 : Nat) : Int) := by
    rw [wu32 (by omega) (by omega), IntKind.wrap_u8]; omega
  have g1 : ((s0 : Int)).tdiv 256 = ((s0 / 256 : Nat) : Int) := rfl
  have g2 : ((s0 : Int)).tdiv 65536 = ((s0 / 65536 : Nat) : Int) := rfl
  have g3 : ((s0 : Int)).tdiv 16777216 = ((s0 / 16777216 : Nat) : Int) := rfl
  rw [f1, g1, g2, g3, f2, f2, f3]
  refine .mk _ (build4) ?_
  rintro _ _ ⟨b, hb4, rfl, rfl⟩
  conv => whnf
  have hs3 := hs2.new hb4 (.cells (bc (Fr.four s0)).toArray 5)
  refine .mk _ (appendBat (i := 1) (news := Fr.four s0) hs3 rfl hv2 (Lb.blkf (l := Fr.four s0) (Mem.set_same ..) rfl).la (by simp [Fr.four]; omega)) ?_
  rintro _ m4 ⟨v4, p4, rfl, hs4, hv4⟩
  conv => whnf
  refine ⟨v4, p4, rfl, hs4.drop, ?_⟩
  rw [Fr.wr, hs0]
  exact hv4.own
end Go.E.YtgjlajcebcmbaaaGreatDoor

/-
  The document's frames: read.
-/
namespace Go.E.YtgjlajcebcmbaaaGreatDoor
open Go.Proofs
set_option maxRecDepth 100000
theorem next_form {b : List Int} (hb : Byt b) : ∀ n t e, rSmall 20000 (b, 0) = (n, (t, e)) → e = 0 → n ≠ 0 → ∃ k : Nat, n = k ∧ k ≤ 20000 ∧ b = numB (k : Int) ++ t := fun n t e h he hn => by
  subst he
  have h1 := rSmall_inv hb h
  have h2 := rSmall_nat (s := ((b, 0) : RS)) hb (most := 20000) (by constructor <;> decide)
  rw [h] at h2
  have h3 : max (20000 : Int) 0 = 20000 := rfl
  simp only [h3] at h2
  obtain ⟨k, rfl⟩ : ∃ k : Nat, n = k := ⟨n.toNat, by omega⟩
  exact ⟨k, rfl, by omega, h1⟩
set_option maxHeartbeats 8000000 in
theorem refFrames_spec {m : Mem} {v : Value} {l : List Int} (hv : La m v l) (hb : Byt l) (hl : l.length ≤ 1000000) : Spec Tryz.prog 52 [.v v] m fun r m' => ∃ (v' : Value) (ps : List (Value × List Int)) (p : Mem), r = [.v v', i64 ((readB l).2.1 : Nat), i64 (readB l).2.2] ∧ Split m' [p, m] ∧ Own p 37 1 v' (ps.map (·.1)) ∧ (∀ q ∈ ps, La m q.1 q.2) ∧ ps.map (·.2) = (readB l).1 := by
  obtain ⟨a, c, rfl⟩ := hv.shape
  refine en52 rfl (goY ?_)
  conv => whnf
  refine .mk (ι := Nat × Value × Nat) (fun i => i.1) (fun ⟨f, x, k⟩ mm => ∃ (ps : List (Value × List Int)) (p : Mem), Got l f k (ps.map (·.2)) ∧ Split mm [p, m] ∧ Own p 37 1 x (ps.map (·.1)) ∧ ∀ u ∈ ps, La m u.1 u.2)
    (fun ⟨f, x, k⟩ => [(0, .c (.v (.slice a l.length c))), (5, .c (.v x)), (6, .c (i64 k))]) (fun _ => []) (l.length + 1, .slice none 0 0, 0) ⟨[], emp, Got.start l, (Split.one m).addEmp, .inl ⟨rfl, rfl⟩, by simp⟩ ?_ ?_
  · conv => whnf
    repeat (refine And.intro (by first | with_reducible rfl | exact congrArg (Value.int _) (wi (by omega) (by omega)) | exact wi (by omega) (by omega) | rfl) ?_; conv => whnf)
    first | exact trivial | exact fun _ _ h => h
  rintro ⟨f, x, k⟩ mm ⟨ps, p, hg, hs, hx, hq⟩
  have hle := hg.le
  have hcnt := hg.cnt
  rw [List.length_map] at hcnt
  conv => whnf
  refine ⟨fun h1 => ?_, fun h1 => ?_⟩
  rotate_left
  · have h1' : k = l.length := by have := of_decide_eq_false h1; omega
    subst h1'
    have hst := hg.stop (by rw [List.drop_length, Fr.next_nil]; decide)
    rw [List.drop_length, Fr.next_nil] at hst
    conv => whnf
    rw [readB, hst]
    exact ⟨x, ps, p, rfl, hs, hx, hq, rfl⟩
  have hlt : k < l.length := by have := of_decide_eq_true h1; omega
  clear h1
  have hne : l ≠ [] := by intro e; subst e; simp at hlt
  obtain ⟨b, o, c', hh⟩ := La.real hv hne
  injection hh with hh1 _ hh3
  subst hh1
  clear hh3 c'
  have hcap := Lb.cap' (hv.lb hne)
  conv => whnf
  repeat (refine And.intro (by first | omega | (simp only [times]; omega)) ?_; conv => whnf)
  intro o1 ho1 _
  have hpost := Lb.postA hv hcap k hle o1 (fun h => by have := ho1 (by rw [Int.toNat_natCast]; omega); simpa using this)
  simp only [Int.toNat_natCast]
  clear ho1
  have hbk : Byt (l.drop k) := hb.drop _
  have hlk : (l.drop k).length = l.length - k := List.length_drop ..
  have hnk : l.drop k ≠ [] := by intro e; rw [e] at hlk; simp at hlk; omega
  conv => whnf
  intro bp hbp
  conv => whnf
  have hs1 := hs.new hbp (rdO (.slice (some ⟨b, o1, none⟩) (l.length - k) (c - k)) 0 0)
  obtain ⟨q1, hq1, hs2, back⟩ := Split.pick1 hs1
  refine xcall (rdSmall_spec hs2 ((hpost.lb hnk).sub (hq1 m (by simp))) hbk (by omega)) ?_
  rintro _ m2 ⟨a2, rfl, hs3, ha2, hd2⟩
  conv => whnf
  have hs3 := back _ _ hs3
  rcases hr : rSmall 20000 (l.drop k, 0) with ⟨n, t, e⟩
  rw [hr] at hs3 hd2
  have hnx : Fr.next (l.drop k) = if e = 8 then ([], 0, 0) else if e ≠ 0 ∨ n = 0 then ([], 0, 3) else
      if ((l.drop k).length : Int) - (numB n).length < n.toNat + 4 then ([], 0, 0) else
      if Fr.four (Fr.crc (((l.drop k).drop (numB n).length).take n.toNat)) = ((l.drop k).drop ((numB n).length + n.toNat)).take 4 then (((l.drop k).drop (numB n).length).take n.toNat, (numB n).length + n.toNat + 4, 0) else ([], 0, 9) := by
    unfold Fr.next
    rw [hr]
  dsimp only at hs3 hd2
  have hbm := hs3.sub (a := blk1 bp (rdO (.slice (some ⟨b, o1, none⟩) (l.length - k) (c - k)) a2 e)) (by simp) _ _ (blk1_same ..)
  have hs4 : Split m2 [p, m] := hs3.drop
  clear back hs2 hq1 hs1
  have stop : ∀ z : Int, Fr.next (l.drop k) = ([], 0, z) → readB l = (ps.map (·.2), k, z) := fun z hz => by
    have := hg.stop (by rw [hz]; simp)
    rw [hz] at this
    exact this
  refine ⟨_, mcell_of hbm rfl, rfl, ?_⟩
  conv => whnf
  refine ⟨fun h1 => ?_, fun h1 => ?_⟩
  · have h8 : e = 8 := by simpa using h1
    rw [if_pos h8] at hnx
    conv => whnf
    rw [stop 0 hnx]
    exact ⟨x, ps, p, rfl, hs4, hx, hq, rfl⟩
  have h8 : ¬ e = 8 := by simpa using h1
  clear h1
  rw [if_neg h8] at hnx
  conv => whnf
  refine ⟨_, mcell_of hbm rfl, rfl, ?_⟩
  conv => whnf
  refine ⟨fun h1 => ?_, fun h1 => ?_⟩
  · have h0 : e ≠ 0 := by simpa using h1
    rw [if_pos (.inl h0)] at hnx
    conv => whnf
    rw [stop 3 hnx]
    exact ⟨x, ps, p, rfl, hs4, hx, hq, rfl⟩
  have he0 : e = 0 := by simpa using h1
  clear h1
  conv => whnf
  refine ⟨fun h1 => ?_, fun h1 => ?_⟩
  · have h0 : n = 0 := by simpa using h1
    rw [if_pos (.inr h0)] at hnx
    conv => whnf
    rw [stop 3 hnx]
    exact ⟨x, ps, p, rfl, hs4, hx, hq, rfl⟩
  have hn0 : ¬ n = 0 := by simpa using h1
  clear h1
  rw [if_neg (by simp [he0, hn0])] at hnx
  obtain ⟨j, rfl, hj, hform⟩ := next_form hbk n t e hr he0 hn0
  rw [Int.toNat_natCast] at hnx
  have hat : a2 = (numB (j : Int)).length := by
    have h1 := congrArg List.length hform
    have h2 := congrArg List.length hd2
    rw [List.length_append] at h1
    rw [List.length_drop] at h2
    omega
  have h9 := numB_len (j : Int)
  conv => whnf
  refine ⟨_, mcell_of hbm rfl, rfl, ?_⟩
  conv => whnf
  have e1 : IntKind.i64.wrap (IntKind.i64.wrap ((l.length : Int) - (k : Int)) - (a2 : Int)) = ((l.length - k : Nat) : Int) - (a2 : Int) := by
    rw [wi (n := (l.length : Int) - (k : Int)) (by omega) (by omega), wi (by omega) (by omega)]; omega
  have e2 : IntKind.i64.wrap ((j : Int) + 4) = ((j + 4 : Nat) : Int) := by rw [wi (by omega) (by omega)]; omega
  rw [e1, e2]
  refine ⟨fun h1 => ?_, fun h1 => ?_⟩
  · have h1' := of_decide_eq_true h1
    rw [if_pos (by omega)] at hnx
    conv => whnf
    rw [stop 0 hnx]
    exact ⟨x, ps, p, rfl, hs4, hx, hq, rfl⟩
  have h1' := of_decide_eq_false h1
  clear h1
  rw [if_neg (by omega)] at hnx
  have e3 : IntKind.i64.wrap ((k : Int) + (a2 : Int)) = ((k + a2 : Nat) : Int) := by rw [wi (by omega) (by omega)]; omega
  have e4 : IntKind.i64.wrap (((k + a2 : Nat) : Int) + (j : Int)) = ((k + a2 + j : Nat) : Int) := by rw [wi (by omega) (by omega)]; omega
  conv => whnf
  refine ⟨_, mcell_of hbm rfl, rfl, ?_⟩
  conv => whnf
  refine ⟨_, mcell_of hbm rfl, rfl, ?_⟩
  conv => whnf
  rw [e3, e4]
  repeat (refine And.intro (by first | omega | (simp only [times]; omega)) ?_; conv => whnf)
  intro o2 ho2 _
  obtain rfl : o2 = o + (k + a2) := by have := ho2 (by rw [Int.toNat_natCast]; omega); rw [Int.toNat_natCast] at this; simpa using this
  simp only [Int.toNat_natCast]
  rw [show k + a2 + j - (k + a2) = j by omega]
  have hd := Lb.cut' (c' := c - (k + a2)) (hv.lb hne) (k + a2) j (by omega) (by omega)
  have hdd : (l.drop (k + a2)).take j = ((l.drop k).drop (numB (j : Int)).length).take j := by rw [← hat, List.drop_drop]
  have hbd : Byt ((l.drop (k + a2)).take j) := (hb.drop _).take _
  conv => whnf
  refine xcall (refWrite_spec (hd.la.sub (hs4.sub (a := m) (by simp))) hbd (by simp; omega)) ?_
  rintro _ m4 ⟨v4, p4, rfl, hs5, hv4⟩
  conv => whnf
  have hs5 : Split m4 [p4, p, m] := hs5.under (a := [p4]) hs4
  have hdl : ((l.drop (k + a2)).take j).length = j := by simp; omega
  have hwl : (Fr.wr ((l.drop (k + a2)).take j)).length = a2 + j + 4 := by
    rw [Fr.wr, List.length_append, List.length_append, hdl, hat]; rfl
  obtain ⟨b4, o4, c4, rfl⟩ := hv4.lb.real (by intro e; rw [e] at hwl; simp at hwl)
  rw [hwl]
  conv => whnf
  have hsz4 : Sub p4 m4 := hs5.sub (by simp)
  have hsm4 : Sub m m4 := hs5.sub (by simp)
  refine .inr ⟨Fr.wr ((l.drop (k + a2)).take j), hwl, _, _, rfl, ((hwl ▸ hv4.lb).sub hsz4).range, ?_⟩
  conv => whnf
  have e5 : IntKind.i64.wrap ((k : Int) + ((a2 + j + 4 : Nat) : Int)) = ((k + (a2 + j + 4) : Nat) : Int) := by rw [wi (by omega) (by omega)]; omega
  rw [e5]
  repeat (refine And.intro (by first | omega | (simp only [times]; omega)) ?_; conv => whnf)
  intro o3 ho3 _
  obtain rfl : o3 = o + k := by have := ho3 (by rw [Int.toNat_natCast]; omega); rw [Int.toNat_natCast] at this; simpa using this
  simp only [Int.toNat_natCast]
  rw [show k + (a2 + j + 4) - k = a2 + j + 4 by omega]
  have hd3 := Lb.cut' (c' := c - k) ((hv.lb hne).sub hsm4) k (a2 + j + 4) (by omega) (by omega)
  have hd3l : ((l.drop k).take (a2 + j + 4)).length = a2 + j + 4 := by simp; omega
  conv => whnf
  refine .inr ⟨(l.drop k).take (a2 + j + 4), hd3l, _, _, rfl, hd3.range, ?_⟩
  conv => whnf
  rw [strOf_list, strOf_list]
  have hbw : Byt (Fr.wr ((l.drop (k + a2)).take j)) := by
    have := Fr.cat_byt (l := [(l.drop (k + a2)).take j]) (by simpa using hbd)
    simpa [Fr.cat] using this
  have hsame : (by8 (Fr.wr ((l.drop (k + a2)).take j)) = by8 ((l.drop k).take (a2 + j + 4))) ↔ Fr.four (Fr.crc (((l.drop k).drop (numB (j : Int)).length).take j)) = ((l.drop k).drop ((numB (j : Int)).length + j)).take 4 := by
    have h1 : (by8 (Fr.wr ((l.drop (k + a2)).take j)) = by8 ((l.drop k).take (a2 + j + 4))) ↔ Fr.wr ((l.drop (k + a2)).take j) = (l.drop k).take (a2 + j + 4) := ⟨fun h => by8_inj hbw (hbk.take _) h, fun h => by rw [h]⟩
    rw [h1, Fr.wr, hdl, hdd]
    have h2 : (l.drop k).take (a2 + j + 4) = numB (j : Int) ++ ((l.drop k).drop (numB (j : Int)).length).take j ++ ((l.drop k).drop ((numB (j : Int)).length + j)).take 4 := by
      have h3 : (l.drop k).take (numB (j : Int)).length = numB (j : Int) := by rw [hform, List.take_left]
      rw [hat, List.take_add, List.take_add, h3, List.drop_drop]
    rw [h2]
    constructor
    · intro h
      exact List.append_cancel_left h
    · intro h
      rw [h]
  refine ⟨fun h1 => ?_, fun h1 => ?_⟩
  · have hno : ¬ by8 (Fr.wr ((l.drop (k + a2)).take j)) = by8 ((l.drop k).take (a2 + j + 4)) := by simpa using h1
    rw [hsame] at hno
    rw [if_neg hno] at hnx
    conv => whnf
    rw [stop 9 hnx]
    exact ⟨x, ps, p, rfl, hs5.drop, hx, hq, rfl⟩
  have hyes : by8 (Fr.wr ((l.drop (k + a2)).take j)) = by8 ((l.drop k).take (a2 + j + 4)) := by simpa using h1
  clear h1
  rw [hsame] at hyes
  rw [if_pos hyes] at hnx
  obtain ⟨f', rfl, hg'⟩ := hg.more (by rw [hnx]; simp)
  rw [hnx] at hg'
  dsimp only at hg'
  rw [← hat] at hg'
  have hs6 : Split m4 [p, m] := hs5.drop
  conv => whnf
  refine .mk _ (buildL1) ?_
  rintro _ _ ⟨b1, hb1, rfl, rfl⟩
  conv => whnf
  refine .mk _ (pushL (p := p) hs6 hb1 rfl hx (by simp; omega)) ?_
  rintro _ m7 ⟨x', p', rfl, hs7, hx'⟩
  conv => whnf
  have e6 : IntKind.i64.wrap ((k : Int) + ((a2 + j + 4 : Nat) : Int)) = ((k + (a2 + j + 4) : Nat) : Int) := e5
  refine ⟨(f', x', k + (a2 + j + 4)), ⟨ps ++ [(.slice (some ⟨b, o + (k + a2), none⟩) j (c - (k + a2)), (l.drop (k + a2)).take j)], p', ?_, hs7, by simpa using hx', ?_⟩, by simp only; omega, ?_⟩
  · rw [hdd, hat, List.map_append]
    rw [hat] at hg'
    exact hg'
  · intro u hu
    rcases List.mem_append.1 hu with hu | hu
    · exact hq u hu
    · rw [List.mem_singleton.1 hu]
      exact hd.la
  · conv => whnf
    repeat (refine And.intro (by first | with_reducible rfl | (first | exact congrArg (Value.int _) e6) | exact congrArg (Value.int _) (wi (by omega) (by omega)) | exact wi (by omega) (by omega) | rfl) ?_; conv => whnf)
    first | exact trivial | exact fun _ _ h => h
end Go.E.YtgjlajcebcmbaaaGreatDoor
