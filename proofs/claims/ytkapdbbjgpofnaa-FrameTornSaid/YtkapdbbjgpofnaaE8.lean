/-
  Literals and slices; every operation that only reckons and reads yields what was said.
-/
import Derived.Test.YtkapdbbjgpofnaaE7
namespace Go.E
section
variable {P : Program} {T : Tab} {nt : Nat} {D : List Deferred} {m0 : Mem} {W0 : World} {ρ : List Nat} {s : St} {a : Act} {W : World}

theorem set_as_put {l : List Value} {o : Nat} {x : Value} (h : o < l.length) : l.set o x = l.take o ++ ([x] ++ l.drop (o + 1)) := by
  rw [List.set_eq_take_append_cons_drop, if_pos h]; simp

theorem fill_put {place : Nat → Option (Nat × Nat)} {c : LB} {j off size : Nat} {v : Value} {l : List Value} {rest : List (Nat × Value)} (hp : place j = some (off, size)) (hv : v.cells = l.toArray) (hs : l.length = size) (hle : off + l.length ≤ (LB.cells c).length) :
    Instr.fill place (LB.cells c).toArray ((j, v) :: rest) = Instr.fill place ((LB.cells c).take off ++ (l ++ (LB.cells c).drop (off + l.length))).toArray rest := by
  rw [fill_step hp (by rw [hv]; simpa using hs) (by rw [hv]; simpa using hle), laid_cells v l hv off _ (by simpa using hle)]

theorem cells_one {x : Value} (h : x.oneCell' = true) : x.cells = [x].toArray := by
  cases x <;> first | rfl | (simp [Value.oneCell'] at h)

theorem bld_spec (hr : Rel nt D m0 W0 ρ s a W) {place : Nat → Option (Nat × Nat)} : ∀ {parts : List (Nat × Operand)} {c c' : LB}, LB.ok c → bld s place c parts = some c' →
    LB.ok c' ∧ Instr.fill place (LB.cells c).toArray (parts.map fun (i, x) => (i, a.eval x)) = some (LB.cells c').toArray
  | [], c, c', hc, h => by simp only [bld, Option.some.injEq] at h; subst h; exact ⟨hc, rfl⟩
  | (j, x) :: r, c, c', hc, h => by
    simp only [bld] at h
    have hf := hr.fits x
    -- one cell
    have one : ∀ (y : Value) (off : Nat), place j = some (off, 1) → a.eval x = y → y.oneCell' = true → (match LB.set c off y with | some d => bld s place d r | none => none) = some c' →
        LB.ok c' ∧ Instr.fill place (LB.cells c).toArray ((j, a.eval x) :: r.map fun (i, x) => (i, a.eval x)) = some (LB.cells c').toArray := by
      intro y off hp he h1 hh
      cases hset : LB.set c off y with
      | none => simp [hset] at hh
      | some d =>
        simp only [hset] at hh
        obtain ⟨g1, g2, g3⟩ := LB.set_spec hc h1 hset
        obtain ⟨k1, k2⟩ := bld_spec hr g1 hh
        refine ⟨k1, ?_⟩
        rw [fill_put (l := [y]) hp (by rw [he]; exact cells_one h1) rfl (by simp; omega), ← k2, g2, set_as_put g3]
        simp
    split at h
    · simp at h
    · rename_i off size hp
      split at h
      · rename_i y hy
        cases hb : Nat.beq size 1 with
        | false => simp [hb] at h
        | true =>
          have := Nat.eq_of_beq_eq_true hb; subst this
          simp only [hb, cond_true] at h
          have he := hf.eq (by rw [hy]; simp)
          have hk := (hf.okay (by rw [hy]; simp)).1
          rw [hy] at he hk
          exact one y off hp he hk h
      · rename_i hy
        cases hb : Nat.beq size 1 with
        | false => simp [hb] at h
        | true =>
          have := Nat.eq_of_beq_eq_true hb; subst this
          simp only [hb, cond_true] at h
          have he := hf.eq (by rw [hy]; simp)
          rw [hy] at he
          exact one _ off hp he rfl h
      · rename_i hy
        cases hb : Nat.beq size 1 with
        | false => simp [hb] at h
        | true =>
          have := Nat.eq_of_beq_eq_true hb; subst this
          simp only [hb, cond_true] at h
          have he := hf.eq (by rw [hy]; simp)
          rw [hy] at he
          exact one _ off hp he rfl h
      · rename_i v hy
        cases hb : Nat.beq size (LB.size v) with
        | false => simp [hb] at h
        | true =>
          have hsz := Nat.eq_of_beq_eq_true hb
          simp only [hb, cond_true] at h
          have he := hf.eq (by rw [hy]; simp)
          have hk := (hf.okay (by rw [hy]; simp)).1
          rw [hy] at he hk
          cases hset : LB.putW c off v with
          | none => simp [hset] at h
          | some d =>
            simp only [hset] at h
            obtain ⟨g1, g2, g3⟩ := LB.putW_spec hc hk hset
            obtain ⟨k1, k2⟩ := bld_spec hr g1 h
            refine ⟨k1, ?_⟩
            have hlen := LB.cells_length hk
            simp only [List.map_cons]
            rw [fill_put (l := LB.cells v) hp (by rw [he]; rfl) (by rw [hlen, hsz]) g3, ← k2, g2]
      · simp at h

theorem known_places (hT : TabOk P T) : ∀ (gs : List Field), known T (gs.map fun f => (f.offset, f.type)) = true →
    ∃ places, gs.mapM (fun f => (P.info? f.type).map fun i => (f.offset, i.size)) = some places ∧ ∀ j x, placeOf T (.struct (gs.map fun f => (f.offset, f.type))) j = some x → places[j]? = some x
  | [], _ => ⟨[], by simp, fun j x h => by simp [placeOf, nth] at h⟩
  | g :: gs, h => by
    simp only [List.map_cons, known] at h
    split at h
    · rename_i i hi
      obtain ⟨places, h1, h2⟩ := known_places hT gs h
      obtain ⟨j0, hj, hs, _⟩ := (hT _ _ hi).inf
      refine ⟨(g.offset, i.size) :: places, ?_, fun j x hx => ?_⟩
      · simp [List.mapM_cons, hj, hs, h1]
      · cases j with
        | zero => simp only [placeOf, List.map_cons, nth, hi, Option.some.injEq] at hx; simp [hx]
        | succ j => simpa using h2 j x (by simpa [placeOf, nth] using hx)
    · simp at h

theorem fill_agree {pl pl' : Nat → Option (Nat × Nat)} (hpl : ∀ j x, pl j = some x → pl' j = some x) : ∀ (l : List (Nat × Value)) (cs cs' : Array Value), Instr.fill pl cs l = some cs' → Instr.fill pl' cs l = some cs'
  | [], _, _, h => h
  | (j, v) :: r, cs, cs', h => by
    simp only [Instr.fill] at h ⊢
    cases hp : pl j with
    | none => simp [hp] at h
    | some y =>
      rw [hpl j y hp]
      obtain ⟨off, size⟩ := y
      simp only [hp] at h
      simp only
      split at h
      · simp at h
      · rename_i hc
        rw [if_neg hc]
        exact fill_agree hpl r _ _ h

theorem fBuild_spec (hT : TabOk P T) (hr : Rel nt D m0 W0 ρ s a W) {t : TypeId} {parts : Array (Nat × Operand)} {K : SV → Prop} (h : fBuild T s t parts.toList K) : ∃ sv v, K sv ∧ Fits ρ sv v ∧ Yld P a (.build t parts) [] W v := by
  unfold fBuild at h
  split at h
  · rename_i i hi
    have hti := hT t i hi
    split at h
    · rename_i hagg
      cases hkn : knownK T i.k with
      | false => simp [hkn] at h
      | true =>
        simp only [hkn, cond_true] at h
        split at h
        · rename_i c hb
          obtain ⟨h1, h2⟩ := bld_spec hr hti.zok hb
          refine ⟨_, _, h, .mk h1 trivial, fun o ho W' _ => ?_⟩
          have hbuilt : P.built t (parts.map fun (i, x) => (i, a.eval x)).toList = some (LB.cells c).toArray := by
            obtain ⟨j, hj, hj1, _, z, hz, hzc⟩ := hti.inf
            obtain ⟨d, hd, hdk⟩ := hti.desc
            unfold Program.built
            cases hk : i.k with
            | struct fs =>
              obtain ⟨gs, rfl, rfl⟩ := struct_desc (hdk.trans hk)
              rw [hk] at hkn h2
              obtain ⟨places, hp1, hp2⟩ := known_places hT gs.toList hkn
              simp only [hj, hd, hz, hp1, hzc]
              have := fill_agree (pl' := fun x => places.toArray[x]?) (fun j x hx => by simpa using hp2 j x hx) _ _ _ h2
              simpa using this
            | array n e =>
              have := array_desc (hdk.trans hk); subst this
              rw [hk] at h2
              cases he : T e with
              | none => simp [hk, knownK, he] at hkn
              | some ei =>
                obtain ⟨j', hj', hjs, _⟩ := (hT e ei he).inf
                simp only [hj, hd, hz, hj', hzc, hjs]
                have := fill_agree (pl' := fun i => some (i * ei.size, ei.size)) (fun j x hx => by simpa [placeOf, he] using hx) _ _ _ h2
                simpa using this
            | _ => simp [hk, TK.agg] at hagg
          simp [execOp, ho, run_build W' t _ _ hbuilt, conc, CV.val]
        · exact h.elim
    · exact h.elim
  · exact h.elim

/-! ### slices -/
theorem bound_spec (hr : Rel nt D m0 W0 ρ s a W) {xo : Option Operand} {dflt most : Nat} {K : Nat → Prop} (h : bound (xo.map (ev s)) dflt most K) :
    ∃ n, K n ∧ (xo = none → n = dflt) ∧ (∀ y, xo.map a.eval = some y → (n ≤ most ∧ ∀ code w, (Instr.sliceBound y most code).run P w = .ok n w)) := by
  cases xo with
  | none => exact ⟨dflt, h, fun _ => rfl, by simp⟩
  | some x =>
    simp only [Option.map_some, bound] at h
    split at h
    · rename_i heq; simp at heq
    · rename_i k j heq
      simp only [Option.some.injEq] at heq
      have hx := (hr.fits x).eq (by rw [heq]; simp)
      rw [heq] at hx
      simp only [conc, CV.val] at hx
      refine ⟨j.toNat, h.2, by simp, fun y hy => ⟨by omega, fun code w => ?_⟩⟩
      simp only [Option.map_some, Option.some.injEq] at hy
      subst hy
      simp [Instr.sliceBound, hx, asIntOf, h.1.1, h.1.2]
    · exact h.elim

theorem bounds_run {isSlice : Bool} {len cap : Nat} {low high mx : Option Value} {l h m : Nat} (hh : ¬ (high = none ∧ mx.isSome = true))
    (hm0 : mx = none → m = cap) (hm1 : ∀ y, mx = some y → ∀ code w, (Instr.sliceBound y cap code).run P w = .ok m w)
    (hh0 : high = none → h = len) (hh1 : ∀ y, high = some y → ∀ code w, (Instr.sliceBound y m code).run P w = .ok h w)
    (hl0 : low = none → l = 0) (hl1 : ∀ y, low = some y → ∀ code w, (Instr.sliceBound y h code).run P w = .ok l w) (w : World) :
    (Instr.sliceBounds isSlice len cap low high mx).run P w = .ok (l, h, m) w := by
  unfold Instr.sliceBounds
  cases mx with
  | none =>
    have := hm0 rfl; subst this
    cases high with
    | none =>
      have := hh0 rfl; subst this
      cases low with
      | none => have := hl0 rfl; subst this; simp
      | some y => simp [hl1 y rfl]
    | some z =>
      cases low with
      | none => have := hl0 rfl; subst this; simp [hh1 z rfl]
      | some y => simp [hh1 z rfl, hl1 y rfl]
  | some u =>
    cases high with
    | none => simp at hh
    | some z =>
      cases low with
      | none => have := hl0 rfl; subst this; simp [hm1 u rfl, hh1 z rfl]
      | some y => simp [hm1 u rfl, hh1 z rfl, hl1 y rfl]

theorem fSlice_spec (hT : TabOk P T) (hr : Rel nt D m0 W0 ρ s a W) {t : TypeId} {xo : Operand} {lo hi mx : Option Operand} {K : SV → Prop} (h : fSlice T t (ev s xo) (lo.map (ev s)) (hi.map (ev s)) (mx.map (ev s)) K) :
    ∃ sv v, K sv ∧ Fits ρ sv v ∧ Yld P a (.slice t xo lo hi mx) [] W v := by
  have hx := hr.fits xo
  generalize ev s xo = x at *
  unfold fSlice at h
  cases hho : hiOk (hi.map (ev s)) (mx.map (ev s)) with
  | false => simp [hho] at h
  | true =>
    simp only [hho, cond_true] at h
    have hh : ¬ (hi.map a.eval = none ∧ (mx.map a.eval).isSome = true) := by
      cases hi <;> cases mx <;> simp [hiOk] at hho ⊢
    split at h
    · exact h.elim
    rename_i ti hti
    obtain ⟨d, hdk, hdr⟩ := (hT t ti hti).run_und
    split at h
    · rename_i e b o len cap hk
      have hd := slice_desc (hdk.trans hk); subst hd
      have ex := hx.eq (by simp)
      simp only [conc, CV.val] at ex
      split at h
      · exact h.elim
      rename_i ei hei
      obtain ⟨m, h, m0', m1⟩ := bound_spec (P := P) hr h
      obtain ⟨hh', h, h0', h1⟩ := bound_spec (P := P) hr h
      obtain ⟨l, h, l0', l1⟩ := bound_spec (P := P) hr h
      have hb := fun w => bounds_run (P := P) (isSlice := true) (len := len) (cap := cap) (low := lo.map a.eval) (high := hi.map a.eval) (mx := mx.map a.eval) (l := l) (h := hh') (m := m) hh
        (fun e => m0' (by simpa using e)) (fun y e => (m1 y e).2) (fun e => h0' (by simpa using e)) (fun y e => (h1 y e).2) (fun e => l0' (by simpa using e)) (fun y e => (l1 y e).2) w
      refine ⟨_, _, h (if m = l then o else o + l * ei.size) (fun e => by rw [if_neg e]) (fun e => by rw [if_pos e]), .v rfl, fun op ho W' _ => ?_⟩
      simp only [execOp, ho, ex, Instr.sliceAt, Instr.slice, Sem.run_bind, hdr, Result.andThen_ok, hb, (hT e ei hei).run_sizeOf]
      by_cases hml : m = l
      · simp [hml]
      · simp [hml, add_none]
    · rename_i e len cap hk
      have hd := slice_desc (hdk.trans hk); subst hd
      have ex := hx.eq (by simp)
      simp only [conc, CV.val] at ex
      split at h
      · exact h.elim
      rename_i ei hei
      obtain ⟨m, h, m0', m1⟩ := bound_spec (P := P) hr h
      obtain ⟨hh', h, h0', h1⟩ := bound_spec (P := P) hr h
      obtain ⟨l, h, l0', l1⟩ := bound_spec (P := P) hr h
      have hb := fun w => bounds_run (P := P) (isSlice := true) (len := len) (cap := cap) (low := lo.map a.eval) (high := hi.map a.eval) (mx := mx.map a.eval) (l := l) (h := hh') (m := m) hh
        (fun e => m0' (by simpa using e)) (fun y e => (m1 y e).2) (fun e => h0' (by simpa using e)) (fun y e => (h1 y e).2) (fun e => l0' (by simpa using e)) (fun y e => (l1 y e).2) w
      refine ⟨_, _, h, .v rfl, fun op ho W' _ => ?_⟩
      simp only [execOp, ho, ex, Instr.sliceAt, Instr.slice, Sem.run_bind, hdr, Result.andThen_ok, hb, (hT e ei hei).run_sizeOf]
      simp
    · rename_i n e hd' o hk
      have hd := array_desc (hdk.trans hk); subst hd
      have ex := hx.eq (by simp)
      have eo := (hx.okay (by simp)).2
      simp only [conc] at ex
      split at h
      · exact h.elim
      rename_i ei hei
      obtain ⟨m, h, m0', m1⟩ := bound_spec (P := P) hr h
      obtain ⟨hh', h, h0', h1⟩ := bound_spec (P := P) hr h
      obtain ⟨l, h, l0', l1⟩ := bound_spec (P := P) hr h
      have hb := fun w => bounds_run (P := P) (isSlice := false) (len := n) (cap := n) (low := lo.map a.eval) (high := hi.map a.eval) (mx := mx.map a.eval) (l := l) (h := hh') (m := m) hh
        (fun e => m0' (by simpa using e)) (fun y e => (m1 y e).2) (fun e => h0' (by simpa using e)) (fun y e => (h1 y e).2) (fun e => l0' (by simpa using e)) (fun y e => (l1 y e).2) w
      refine ⟨_, _, h (if m = l then 0 else l * ei.size) (fun e => by rw [if_neg e]) (fun e => by rw [if_pos e]), .mk trivial eo, fun op ho W' _ => ?_⟩
      simp only [execOp, ho, ex, Instr.sliceAt, Instr.sureAddr, Sem.run_bind, hdr, Result.andThen_ok, hb, (hT e ei hei).run_sizeOf, conc]
      by_cases hml : m = l
      · simp [hml]
      · simp [hml, add_none]
    · rename_i n e b o hk
      have hd := array_desc (hdk.trans hk); subst hd
      have ex := hx.eq (by simp)
      simp only [conc, CV.val] at ex
      split at h
      · exact h.elim
      rename_i ei hei
      obtain ⟨m, h, m0', m1⟩ := bound_spec (P := P) hr h
      obtain ⟨hh', h, h0', h1⟩ := bound_spec (P := P) hr h
      obtain ⟨l, h, l0', l1⟩ := bound_spec (P := P) hr h
      have hb := fun w => bounds_run (P := P) (isSlice := false) (len := n) (cap := n) (low := lo.map a.eval) (high := hi.map a.eval) (mx := mx.map a.eval) (l := l) (h := hh') (m := m) hh
        (fun e => m0' (by simpa using e)) (fun y e => (m1 y e).2) (fun e => h0' (by simpa using e)) (fun y e => (h1 y e).2) (fun e => l0' (by simpa using e)) (fun y e => (l1 y e).2) w
      refine ⟨_, _, h (if m = l then o else o + l * ei.size) (fun e => by rw [if_neg e]) (fun e => by rw [if_pos e]), .v rfl, fun op ho W' _ => ?_⟩
      simp only [execOp, ho, ex, Instr.sliceAt, Instr.sureAddr, Sem.run_bind, hdr, Result.andThen_ok, hb, (hT e ei hei).run_sizeOf]
      by_cases hml : m = l
      · simp [hml]
      · simp [hml, add_none]
    · rename_i z hk
      have hd := str_desc (hdk.trans hk); subst hd
      have ex := hx.eq (by simp)
      simp only [conc, CV.val] at ex
      cases mx with
      | some _ => exact h.elim
      | none =>
        obtain ⟨hh', h, h0', h1⟩ := bound_spec (P := P) hr h
        obtain ⟨l, h, l0', l1⟩ := bound_spec (P := P) hr h
        have hb := fun w => bounds_run (P := P) (isSlice := false) (len := z.size) (cap := z.size) (low := lo.map a.eval) (high := hi.map a.eval) (mx := none) (l := l) (h := hh') (m := z.size) (by simp)
          (fun e => rfl) (fun y e => by simp at e) (fun e => h0' (by simpa using e)) (fun y e => (h1 y e).2) (fun e => l0' (by simpa using e)) (fun y e => (l1 y e).2) w
        refine ⟨_, _, h, .v rfl, fun op ho W' _ => ?_⟩
        simp [execOp, ho, ex, Instr.sliceAt, Instr.slice, Sem.run_bind, hdr, hb]
    · exact h.elim

/-- from where an operation reads -/
def ldArg (T : Tab) : Op → Option Operand
  | .load _ x => some x
  | .convert a b x => bif strConv T a b then some x else none
  | _ => none
def isLoad (T : Tab) (op : Op) : Bool := (ldArg T op).isSome

theorem fval_spec (hT : TabOk P T) (hr : Rel nt D m0 W0 ρ s a W) {op : Op} {K : SV → List Nat → Prop} (h : fval T s op K) :
    ∃ sv bs v B, K sv bs ∧ Fits ρ sv v ∧ (∀ b ∈ bs, ∃ o, s.m b = some o) ∧ (isLoad T op = false → B = []) ∧ (∀ b ∈ B, (b ∈ ρ ∨ b ∈ bs) ∧ ∃ x, ldArg T op = some x ∧ blkOf ρ (ev s x) = some b ∧ ∀ y, ev s x = .c y → ∃ o, s.m b = some o) ∧ Yld P a op B W v := by
  have up : ∀ {op : Op} {K : SV → List Nat → Prop}, (∃ sv v, K sv [] ∧ Fits ρ sv v ∧ Yld P a op [] W v) → ∃ sv bs v B, K sv bs ∧ Fits ρ sv v ∧ (∀ b ∈ bs, ∃ o, s.m b = some o) ∧ (isLoad T op = false → B = []) ∧ (∀ b ∈ B, (b ∈ ρ ∨ b ∈ bs) ∧ ∃ x, ldArg T op = some x ∧ blkOf ρ (ev s x) = some b ∧ ∀ y, ev s x = .c y → ∃ o, s.m b = some o) ∧ Yld P a op B W v := by
    rintro op K ⟨sv, v, h1, h2, h3⟩
    exact ⟨sv, [], v, [], h1, h2, by simp, by simp, by simp, h3⟩
  unfold fval at h
  split at h
  · rename_i x; exact up ⟨_, _, h, hr.fits x, fun o ho W' _ => by simp [execOp, ho]⟩
  · rename_i c x y
    have hc := hr.fits c
    split at h
    · rename_i e
      rw [e] at hc
      have hc := hc.eq (by simp)
      exact up ⟨_, _, h, hr.fits x, fun o ho W' _ => by simp [execOp, ho, hc, conc, asBool]⟩
    · rename_i e
      rw [e] at hc
      have hc := hc.eq (by simp)
      exact up ⟨_, _, h, hr.fits y, fun o ho W' _ => by simp [execOp, ho, hc, conc, asBool]⟩
    · rename_i b e
      rw [e] at hc
      have hc := hc.eq (by simp)
      cases b with
      | true => exact up ⟨_, _, h.1 rfl, hr.fits x, fun o ho W' _ => by simp [execOp, ho, hc, conc, CV.val, asBool]⟩
      | false => exact up ⟨_, _, h.2 rfl, hr.fits y, fun o ho W' _ => by simp [execOp, ho, hc, conc, CV.val, asBool]⟩
    · exact h.elim
  · rename_i x; exact up ⟨_, _, h, hr.fits x, fun o ho W' _ => by simp [execOp, ho]⟩
  · obtain ⟨sv, bs, v, b, h1, h2, h3, h4, h5, h5', h6⟩ := fLoad_spec hT hr (hr.fits _) h
    refine ⟨sv, bs, v, [b], h1, h2, h3, by simp [isLoad, ldArg], fun b' hb => ?_, h6⟩
    have : b' = b := by simpa using hb
    subst this
    exact ⟨h5, _, rfl, h4, h5'⟩
  · exact up (fNil_spec (hr.fits _) h)
  · exact up (fBin_spec hT (hr.fits _) (hr.fits _) h)
  · exact up (fUn_spec (hr.fits _) h)
  · rename_i src dst x
    cases hc : strConv T src dst with
    | true =>
      simp only [hc] at h
      obtain ⟨sv, bs, v, B, h1, h2, h3, h4, h5⟩ := fStr_spec hT hr hc (hr.fits x) h
      exact ⟨sv, bs, v, B, h1, h2, h3, by simp [isLoad, ldArg, hc], fun b hb => ⟨(h4 b hb).1, x, by simp [ldArg, hc], (h4 b hb).2⟩, h5⟩
    | false =>
      simp only [hc] at h
      exact up (fConv_spec hT (hr.fits _) h)
  · exact up (fField_spec hT (hr.fits _) h)
  · exact up (fFieldAddr_spec hT (hr.fits _) h)
  · exact up (fIndexAddr_spec hT (hr.fits _) (hr.fits _) h)
  · exact up (fIndex_spec hT (hr.fits _) (hr.fits _) h)
  · rename_i x j
    split at h
    · rename_i l hl
      split at h
      · rename_i y hy
        have hx := (hr.fits x).eq (by rw [hl]; simp)
        have ho := ((hr.fits x).okay (by rw [hl]; simp)).1
        rw [hl] at hx ho
        rw [nth_eq] at hy
        refine up ⟨_, _, h, .mk (ho y (List.mem_of_getElem? hy)) trivial, fun o ho' W' _ => ?_⟩
        simp only [conc] at hx
        simp [execOp, ho', hx, Instr.extract, hy, conc]
      · exact h.elim
    · exact h.elim
  · exact up (fBuild_spec hT hr h)
  · exact up (fSlice_spec hT hr h)
  · exact up (fBuiltin_spec hT hr h)
  · exact h.elim
#print axioms fval_spec
end
end Go.E
