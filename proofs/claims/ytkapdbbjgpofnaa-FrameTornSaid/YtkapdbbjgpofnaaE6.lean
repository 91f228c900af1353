/-
  Operations that only reckon and read: they yield what was said.
-/
import Derived.Test.YtkapdbbjgpofnaaE5
namespace Go.E

def Yld (P : Program) (a : Act) (op : Op) (B : List Nat) (W : World) (v : Value) : Prop :=
  ∀ o : Oper, o.op = op → ∀ W', (∀ b ∈ B, W'.heap[b]? = W.heap[b]?) → (execOp a.eval o).run P W' = .ok (.value v) W'

/-- a value that a slot may hold -/
def Fits (ρ : List Nat) (sv : SV) (v : Value) : Prop := sv = .any ∨ (sv.ok ∧ sv.under ρ.length ∧ v = conc ρ sv)

section
variable {P : Program} {T : Tab} {nt : Nat} {D : List Deferred} {m0 : Mem} {W0 : World} {ρ : List Nat} {s : St} {a : Act} {W : World}

theorem Rel.fits (hr : Rel nt D m0 W0 ρ s a W) (x : Operand) : Fits ρ (ev s x) (a.eval x) := by
  by_cases h : ev s x = .any
  · exact .inl h
  · exact .inr ⟨(hr.evalOk x h).1, (hr.evalOk x h).2, hr.eval x h⟩
theorem Fits.eq {sv : SV} {v : Value} (h : Fits ρ sv v) (hne : sv ≠ .any) : v = conc ρ sv := by
  rcases h with h | h
  · exact absurd h hne
  · exact h.2.2
theorem Fits.okay {sv : SV} {v : Value} (h : Fits ρ sv v) (hne : sv ≠ .any) : sv.ok ∧ sv.under ρ.length := by
  rcases h with h | h
  · exact absurd h hne
  · exact ⟨h.1, h.2.1⟩
theorem Fits.mk {sv : SV} (h : sv.ok) (hu : sv.under ρ.length) : Fits ρ sv (conc ρ sv) := .inr ⟨h, hu, rfl⟩
theorem Fits.v {x : Value} (h : x.oneCell' = true) : Fits ρ (.c (.v x)) x := .inr ⟨h, trivial, rfl⟩

theorem Fits.int {sv : SV} {v : Value} {k : IntKind} {n : Int} (h : Fits ρ sv v) (e : sv = .c (.v (.int k n))) : v = .int k n := by
  subst e; exact h.eq (by simp)

theorem toV_spec {sv : SV} {v x : Value} (h : Fits ρ sv v) (e : sv.toV = some x) : v = x := by
  cases sv with
  | c y =>
    cases y with
    | v z => simp only [SV.toV, Option.some.injEq] at e; subst e; exact h.eq (by simp)
    | a c => simp [SV.toV] at e
  | tt => simp only [SV.toV, Option.some.injEq] at e; subst e; exact h.eq (by simp)
  | ff => simp only [SV.toV, Option.some.injEq] at e; subst e; exact h.eq (by simp)
  | _ => simp [SV.toV] at e

theorem run_eqGuard_plain {op : BinOp} {t : TypeId} {x y : Operand} {u v : Value} (h1 : ∀ c d, ¬ (u = .agg c ∧ v = .agg d)) (h2 : ¬ (u = .nilIface ∧ v = .nilIface)) (w : World) :
    (eqGuard op t x y u v).run P w = .ok () w := by
  have key : ∀ (z : Sem Unit), (match u, v with
      | .nilIface, .nilIface => z
      | .agg _, .agg _ => z
      | _, _ => (pure () : Sem Unit)) = pure () := by
    intro z
    split
    · exact absurd ⟨rfl, rfl⟩ h2
    · rename_i c d; exact absurd ⟨rfl, rfl⟩ (h1 c d)
    · rfl
  unfold eqGuard
  cases op <;> simp only [Bool.not_true, Bool.not_false, if_true, Bool.false_eq_true, if_false] <;> try rfl
  all_goals
    split
    · exact absurd ⟨rfl, rfl⟩ h2
    · rename_i c d; exact absurd ⟨rfl, rfl⟩ (h1 c d)
    · rfl

theorem equal_is (t : TypeId) (x y : Value) : Op.equal t x y = Op.equalIn (9999 + 1) t x y := rfl
theorem vEq_spec {t : TypeId} {i : TI} (hi : TOk P t i) {x y : Value} {K : Bool → Prop} (h : vEq i.k x y K) :
    (∃ r, K r ∧ ∀ w, (binOp .eql t x y).run P w = .ok (.bool r) w ∧ (binOp .neq t x y).run P w = .ok (.bool !r) w) ∧ (∀ c d, ¬ (x = .agg c ∧ y = .agg d)) ∧ ¬ (x = .nilIface ∧ y = .nilIface) := by
  obtain ⟨d, hk, hd⟩ := hi.run_und
  have key : (∃ r, K r ∧ ∀ w, (Op.equal t x y).run P w = .ok r w) := by
    rw [equal_is]
    generalize 9999 = dp
    generalize i.k = kk at *
    unfold vEq at h
    split at h <;> first
      | exact h.elim
      | (refine ⟨_, h, fun w => ?_⟩
         simp only [Op.equalIn, Sem.run_bind, hd w]
         cases d <;> simp [TK.of] at hk <;> simp)
  obtain ⟨r, hr, hw⟩ := key
  generalize i.k = kk at *
  unfold vEq at h
  split at h <;> first
    | exact h.elim
    | (refine ⟨⟨r, hr, fun w => ?_⟩, ?_, ?_⟩
       · simp [binOp, hw w]
       · simp
       · simp)
theorem sBin_spec {op : BinOp} {a b : ByteArray} {K : SV → Prop} (h : sBin op a b K) : ∃ z, K (.c (.v z)) ∧ z.oneCell' = true ∧ ∀ t w, (binOp op t (.string a) (.string b)).run P w = .ok z w := by
  cases op <;> simp only [sBin] at h
  case add =>
    refine ⟨_, h.2, rfl, fun t w => ?_⟩
    have e : ¬ (((a.size + b.size : Nat) : Int) > IntKind.i64.max) := by
      have : IntKind.i64.max = 9223372036854775807 := by decide
      rw [this]; omega
    simp only [binOp, Op.stringOp, e, if_false]
    rfl
  all_goals first
    | exact h.elim
    | exact ⟨_, h, rfl, fun t w => by simp [binOp, Op.stringOp]⟩

theorem fBin_spec (hT : TabOk P T) {op : BinOp} {t ty : TypeId} {xo yo : Operand} {x y : SV} {K : SV → Prop} (hx : Fits ρ x (a.eval xo)) (hy : Fits ρ y (a.eval yo)) (h : fBin T op t yo x y K) :
    ∃ sv v, K sv ∧ Fits ρ sv v ∧ Yld P a (.binOp op t xo yo ty) [] W v := by
  have fin : ∀ z : Value, z.oneCell' = true → (∀ w, (eqGuard op t xo yo (a.eval xo) (a.eval yo)).run P w = .ok () w) → (∀ w, (binOp op t (a.eval xo) (a.eval yo)).run P w = .ok z w) → Yld P a (.binOp op t xo yo ty) [] W z := by
    intro z _ hg hb o ho W' _
    simp [execOp, ho, hg, hb]
  unfold fBin at h
  split at h
  · rename_i k a' k' b'
    have ex := hx.eq (by simp)
    have ey := hy.eq (by simp)
    simp only [conc, CV.val] at ex ey
    obtain ⟨z, hz, h1, hrun⟩ := iBin_spec (P := P) ey h
    refine ⟨_, z, hz, .v h1, fin z h1 (fun w => ?_) (fun w => ?_)⟩
    · rw [ex, ey]; exact run_eqGuard_plain (by simp) (by simp) w
    · rw [ex, ey]; exact hrun t w
  · rename_i a' b'
    have ex := hx.eq (by simp)
    have ey := hy.eq (by simp)
    simp only [conc, CV.val] at ex ey
    obtain ⟨z, hz, h1, hrun⟩ := sBin_spec (P := P) h
    refine ⟨_, z, hz, .v h1, fin z h1 (fun w => ?_) (fun w => ?_)⟩
    · rw [ex, ey]; exact run_eqGuard_plain (by simp) (by simp) w
    · rw [ex, ey]; exact hrun t w
  · rename_i c d
    have ex := hx.eq (by simp)
    have ey := hy.eq (by simp)
    have okx := (hx.okay (by simp)).1
    have oky := (hy.okay (by simp)).1
    simp only [conc, CV.val] at ex ey
    split at h
    · rename_i i hi
      cases hb : (i.eq && (kindLB i.zero c && kindLB i.zero d)) with
      | false => simp [hb] at h
      | true =>
        simp only [hb, cond_true] at h
        simp only [Bool.and_eq_true] at hb
        obtain ⟨hb1, hb2, hb3⟩ := hb
        have ho := hT t i hi
        obtain ⟨ha, hg, hq, _⟩ := ho.eqOk hb1
        obtain ⟨ds, hds, hk⟩ := ho.desc
        have vl : ∀ cs : List Value, Vl P t (.agg cs.toArray) cs := by
          intro cs
          rw [← hk] at ha
          unfold Vl
          rw [hds]
          cases ds <;> simp [TK.of, TK.agg] at ha <;> rfl
        have heq : ∀ w, (Op.equal t (.agg (LB.cells c).toArray) (.agg (LB.cells d).toArray)).run P w = .ok (eqLB c d) w := by
          intro w
          have := good_eq (P := P) 9950 50 t _ hg w _ _ _ _ (vl (LB.cells c)) (vl (LB.cells d)) (kindLB_spec ho.zok okx hb2) (kindLB_spec ho.zok oky hb3)
          rw [eqLB_spec okx oky hb2 hb3] at this
          exact this
        split at h
        · refine ⟨_, _, h, .v rfl, fin _ rfl (fun w => ?_) (fun w => ?_)⟩
          · rw [ex, ey]; exact run_eqGuard_agg w _ _ _ _ _ _ hq
          · rw [ex, ey]
            show (binOp .eql t _ _).run P w = _
            simp only [binOp, Sem.run_bind, heq w, Result.andThen_ok, Sem.run_pure]
        · refine ⟨_, _, h, .v rfl, fin _ rfl (fun w => ?_) (fun w => ?_)⟩
          · rw [ex, ey]; exact run_eqGuard_agg w _ _ _ _ _ _ hq
          · rw [ex, ey]
            show (binOp .neq t _ _).run P w = _
            simp only [binOp, Sem.run_bind, heq w, Result.andThen_ok, Sem.run_pure]
        · exact h.elim
    · exact h.elim
  · split at h
    · rename_i x' y' e1 e2
      have ex := toV_spec hx e1
      have ey := toV_spec hy e2
      split at h
      · rename_i i hi
        split at h
        · obtain ⟨⟨r, hr, hw⟩, g1, g2⟩ := vEq_spec (hT t i hi) h
          refine ⟨_, .bool r, hr, .v rfl, fin _ rfl (fun w => ?_) (fun w => ?_)⟩
          · rw [ex, ey]; exact run_eqGuard_plain g1 g2 w
          · rw [ex, ey]; exact (hw w).1
        · obtain ⟨⟨r, hr, hw⟩, g1, g2⟩ := vEq_spec (hT t i hi) h
          refine ⟨_, .bool !r, hr, .v rfl, fin _ rfl (fun w => ?_) (fun w => ?_)⟩
          · rw [ex, ey]; exact run_eqGuard_plain g1 g2 w
          · rw [ex, ey]; exact (hw w).2
        · exact h.elim
      · exact h.elim
    · exact h.elim

theorem fUn_spec {op : UnOp} {t : TypeId} {xo : Operand} {x : SV} {K : SV → Prop} (hx : Fits ρ x (a.eval xo)) (h : fUn op x K) : ∃ sv v, K sv ∧ Fits ρ sv v ∧ Yld P a (.unOp op t xo) [] W v := by
  have fin : ∀ z : Value, (∀ w, (Op.unary op (a.eval xo)).run P w = .ok z w) → Yld P a (.unOp op t xo) [] W z := by
    intro z hb o ho W' _
    simp [execOp, ho, hb]
  unfold fUn at h
  split at h
  all_goals first
    | exact h.elim
    | (have ex := hx.eq (by simp)
       simp only [conc, CV.val] at ex
       first
         | exact ⟨_, _, h, .v rfl, fin _ (fun w => by rw [ex]; simp [Op.unary, Op.intArith, Op.intBits, bitsOf])⟩
         | exact ⟨_, _, h, .mk trivial trivial, fin _ (fun w => by rw [ex]; simp [Op.unary, conc])⟩)

theorem fNil_spec {xo : Operand} {x : SV} {K : SV → Prop} (hx : Fits ρ x (a.eval xo)) (h : fNil x K) : ∃ sv v, K sv ∧ Fits ρ sv v ∧ Yld P a (.nilCheck xo) [] W v := by
  unfold fNil at h
  split at h
  all_goals first
    | exact h.elim
    | (have ex := hx.eq (by simp)
       have eo := hx.okay (by simp)
       refine ⟨_, _, h, .mk eo.1 eo.2, fun o ho W' _ => ?_⟩
       simp only [conc, CV.val] at ex
       simp [execOp, ho, ex, conc, CV.val])

theorem fConv_spec (hT : TabOk P T) {src dst : TypeId} {xo : Operand} {x : SV} {K : SV → Prop} (hx : Fits ρ x (a.eval xo)) (h : fConv T src dst x K) : ∃ sv v, K sv ∧ Fits ρ sv v ∧ Yld P a (.convert src dst xo) [] W v := by
  unfold fConv at h
  split at h
  · rename_i si di hs hd
    obtain ⟨sd, hsk, hsr⟩ := (hT src si hs).run_und
    obtain ⟨dd, hdk, hdr⟩ := (hT dst di hd).run_und
    split at h
    · rename_i k _ _ hk
      have ex := hx.eq (by simp)
      simp only [conc, CV.val] at ex
      refine ⟨_, _, h, .v rfl, fun o ho W' _ => ?_⟩
      rw [hk] at hdk
      cases dd <;> simp [TK.of] at hdk
      subst hdk
      simp only [execOp, ho, ex, convert, Sem.run_bind, hsr, hdr, Result.andThen_ok]
      cases sd <;> simp [Conv.intToInt, conc, CV.val]
    · rename_i _ hk
      have ex := hx.eq (by simp)
      simp only [conc, CV.val] at ex
      refine ⟨_, _, h, .v rfl, fun o ho W' _ => ?_⟩
      rw [hk] at hdk
      cases dd <;> simp [TK.of] at hdk
      simp only [execOp, ho, ex, convert, Sem.run_bind, hsr, hdr, Result.andThen_ok]
      cases sd <;> simp [conc, CV.val]
    · exact h.elim
  · exact h.elim
end
end Go.E
