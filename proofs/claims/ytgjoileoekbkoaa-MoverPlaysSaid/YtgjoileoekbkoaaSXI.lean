/-
  SX, part I: operations: numbers, places, parts.
-/
import Derived.Test.YtgjoileoekbkoaaSXH
set_option linter.unusedVariables false
set_option linter.unusedSimpArgs false
namespace Go.SX

variable {C : Ctx} {Γ : Env} {β : Nat → Nat} {st : SState} {a : Act} {w : World} {o : Oper} {K : SState → Prop} {next : Act → World → Prop} {Q : Exit → Act → World → Prop} {r : Option Nat} {n : Nat}

theorem TI.ok.some {P : Program} {t : TypeId} {ti : TI} (h : ti.ok P t) : ∃ d, P.underlying t = some d := by
  have hu := h.und
  cases hk : ti.k <;> simp only [hk] at hu
  case ptr => obtain ⟨e, hu⟩ := hu; exact ⟨_, hu⟩
  case struct => obtain ⟨e, _, hu, _⟩ := hu; exact ⟨_, hu⟩
  case func => obtain ⟨a, b, c, hu⟩ := hu; exact ⟨_, hu⟩
  case oth => obtain ⟨a, b, hu⟩ := hu; exact ⟨_, hu⟩
  all_goals exact ⟨_, hu⟩

theorem op_nilCheck (hn : Γ.N = C.N) (hk : NxtE C β w K next) (hi : Inv C β st a w) {x : Operand} (ho : o.op = .nilCheck x) (h : opS Γ o st K) : Ev C o a w next := by
  simp only [opS, ho] at h
  cases hx : ev st.tm x with
  | none => simp only [hx] at h
  | some p =>
    simp only [hx] at h
    obtain ⟨h1, h2⟩ := ev_sound hi hx
    cases p <;> simp only [nilChkS] at h
    case optr ao k =>
      obtain ⟨hs, h⟩ := h
      have := hs w hi.now
      cases ao with
      | none => simp at this
      | some ad => exact fin_ev hn hk (by simp [ho]) (by simp [execOp, ho, h1, SV.den]) h hi h2
    all_goals exact fin_ev hn hk (by simp [ho]) (by simp [execOp, ho, h1, SV.den]) h hi h2

theorem op_unOp (hn : Γ.N = C.N) (hk : NxtE C β w K next) (hi : Inv C β st a w) {op : UnOp} {t : TypeId} {x : Operand} (ho : o.op = .unOp op t x) (h : opS Γ o st K) : Ev C o a w next := by
  simp only [opS, ho] at h
  cases hx : ev st.tm x with
  | none => simp only [hx] at h
  | some p =>
    simp only [hx] at h
    obtain ⟨h1, h2⟩ := ev_sound hi hx
    cases op <;> simp only [unS1] at h
    case not =>
      cases hb : boolOf p with
      | none => simp only [hb] at h
      | some q =>
        simp only [hb] at h
        exact fin_ev hn hk (by simp [ho]) (by simp [execOp, ho, h1, bool_den hb β, Op.unary, SV.den]) h hi ⟨rfl, trivial⟩
    all_goals
      split at h
      · exact fin_ev hn hk (by simp [ho]) (by simp [execOp, ho, h1, Op.unary, SV.den, Op.intArith, Op.intBits, bitsI]) h hi ⟨rfl, trivial⟩
      · exact h.elim

theorem op_makeFunc (hn : Γ.N = C.N) (hk : NxtE C β w K next) (hi : Inv C β st a w) {f : Fn} {fst caps : Array Operand} (ho : o.op = .makeFunc f fst caps) (h : opS Γ o st K) : Ev C o a w next := by
  simp only [opS, ho] at h
  cases f <;> simp only at h
  case func g =>
    cases hf : fst.toList with
    | cons _ _ => simp only [hf] at h
    | nil =>
      simp only [hf] at h
      cases hl : evL st.tm caps.toList with
      | none => simp only [hl] at h
      | some l =>
        simp only [hl] at h
        cases hsm : smplL l with
        | false => simp only [hsm] at h
        | true =>
        simp only [hsm] at h
        obtain ⟨h1, h2, h3⟩ := evL_sound hi hl
        have hfst : fst = #[] := by cases fst; simpa using hf
        refine fin_ev hn hk (by simp [ho]) ?_ h hi ⟨by simpa [SV.lt] using h2, hsm⟩
        have hc : Array.map a.eval caps = (denL β l).toArray := by rw [← h1]; cases caps; simp
        simp only [execOp, ho, hfst, Instr.makeFunc, SV.den, ← hc]
        simp

theorem struct_field {P : Program} {t : TypeId} {ti : TI} (hok : ti.ok P t) {fs : List (Nat × TypeId)} (hk : ti.k = .struct fs) {i off : Nat} {ft : TypeId} (hf : fs[i]? = some (off, ft)) :
    ∃ (F : Array Field) (f : Field), P.underlying t = some (.struct F) ∧ F[i]? = some f ∧ f.offset = off ∧ f.type = ft := by
  have hu := hok.und
  simp only [hk] at hu
  obtain ⟨F, pl, h1, h2, _⟩ := hu
  rw [← h2, List.getElem?_map] at hf
  cases hF : F.toList[i]? with
  | none => simp [hF] at hf
  | some f =>
    simp [hF] at hf
    exact ⟨F, f, h1, by simpa using hF, hf.1, hf.2⟩

theorem fieldAt_sound {P : Program} {ty : TypeId → Option TI} (hty : ∀ t ti, ty t = some ti → TI.ok P t ti) {t : TypeId} {i off : Nat} {fi : TI} (h : SX.fieldAt ty t i = some (off, fi)) :
    ∃ (F : Array Field) (f : Field), P.underlying t = some (.struct F) ∧ F[i]? = some f ∧ f.offset = off ∧ TI.ok P f.type fi := by
  unfold SX.fieldAt at h
  cases ht : ty t with
  | none => simp [ht] at h
  | some ti =>
    simp only [ht] at h
    cases hk : ti.k <;> simp only [hk] at h <;> try (cases h; done)
    case struct fs =>
      cases hf : fs[i]? with
      | none => simp [hf] at h
      | some p =>
        obtain ⟨off', ft⟩ := p
        simp only [hf] at h
        cases hft : ty ft with
        | none => simp [hft] at h
        | some fi' =>
          simp only [hft] at h
          cases h
          obtain ⟨F, f, h1, h2, h3, h4⟩ := struct_field (hty t ti ht) hk hf
          exact ⟨F, f, h1, h2, h3, by rw [h4]; exact hty ft _ hft⟩

theorem plusP_sound (hi : Inv C β st a w) {p : SV} {k : Nat} {K : SV → Prop} (h : plusP st.fx p k K) (hg : gd n p) : ∃ x, K x ∧ gd n x ∧ ∃ ad : Addr, p.den β = .pointer (some ad) ∧ x.den β = .pointer (some (ad.add k)) := by
  cases p <;> simp only [plusP] at h
  case ptr id o => exact ⟨_, h, hg, _, rfl, by simp [SV.den, add_pl]⟩
  case ptrx id o x => exact ⟨_, h, hg, _, rfl, by simp only [SV.den, add_pl]; rw [show o + k + x = o + x + k by omega]⟩
  case optr ao j =>
    have := h.1 w hi.now
    cases ao with
    | none => simp at this
    | some ad => exact ⟨_, h.2, hg, _, rfl, by simp [SV.den, add_add]⟩

theorem op_fieldAddr (hn : Γ.N = C.N) (hty : ∀ t ti, Γ.ty t = some ti → TI.ok C.P t ti) (hk : NxtE C β w K next) (hi : Inv C β st a w) {t : TypeId} {x : Operand} {i : Nat} (ho : o.op = .fieldAddr t x i) (h : opS Γ o st K) : Ev C o a w next := by
  simp only [opS, ho] at h
  cases hf : SX.fieldAt Γ.ty t i with
  | none => simp only [hf] at h
  | some q =>
    obtain ⟨off, fi⟩ := q
    simp only [hf] at h
    cases hz : Nat.beq fi.size 0 with
    | true => simp only [hz] at h
    | false =>
      simp only [hz] at h
      cases hx : ev st.tm x with
      | none => simp only [hx] at h
      | some p =>
        simp only [hx] at h
        obtain ⟨h1, h2⟩ := ev_sound hi hx
        obtain ⟨F, f, k1, k2, k3, k4⟩ := fieldAt_sound hty hf
        obtain ⟨y, g1, g2, ad, g3, g4⟩ := plusP_sound hi h h2
        have hne : fi.size ≠ 0 := by intro e; rw [e] at hz; simp at hz
        refine fin_ev hn hk (by simp [ho]) (x := y) ?_ g1 hi g2
        simp [execOp, ho, h1, g3, g4, Instr.fieldAt, run_underlying k1, k2, Instr.sureAddr, fieldPlace, k4.size, hne, k3]

theorem op_field (hn : Γ.N = C.N) (hty : ∀ t ti, Γ.ty t = some ti → TI.ok C.P t ti) (hk : NxtE C β w K next) (hi : Inv C β st a w) {t : TypeId} {x : Operand} {i : Nat} (ho : o.op = .field t x i) (h : opS Γ o st K) : Ev C o a w next := by
  simp only [opS, ho] at h
  cases hf : SX.fieldAt Γ.ty t i with
  | none => simp only [hf] at h
  | some q =>
    obtain ⟨off, fi⟩ := q
    simp only [hf] at h
    split at h
    · rename_i l hx
      obtain ⟨h1, h2⟩ := ev_sound hi hx
      cases hg : getS l off fi.size with
      | none => simp only [hg] at h
      | some l' =>
        simp only [hg] at h
        obtain ⟨F, f, k1, k2, k3, k4⟩ := fieldAt_sound hty hf
        obtain ⟨g1, g2, g3, g4⟩ := getS_spec (β := β) (n := st.nx) h2.2 (by simpa [SV.lt] using h2.1) hg
        obtain ⟨y, e1, e2, e3, e4⟩ := unS_sound β h g2 g3
        refine fin_ev hn hk (by simp [ho]) (x := y) ?_ e1 hi e2
        simp only [execOp, ho, h1, SV.den, Instr.field, Sem.run_bind, run_underlying k1, Result.andThen_ok, k2, asAgg, Sem.run_pure, part, k4.isAgg, k3]
        cases ha : fi.agg with
        | true =>
          simp only [if_true, Sem.run_bind, k4.size, Result.andThen_ok, Sem.run_pure, e3, ha, aggV, g1]
          congr 3
          simp [List.extract_eq_take_drop]
        | false =>
          obtain ⟨v, hv⟩ := e4 ha
          have h0 : (denS β l)[off]? = some v := by
            have : (denS β l')[0]? = some v := by rw [hv]; rfl
            rw [g1, List.getElem?_take] at this
            split at this
            · rw [List.getElem?_drop] at this; simpa using this
            · cases this
          simp [e3, ha, aggV, hv, h0]
    · exact h.elim

theorem denL_get (β : Nat → Nat) : ∀ {l : List SV} {i : Nat} {y : SV}, l[i]? = some y → (denL β l)[i]? = some (y.den β)
  | [], i, y, h => by simp at h
  | z :: r, 0, y, h => by simp at h; subst h; simp [denL]
  | z :: r, i + 1, y, h => by simp at h; simp [denL, denL_get β h]
theorem gd_get {n : Nat} : ∀ {l : List SV} {i : Nat} {y : SV}, ltL n l = true → okT l → l[i]? = some y → gd n y
  | [], i, y, _, _, h => by simp at h
  | z :: r, 0, y, h1, h2, h => by
    simp at h; subst h
    have hz : z.lt n = true ∧ ltL n r = true := by simpa [ltL] using h1
    exact ⟨hz.1, by have := h2.1; cases z <;> first | exact this | exact this.elim⟩
  | z :: r, i + 1, y, h1, h2, h => by
    have hz : z.lt n = true ∧ ltL n r = true := by simpa [ltL] using h1
    simp at h; exact gd_get hz.2 h2.2 h

theorem op_extract (hn : Γ.N = C.N) (hk : NxtE C β w K next) (hi : Inv C β st a w) {x : Operand} {i : Nat} (ho : o.op = .extract x i) (h : opS Γ o st K) : Ev C o a w next := by
  simp only [opS, ho] at h
  split at h
  · rename_i l hx
    obtain ⟨h1, h2⟩ := ev_sound hi hx
    cases hl : l[i]? with
    | none => simp only [hl] at h
    | some y =>
      simp only [hl] at h
      have hden := denL_get β hl
      have hgd := gd_get (by simpa [SV.lt] using h2.1) h2.2 hl
      exact fin_ev hn hk (by simp [ho]) (by simp [execOp, ho, h1, SV.den, Instr.extract, hden]) h hi hgd
  · exact h.elim

end Go.SX
