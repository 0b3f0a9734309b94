/-
  SX, part J: operations: indexes, comparisons, composites, lengths.
-/
import Derived.Test.YtgjoileoekbkoaaSXV
set_option linter.unusedVariables false
set_option linter.unusedSimpArgs false
namespace Go.SX

variable {C : Ctx} {Γ : Env} {β : Nat → Nat} {st : SState} {a : Act} {w : World} {o : Oper} {K : SState → Prop} {next : Act → World → Prop} {Q : Exit → Act → World → Prop} {r : Option Nat} {n : Nat}

theorem oneOfS_sound {id lo sz : Nat} {i : Int} {K : SV → Prop} : ∀ (n j : Nat), oneOfS id lo sz i K n j → ∀ d : Nat, d < n → i = ((j + d : Nat) : Int) → K (.ptr id (lo + (j + d) * sz))
  | 0, j, h, d, hd, _ => absurd hd (Nat.not_lt_zero d)
  | n + 1, j, h, 0, _, e => h.1 e
  | n + 1, j, h, d + 1, hd, e => by
    have := oneOfS_sound n (j + 1) h.2 d (by omega) (by rw [e]; congr 1; omega)
    rw [show j + (d + 1) = j + 1 + d by omega]; exact this

theorem indexAddrS_sound {P : Program} {ty : TypeId → Option TI} (hty : ∀ t ti, ty t = some ti → TI.ok P t ti) (hi : Inv C β st a w) {t : TypeId} {x : SV} {k : IntKind} {i : Int} {K : SV → Prop} (h : indexAddrS ty st.hp st.fx t x i K) (hx : gd n x) :
    ∃ y, K y ∧ gd n y ∧ (Instr.indexAt t (x.den β) (.int k i)).run P w = .ok (y.den β) w := by
  unfold indexAddrS at h
  cases ht : ty t with
  | none => simp only [ht] at h
  | some ti =>
    simp only [ht] at h
    have hu := (hty t ti ht).und
    cases hk : ti.k <;> simp only [hk] at h hu
    case slice e =>
      cases he : ty e with
      | none => simp only [he] at h
      | some ei =>
        simp only [he] at h
        have hsz := (hty e ei he).size
        split at h
        · rename_i ao m c
          obtain ⟨⟨h0, h1⟩, hs, h⟩ := h
          have := hs w hi.now
          cases ao with
          | none => simp at this
          | some ad =>
            refine ⟨_, h, ⟨rfl, trivial⟩, ?_⟩
            simp [SV.den, Instr.indexAt, asIntOf, run_underlying hu, h0, h1, hsz]
        · rename_i id m c z
          obtain ⟨⟨h0, h1, hc⟩, h⟩ := h
          refine ⟨_, h, ⟨hx.1, trivial⟩, ?_⟩
          simp [SV.den, Instr.indexAt, asIntOf, run_underlying hu, h0, h1, hsz, hc, add_pl]
        · rename_i id lo m c
          have plain : ((0 ≤ i ∧ i < (m : Int)) ∧ K (.ptrx id lo (i.toNat * ei.size))) → ∃ y, K y ∧ gd n y ∧ (Instr.indexAt t ((SV.sub id lo m c).den β) (.int k i)).run P w = .ok (y.den β) w := by
            rintro ⟨⟨h0, h1⟩, h⟩
            refine ⟨_, h, ⟨hx.1, trivial⟩, ?_⟩
            simp [SV.den, Instr.indexAt, asIntOf, run_underlying hu, h0, h1, hsz, add_pl]
          split at h
          · split at h
            · exact plain h
            · obtain ⟨⟨h0, h1⟩, h⟩ := h
              have := oneOfS_sound m 0 h i.toNat (by omega) (by omega)
              rw [Nat.zero_add] at this
              refine ⟨_, this, ⟨hx.1, trivial⟩, ?_⟩
              simp [SV.den, Instr.indexAt, asIntOf, run_underlying hu, h0, h1, hsz, add_pl]
          · exact plain h
        · exact h.elim
    case arr m e =>
      cases he : ty e with
      | none => simp only [he] at h
      | some ei =>
        simp only [he] at h
        have hsz := (hty e ei he).size
        split at h
        · rename_i id off
          obtain ⟨⟨h0, h1⟩, h⟩ := h
          refine ⟨_, h, ⟨hx.1, trivial⟩, ?_⟩
          simp [SV.den, Instr.indexAt, asIntOf, run_underlying hu, h0, h1, hsz, add_pl, Instr.sureAddr]
        · exact h.elim

theorem op_indexAddr (hn : Γ.N = C.N) (hty : ∀ t ti, Γ.ty t = some ti → TI.ok C.P t ti) (hk : NxtE C β w K next) (hi : Inv C β st a w) {t : TypeId} {x i : Operand} (ho : o.op = .indexAddr t x i) (h : opS Γ o st K) : Ev C o a w next := by
  simp only [opS, ho] at h
  cases hx : ev st.tm x with
  | none => simp only [hx] at h
  | some s =>
    simp only [hx] at h
    split at h
    · rename_i k m hm
      obtain ⟨h1, h2⟩ := ev_sound hi hx
      obtain ⟨h3, _⟩ := ev_sound hi hm
      obtain ⟨y, g1, g2, g3⟩ := indexAddrS_sound hty hi (k := k) h h2
      exact fin_ev hn hk (by simp [ho]) (by simp [execOp, ho, h1, h3, SV.den, g3]) g1 hi g2
    · exact h.elim

theorem nilPtr_den {x : SV} {p : Bool} (h : nilPtr x = some p) (β : Nat → Nat) : ∃ ao : Option Addr, x.den β = .pointer ao ∧ p = ao.isNone := by
  cases x <;> simp only [nilPtr] at h
  case nilp => cases h; exact ⟨_, rfl, rfl⟩
  case ptr => cases h; exact ⟨_, rfl, rfl⟩
  case ptrx => cases h; exact ⟨_, rfl, rfl⟩
  case optr ao k => cases h; exact ⟨_, rfl, by cases ao <;> rfl⟩
  all_goals cases h
theorem nilSlc_den {x : SV} {p : Bool} (h : nilSlc x = some p) (β : Nat → Nat) : ∃ (ao : Option Addr) (n c : Nat), x.den β = .slice ao n c ∧ p = ao.isNone := by
  cases x <;> simp only [nilSlc] at h
  case nils => cases h; exact ⟨_, _, _, rfl, rfl⟩
  case sub => cases h; exact ⟨_, _, _, rfl, rfl⟩
  case v y =>
    cases y <;> simp at h
    case slice ao n c => exact ⟨_, _, _, rfl, h.symm⟩
  case osl id n c z =>
    refine ⟨_, _, _, rfl, ?_⟩
    cases z <;> simp at h <;> subst h <;> by_cases hc : c = 0 <;> simp [hc, ZB.den, ZB.isNil]
  all_goals cases h
theorem nilFun_den {x : SV} {p : Bool} (h : nilFun x = some p) (β : Nat → Nat) : (x.den β = .nilFunc ∧ p = true) ∨ (∃ f c l, x.den β = .func f c l ∧ p = false) := by
  cases x <;> simp only [nilFun] at h
  case nilf => cases h; exact .inl ⟨rfl, rfl⟩
  case clo => cases h; exact .inr ⟨_, _, _, rfl, rfl⟩
  all_goals cases h

section
variable {P : Program} {t : TypeId}
theorem run_eqp (hu : ∃ e, P.underlying t = some (.pointer e)) (ao : Option Addr) (w : World) : (Op.equal t (.pointer ao) (.pointer none)).run P w = .ok ao.isNone w := by
  obtain ⟨e, hu⟩ := hu
  have h : ∀ d, (Op.equalIn (d + 1) t (.pointer ao) (.pointer none)).run P w = .ok ao.isNone w := fun d => by cases ao <;> simp [Op.equalIn, run_underlying hu]
  exact h 9999
theorem run_eqs {e : TypeId} (hu : P.underlying t = some (.slice e)) (ao : Option Addr) (n c : Nat) (w : World) : (Op.equal t (.slice ao n c) (.slice none 0 0)).run P w = .ok ao.isNone w := by
  have h : ∀ d, (Op.equalIn (d + 1) t (.slice ao n c) (.slice none 0 0)).run P w = .ok ao.isNone w := fun d => by cases ao <;> simp [Op.equalIn, run_underlying hu]
  exact h 9999
theorem run_eqf (hu : ∃ a b c, P.underlying t = some (.func a b c)) {x : Value} {p : Bool} (h : (x = .nilFunc ∧ p = true) ∨ (∃ f c l, x = .func f c l ∧ p = false)) (w : World) : (Op.equal t x .nilFunc).run P w = .ok p w := by
  obtain ⟨a, b, c, hu⟩ := hu
  have h : ∀ d, (Op.equalIn (d + 1) t x .nilFunc).run P w = .ok p w := fun d => by rcases h with ⟨rfl, rfl⟩ | ⟨f, c, l, rfl, rfl⟩ <;> simp [Op.equalIn, run_underlying hu]
  exact h 9999
theorem run_eqb (hu : P.underlying t = some .bool) (p q : Bool) (w : World) : (Op.equal t (.bool p) (.bool q)).run P w = .ok (p == q) w := by
  have h : ∀ d, (Op.equalIn (d + 1) t (.bool p) (.bool q)).run P w = .ok (p == q) w := fun d => by simp [Op.equalIn, run_underlying hu]
  exact h 9999
end

theorem binInt_sound {P : Program} {op : BinOp} {t : TypeId} {k : IntKind} {x y : Int} {xo yo : Operand} {K : SV → Prop} (h : binInt op k x y K) (w : World) :
    ∃ z, K z ∧ gd n z ∧ Sem.run P (do eqGuard op t xo yo (.int k x) (.int k y); binOp op t (.int k x) (.int k y)) w = .ok (z.den β) w := by
  cases op <;> simp only [binInt] at h
  case quo => exact ⟨_, h.2, ⟨rfl, trivial⟩, by simp [eqGuard, binOp, Op.intDiv, h.1, SV.den]⟩
  case rem => exact ⟨_, h.2, ⟨rfl, trivial⟩, by simp [eqGuard, binOp, Op.intDiv, h.1, SV.den]⟩
  all_goals (first | exact h.elim | exact ⟨_, h, ⟨rfl, trivial⟩, by simp [eqGuard, binOp, Op.intArith, Op.intBits, Op.intCmp, bitsI, SV.den]⟩)

theorem binStr_sound {P : Program} {op : BinOp} {t : TypeId} {x y : ByteArray} {xo yo : Operand} {K : SV → Prop} (h : binStr op x y K) (w : World) :
    ∃ z, K z ∧ gd n z ∧ Sem.run P (do eqGuard op t xo yo (.string x) (.string y); binOp op t (.string x) (.string y)) w = .ok (z.den β) w := by
  cases op <;> simp only [binStr] at h
  case add =>
    refine ⟨_, h.2, ⟨rfl, trivial⟩, ?_⟩
    have h1 : ¬ (((x.size + y.size : Nat) : Int) > IntKind.i64.max) := by
      have : IntKind.i64.max = 9223372036854775807 := by decide
      rw [this]; have := h.1; omega
    simp only [eqGuard, binOp, Op.stringOp, if_neg h1, SV.den]
    simp
  all_goals (first | exact h.elim | exact ⟨_, h, ⟨rfl, trivial⟩, by simp [eqGuard, binOp, Op.stringOp, SV.den]⟩)

theorem eqRes_sound {P : Program} {op : BinOp} {t : TypeId} {x y : Value} {p : Bool} {xo yo : Operand} {K : SV → Prop} (h : eqRes op p K) (w : World) (hg : ∀ op, (eqGuard op t xo yo x y).run P w = .ok () w) (he : (Op.equal t x y).run P w = .ok p w)
    (hb : binOp op t x y = (match op with | .eql => (do pure (.bool (← Op.equal t x y))) | .neq => (do pure (.bool (!(← Op.equal t x y)))) | _ => binOp op t x y)) :
    ∃ z, K z ∧ gd n z ∧ Sem.run P (do eqGuard op t xo yo x y; binOp op t x y) w = .ok (z.den β) w := by
  cases op <;> simp only [eqRes] at h hb
  case eql => exact ⟨_, h, ⟨rfl, trivial⟩, by simp [hg, hb, he, SV.den]⟩
  case neq => exact ⟨_, h, ⟨rfl, trivial⟩, by simp [hg, hb, he, SV.den]⟩

theorem binS_sound {P : Program} {t : TypeId} {ti : TI} (hok : ti.ok P t) {op : BinOp} {x y : SV} {xo yo : Operand} {K : SV → Prop} (h : binS ti.k op x y K) (w : World) :
    ∃ z, K z ∧ gd n z ∧ Sem.run P (do eqGuard op t xo yo (x.den β) (y.den β); binOp op t (x.den β) (y.den β)) w = .ok (z.den β) w := by
  unfold binS at h
  have hu := hok.und
  cases hk : ti.k <;> simp only [hk] at h hu
  case int k =>
    split at h
    · rename_i k1 m1
      split at h
      · rename_i k2 m2
        split at h
        · exact ⟨_, h.2, ⟨rfl, trivial⟩, by
            have : ¬ (m2 < 0) := by have := h.1; omega
            simp [eqGuard, binOp, Op.shift, this, shlI, SV.den]⟩
        · exact ⟨_, h.2, ⟨rfl, trivial⟩, by
            have : ¬ (m2 < 0) := by have := h.1; omega
            simp [eqGuard, binOp, Op.shift, this, shrI, SV.den]⟩
        · cases hb : Nat.beq (ikN k1) (ikN k2) with
          | false => simp only [hb] at h
          | true =>
            simp only [hb] at h
            have e : k1 = k2 := by
              have := Nat.eq_of_beq_eq_true hb
              cases k1 <;> cases k2 <;> first | rfl | (simp [ikN] at this)
            subst e
            exact binInt_sound h w
      · exact h.elim
    · exact h.elim
  case str =>
    split at h
    · split at h
      · exact binStr_sound h w
      · exact h.elim
    · exact h.elim
  case bool =>
    cases hx : boolOf x with
    | none => simp only [hx] at h
    | some p =>
      simp only [hx] at h
      cases hy : boolOf y with
      | none => simp only [hy] at h
      | some q =>
        simp only [hy] at h
        rw [bool_den hx β, bool_den hy β]
        exact eqRes_sound h w (fun op => by cases op <;> simp [eqGuard]) (run_eqb hu p q w) (by cases op <;> rfl)
  case ptr =>
    split at h
    · cases hx : nilPtr x with
      | none => simp only [hx] at h
      | some p =>
        simp only [hx] at h
        obtain ⟨ao, e, rfl⟩ := nilPtr_den hx β
        rw [e]
        exact eqRes_sound h w (fun op => by cases op <;> simp [eqGuard, SV.den]) (run_eqp hu ao w) (by cases op <;> rfl)
    · exact h.elim
  case slice e =>
    split at h
    · cases hx : nilSlc x with
      | none => simp only [hx] at h
      | some p =>
        simp only [hx] at h
        obtain ⟨ao, m, c, e, rfl⟩ := nilSlc_den hx β
        rw [e]
        exact eqRes_sound h w (fun op => by cases op <;> simp [eqGuard, SV.den]) (run_eqs hu ao m c w) (by cases op <;> rfl)
    · exact h.elim
  case func =>
    split at h
    · cases hx : nilFun x with
      | none => simp only [hx] at h
      | some p =>
        simp only [hx] at h
        have hd := nilFun_den hx β
        have hd2 := hd
        rcases hd2 with ⟨e, _⟩ | ⟨f, c, l, e, _⟩ <;>
        · rw [e] at hd ⊢
          exact eqRes_sound h w (fun op => by cases op <;> simp [eqGuard, SV.den]) (run_eqf hu hd w) (by cases op <;> rfl)
    · exact h.elim

theorem op_binOp (hn : Γ.N = C.N) (hty : ∀ t ti, Γ.ty t = some ti → TI.ok C.P t ti) (heq : ∀ t ks, Γ.eq t = some ks → EqOk C.P t ks) (hk : NxtE C β w K next) (hi : Inv C β st a w) {op : BinOp} {t t' : TypeId} {x y : Operand} (ho : o.op = .binOp op t x y t') (h : opS Γ o st K) : Ev C o a w next := by
  simp only [opS, ho] at h
  cases ht : Γ.ty t with
  | none => simp only [ht] at h
  | some ti =>
    simp only [ht] at h
    cases hx : ev st.tm x with
    | none => simp only [hx] at h
    | some s =>
      simp only [hx] at h
      cases hy : ev st.tm y with
      | none => simp only [hy] at h
      | some s' =>
        simp only [hy] at h
        obtain ⟨h1, h2⟩ := ev_sound hi hx
        obtain ⟨h3, h4⟩ := ev_sound hi hy
        split at h
        · obtain ⟨p, g1, g3⟩ := eqAgg_sound (β := β) heq (xo := x) (yo := y) h w
          refine fin_ev hn hk (by simp [ho]) (x := .b p) ?_ g1 hi ⟨rfl, trivial⟩
          simp only [execOp, ho, h1, h3, Sem.run_bind, Result.andThen_ok, Sem.run_pure] at g3 ⊢
          rw [g3]; rfl
        · obtain ⟨z, g1, g2, g3⟩ := binS_sound (n := st.nx) (β := β) (P := C.P) (hty t ti ht) (xo := x) (yo := y) h w
          refine fin_ev hn hk (by simp [ho]) (x := z) ?_ g1 hi g2
          simp only [execOp, ho, h1, h3, Sem.run_bind, Result.andThen_ok, Sem.run_pure] at g3 ⊢
          rw [g3]; rfl

end Go.SX
