/-
  SX, part F: the operations of the executor are the model's.
-/
import Derived.Test.YtgjoileoekbkoaaSXE
set_option linter.unusedVariables false
set_option linter.unusedSimpArgs false
namespace Go.SX

/-- The wide fence, within a round or not. -/
abbrev FW (r : Option Nat) : Fence := { Fence.wide with round := r }

variable {C : Ctx} {Γ : Env} {β : Nat → Nat} {st : SState} {a : Act} {w : World} {o : Oper} {K : SState → Prop} {next : Act → World → Prop} {Q : Exit → Act → World → Prop} {r : Option Nat} {n : Nat}

theorem wpIn_val {v : Value} {w' : World} (hnd : ∀ c, o.op ≠ .defer c) (hrun : (execOp a.eval o).run C.P w = .ok (.value v) w') (h : next (a.put o.dst v) w') : o.wpIn (FW r) n C.P a w next Q := by
  refine ⟨fun _ _ => trivial, ?_⟩
  rw [Oper.semAt_eq _ _ _ hnd, hrun]
  exact h
theorem wpIn_skp {w' : World} (hnd : ∀ c, o.op ≠ .defer c) (hrun : (execOp a.eval o).run C.P w = .ok .skip w') (h : next (a.put o.dst undef) w') : o.wpIn (FW r) n C.P a w next Q := by
  refine ⟨fun _ _ => trivial, ?_⟩
  rw [Oper.semAt_eq _ _ _ hnd, hrun]
  exact h

theorem cst_den (β : Nat → Nat) (n : Nat) (v : Value) : (cst v).den β = v ∧ gd n (cst v) := by
  unfold cst
  split <;> simp [SV.den, SV.lt, gd, okV, okV1]
theorem ev_sound (h : Inv C β st a w) {x : Operand} {s : SV} (he : ev st.tm x = some s) : a.eval x = s.den β ∧ gd st.nx s := by
  cases x with
  | tmp t =>
    obtain ⟨h1, h2⟩ := h.tm t s he
    exact ⟨by simp [Act.eval, Array.getD_eq_getD_getElem?, h1], h2⟩
  | const v =>
    simp only [ev] at he; cases he
    obtain ⟨h1, h2⟩ := cst_den β st.nx v
    exact ⟨h1.symm, h2⟩
  | global g => simp [ev] at he
  | func f => simp only [ev] at he; cases he; simp [Act.eval, SV.den, denL, SV.lt, ltL, gd, okV, okV1, smplL]
theorem evL_sound (h : Inv C β st a w) : ∀ {xs : List Operand} {l : List SV}, evL st.tm xs = some l → xs.map a.eval = denL β l ∧ ltL st.nx l = true ∧ ∀ x ∈ l, okV x
  | [], l, he => by simp only [evL] at he; cases he; simp [denL, ltL]
  | x :: xs, l, he => by
    simp only [evL] at he
    cases h1 : ev st.tm x with
    | none => simp [h1] at he
    | some y =>
      simp only [h1] at he
      cases h2 : evL st.tm xs with
      | none => simp [h2] at he
      | some l' =>
        simp only [h2] at he; cases he
        obtain ⟨g1, g2⟩ := ev_sound h h1
        obtain ⟨k1, k2⟩ := evL_sound h h2
        simp [denL, ltL, g1, g2.1, g2.2, k1, k2]; exact k2.2

theorem putS_sound (hn : Γ.N = C.N) {dst : Option Tmp} {x : SV} (h : putS Γ.N dst x st K) (hi : Inv C β st a w) (hx : gd st.nx x) : ∃ st', K st' ∧ Inv C β st' (a.put dst (x.den β)) w := by
  cases dst with
  | none => exact ⟨st, h, hi⟩
  | some d =>
    simp only [putS] at h
    cases hb : Nat.blt d Γ.N with
    | false => simp [hb] at h
    | true =>
      simp only [hb] at h
      exact ⟨_, h, hi.put (by rw [← hn]; exact blt_lt hb) hx⟩

/-- What follows is told of the state that the operation leaves. -/
def Nxt (C : Ctx) (K : SState → Prop) (next : Act → World → Prop) : Prop := ∀ β' st' a' w', K st' → Inv C β' st' a' w' → next a' w'

theorem fin_val (hn : Γ.N = C.N) (hk : Nxt C K next) {x : SV} {w' : World} {β' : Nat → Nat} {st' : SState} (hnd : ∀ c, o.op ≠ .defer c) (hrun : (execOp a.eval o).run C.P w = .ok (.value (x.den β')) w')
    (h : putS Γ.N o.dst x st' K) (hi : Inv C β' st' a w') (hx : gd st'.nx x) : o.wpIn (FW r) n C.P a w next Q := by
  obtain ⟨st2, h1, h2⟩ := putS_sound hn h hi hx
  exact wpIn_val hnd hrun (hk _ _ _ _ h1 h2)

/-- The same of an operation that leaves the world alone. -/
def NxtE (C : Ctx) (β : Nat → Nat) (w : World) (K : SState → Prop) (next : Act → World → Prop) : Prop := ∀ st' a', K st' → Inv C β st' a' w → next a' w
theorem Nxt.e (h : Nxt C K next) : NxtE C β w K next := fun st' a' => h β st' a' w
/-- The operation yields a value, leaves the world alone, and what follows holds. -/
def Ev (C : Ctx) (o : Oper) (a : Act) (w : World) (next : Act → World → Prop) : Prop := (∀ c, o.op ≠ .defer c) ∧ ∃ v, (execOp a.eval o).run C.P w = .ok (.value v) w ∧ next (a.put o.dst v) w
theorem Ev.wpIn (h : Ev C o a w next) : o.wpIn (FW r) n C.P a w next Q := by
  obtain ⟨h1, v, h2, h3⟩ := h
  exact wpIn_val h1 h2 h3
theorem fin_ev (hn : Γ.N = C.N) (hk : NxtE C β w K next) {x : SV} (hnd : ∀ c, o.op ≠ .defer c) (hrun : (execOp a.eval o).run C.P w = .ok (.value (x.den β)) w)
    (h : putS Γ.N o.dst x st K) (hi : Inv C β st a w) (hx : gd st.nx x) : Ev C o a w next := by
  obtain ⟨st2, h1, h2⟩ := putS_sound hn h hi hx
  exact ⟨hnd, _, hrun, hk _ _ h1 h2⟩

theorem op_move (hn : Γ.N = C.N) (hk : NxtE C β w K next) (hi : Inv C β st a w) {x : Operand} (ho : o.op = .move x ∨ o.op = .assign x) (h : opS Γ o st K) : Ev C o a w next := by
  rcases ho with ho | ho <;>
  · simp only [opS, ho] at h
    cases he : ev st.tm x with
    | none => simp only [he] at h
    | some s =>
      simp only [he] at h
      obtain ⟨h1, h2⟩ := ev_sound hi he
      exact fin_ev hn hk (by simp [ho]) (by simp [execOp, ho, h1]) h hi h2

theorem bool_den {x : SV} {p : Bool} (h : boolOf x = some p) (β : Nat → Nat) : x.den β = .bool p := by
  cases x <;> simp [boolOf] at h
  case v y => cases y <;> simp at h; subst h; rfl
  case b q => subst h; rfl

theorem op_pick (hn : Γ.N = C.N) (hk : NxtE C β w K next) (hi : Inv C β st a w) {c x y : Operand} (ho : o.op = .pick c x y) (h : opS Γ o st K) : Ev C o a w next := by
  simp only [opS, ho] at h
  split at h
  · rename_i he
    obtain ⟨hc, _⟩ := ev_sound hi he
    cases hx : ev st.tm x with
    | none => simp only [hx] at h
    | some s =>
      simp only [hx] at h
      obtain ⟨h1, h2⟩ := ev_sound hi hx
      exact fin_ev hn hk (by simp [ho]) (by simp [execOp, ho, hc, SV.den, asBool, h1]) h hi h2
  · rename_i he
    obtain ⟨hc, _⟩ := ev_sound hi he
    cases hx : ev st.tm y with
    | none => simp only [hx] at h
    | some s =>
      simp only [hx] at h
      obtain ⟨h1, h2⟩ := ev_sound hi hx
      exact fin_ev hn hk (by simp [ho]) (by simp [execOp, ho, hc, SV.den, asBool, h1]) h hi h2
  · rename_i p he
    obtain ⟨hc, _⟩ := ev_sound hi he
    cases hx : ev st.tm x with
    | none => simp only [hx] at h
    | some s =>
      simp only [hx] at h
      cases hb : boolOf s with
      | none => simp only [hb] at h
      | some u =>
        simp only [hb] at h
        cases hy : ev st.tm y with
        | none => simp only [hy] at h
        | some s' =>
          simp only [hy] at h
          cases hb' : boolOf s' with
          | none => simp only [hb'] at h
          | some u' =>
            simp only [hb'] at h
            obtain ⟨h1, h2⟩ := ev_sound hi hx
            obtain ⟨h3, h4⟩ := ev_sound hi hy
            refine fin_ev hn hk (by simp [ho]) ?_ h hi ⟨rfl, trivial⟩
            simp only [execOp, ho, hc, SV.den, asBool, h1, h3, bool_den hb, bool_den hb']
            cases p <;> simp
  · exact h.elim

theorem cells_den {x : SV} {l : List Seg} (h : cellsOf x = some l) (β : Nat → Nat) : (x.den β).cells = (denS β l).toArray ∧ ∀ n, x.lt n = true → ltS n l = true := by
  cases x <;> simp only [cellsOf] at h
  case agg l' => cases h; exact ⟨by simp [SV.den, Value.cells], fun n hn => by simpa [SV.lt] using hn⟩
  case tup => cases h
  case v y =>
    cases hy : one1 y with
    | false => simp [hy] at h
    | true =>
      simp only [hy] at h; cases h
      refine ⟨?_, fun n hn => by simp [ltS, Seg.lt, SV.lt]⟩
      cases y <;> simp_all [one1, SV.den, denS, Seg.den, Value.cells]
  all_goals (cases h; exact ⟨by simp [SV.den, Value.cells, denS, Seg.den], fun n hn => by simpa [ltS, Seg.lt] using hn⟩)

end Go.SX
