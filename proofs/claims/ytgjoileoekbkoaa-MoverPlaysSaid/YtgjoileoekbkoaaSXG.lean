/-
  SX, part G: operations: memory.
-/
import Derived.Test.YtgjoileoekbkoaaSXF
set_option linter.unusedVariables false
set_option linter.unusedSimpArgs false
namespace Go.SX

variable {C : Ctx} {Γ : Env} {β : Nat → Nat} {st : SState} {a : Act} {w : World} {o : Oper} {K : SState → Prop} {next : Act → World → Prop} {Q : Exit → Act → World → Prop} {r : Option Nat} {n : Nat}

theorem cells_ok {x : SV} {l : List Seg} (h : cellsOf x = some l) (hg : okV x) : okS l := by
  cases x <;> simp only [cellsOf] at h
  case agg l' => cases h; exact hg
  case tup => cases h
  case v y =>
    cases hy : one1 y with
    | false => simp [hy] at h
    | true => simp only [hy] at h; cases h; exact ⟨hy, trivial⟩
  all_goals (cases h; exact ⟨by first | exact hg | trivial, trivial⟩)
/-- The cells of what can be stored are values of one cell. -/
theorem cells_one {x : SV} {l : List Seg} (h : cellsOf x = some l) : True := trivial

theorem nf00 (n : Nat) : nf (0, 0) n := fun o _ => by simp

theorem newVar_run {P : Program} (t : TypeId) (v : Value) (w : World) : (newVar t v).run P w = .ok ⟨w.heap.size, 0, none⟩ (w.alloc (.cells v.cells t)) := by
  simp [newVar, newRow, Sem.run_bind]

theorem op_alloc (hC : CtxOk C) (hn : Γ.N = C.N) (hty : ∀ t ti, Γ.ty t = some ti → TI.ok C.P t ti) (hk : Nxt C K next) (hi : Inv C β st a w) {t : TypeId} (ho : o.op = .alloc t) (h : opS Γ o st K) : o.wpIn (FW r) n C.P a w next Q := by
  simp only [opS, ho] at h
  cases ht : Γ.ty t with
  | none => simp only [ht] at h
  | some ti =>
    simp only [ht] at h
    have hok := hty t ti ht
    obtain ⟨z, hz, hzc⟩ := hok.zero w
    have hnew := Inv.new hC hi (b := .cells ti.zero) (o := .cells z.cells t) (fun β' _ => ⟨hok.zok, t, (0, 0), by rw [← hzc β'], nf00 _⟩) (by simpa [SB.lt] using ltS_mono (Nat.zero_le _) _ hok.zlt)
    refine fin_val hn hk (by simp [ho]) (x := .ptr st.nx 0) ?_ h hnew ⟨by simp [SV.lt, newS, Nat.blt], trivial⟩
    simp only [execOp, ho, Instr.alloc, Sem.run_bind, hz, Result.andThen_ok, newVar_run, SV.den, up_same]
    try simp

theorem op_box (hC : CtxOk C) (hn : Γ.N = C.N) (hk : Nxt C K next) (hi : Inv C β st a w) {t : TypeId} {x : Operand} (ho : o.op = .box t x) (h : opS Γ o st K) : o.wpIn (FW r) n C.P a w next Q := by
  simp only [opS, ho] at h
  cases hx : ev st.tm x with
  | none => simp only [hx] at h
  | some s =>
    simp only [hx] at h
    cases hc : cellsOf s with
    | none => simp only [hc] at h
    | some l =>
      simp only [hc] at h
      obtain ⟨h1, h2, h3⟩ := ev_sound hi hx
      obtain ⟨g1, g2⟩ := cells_den hc β
      have hls := g2 _ h2
      have hnew := Inv.new hC hi (b := .cells l) (o := .cells (s.den β).cells t) (fun β' hb => ⟨cells_ok hc h3, t, (0, 0), by rw [g1, denS_congr (fun i hi => (hb i hi).symm) l hls], nf00 _⟩) (by simpa [SB.lt] using hls)
      refine fin_val hn hk (by simp [ho]) (x := .ptr st.nx 0) ?_ h hnew ⟨by simp [SV.lt, newS, Nat.blt], trivial⟩
      simp only [execOp, ho, Instr.box, Sem.run_bind, h1, Result.andThen_ok, newVar_run, SV.den, up_same]
      simp

/-! ### Load -/
theorem ldv_sound (β : Nat → Nat) (n : Nat) {c : CK} {R : Value → Prop} {K : SV → Prop} (h : ldv c R K) : ∃ x, K x ∧ x.lt n = true ∧ isC x ∧ R (x.den β) := by
  cases c <;> simp only [ldv] at h
  case int k => obtain ⟨m, h1, h2⟩ := h; exact ⟨_, h2, rfl, by simp [isC, one1], h1⟩
  case bool => obtain ⟨m, h1, h2⟩ := h; exact ⟨_, h2, rfl, by simp [isC, one1], h1⟩
  case str => obtain ⟨m, h1, h2⟩ := h; exact ⟨_, h2, rfl, by simp [isC, one1], h1⟩
  case slc => obtain ⟨m, k, l, h1, h2⟩ := h; exact ⟨_, h2, rfl, by simp [isC, one1], h1⟩
  case ptr => obtain ⟨m, h1, h2⟩ := h; exact ⟨_, h2, rfl, by simp [isC], by simp only [SV.den, map_add_zero]; exact h1⟩
theorem ldCells_sound (β : Nat → Nat) (n : Nat) : ∀ {ck : List CK} {i : Nat} {R : Nat → Value → Prop} {K : List Seg → Prop}, ldCells ck i R K → ∃ l, K l ∧ okS l ∧ ltS n l = true ∧ (denS β l).length = ck.length ∧ ∀ j v, (denS β l)[j]? = some v → R (i + j) v
  | [], i, R, K, h => ⟨[], h, trivial, rfl, by simp [denS], fun j v hj => by simp [denS] at hj⟩
  | c :: ck, i, R, K, h => by
    obtain ⟨x, h1, h2, hx, h3⟩ := ldv_sound β n h
    obtain ⟨l, g1, g2, g3, g4, g5⟩ := ldCells_sound β n h1
    refine ⟨_, g1, ⟨hx, g2⟩, by simp [ltS, Seg.lt, h2, g3], by simp [denS, Seg.den, g4], fun j v hj => ?_⟩
    cases j with
    | zero => simp [denS, Seg.den] at hj; subst hj; exact h3
    | succ j => simp [denS, Seg.den] at hj; rw [show i + (j + 1) = i + 1 + j by omega]; exact g5 j v hj

theorem unS_sound (β : Nat → Nat) {n : Nat} {ti : TI} {l : List Seg} {K : SV → Prop} (h : unS ti l K) (hok : okS l) (hl : ltS n l = true) :
    ∃ x, K x ∧ gd n x ∧ x.den β = aggV ti.agg (denS β l) ∧ (ti.agg = false → ∃ v, denS β l = [v]) := by
  unfold unS at h
  cases hg : ti.agg with
  | true => simp only [hg] at h; exact ⟨_, h, ⟨by simpa [SV.lt] using hl, hok⟩, by simp [SV.den, aggV], by simp⟩
  | false =>
    simp only [hg] at h
    split at h
    · rename_i x
      have hx : x.lt n = true := by simpa [ltS, Seg.lt] using hl
      refine ⟨x, h, ⟨hx, ?_⟩, by simp [denS, Seg.den, aggV], fun _ => ⟨x.den β, by simp [denS, Seg.den]⟩⟩
      exact isC.okV hok.1
    · exact h.elim

theorem ldMany_sound (β : Nat → Nat) (n : Nat) {ti : TI} {R : Nat → Value → Prop} {K : SV → Prop} (h : ldMany ti R K) :
    ∃ l x, K x ∧ gd n x ∧ x.den β = aggV ti.agg (denS β l) ∧ (ti.agg = false → ∃ v, denS β l = [v]) ∧
      (denS β l).length = ti.size ∧ 0 < ti.size ∧ ∀ j v, (denS β l)[j]? = some v → R j v := by
  unfold ldMany at h
  cases hb : Nat.beq ti.ck.length ti.size with
  | false => simp [hb] at h
  | true =>
    have hb' := Nat.eq_of_beq_eq_true hb
    simp only [hb] at h
    cases hc : ti.ck with
    | nil => simp [hc] at h
    | cons c rest =>
      simp only [hc] at h
      obtain ⟨l, g1, g2, g3, g4, g5⟩ := ldCells_sound β n h
      obtain ⟨x, k1, k2, k3, k4⟩ := unS_sound β g1 g2 g3
      rw [← hb', hc] 
      exact ⟨l, x, k1, k2, k3, k4, g4, by simp, fun j v hj => by simpa using g5 j v hj⟩

theorem loadS_sound {P : Program} {t : TypeId} {ti : TI} (hok : ti.ok P t) (hi : Inv C β st a w) {p : SV} {K : SV → Prop} (h : loadS ti st.hp st.fx p K) :
    ∃ x, K x ∧ gd st.nx x ∧ (Instr.loadAt t (p.den β)).run P w = .ok (x.den β) w := by
  have fin : ∀ (ad : Addr) (R : Nat → Value → Prop), p.den β = .pointer (some ad) → ldMany ti R K → (∀ j v, R j v → w.cell? (ad.add j) = some v) → ∃ x, K x ∧ gd st.nx x ∧ (Instr.loadAt t (p.den β)).run P w = .ok (x.den β) w := by
    intro ad R hp hl hR
    obtain ⟨l, x, k1, k2, k3, k4, k5, _, k6⟩ := ldMany_sound β st.nx hl
    refine ⟨x, k1, k2, ?_⟩
    rw [hp, run_loadAt hok ad (denS β l) k5 (fun j v hj => hR j v (k6 j v hj)) k4, k3]
  cases p <;> simp only [loadS] at h
  case ptr id off =>
    cases hl : lk st.hp id with
    | none => simp only [hl] at h
    | some s =>
      have hb := (hi.hp.blk id s hl).1
      have hlt := (hi.hp.blk id s hl).2.1
      cases s with
      | cells l =>
        simp only [hl] at h
        obtain ⟨hok', ty, fz, hw, hnf⟩ := hb
        cases hg : getS l off ti.size with
        | some l' =>
          simp only [hg] at h
          obtain ⟨g1, g2, g3, g4⟩ := getS_spec (β := β) hok' (by simpa [SB.lt] using hlt) hg
          obtain ⟨x, k1, k2, k3, k4⟩ := unS_sound β h g2 g3
          refine ⟨x, k1, k2, ?_⟩
          have hlen : (denS β l').length = ti.size := by rw [g1]; simp; omega
          simp only [SV.den]
          rw [run_loadAt hok ⟨β id, off, none⟩ (denS β l') hlen (fun j v hj => ?_) k4, k3]
          rw [add_pl, cell_at hw]
          rw [g1] at hj
          rw [List.getElem?_take] at hj
          split at hj
          · rw [List.getElem?_drop] at hj; exact hj
          · cases hj
        | none =>
          simp only [hg] at h
          cases hm : locM l off with
          | none => simp only [hm] at h
          | some p =>
            obtain ⟨j, vs⟩ := p
            simp only [hm] at h
            obtain ⟨s, h1, h2, h3, h4⟩ := locM_spec β l off j vs hok' hm
            refine fin ⟨β id, off, none⟩ _ rfl h (fun i v hv => ?_)
            rw [add_pl, cell_at hw, h1, show s + j + i = s + (j + i) by omega, h3 _ (by have := (List.getElem?_eq_some_iff.1 hv).1; exact this)]
            exact hv
      | orow vs len cap sz =>
        simp only [hl] at h
        refine fin ⟨β id, off, none⟩ _ rfl h (fun i v hv => ?_)
        obtain ⟨h1, h2, h3⟩ := hb
        rcases h3 with h3 | ⟨rest, ty, fz, h3, h4, h5⟩
        · exfalso
          have := (List.getElem?_eq_some_iff.1 hv).1
          have : len = 0 := by omega
          simp [this] at h1
          simp [h1] at hv
        · rw [add_pl, cell_at h4, List.getElem?_append_left (List.getElem?_eq_some_iff.1 hv).1]; exact hv
  case ptrx id off ix =>
    cases hl : lk st.hp id with
    | none => simp only [hl] at h
    | some s =>
      have hb := (hi.hp.blk id s hl).1
      cases s with
      | cells l =>
        simp only [hl] at h
        obtain ⟨hok', ty, fz, hw, hnf⟩ := hb
        cases hm : locM l off with
        | none => simp only [hm] at h
        | some p =>
          obtain ⟨j, vs⟩ := p
          simp only [hm] at h
          obtain ⟨s, h1, h2, h3, h4⟩ := locM_spec β l off j vs hok' hm
          refine fin ⟨β id, off + ix, none⟩ _ rfl h (fun i v hv => ?_)
          rw [add_pl, cell_at hw, h1, show s + j + ix + i = s + (j + ix + i) by omega, h3 _ (List.getElem?_eq_some_iff.1 hv).1]
          exact hv
      | orow vs len cap sz =>
        simp only [hl] at h
        refine fin ⟨β id, off + ix, none⟩ _ rfl h (fun i v hv => ?_)
        obtain ⟨h1, h2, h3⟩ := hb
        rcases h3 with h3 | ⟨rest, ty, fz, h3, h4, h5⟩
        · exfalso
          have : len = 0 := by omega
          simp [this] at h1
          simp [h1] at hv
        · rw [add_pl, cell_at h4, List.getElem?_append_left (List.getElem?_eq_some_iff.1 hv).1]; exact hv
  case optr ao k =>
    obtain ⟨l, x, k1, k2, k3, k4, k5, k7, k6⟩ := ldMany_sound β st.nx h
    have hnow := hi.now
    obtain ⟨v0, hv0⟩ : ∃ v0, (denS β l)[0]? = some v0 := ⟨_, List.getElem?_eq_getElem (by omega)⟩
    obtain ⟨ad, rfl, _⟩ := k6 0 v0 hv0 w hnow
    refine ⟨x, k1, k2, ?_⟩
    simp only [SV.den, Option.map_some]
    rw [run_loadAt hok (ad.add k) (denS β l) k5 (fun j v hj => ?_) k4, k3]
    obtain ⟨ad', e, hc⟩ := k6 j v hj w hnow
    cases e
    rw [add_add]; exact hc

theorem op_load (hn : Γ.N = C.N) (hty : ∀ t ti, Γ.ty t = some ti → TI.ok C.P t ti) (hk : NxtE C β w K next) (hi : Inv C β st a w) {t : TypeId} {x : Operand} (ho : o.op = .load t x) (h : opS Γ o st K) : Ev C o a w next := by
  simp only [opS, ho] at h
  cases ht : Γ.ty t with
  | none => simp only [ht] at h
  | some ti =>
    simp only [ht] at h
    cases hx : ev st.tm x with
    | none => simp only [hx] at h
    | some p =>
      simp only [hx] at h
      obtain ⟨h1, _⟩ := ev_sound hi hx
      obtain ⟨y, g1, g2, g3⟩ := loadS_sound (hty t ti ht) hi h
      exact fin_ev hn hk (by simp [ho]) (by simp [execOp, ho, h1, g3]) g1 hi g2

end Go.SX
