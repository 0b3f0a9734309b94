/-
  SX, part O: code.
-/
import Derived.Test.YtgjoileoekbkoaaSXX
set_option linter.unusedVariables false
set_option linter.unusedSimpArgs false
namespace Go.SX

/-- The state without an activation. -/
def HInv (C : Ctx) (β : Nat → Nat) (st : SState) (w : World) : Prop := Inv { C with N := 0 } β { st with tm := [] } { tmps := #[], defers := [] } w

/-- What a yield does: a round of the loop l. -/
def YOk (C : Ctx) (l : Nat) (Y : Yd) : Prop := ∀ (F : Nat) (β0 β : Nat → Nat) (st : SState) (w : World) (as : List SV) (K : Option SExit → SState → Prop), C.F ≤ F → (∀ i, i < C.F → β0 i = C.β0 i) → HInv { C with F := F, β0 := β0 } β st w → ltL st.nx as = true → (∀ x ∈ as, okV x) → Y as st K →
  ∃ f tmps assign body, (Instr.yield l (denL β as).toArray).run C.P w = .ok (.round l f tmps assign body) w ∧ ∀ r n, RoundIn (FW r) n C.P l f tmps assign body w fun e w' =>
    ∃ (β' : Nat → Nat) (st' : SState) (ex : Option SExit), e = .returned (.bool ex.isNone) ∧ K ex st' ∧ HInv { C with F := F, β0 := β0 } β' st' w' ∧ st.nx ≤ st'.nx ∧ (∀ i, i < st.nx → β' i = β i) ∧ AgreeOff (fun b => trk β st.hp b ∨ b ∈ C.ls) w w' ∧ ∀ i s, lk st'.hp i = some s → s.live → trk β st.hp (β' i) ∨ w.heap.size ≤ β' i

/-- An iterator, run for whatever the loop does. -/
def ItOk (P : Program) (f : FuncId) (I : Yd → Nat → List SV → SState → (SState → Prop) → Prop) : Prop := ∀ (C : Ctx) (l : Nat) (Y : Yd), C.P = P → CtxOk C → YOk C l Y → ∀ (β : Nat → Nat) (st : SState) (w : World) (as : List SV) (K : SState → Prop), HInv C β st w → ltL st.nx as = true → (∀ x ∈ as, okV x) → I Y l as st K →
  Calls P f (denL β as).toArray w fun e w' => ∃ v β' st', e = .returned v ∧ K st' ∧ HInv C β' st' w' ∧ st.nx ≤ st'.nx ∧ (∀ i, i < st.nx → β' i = β i) ∧ AgreeOff (fun b => trk β st.hp b ∨ b ∈ C.ls) w w' ∧ ∀ i s, lk st'.hp i = some s → s.live → trk β st.hp (β' i) ∨ w.heap.size ≤ β' i

/-- A function does what its transformer says. -/
def FnOk (P : Program) (g : FuncId) (I : FT) : Prop := ∀ (C : Ctx), C.P = P → CtxOk C → ∀ (yd : Option (Nat × Yd)), (∀ l Y, yd = some (l, Y) → YOk C l Y) → ∀ (β : Nat → Nat) (st : SState) (a : Act) (w : World) (as : List SV) (K : SState → SV → Prop), Inv C β st a w → I yd as st K → ltL st.nx as = true → (∀ x ∈ as, okV x) →
  Calls P g (denL β as).toArray w fun e w' => ∃ (β' : Nat → Nat) (st' : SState) (r : SV), e = .returned (r.den β') ∧ K st' r ∧ gd st'.nx r ∧ Inv C β' st' a w'

structure EnvOk (Γ : Env) (C : Ctx) : Prop where
  mo : C.P.follows .mixedOrders = true
  c : CtxOk C
  n : Γ.N = C.N
  f : Γ.F = C.F
  ty : ∀ t ti, Γ.ty t = some ti → TI.ok C.P t ti
  eq : ∀ t ks, Γ.eq t = some ks → EqOk C.P t ks
  fs : ∀ g I, Γ.fs g = some I → FnOk C.P g I ∧ ∀ args w, (callFunc g args).run C.P w = .ok (.enter g args) w
  yd : ∀ l Y, Γ.yd = some (l, Y) → YOk C l Y
  it : ∀ g I, Γ.it g = some I → ItOk C.P g I ∧ ∀ args w, (callFunc g args).run C.P w = .ok (.enter g args) w

variable {C : Ctx} {Γ : Env} {β : Nat → Nat} {st : SState} {a : Act} {w : World} {o : Oper} {K : SState → Prop} {next : Act → World → Prop} {Q : Exit → Act → World → Prop} {r : Option Nat} {n : Nat}

theorem calls_in {P : Program} {f : FuncId} {args : Array Value} {w : World} {R : Ending → World → Prop} (h : Calls P f args w R) (r : Option Nat) (n : Nat) : CallsIn (FW r) n P f args w R := by
  have h1 := callsIn_wide (n := n).2 h
  cases r with
  | none => exact h1
  | some l => exact h1

theorem Inv.h (h : Inv C β st a w) : HInv C β st w where
  siz := rfl
  dfr := ⟨[], rfl, List.nodup_nil, fun D hD => by simp at hD⟩
  tm := fun s x hs => by simp [lk] at hs
  hp := h.hp
  old := h.old
  frm := h.frm
  fx := h.fx
  xs := h.xs
  fix := h.fix
theorem HInv.act (h : HInv C β st w) {tm : List (Nat × SV)} {N : Nat} (h1 : a.tmps.size = N) (h2 : ∀ s x, lk tm s = some x → a.tmps[s]? = some (x.den β) ∧ gd st.nx x) (h3 : Dfr C.X C.w0.heap.size a.defers w) : Inv { C with N := N } β { st with tm := tm } a w where
  siz := h1
  dfr := h3
  tm := h2
  hp := h.hp
  old := h.old
  frm := h.frm
  fx := h.fx
  xs := h.xs
  fix := h.fix

theorem ltL_append (n : Nat) (a b : List SV) : ltL n (a ++ b) = (ltL n a && ltL n b) := by
  induction a with
  | nil => simp [ltL]
  | cons s r ih => simp [ltL, ih, Bool.and_assoc]

theorem exists_least {p : Nat → Prop} (h : ∃ n, p n) : ∃ n, p n ∧ ∀ m, p m → n ≤ m := by
  obtain ⟨n, hn⟩ := h
  induction n using Nat.strongRecOn with
  | _ n ih =>
    by_cases hm : ∃ m, m < n ∧ p m
    · obtain ⟨m, h1, h2⟩ := hm; exact ih m h1 h2
    · exact ⟨n, hn, fun m hp => by
        rcases Nat.lt_or_ge m n with h | h
        · exact absurd ⟨m, h, hp⟩ hm
        · exact h⟩
open Classical in
/-- A loop, by a relation that bears its measure. -/
theorem wpIn_loop_rel {F : Fence} {n : Nat} {P : Program} {c : Code} {Q : Exit → Act → World → Prop} {a : Act} {w : World} (I : Nat → Act → World → Prop) {m : Nat} (h0 : I m a w)
    (round : ∀ m a w, I m a w → c.wpIn F n P (Exit.then (fun a' w' => ∃ m', m' < m ∧ I m' a' w') Q) a w) : (Code.loop c).wpIn F n P Q a w := by
  refine wpIn_loop (fun a w => ∃ m, I m a w) (fun a w => if h : ∃ m, I m a w then Classical.choose (exists_least h) else 0) ⟨m, h0⟩ ?_
  intro a w hI
  have hs := Classical.choose_spec (exists_least hI)
  refine wpIn_mono (round _ a w hs.1) ?_
  intro e a' w' h
  cases e with
  | normal =>
    obtain ⟨m', hlt, hI'⟩ := h
    have hs' := Classical.choose_spec (exists_least (p := fun m => I m a' w') ⟨m', hI'⟩)
    refine ⟨⟨m', hI'⟩, ?_⟩
    simp only [dif_pos hI, dif_pos (show ∃ m, I m a' w' from ⟨m', hI'⟩)]
    exact Nat.lt_of_le_of_lt (hs'.2 m' hI') hlt
  | exit j => exact h
  | goto j => exact h
  | ret => exact h
  | panic j => exact h
  | outgrown => exact h

theorem op_call (hE : EnvOk Γ C) (hk : Nxt C K next) (hi : Inv C β st a w) {c : Call} {f : Operand} (ho : o.op = .call c) (hc : c.callee = .value f) (h : opS Γ o st K) : o.wpIn (FW r) n C.P a w next Q := by
  simp only [opS, ho, hc] at h
  split at h
  · rename_i g caps hf
    cases hS : Γ.fs g with
    | none => simp only [hS] at h
    | some I =>
      simp only [hS] at h
      cases hl : evL st.tm c.args.toList with
      | none => simp only [hl] at h
      | some as =>
        simp only [hl] at h
        obtain ⟨h1, h2⟩ := ev_sound hi hf
        obtain ⟨e1, e2, e3⟩ := evL_sound hi hl
        obtain ⟨hok, hent⟩ := hE.fs g I hS
        have hcaps : ltL st.nx caps = true := by simpa [SV.lt] using h2.1
        have hcl := hok C rfl hE.c Γ.yd hE.yd β st a w _ _ hi h (by rw [ltL_append, e2, hcaps]; rfl) (fun x hx => by
          rcases List.mem_append.1 hx with hx | hx
          · exact e3 x hx
          · exact smplL_ok h2.2 x hx)
        refine ⟨fun _ _ => trivial, ?_⟩
        rw [Oper.semAt_eq _ _ _ (by simp [ho])]
        have hargs : c.args.map a.eval = (denL β as).toArray := by rw [← e1]; cases c.args; simp
        have hrun : (execOp a.eval o).run C.P w = .ok (.enter g (denL β (as ++ caps)).toArray) w := by
          simp only [execOp, ho, resolve, hc, Sem.run_bind, Sem.run_pure, Result.andThen_ok, h1, SV.den, Deferred.ofValue, invoke, hargs, denL_append]
          rw [show (#[] ++ (denL β as).toArray ++ (denL β caps).toArray) = (denL β as ++ denL β caps).toArray by simp, hent]
        rw [hrun]
        refine ⟨fun h => by simp [Fence.wide] at h, ?_⟩
        refine calls_in (hcl.mono ?_) r _
        rintro e w' ⟨β', st', v, rfl, hK, hg, hi'⟩
        obtain ⟨st2, k1, k2⟩ := putS_sound hE.n hK hi' hg
        exact hk _ _ _ _ k1 k2
  · rename_i l x y hf
    cases hY : Γ.yd with
    | none => simp only [hY] at h
    | some q =>
      obtain ⟨l0, Y⟩ := q
      simp only [hY] at h
      cases hl : evL st.tm c.args.toList with
      | none => simp only [hl] at h
      | some as =>
        simp only [hl] at h
        have hu : x.toList = [] ∧ y.toList = [] := by
          cases hx : x.toList with
          | cons _ _ => simp only [hx] at h
          | nil =>
            simp only [hx] at h
            cases hy : y.toList with
            | cons _ _ => simp only [hy] at h
            | nil => exact ⟨rfl, rfl⟩
        obtain ⟨hu1, hu2⟩ := hu
        simp only [hu1, hu2] at h
        obtain rfl : x = #[] := by simpa using hu1
        obtain rfl : y = #[] := by simpa using hu2
        obtain ⟨rfl, h⟩ := h
        obtain ⟨h1, h2⟩ := ev_sound hi hf
        obtain ⟨e1, e2, e3⟩ := evL_sound hi hl
        obtain ⟨f, tmps, asg, bd, y1, y2⟩ := hE.yd l Y hY C.F C.β0 β st w as _ (Nat.le_refl _) (fun _ _ => rfl) hi.h e2 e3 h
        refine ⟨fun _ _ => trivial, ?_⟩
        rw [Oper.semAt_eq _ _ _ (by simp [ho])]
        have hargs : c.args.map a.eval = (denL β as).toArray := by rw [← e1]; cases c.args; simp
        have hrun : (execOp a.eval o).run C.P w = .ok (.round l f tmps asg bd) w := by
          simp only [execOp, ho, resolve, hc, Sem.run_bind, Sem.run_pure, Result.andThen_ok, h1, SV.den, hargs, Deferred.ofValue, invoke]
          simpa using y1
        rw [hrun]
        refine ⟨fun h => by simp [Fence.wide] at h, ?_⟩
        refine (y2 r (n - 1)).mono ?_
        rintro e w' ⟨β', st', ex, rfl, hK, hi', hnx, hβ, hdef, _⟩
        have hi2 : Inv C β' { st' with tm := st.tm } a w' := hi'.act hi.siz (fun s x hs => by
          obtain ⟨t1, t2⟩ := hi.tm s x hs
          exact ⟨by rw [t1, SV.den_congr (fun i hi' => (hβ i hi').symm) x t2.1], t2.mono hnx⟩) (hi.dfr.keepX hdef (fun b hb => (hE.c.lsx b hb).1) (fun b hd ⟨i, s, h1, h2, h3⟩ => by
            obtain ⟨c, ty, fz, hc⟩ := SB.den_cells (hi.hp.blk i s h1).1 h2
            exact isDef.not hc (h3 ▸ hd)))
        obtain ⟨st2, k1, k2⟩ := putS_sound hE.n hK hi2 (x := .v (.bool ex.isNone)) ⟨rfl, trivial⟩
        exact hk _ _ _ _ k1 k2
  · exact h.elim

theorem opS_ev (hE : EnvOk Γ C) (hk : NxtE C β w K next) (hi : Inv C β st a w) (he : eagerOp o.op = true) (h : opE Γ o st K) : Ev C o a w next := by
  unfold opE at h
  cases hac : acv Γ o with
  | true => simp only [hac] at h
  | false =>
  simp only [hac] at h
  cases ho : o.op
  case move x => exact op_move hE.n hk hi (.inl ho) h
  case assign x => exact op_move hE.n hk hi (.inr ho) h
  case pick => exact op_pick hE.n hk hi ho h
  case build => exact op_build hE.n hE.ty hk hi ho h
  case load => exact op_load hE.n hE.ty hk hi ho h
  case nilCheck => exact op_nilCheck hE.n hk hi ho h
  case binOp => exact op_binOp hE.n hE.ty hE.eq hk hi ho h
  case unOp => exact op_unOp hE.n hk hi ho h
  case convert => exact op_convert hE.n hE.ty hk hi ho hac h
  case makeFunc => exact op_makeFunc hE.n hk hi ho h
  case fieldAddr => exact op_fieldAddr hE.n hE.ty hk hi ho h
  case field => exact op_field hE.n hE.ty hk hi ho h
  case indexAddr => exact op_indexAddr hE.n hE.ty hk hi ho h
  case extract => exact op_extract hE.n hk hi ho h
  case slice => exact op_slice hE.n hE.ty hk hi ho h
  case call c =>
    cases hc : c.callee with
    | value f => simp [eagerOp, ho, hc] at he
    | invoke x y => simp only [opS, ho, hc] at h
    | builtin b =>
      cases b
      case len => exact op_len hE.n hE.ty hk hi ho hc h
      case min => exact op_minmax hE.n hk hi ho (.inl hc) h
      case max => exact op_minmax hE.n hk hi ho (.inr hc) h
      case cap => simp only [opS, ho, hc] at h
      all_goals simp [eagerOp, ho, hc] at he
  all_goals first | (simp [eagerOp, ho] at he; done) | simp only [opS, ho] at h

theorem opS_sound (hE : EnvOk Γ C) (hk : Nxt C K next) (hi : Inv C β st a w) (h : opS Γ o st K) : o.wpIn (FW r) n C.P a w next Q := by
  cases he : eagerOp o.op with
  | true =>
    cases hac : acv Γ o with
    | false => exact (opS_ev hE hk.e hi he (by unfold opE; simp only [hac]; exact h)).wpIn
    | true =>
      cases ho : o.op
      case convert => exact op_toBytes hE.c hE.n hE.ty hk hi ho hac h
      all_goals simp [acv, ho] at hac
  | false =>
    cases ho : o.op
    case alloc => exact op_alloc hE.c hE.n hE.ty hk hi ho h
    case box => exact op_box hE.c hE.n hk hi ho h
    case store => exact op_store hE.n hE.ty hk hi ho h
    case buildSlice => exact op_buildSlice hE.c hE.n hE.ty hk hi ho h
    case makeSlice => exact op_makeSlice hE.c hE.n hE.ty hk hi ho h
    case call c =>
      cases hc : c.callee with
      | value f => exact op_call hE hk hi ho hc h
      | invoke x y => simp only [opS, ho, hc] at h
      | builtin b =>
        cases b
        case append => exact op_append hE.c hE.n hE.ty hk hi ho hc h
        all_goals first | (simp [eagerOp, ho, hc] at he; done) | simp only [opS, ho, hc] at h
    all_goals first | (simp [eagerOp, ho] at he; done) | simp only [opS, ho] at h

theorem skipS_sound (hn : Γ.N = C.N) {d : Option Tmp} (h : skipS Γ.N d st K) (hi : Inv C β st a w) : ∃ st', K st' ∧ Inv C β st' (a.put d undef) w := by
  cases d with
  | none => exact ⟨st, h, hi⟩
  | some d =>
    simp only [skipS] at h
    cases hb : Nat.blt d Γ.N with
    | false => simp only [hb] at h; exact ⟨_, h, hi.skip d undef⟩
    | true =>
      simp only [hb] at h
      exact ⟨_, h, hi.put (x := .tup []) (by rw [← hn]; exact blt_lt hb) ⟨rfl, trivial⟩⟩

/-- One operation, its guard looked at. -/
theorem sxOps_sound (hE : EnvOk Γ C) {ops : Array Oper} (hQ : ∀ β' st' a' w', K st' → Inv C β' st' a' w' → Q .normal a' w') : ∀ (l : List Oper) (k : Nat) (β : Nat → Nat) (st : SState) (a : Act) (w : World), ops.toList.drop k = l → sxOps Γ ops l st K → Inv C β st a w →
    wpOpsIn (FW r) n C.P ops Q (List.range' k l.length) a w
  | [], k, β, st, a, w, hl, h, hi => by
    simp only [List.length_nil, List.range'_zero, wpOpsIn]
    exact hQ β st a w h hi
  | o :: rest, k, β, st, a, w, hl, h, hi => by
    have hk : ops[k]? = some o := by
      have : (ops.toList.drop k)[0]? = some o := by rw [hl]; rfl
      rw [List.getElem?_drop] at this; simpa using this
    have hl' : ops.toList.drop (k + 1) = rest := by
      have := congrArg List.tail hl
      simpa [List.tail_drop] using this
    simp only [List.length_cons, List.range'_succ, wpOpsIn, hk]
    have next : Nxt C (fun st' => sxOps Γ ops rest st' K) (wpOpsIn (FW r) n C.P ops Q (List.range' (k + 1) rest.length)) :=
      fun β' st' a' w' h' hi' => sxOps_sound hE hQ rest (k + 1) β' st' a' w' hl' h' hi'
    have habout : ∀ f, o.about C.P w a.eval = some f → (FW r).fn f := fun _ _ => trivial
    simp only [sxOps] at h
    cases hg : o.guard with
    | none =>
      simp only [hg] at h
      rw [if_pos (by simp [Region.wanted, hg])]
      exact opS_sound hE next hi h
    | some q =>
      obtain ⟨j, want⟩ := q
      simp only [hg] at h
      cases hoj : ops[j]? with
      | none => simp only [hoj] at h
      | some oj =>
        simp only [hoj] at h
        cases hd : oj.dst with
        | none => simp only [hd] at h
        | some s =>
          simp only [hd] at h
          have hy : ∀ b, (∃ x, lk st.tm s = some x ∧ x.den β = .bool b) → yielded ops a.tmps j = some b := by
            rintro b ⟨x, hx, hb⟩
            have := (hi.tm s x hx).1
            rw [hb] at this
            simp [yielded, hoj, hd, this]
          have yes : ∀ b, yielded ops a.tmps j = some b → b = want → ∀ st1, Inv C β st1 a w → opS Γ o st1 (fun st' => sxOps Γ ops rest st' K) →
              (if Region.wanted o (yielded ops a.tmps) = true then o.wpIn (FW r) n C.P a w (wpOpsIn (FW r) n C.P ops Q (List.range' (k + 1) rest.length)) Q else (∀ f, o.about C.P w a.eval = some f → (FW r).fn f) ∧ wpOpsIn (FW r) n C.P ops Q (List.range' (k + 1) rest.length) (a.put o.dst undef) w) := by
            intro b hb hw st1 hi1 h1
            rw [if_pos (by simp [Region.wanted, hg, hb, hw])]
            exact opS_sound hE next hi1 h1
          have no : ∀ b, yielded ops a.tmps j = some b → b = (!want) → ∀ st1, Inv C β st1 a w → skipS Γ.N o.dst st1 (fun st' => sxOps Γ ops rest st' K) →
              (if Region.wanted o (yielded ops a.tmps) = true then o.wpIn (FW r) n C.P a w (wpOpsIn (FW r) n C.P ops Q (List.range' (k + 1) rest.length)) Q else (∀ f, o.about C.P w a.eval = some f → (FW r).fn f) ∧ wpOpsIn (FW r) n C.P ops Q (List.range' (k + 1) rest.length) (a.put o.dst undef) w) := by
            intro b hb hw st1 hi1 h1
            rw [if_neg (by simp [Region.wanted, hg, hb, hw])]
            obtain ⟨st2, k1, k2⟩ := skipS_sound hE.n h1 hi1
            exact ⟨habout, next _ _ _ _ k1 k2⟩
          split at h
          · rename_i hx
            have hb := hy true ⟨_, hx, rfl⟩
            cases want with
            | true => exact yes _ hb rfl st hi h
            | false => exact no _ hb rfl st hi h
          · rename_i hx
            have hb := hy false ⟨_, hx, rfl⟩
            cases want with
            | true => exact no _ hb rfl st hi h
            | false => exact yes _ hb rfl st hi h
          · rename_i l hx
            have hno : Region.wanted o (yielded ops a.tmps) = false := by
              have h1 := (hi.tm s _ hx).1
              have h2 : yielded ops a.tmps j = none := by simp [yielded, hoj, hd, h1, SV.den]
              simp [Region.wanted, hg, h2]
            rw [if_neg (by rw [hno]; simp)]
            obtain ⟨st2, k1, k2⟩ := skipS_sound hE.n h hi
            exact ⟨habout, next _ _ _ _ k1 k2⟩
          · rename_i p hx
            have hb := hy p ⟨_, hx, rfl⟩
            by_cases hpw : p = want
            · exact yes _ hb hpw _ (hi.retell hx (y := .v (.bool want)) (by simp only [SV.den, hpw]) ⟨rfl, trivial⟩) (h.1 hpw)
            · have hpw' : p = (!want) := by cases p <;> cases want <;> first | rfl | exact absurd rfl hpw
              exact no _ hb hpw' _ (hi.retell hx (y := .v (.bool (!want))) (by simp only [SV.den, hpw']) ⟨rfl, trivial⟩) (h.2 hpw')
          · exact h.elim

/-- A loop's annotation, met. -/
theorem fixB_ok {F : Nat} : ∀ {σ : Sub}, fixB F σ = true → ∀ i j, lk σ i = some j → i < F → i = j
  | [], _, i, j, h, _ => by simp [lk] at h
  | (k, l) :: r, hf, i, j, h, hi => by
    simp only [fixB] at hf
    rw [lk_cons] at h
    cases hb : Nat.blt k F with
    | false =>
      simp only [hb] at hf
      split at h
      · rename_i e; subst e; rw [lt_blt hi] at hb; cases hb
      · exact fixB_ok hf i j h hi
    | true =>
      simp only [hb] at hf
      cases hq : Nat.beq k l with
      | false => simp [hq] at hf
      | true =>
        simp only [hq] at hf
        split at h
        · rename_i e; subst e; cases h; exact Nat.eq_of_beq_eq_true hq
        · exact fixB_ok hf i j h hi

theorem lk_idS : ∀ {n i j : Nat}, lk (idS n) i = some j → i = j ∧ i < n
  | 0, i, j, h => by simp [idS, lk] at h
  | n + 1, i, j, h => by
    simp only [idS, lk_cons] at h
    split at h
    · cases h; rename_i e; exact ⟨e.symm, by omega⟩
    · obtain ⟨h1, h2⟩ := lk_idS h
      exact ⟨h1, by omega⟩
theorem exEq_ok : ∀ {x y : SExit}, exEq x y = true → x = y
  | .normal, .normal, _ => rfl
  | .ret, .ret, _ => rfl
  | .exit i, .exit j, h => by rw [Nat.eq_of_beq_eq_true h]
  | .normal, .ret, h => by cases h
  | .normal, .exit _, h => by cases h
  | .ret, .normal, h => by cases h
  | .ret, .exit _, h => by cases h
  | .exit _, .normal, h => by cases h
  | .exit _, .ret, h => by cases h
theorem peEq_ok : ∀ {l r : List (Option SExit)}, peEq l r = true → l = r
  | [], [], _ => rfl
  | none :: l, none :: r, h => by simp only [peEq] at h; rw [peEq_ok h]
  | some x :: l, some y :: r, h => by
    simp only [peEq] at h
    split at h
    · rename_i he; rw [exEq_ok he, peEq_ok h]
    · cases h
  | [], _ :: _, h => by simp [peEq] at h
  | _ :: _, [], h => by simp [peEq] at h
  | none :: _, some _ :: _, h => by simp [peEq] at h
  | some _ :: _, none :: _, h => by simp [peEq] at h

theorem entS_sound {F : Nat} (hF : F = C.F) {L : LoopAnn} {f0 : World → Prop} {pe0 : List (Option SExit)} {x : L.X} (h : entS F L f0 pe0 x st) (hi : Inv C β st a w) : L.ok x ∧ ∃ β', Inv C β' { tm := L.tm x, hp := L.hp x, nx := L.nx, fx := fun w => f0 w ∧ L.fx x w, pe := pe0 } a w := by
  unfold entS at h
  cases hpe : peEq pe0 st.pe with
  | false => simp only [hpe] at h
  | true =>
  simp only [hpe] at h
  have hpe := peEq_ok hpe
  cases ha : ltT L.nx (L.tm x) with
  | false => simp only [ha] at h
  | true =>
  simp only [ha] at h
  cases hh : ltH L.nx (L.hp x) with
  | false => simp only [hh] at h
  | true =>
  simp only [hh] at h
  cases hfl : Nat.ble F L.nx with
  | false => simp only [hfl] at h
  | true =>
  simp only [hfl] at h
  obtain ⟨σ1, g1, g2, g3, g4⟩ := mTm_sound (m := L.nx) (β := β) st.tm (fun s x e => (hi.tm s x e).2) _ (idS F) _ h (fun i j e => by
    obtain ⟨e1, e2⟩ := lk_idS e
    subst e1
    exact ⟨Nat.lt_of_lt_of_le e2 (ble_le hfl), .inl (hi.fix i (by rw [← hF]; exact e2)).1⟩) ha
  obtain ⟨σ, k1, k2, k3, k4⟩ := mHp_sound (m := L.nx) (β := β) st.hp (fun i s e => (hi.hp.blk i s e).2.1) _ σ1 _ g1 g3 hh
  cases hd : dist1 (imgs σ (L.hp x)) with
  | false => simp only [hd] at k1
  | true =>
  simp only [hd] at k1
  cases hfx : fixB F σ with
  | false => simp only [hfx] at k1
  | true =>
  simp only [hfx] at k1
  obtain ⟨hpo, hlive⟩ := hp_of_match hi.hp hd hh k4
  refine ⟨k1.1, sub β σ, {
    siz := hi.siz
    dfr := hi.dfr
    xs := by rw [hpe]; exact hi.xs
    tm := fun s t e => by
      obtain ⟨y, h1, h2, h3⟩ := g4 s t e
      exact ⟨by rw [(hi.tm s y h1).1, h2 σ k2], ltT_get ha e, h3⟩
    hp := hpo
    old := fun i t e lt => by
      obtain ⟨j, y, h1, h2, h3, h4⟩ := hlive i t e lt
      rw [h4]; exact hi.old j y h2 h3
    frm := hi.frm
    fx := fun w' hw' => k1.2 w' (hi.fx w' (hw'.mono (by
      rintro b hb (hx | ⟨i, t, e, lt, rfl⟩)
      · exact .inl hx
      · obtain ⟨j, y, h1, h2, h3, h4⟩ := hlive i t e lt
        exact .inr ⟨j, y, h2, h3, h4.symm⟩)))
    fix := fun i hi' => by
      refine ⟨Nat.lt_of_lt_of_le hi' (by rw [← hF]; exact ble_le hfl), ?_⟩
      have := (hi.fix i hi').2
      unfold sub
      cases hl : lk σ i with
      | none => exact this
      | some j => have := fixB_ok hfx i j hl (by rw [hF]; exact hi'); subst this; assumption }⟩

end Go.SX
