/-
  SX, part P: a function's contract out of its body's run.
-/
import Derived.Test.YtgjoileoekbkoaaSXT
import Derived.RangeFuncLeaves
import Derived.RangeFuncRecord
set_option linter.unusedVariables false
set_option linter.unusedSimpArgs false
namespace Go.SX

def numL : Nat → List SV → List (Nat × SV)
  | _, [] => []
  | k, x :: r => (k, x) :: numL (k + 1) r

def initS (S : FSpec) (x : S.X) : SState := { tm := numL 0 (S.args x), hp := S.hp x, nx := S.nx, fx := S.pf x, pe := [] }

def resS (ty : TypeId → Option TI) (st : SState) : List ResultVar → (List SV → Prop) → Prop
  | [], K => K []
  | v :: r, K => match v with
    | .tmp t => match lk st.tm t with
      | some x => resS ty st r (fun l => K (x :: l))
      | none => False
    | .cell p t => match ty t with
      | some ti => match lk st.tm p with
        | some q => loadS ti st.hp st.fx q (fun x => resS ty st r (fun l => K (x :: l)))
        | none => False
      | none => False

/-- What is asked where the body ends. -/
def retO (S : FSpec) (o : FOut S.X) (x : S.X) (st : SState) (vals : List SV) : Prop := ∃ y : o.Y, match ltL o.nx2 (o.ret x y) with
      | false => False
      | true => match ltH o.nx2 (o.hq x y) with
       | false => False
       | true => match Nat.ble S.nx o.nx2 with
        | false => False
        | true => mL st.nx (o.ret x y) vals (idS S.nx) fun σ => mHp st.nx (o.hq x y) st.hp σ fun σ => match dist1 (imgs σ (o.hq x y)) with
          | false => False
          | true => match fixB S.nx σ with
            | false => False
            | true => o.qp x y ∧ ∀ w, st.fx w → o.qf x y w
def retOs (S : FSpec) (x : S.X) (st : SState) (vals : List SV) : List (FOut S.X) → Prop
  | [] => False
  | o :: r => match r with
    | [] => retO S o x st vals
    | p :: q => retO S o x st vals ∨ retOs S x st vals (p :: q)
theorem retOs_mem {S : FSpec} {x : S.X} {st : SState} {vals : List SV} : ∀ {l : List (FOut S.X)}, retOs S x st vals l → ∃ o ∈ l, retO S o x st vals
  | [], h => h.elim
  | [o], h => ⟨o, by simp, h⟩
  | o :: p :: q, h => by
    rcases h with h | h
    · exact ⟨o, by simp, h⟩
    · obtain ⟨o', h1, h2⟩ := retOs_mem h
      exact ⟨o', List.mem_cons_of_mem _ h1, h2⟩
def retS (S : FSpec) (ty : TypeId → Option TI) (rs : List ResultVar) (x : S.X) (st : SState) : Prop :=
  resS ty st rs fun vals => match noTup vals with
    | false => False
    | true => retOs S x st vals S.outs
def retK (S : FSpec) (ty : TypeId → Option TI) (rs : List ResultVar) (x : S.X) (e : SExit) (st : SState) : Prop := match e with
  | .exit _ => False
  | .normal => retS S ty rs x st
  | .ret => retS S ty rs x st

theorem numL_get : ∀ (l : List SV) (k i : Nat) (x : SV), lk (numL k l) i = some x → ∃ j, i = k + j ∧ l[j]? = some x
  | [], k, i, x, h => by simp [numL, lk] at h
  | y :: r, k, i, x, h => by
    simp only [numL, lk_cons] at h
    split at h
    · rename_i e; subst e; cases h; exact ⟨0, rfl, rfl⟩
    · obtain ⟨j, h1, h2⟩ := numL_get r (k + 1) i x h
      exact ⟨j + 1, by omega, by simpa using h2⟩
theorem ltL_get {n : Nat} : ∀ {l : List SV} {j : Nat} {x : SV}, ltL n l = true → l[j]? = some x → x.lt n = true
  | [], j, x, _, h => by simp at h
  | y :: r, 0, x, hl, h => by
    have hl' : y.lt n = true ∧ ltL n r = true := by simpa [ltL] using hl
    simp at h; subst h; exact hl'.1
  | y :: r, j + 1, x, hl, h => by
    have hl' : y.lt n = true ∧ ltL n r = true := by simpa [ltL] using hl
    simp at h; exact ltL_get hl'.2 h

def resV (tmps : Array Value) (v : ResultVar) : Sem Value := match v with
  | .tmp t => pure (tmps.getD t undef)
  | .cell p t => do loadVar t (← asAddr (tmps.getD p undef))
def packV : List Value → Value
  | [x] => x
  | l => .tuple l.toArray

variable {C : Ctx} {β : Nat → Nat} {st : SState} {a : Act} {w : World}

theorem resS_sound {ty : TypeId → Option TI} (hty : ∀ t ti, ty t = some ti → TI.ok C.P t ti) (hi : Inv C β st a w) : ∀ (rs : List ResultVar) (K : List SV → Prop), resS ty st rs K →
    ∃ l, K l ∧ ltL st.nx l = true ∧ (∀ x ∈ l, okV x) ∧
      (rs.mapM (resV a.tmps)).run C.P w = .ok (denL β l) w
  | [], K, h => ⟨[], h, rfl, by simp, by simp [denL]⟩
  | v :: r, K, h => by
    simp only [resS] at h
    cases v with
    | tmp t =>
      simp only at h
      cases hl : lk st.tm t with
      | none => simp only [hl] at h
      | some x =>
        simp only [hl] at h
        obtain ⟨l, h1, h2, h3, h4⟩ := resS_sound hty hi r _ h
        obtain ⟨g1, g2⟩ := hi.tm t x hl
        refine ⟨x :: l, h1, by simp [ltL, g2.1, h2], fun y hy => ?_, ?_⟩
        · rcases List.mem_cons.1 hy with rfl | hy
          · exact g2.2
          · exact h3 y hy
        · have : a.tmps.getD t undef = x.den β := by simp [Array.getD_eq_getD_getElem?, g1]
          simp only [List.mapM_cons, Sem.run_bind, Sem.run_pure, Result.andThen_ok, h4, this, denL, resV]
    | cell p t =>
      simp only at h
      cases ht : ty t with
      | none => simp only [ht] at h
      | some ti =>
        simp only [ht] at h
        cases hl : lk st.tm p with
        | none => simp only [hl] at h
        | some q =>
          simp only [hl] at h
          obtain ⟨x, k1, k2, k3⟩ := loadS_sound (hty t ti ht) hi h
          obtain ⟨l, h1, h2, h3, h4⟩ := resS_sound hty hi r _ k1
          obtain ⟨g1, g2⟩ := hi.tm p q hl
          have hq : a.tmps.getD p undef = q.den β := by simp [Array.getD_eq_getD_getElem?, g1]
          refine ⟨x :: l, h1, by simp [ltL, k2.1, h2], fun y hy => ?_, ?_⟩
          · rcases List.mem_cons.1 hy with rfl | hy
            · exact k2.2
            · exact h3 y hy
          · have hrun : (do loadVar t (← asAddr (a.tmps.getD p undef)) : Sem Value).run C.P w = .ok (x.den β) w := by
              rw [hq]
              cases hv : q.den β <;> rw [hv] at k3 <;> simp [Instr.loadAt, Instr.sureAddr] at k3
              rename_i ao
              cases ao with
              | none => simp at k3
              | some ad => simpa [asAddr] using k3
            simp only [List.mapM_cons, Sem.run_bind, Result.andThen_ok, Sem.run_pure, denL, resV] at hrun ⊢
            rw [hrun]; simp only [Result.andThen_ok, h4]

theorem results_run {fn : Func} {tmps : Array Value} {P : Program} {w : World} {l : List Value} (h : (fn.results.toList.mapM (resV tmps)).run P w = .ok l w) :
    (results fn tmps).run P w = .ok (packV l) w := by
  show Sem.run P (do let vs ← fn.results.mapM (resV tmps); pure (if h : vs.size = 1 then vs[0] else .tuple vs)) w = _
  rw [Array.mapM_eq_mapM_toList]
  have hm : Sem.run P (List.toArray <$> fn.results.toList.mapM (resV tmps)) w = .ok l.toArray w := by
    rw [Sem.run_map, h]; rfl
  rw [Sem.run_bind, hm, Result.andThen_ok, Sem.run_pure]
  congr 1
  match l with
  | [] => simp [packV]
  | [x] => simp [packV]
  | x :: y :: r => simp [packV]

theorem resSV_den (β : Nat → Nat) (l : List SV) : (resSV l).den β = packV (denL β l) := by
  match l with
  | [] => simp [resSV, SV.den, denL, packV]
  | [x] => simp [resSV, denL, packV]
  | x :: y :: r => simp [resSV, SV.den, denL, packV]

/-- A mark's block is shut. -/
theorem Inv.shut (hC : CtxOk C) (h : Inv C β st a w) {D : Nat} {l : List Nat} (hn : (D :: l).Nodup) (hl : ∀ E ∈ D :: l, (C.w0.heap.size ≤ E ∧ ¬ C.X E) ∧ w.heap[E]? = some (.deferred (some []))) : Inv C β st { a with defers := l.map mark } (w.putObj D (.deferred none)) := by
  have hD := hl D (by simp)
  have hDlt : D < w.heap.size := (Array.getElem?_eq_some_iff.1 hD.2).1
  have hoth : ∀ b, b ≠ D → (w.putObj D (.deferred none)).heap[b]? = w.heap[b]? := fun b hb => World.putObj_heap_other hb
  have hsz : (w.putObj D (.deferred none)).heap.size = w.heap.size := by simp [World.putObj]
  have htrk : ∀ i s, lk st.hp i = some s → s.live → β i ≠ D := by
    intro i s hs ls e
    obtain ⟨c, ty, fz, hc⟩ := SB.den_cells (h.hp.blk i s hs).1 ls
    rw [e, hD.2] at hc; cases hc
  refine { siz := h.siz, dfr := ⟨l, rfl, (List.nodup_cons.1 hn).2, fun E hE => ?_⟩, tm := h.tm, hp := ⟨fun i s hs => ?_, h.hp.inj, h.hp.exc⟩, old := h.old, frm := ?_, fx := fun w' hw' => ?_, xs := fun b hb => ?_, fix := h.fix }
  · have hE' := hl E (by simp [hE])
    have hne : E ≠ D := fun e => (List.nodup_cons.1 hn).1 (e ▸ hE)
    exact ⟨hE'.1, by rw [hoth E hne]; exact hE'.2⟩
  · obtain ⟨h1, h2, h3⟩ := h.hp.blk i s hs
    refine ⟨?_, h2, h3⟩
    cases s with
    | cells l => rw [hoth _ (htrk i _ hs trivial)]; exact h1
    | orow vs len cap sz =>
      rcases Nat.eq_zero_or_pos cap with hc | hc
      · exact ⟨h1.1, h1.2.1, .inl hc⟩
      · rw [hoth _ (htrk i _ hs (show cap ≠ 0 by omega))]; exact h1
  · exact AgreeOff.step h.frm (T1 := fun b => b = D) ⟨by omega, fun b _ hn => hoth b hn, rfl, rfl, rfl⟩ (by rintro b hb rfl; omega)
  · refine h.fx w' (AgreeOff.step (T := fun b => (C.X b ∨ isDef w b) ∨ trk β st.hp b) ⟨by omega, fun b _ hn => hoth b (fun e => hn (.inl (.inr ⟨_, e ▸ hD.2, rfl⟩))), rfl, rfl, rfl⟩ hw' ?_)
    rintro b hb ((hx | hd) | hx)
    · exact .inl (.inl hx)
    · by_cases e : b = D
      · exact .inl (.inr ⟨_, e ▸ hD.2, rfl⟩)
      · exact .inl (.inr (hd.same (hoth b e)))
    · exact .inr hx
  · rw [hoth b (fun e => hD.1.2 (e ▸ hb))]; exact h.xs b hb

theorem leaves_marks {F : Fence} {n : Nat} {fn : Func} {R : Ending → World → Prop} (hC : CtxOk C) (fin : ∀ a w, Inv C β st a w → ∃ v, (results fn a.tmps).run C.P w = .ok v w ∧ R (.returned v) w) : ∀ (l : List Nat) (a : Act) (w : World), l.Nodup → (∀ E ∈ l, (C.w0.heap.size ≤ E ∧ ¬ C.X E) ∧ w.heap[E]? = some (.deferred (some []))) → Inv C β st a w →
    LeavesInM F n C.P fn a.tmps R (l.map mark) .returning w
  | [], a, w, _, _, hi => fin a w hi
  | D :: l, a, w, hn, hl, hi => by
    refine ⟨by simp, .inl ⟨D, _, rfl, run_takeDeferred (hl D (by simp)).2, ?_⟩⟩
    have h1 := hi.shut hC hn hl
    obtain ⟨l', e1, e2, e3⟩ := h1.dfr
    refine leaves_marks hC fin l { a with defers := l.map mark } _ (List.nodup_cons.1 hn).2 (fun E hE => ?_) h1
    have hne : E ≠ D := fun e => (List.nodup_cons.1 hn).1 (e ▸ hE)
    exact ⟨(hl E (by simp [hE])).1, by rw [World.putObj_heap_other hne]; exact (hl E (by simp [hE])).2⟩

/-- **A function meets its contract if the run of its body does.** -/
theorem FSpec.ok_of_sxX {P : Program} {g : FuncId} {fn : Func} {c : Code} (hf : P.funcs[g]? = some fn) (hb : fn.body = some c) (hm : P.follows .mixedOrders = true) (S : FSpec) (Γ : S.X → Env) (hN : ∀ x, (Γ x).N = fn.ntmps) (hF : ∀ x, (Γ x).F = S.nx)
    (hty : ∀ x t ti, (Γ x).ty t = some ti → TI.ok P t ti) (heq : ∀ x t ks, (Γ x).eq t = some ks → EqOk P t ks) (hfs : ∀ x g S, (Γ x).fs g = some S → FnOk P g S ∧ ∀ args w, (callFunc g args).run P w = .ok (.enter g args) w)
    (hyd : ∀ x, (Γ x).yd = none) (hit : ∀ x g I, (Γ x).it g = some I → ItOk P g I ∧ ∀ args w, (callFunc g args).run P w = .ok (.enter g args) w)
    (hna : ∀ x, Nat.ble (S.args x).length (Γ x).N = true)
    (h : ∀ x, S.pp x → sxC (Γ x) c (initS S x) (retK S (Γ x).ty fn.results.toList x)) : S.ok P g := by
  intro X β w x hpp hla hlh hoa hpo hX hpf
  have hn := ble_le (hna x)
  have hN := hN x
  have hF := hF x
  have hty := hty x
  have heq := heq x
  have hfs := hfs x
  have hyd := hyd x
  have hit := hit x
  let C : Ctx := { P := P, X := X, T0 := trk β (S.hp x), w0 := w, N := fn.ntmps, F := S.nx, β0 := β, xh := fun b => w.heap[b]?, ls := [] }
  have hE : EnvOk (Γ x) C := ⟨hm, ⟨fun b hb => by have := hX b hb; simp [C, this], fun l hl => by simp [C] at hl⟩, hN, hF, hty, heq, hfs, (fun l Y h => by rw [hyd] at h; cases h), hit⟩
  let a0 : Act := { tmps := (denL β (S.args x)).toArray ++ Array.replicate (fn.ntmps - (denL β (S.args x)).toArray.size) undef, defers := [] }
  have hi0 : Inv C β (initS S x) a0 w := {
    siz := by
      show ((denL β (S.args x)).toArray ++ Array.replicate (fn.ntmps - (denL β (S.args x)).toArray.size) undef).size = fn.ntmps
      simp [denL_length]; omega
    dfr := ⟨[], rfl, List.nodup_nil, fun D hD => by simp at hD⟩
    xs := fun b hb => rfl
    tm := fun s y e => by
      obtain ⟨j, rfl, hj⟩ := numL_get _ 0 s y e
      refine ⟨?_, ltL_get hla hj, hoa y (List.mem_of_getElem? hj)⟩
      show ((denL β (S.args x)).toArray ++ _)[0 + j]? = _
      rw [Nat.zero_add, Array.getElem?_append_left (by simp [denL_length]; exact (List.getElem?_eq_some_iff.1 hj).1)]
      simpa using denL_get β hj
    hp := hpo
    old := fun i s e ls => .inl ⟨i, s, e, ls, rfl⟩
    frm := AgreeOff.refl _ _
    fx := hpf
    fix := fun i hi => ⟨hi, rfl⟩ }
  refine callsIn_wide (n := 0).1 ?_
  refine callsIn_of_wp_marks (F := Fence.wide) hf hb trivial ?_ rfl
  have hc := sxC_sound c (Γ x) C none 0 hE (fun l h => by cases h) (retK S (Γ x).ty fn.results.toList x) (bodyPostM (FW none) 0 P fn (fun e w' => ∃ o ∈ S.outs, ∃ (y : o.Y) (β' : Nat → Nat), o.qp x y ∧ (∀ i, i < S.nx → β' i = β i) ∧ e = .returned ((resSV (o.ret x y)).den β') ∧ gd o.nx2 (resSV (o.ret x y)) ∧
      HpOk X β' (o.hq x y) o.nx2 w' ∧ (∀ j t, lk (o.hq x y) j = some t → t.live → trk β (S.hp x) (β' j) ∨ w.heap.size ≤ β' j) ∧ AgreeOff (trk β (S.hp x)) w w' ∧
      (∀ w'', AgreeOff (fun b => (X b ∨ isDef w' b) ∨ trk β' (o.hq x y) b) w' w'' → o.qf x y w''))) ?_ β (initS S x) a0 w (h x hpp) hi0
  · exact hc
  · have fin : ∀ (β' : Nat → Nat) (st' : SState) (a' : Act) (w' : World), retS S (Γ x).ty fn.results.toList x st' → Inv C β' st' a' w' → ∃ v, (results fn a'.tmps).run P w' = .ok v w' ∧ ∃ o ∈ S.outs, ∃ (y : o.Y) (β'' : Nat → Nat), o.qp x y ∧ (∀ i, i < S.nx → β'' i = β i) ∧ Ending.returned v = .returned ((resSV (o.ret x y)).den β'') ∧ gd o.nx2 (resSV (o.ret x y)) ∧
        HpOk X β'' (o.hq x y) o.nx2 w' ∧ (∀ j t, lk (o.hq x y) j = some t → t.live → trk β (S.hp x) (β'' j) ∨ w.heap.size ≤ β'' j) ∧ AgreeOff (trk β (S.hp x)) w w' ∧
        (∀ w'', AgreeOff (fun b => (X b ∨ isDef w' b) ∨ trk β'' (o.hq x y) b) w' w'' → o.qf x y w'') := by
      intro β' st' a' w' hr hi
      obtain ⟨vals, hr, v1, v2, v3⟩ := resS_sound (C := C) hty hi _ _ hr
      cases hnt : noTup vals with
      | false => simp only [hnt] at hr
      | true =>
      simp only [hnt] at hr
      obtain ⟨o, ho, y, hr⟩ := retOs_mem hr
      cases ha : ltL o.nx2 (o.ret x y) with
      | false => simp only [ha] at hr
      | true =>
      simp only [ha] at hr
      cases hh : ltH o.nx2 (o.hq x y) with
      | false => simp only [hh] at hr
      | true =>
      simp only [hh] at hr
      cases hnn : Nat.ble S.nx o.nx2 with
      | false => simp only [hnn] at hr
      | true =>
      simp only [hnn] at hr
      obtain ⟨σ1, g1, g2, g3, g4, g5, _⟩ := mL_sound (m := o.nx2) (β := β') _ _ (idS S.nx) _ hr (fun i j e => by
        obtain ⟨e1, e2⟩ := lk_idS e
        subst e1
        exact ⟨Nat.lt_of_lt_of_le e2 (ble_le hnn), .inl (hi.fix i e2).1⟩) ha v1
      obtain ⟨σ, k1, k2, k3, k4⟩ := mHp_sound (m := o.nx2) (β := β') st'.hp (fun i s e => (hi.hp.blk i s e).2.1) _ σ1 _ g1 g3 hh
      cases hd : dist1 (imgs σ (o.hq x y)) with
      | false => simp only [hd] at k1
      | true =>
      simp only [hd] at k1
      cases hfx : fixB S.nx σ with
      | false => simp only [hfx] at k1
      | true =>
      simp only [hfx] at k1
      obtain ⟨hqp, hqf⟩ := k1
      obtain ⟨hpo', hlive⟩ := hp_of_match hi.hp hd hh k4
      have hrun := results_run v3
      refine ⟨_, hrun, o, ho, y, sub β' σ, hqp, fun i hi' => ?_, ?_, ⟨?_, ?_⟩, hpo', ?_, hi.frm, ?_⟩
      · have := (hi.fix i hi').2
        unfold sub
        cases hl : lk σ i with
        | none => exact this
        | some j => have e := fixB_ok hfx i j hl hi'; subst e; exact this
      · rw [resSV_den, g4 σ k2]
      · have hok := g5 (noTup_ok hnt v2)
        match hl : o.ret x y with
        | [] => rfl
        | [z] => rw [hl] at ha; simpa [ltL, resSV] using ha
        | z :: z' :: r => rw [hl] at ha; simpa [resSV, SV.lt] using ha
      · have hok := g5 (noTup_ok hnt v2)
        match hl : o.ret x y with
        | [] => exact trivial
        | [z] => rw [hl] at hok; exact okT_all hok z (by simp)
        | z :: z' :: r => rw [hl] at hok; exact hok
      · intro j t ht lt
        obtain ⟨j', z, h1, h2, h3, h4⟩ := hlive j t ht lt
        rw [h4]; exact hi.old j' z h2 h3
      · intro w'' hw''
        refine hqf w'' (hi.fx w'' (hw''.mono ?_))
        rintro b hb (hx | ⟨i, t, e, lt, rfl⟩)
        · exact .inl hx
        · obtain ⟨j, z, h1, h2, h3, h4⟩ := hlive i t e lt
          exact .inr ⟨j, z, h2, h3, h4.symm⟩
    intro e β' st' a' w' he hi
    cases e with
    | exit j => exact he.elim
    | normal =>
      obtain ⟨l, d1, d2, d3⟩ := hi.dfr
      show LeavesInM _ _ _ _ _ _ a'.defers _ _
      rw [d1]
      exact leaves_marks (C := C) hE.c (fun a'' w'' hi' => fin β' st' a'' w'' he hi') l a' w' d2 d3 hi
    | ret =>
      obtain ⟨l, d1, d2, d3⟩ := hi.dfr
      show LeavesInM _ _ _ _ _ _ a'.defers _ _
      rw [d1]
      exact leaves_marks (C := C) hE.c (fun a'' w'' hi' => fin β' st' a'' w'' he hi') l a' w' d2 d3 hi


theorem FSpec.ok_of_sx {P : Program} {g : FuncId} {fn : Func} {c : Code} (hf : P.funcs[g]? = some fn) (hb : fn.body = some c) (hm : P.follows .mixedOrders = true) (S : FSpec) (Γ : Env) (hN : Γ.N = fn.ntmps) (hF : Γ.F = S.nx)
    (hty : ∀ t ti, Γ.ty t = some ti → TI.ok P t ti) (heq : ∀ t ks, Γ.eq t = some ks → EqOk P t ks) (hfs : ∀ g S, Γ.fs g = some S → FnOk P g S ∧ ∀ args w, (callFunc g args).run P w = .ok (.enter g args) w)
    (hyd : Γ.yd = none) (hit : ∀ g I, Γ.it g = some I → ItOk P g I ∧ ∀ args w, (callFunc g args).run P w = .ok (.enter g args) w)
    (hna : ∀ x, Nat.ble (S.args x).length Γ.N = true)
    (h : ∀ x, S.pp x → sxC Γ c (initS S x) (retK S Γ.ty fn.results.toList x)) : S.ok P g :=
  FSpec.ok_of_sxX hf hb hm S (fun _ => Γ) (fun _ => hN) (fun _ => hF) (fun _ => hty) (fun _ => heq) (fun _ => hfs) (fun _ => hyd) (fun _ => hit) hna h

/-- The run of an iterator's body. -/
def itOf (Γ : Env) (c : Code) : Yd → Nat → List SV → SState → (SState → Prop) → Prop := fun Y l as st K => match Nat.ble as.length Γ.N with
  | true => sxC { Γ with F := st.nx, yd := some (l, Y) } c { st with tm := numL 0 as } (fun e st' => match e with
    | .exit _ => False
    | _ => K st')
  | false => False

/-- **An iterator, by the run of its body.** -/
theorem itOk_of_sx {P : Program} {f : FuncId} {fn : Func} {c : Code} (hf : P.funcs[f]? = some fn) (hb : fn.body = some c) (hm : P.follows .mixedOrders = true) (hres : fn.results = #[]) (Γ : Env) (hN : Γ.N = fn.ntmps)
    (hty : ∀ t ti, Γ.ty t = some ti → TI.ok P t ti) (heq : ∀ t ks, Γ.eq t = some ks → EqOk P t ks) (hfs : ∀ g S, Γ.fs g = some S → FnOk P g S ∧ ∀ args w, (callFunc g args).run P w = .ok (.enter g args) w)
    (hit : ∀ g I, Γ.it g = some I → ItOk P g I ∧ ∀ args w, (callFunc g args).run P w = .ok (.enter g args) w) : ItOk P f (itOf Γ c) := by
  intro C l Y hP hC hY β st w as K hi hlt hok h
  subst hP
  unfold itOf at h
  cases hna : Nat.ble as.length Γ.N with
  | false => simp only [hna] at h
  | true =>
  simp only [hna] at h
  have hn := ble_le hna
  let C4 : Ctx := { P := C.P, X := C.X, T0 := fun b => trk β st.hp b ∨ b ∈ C.ls, w0 := w, N := fn.ntmps, F := st.nx, β0 := β, xh := C.xh, ls := C.ls }
  have hC4 : CtxOk C4 := ⟨hC.xsm, fun b hb => ⟨(hC.lsx b hb).1, fun _ => .inr hb⟩⟩
  have hFn : C.F ≤ st.nx := by
    rcases Nat.eq_zero_or_pos C.F with h0 | h0
    · omega
    · have h1 : C.F - 1 < st.nx := (hi.fix (C.F - 1) (by show C.F - 1 < C.F; omega)).1
      omega
  have hY4 : YOk C4 l Y := hY.ext hC hC4 rfl rfl hi (fun _ h => h) (fun _ _ => rfl) rfl (fun b hb => hb.imp id (fun h => .inl h)) hFn (fun i hi' => (hi.fix i hi').2) (fun b hb => .inl hb)
  have hE : EnvOk { Γ with F := st.nx, yd := some (l, Y) } C4 := ⟨hm, hC4, hN, rfl, hty, heq, hfs, fun l' Y' h' => by simp only [Option.some.injEq, Prod.mk.injEq] at h'; obtain ⟨rfl, rfl⟩ := h'; exact hY4, hit⟩
  let a0 : Act := { tmps := (denL β as).toArray ++ Array.replicate (fn.ntmps - (denL β as).toArray.size) undef, defers := [] }
  have hi0 : Inv C4 β { st with tm := numL 0 as } a0 w := {
    siz := by
      show ((denL β as).toArray ++ Array.replicate (fn.ntmps - (denL β as).toArray.size) undef).size = fn.ntmps
      simp [denL_length]; omega
    dfr := ⟨[], rfl, List.nodup_nil, fun D hD => by simp at hD⟩
    tm := fun s y e => by
      obtain ⟨j, rfl, hj⟩ := numL_get _ 0 s y e
      refine ⟨?_, ltL_get hlt hj, hok y (List.mem_of_getElem? hj)⟩
      show ((denL β as).toArray ++ _)[0 + j]? = _
      rw [Nat.zero_add, Array.getElem?_append_left (by simp [denL_length]; exact (List.getElem?_eq_some_iff.1 hj).1)]
      simpa using denL_get β hj
    hp := hi.hp
    old := fun i s e ls => .inl (.inl ⟨i, s, e, ls, rfl⟩)
    frm := AgreeOff.refl _ _
    fx := hi.fx
    xs := hi.xs
    fix := fun i hi => ⟨hi, rfl⟩ }
  refine callsIn_wide (n := 0).1 ?_
  refine callsIn_of_wp_marks (F := Fence.wide) hf hb trivial ?_ rfl
  refine sxC_sound c _ C4 none 0 hE (fun l h => by cases h) _ (bodyPostM (FW none) 0 C.P fn _) ?_ β _ a0 w h hi0
  have fin : ∀ (β' : Nat → Nat) (st' : SState) (a' : Act) (w' : World), K st' → Inv C4 β' st' a' w' → ∃ v, (results fn a'.tmps).run C4.P w' = .ok v w' ∧ ∃ v' β'' st'', Ending.returned v = .returned v' ∧ K st'' ∧ HInv C β'' st'' w' ∧ st.nx ≤ st''.nx ∧ (∀ i, i < st.nx → β'' i = β i) ∧ AgreeOff (fun b => trk β st.hp b ∨ b ∈ C.ls) w w' ∧ ∀ i s, lk st''.hp i = some s → s.live → trk β st.hp (β'' i) ∨ w.heap.size ≤ β'' i := by
    intro β' st' a' w' hK hi'
    have hnx : st.nx ≤ st'.nx := by
      rcases Nat.eq_zero_or_pos st.nx with h0 | h0
      · omega
      · have h1 : st.nx - 1 < st'.nx := (hi'.fix (st.nx - 1) (by show st.nx - 1 < st.nx; omega)).1
        omega
    have hold : ∀ i s, lk st'.hp i = some s → s.live → trk β st.hp (β' i) ∨ w.heap.size ≤ β' i := fun i s hs ls => by
      rcases hi'.old i s hs ls with (h1 | h1) | h1
      · exact .inl h1
      · exact absurd (hC.lsx _ h1).1 (hi'.hp.exc i s hs ls)
      · exact .inr h1
    refine ⟨.tuple #[], results_run (l := []) (by rw [hres]; simp), _, β', st', rfl, hK, ?_, hnx, fun i h => (hi'.fix i h).2, hi'.frm, hold⟩
    exact HInv.back hC hi hi'.hp hold hi'.frm hi'.fx hnx (fun i h => (hi'.fix i h).2) hi'.xs
  intro e β' st' a' w' he hi'
  cases e with
  | exit j => exact he.elim
  | normal =>
    obtain ⟨l, d1, d2, d3⟩ := hi'.dfr
    show LeavesInM _ _ _ _ _ _ a'.defers _ _
    rw [d1]
    exact leaves_marks (C := C4) hC4 (fun a'' w'' hi'' => fin β' st' a'' w'' he hi'') l a' w' d2 d3 hi'
  | ret =>
    obtain ⟨l, d1, d2, d3⟩ := hi'.dfr
    show LeavesInM _ _ _ _ _ _ a'.defers _ _
    rw [d1]
    exact leaves_marks (C := C4) hC4 (fun a'' w'' hi'' => fin β' st' a'' w'' he hi'') l a' w' d2 d3 hi'
/-- A function, by the run of its body where it is called. -/
def inl (Γ : Env) (c : Code) (rs : List ResultVar) : FT := fun yd as st K => match Nat.ble as.length Γ.N with
  | true => sxC { Γ with F := st.nx, yd := yd } c { st with tm := numL 0 as } (fun e st' => match e with
    | .exit _ => False
    | _ => resS Γ.ty st' rs (fun vals => match noTup vals with
      | true => K { st' with tm := st.tm } (resSV vals)
      | false => False))
  | false => False

/-- **A function, inline.** -/
theorem fnOk_inl {P : Program} {f : FuncId} {fn : Func} {c : Code} (hf : P.funcs[f]? = some fn) (hb : fn.body = some c) (hm : P.follows .mixedOrders = true) (Γ : Env) (hN : Γ.N = fn.ntmps)
    (hty : ∀ t ti, Γ.ty t = some ti → TI.ok P t ti) (heq : ∀ t ks, Γ.eq t = some ks → EqOk P t ks) (hfs : ∀ g S, Γ.fs g = some S → FnOk P g S ∧ ∀ args w, (callFunc g args).run P w = .ok (.enter g args) w)
    (hit : ∀ g I, Γ.it g = some I → ItOk P g I ∧ ∀ args w, (callFunc g args).run P w = .ok (.enter g args) w) : FnOk P f (inl Γ c fn.results.toList) := by
  intro C hP hC yd hyd β st a w as K hia h hlt hok
  subst hP
  have hi : HInv C β st w := hia.h
  unfold inl at h
  cases hna : Nat.ble as.length Γ.N with
  | false => simp only [hna] at h
  | true =>
  simp only [hna] at h
  have hn := ble_le hna
  let C4 : Ctx := { P := C.P, X := C.X, T0 := fun b => trk β st.hp b ∨ b ∈ C.ls, w0 := w, N := fn.ntmps, F := st.nx, β0 := β, xh := C.xh, ls := C.ls }
  have hC4 : CtxOk C4 := ⟨hC.xsm, fun b hb => ⟨(hC.lsx b hb).1, fun _ => .inr hb⟩⟩
  have hFn : C.F ≤ st.nx := by
    rcases Nat.eq_zero_or_pos C.F with h0 | h0
    · omega
    · have h1 : C.F - 1 < st.nx := (hi.fix (C.F - 1) (by show C.F - 1 < C.F; omega)).1
      omega
  have hE : EnvOk { Γ with F := st.nx, yd := yd } C4 := ⟨hm, hC4, hN, rfl, hty, heq, hfs, fun l Y h' => (hyd l Y h').ext hC hC4 rfl rfl hi (fun _ h => h) (fun _ _ => rfl) rfl (fun b hb => hb.imp id (fun h => .inl h)) hFn (fun i hi' => (hi.fix i hi').2) (fun b hb => .inl hb), hit⟩
  let a0 : Act := { tmps := (denL β as).toArray ++ Array.replicate (fn.ntmps - (denL β as).toArray.size) undef, defers := [] }
  have hi0 : Inv C4 β { st with tm := numL 0 as } a0 w := {
    siz := by
      show ((denL β as).toArray ++ Array.replicate (fn.ntmps - (denL β as).toArray.size) undef).size = fn.ntmps
      simp [denL_length]; omega
    dfr := ⟨[], rfl, List.nodup_nil, fun D hD => by simp at hD⟩
    tm := fun s y e => by
      obtain ⟨j, rfl, hj⟩ := numL_get _ 0 s y e
      refine ⟨?_, ltL_get hlt hj, hok y (List.mem_of_getElem? hj)⟩
      show ((denL β as).toArray ++ _)[0 + j]? = _
      rw [Nat.zero_add, Array.getElem?_append_left (by simp [denL_length]; exact (List.getElem?_eq_some_iff.1 hj).1)]
      simpa using denL_get β hj
    hp := hi.hp
    old := fun i s e ls => .inl (.inl ⟨i, s, e, ls, rfl⟩)
    frm := AgreeOff.refl _ _
    fx := hi.fx
    xs := hi.xs
    fix := fun i hi => ⟨hi, rfl⟩ }
  refine callsIn_wide (n := 0).1 ?_
  refine callsIn_of_wp_marks (F := Fence.wide) hf hb trivial ?_ rfl
  refine sxC_sound c _ C4 none 0 hE (fun l h => by cases h) _ (bodyPostM (FW none) 0 C.P fn _) ?_ β _ a0 w h hi0
  have fin : ∀ (β' : Nat → Nat) (st' : SState) (a' : Act) (w' : World), resS Γ.ty st' fn.results.toList (fun vals => match noTup vals with
      | true => K { st' with tm := st.tm } (resSV vals)
      | false => False) → Inv C4 β' st' a' w' → ∃ v, (results fn a'.tmps).run C4.P w' = .ok v w' ∧ ∃ (β'' : Nat → Nat) (st'' : SState) (r : SV), Ending.returned v = .returned (r.den β'') ∧ K st'' r ∧ gd st''.nx r ∧ Inv C β'' st'' a w' := by
    intro β' st' a' w' hr hi'
    obtain ⟨vals, hr, v1, v2, v3⟩ := resS_sound (C := C4) hty hi' _ _ hr
    have hnx : st.nx ≤ st'.nx := by
      rcases Nat.eq_zero_or_pos st.nx with h0 | h0
      · omega
      · have h1 : st.nx - 1 < st'.nx := (hi'.fix (st.nx - 1) (by show st.nx - 1 < st.nx; omega)).1
        omega
    have hold : ∀ i s, lk st'.hp i = some s → s.live → trk β st.hp (β' i) ∨ w.heap.size ≤ β' i := fun i s hs ls => by
      rcases hi'.old i s hs ls with (h1 | h1) | h1
      · exact .inl h1
      · exact absurd (hC.lsx _ h1).1 (hi'.hp.exc i s hs ls)
      · exact .inr h1
    have hH : HInv C β' st' w' := HInv.back hC hi hi'.hp hold hi'.frm hi'.fx hnx (fun i h => (hi'.fix i h).2) hi'.xs
    cases hnt : noTup vals with
    | false => simp only [hnt] at hr
    | true =>
    simp only [hnt] at hr
    refine ⟨_, results_run v3, β', { st' with tm := st.tm }, resSV vals, by rw [resSV_den], hr, ⟨?_, ?_⟩, ?_⟩
    · match hl : vals with
      | [] => rfl
      | [z] => simpa [ltL, resSV] using v1
      | z :: z' :: r => simpa [resSV, SV.lt] using v1
    · have hok' := noTup_ok hnt v2
      match hl : vals with
      | [] => exact trivial
      | [z] => exact okT_all hok' z (by simp)
      | z :: z' :: r => exact hok'
    · refine hH.act (a := a) (N := C.N) hia.siz (fun s x hs => ?_) ?_
      · obtain ⟨t1, t2⟩ := hia.tm s x hs
        exact ⟨by rw [t1, SV.den_congr (fun i hi2 => ((hi'.fix i hi2).2).symm) x t2.1], t2.mono hnx⟩
      · exact hia.dfr.keepX hi'.frm (fun b hb => (hC.lsx b hb).1) (fun b hd ⟨i, s, h1, h2, h3⟩ => by
          obtain ⟨c, ty, fz, hc⟩ := SB.den_cells (hi.hp.blk i s h1).1 h2
          exact isDef.not hc (h3 ▸ hd))
  intro e β' st' a' w' he hi'
  cases e with
  | exit j => exact he.elim
  | normal =>
    obtain ⟨l, d1, d2, d3⟩ := hi'.dfr
    show LeavesInM _ _ _ _ _ _ a'.defers _ _
    rw [d1]
    exact leaves_marks (C := C4) hC4 (fun a'' w'' hi'' => fin β' st' a'' w'' he hi'') l a' w' d2 d3 hi'
  | ret =>
    obtain ⟨l, d1, d2, d3⟩ := hi'.dfr
    show LeavesInM _ _ _ _ _ _ a'.defers _ _
    rw [d1]
    exact leaves_marks (C := C4) hC4 (fun a'' w'' hi'' => fin β' st' a'' w'' he hi'') l a' w' d2 d3 hi'

/-- A contract, as a transformer. -/
def fnS (S : FSpec) : FT := fun _ as st K => callS S as st K
theorem FSpec.ok.fn {P : Program} {g : FuncId} {S : FSpec} (h : S.ok P g) : FnOk P g (fnS S) := by
  intro C hP hC yd hyd β st a w as K hi hK hlt hok
  subst hP
  exact callS_sound hC h hi hK hlt hok

/-- Some arguments are sealed ahead. -/
def sealArgs (js : List Nat) (I : FT) : FT := fun yd as st K => sealS (idsL (pickL js as)) st (fun st f => I yd (mapL f as) st K)
theorem FnOk.sealArgs {P : Program} {g : FuncId} {I : FT} {js : List Nat} (h : FnOk P g I) : FnOk P g (sealArgs js I) := by
  intro C hP hC yd hyd β st a w as K hi hK hlt hok
  obtain ⟨st', f, k1, k2, k3, k4, k5⟩ := sealS_sound hK hi
  have hd : denL β (mapL f as) = denL β as := by
    clear hK hlt hok k1
    induction as with
    | nil => rfl
    | cons x r ih => simp only [mapL, denL, k4 x, ih]
  have hg : ∀ l : List SV, ltL st.nx l = true → (∀ x ∈ l, okV x) → ltL st'.nx (mapL f l) = true ∧ ∀ x ∈ mapL f l, okV x := by
    intro l
    induction l with
    | nil => exact fun _ _ => ⟨rfl, by simp [mapL]⟩
    | cons x r ih =>
      intro h1 h2
      have h1' : x.lt st.nx = true ∧ ltL st.nx r = true := by simpa [ltL] using h1
      obtain ⟨e1, e2⟩ := ih h1'.2 (fun y hy => h2 y (by simp [hy]))
      have hx := k5 st.nx x ⟨h1'.1, h2 x (by simp)⟩
      refine ⟨by simp only [mapL, ltL, e1, Bool.and_true]; rw [k3]; exact hx.1, fun y hy => ?_⟩
      rcases List.mem_cons.1 (by simpa [mapL] using hy) with rfl | hy
      · exact hx.2
      · exact e2 y hy
  obtain ⟨g1, g2⟩ := hg as hlt hok
  have := h C hP hC yd hyd β st' a w _ K k2 k1 g1 g2
  rw [hd] at this
  exact this

end Go.SX
