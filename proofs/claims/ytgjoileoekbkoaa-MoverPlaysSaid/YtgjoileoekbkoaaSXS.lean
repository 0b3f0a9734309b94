/-
  SX, part S: a region that draws its order, by the executor.
-/
import Derived.Test.YtgjoileoekbkoaaSXO
set_option linter.unusedVariables false
set_option linter.unusedSimpArgs false
namespace Go.SX

variable {C : Ctx} {Γ : Env} {β : Nat → Nat} {st : SState} {a : Act} {w : World} {o : Oper} {K : SState → Prop} {next : Act → World → Prop} {Q : Exit → Act → World → Prop} {r : Option Nat} {n : Nat}
variable {F : Fence} {P : Program} {ops : Array Oper} {A : List Nat} {N : Nat}

theorem wpOpIn_keeps {i : Nat} {K : Act → World → Prop} (hpl : ∀ o, ops[i]? = some o → plainOp o.op = true) (hi : i < ops.size) (h : wpOpIn F n P ops Q i K a w) :
    wpOpIn F n P ops Q i (fun a' w' => K a' w' ∧ ∃ u, a'.tmps = (a.put (dstO ops i) u).tmps) a w := by
  unfold wpOpIn at h ⊢
  obtain ⟨o, ho⟩ : ∃ o, ops[i]? = some o := ⟨ops[i], by simp [hi]⟩
  simp only [ho] at h ⊢
  have hnd : ∀ c, o.op ≠ .defer c := by intro c e; have := hpl o ho; rw [e] at this; simp [plainOp] at this
  have hdst : dstO ops i = o.dst := by simp [dstO, ho]
  rw [hdst]
  split
  · rename_i hw
    rw [if_pos hw] at h
    unfold Oper.wpIn at h ⊢
    obtain ⟨h0, h⟩ := h
    refine ⟨h0, ?_⟩
    generalize (o.semAt F.round a.eval).run P w = r at *
    cases r with
    | ok x w' =>
      cases x <;> simp only [Oper.uponIn] at h ⊢
      case value u => exact ⟨h, u, rfl⟩
      case skip => exact ⟨h, undef, rfl⟩
      case defer =>
        refine ⟨h, undef, ?_⟩
        cases o.dst <;> rfl
      case enter f args =>
        exact ⟨h.1, h.2.mono (fun e w'' he => by
          cases e with
          | returned u => exact ⟨he, u, rfl⟩
          | panicked c => exact he
          | outgrown => exact he)⟩
      case row row args => exact ⟨h.1, h.2.mono (fun u w'' he => ⟨he, u, rfl⟩)⟩
      case round =>
        exact ⟨h.1, h.2.mono (fun e w'' he => by
          cases e with
          | returned u => exact ⟨he, u, rfl⟩
          | panicked c => exact he
          | outgrown => exact he)⟩
      all_goals exact h
    | halt x w' => cases x <;> exact h
  · rename_i hw
    rw [if_neg hw] at h
    exact ⟨h.1, h.2, undef, rfl⟩

theorem guardS_sound {yes no : SState → Prop} (hi : Inv C β st a w) (h : guardS ops o st yes no) :
    (Region.wanted o (yielded ops a.tmps) = true ∧ ∃ st1, yes st1 ∧ Inv C β st1 a w) ∨ (Region.wanted o (yielded ops a.tmps) = false ∧ ∃ st1, no st1 ∧ Inv C β st1 a w) := by
  simp only [guardS] at h
  cases hg : o.guard with
  | none => simp only [hg] at h; exact .inl ⟨by simp [Region.wanted, hg], st, h, hi⟩
  | some q =>
    obtain ⟨j, want⟩ := q
    simp only [hg] at h
    cases hoj : ops[j]? with
    | none => simp only [hoj] at h
    | some oj =>
      simp only [hoj] at h
      cases hd : oj.dst with
      | none => simp only [hd] at h
      | some s =>
        simp only [hd] at h
        have hy : ∀ b, (∃ x, lk st.tm s = some x ∧ x.den β = .bool b) → yielded ops a.tmps j = some b := by
          rintro b ⟨x, hx, hb⟩
          have := (hi.tm s x hx).1
          rw [hb] at this
          simp [yielded, hoj, hd, this]
        have yes' : ∀ b, yielded ops a.tmps j = some b → b = want → Region.wanted o (yielded ops a.tmps) = true := fun b hb hw => by simp [Region.wanted, hg, hb, hw]
        have no' : ∀ b, yielded ops a.tmps j = some b → b = (!want) → Region.wanted o (yielded ops a.tmps) = false := fun b hb hw => by simp [Region.wanted, hg, hb, hw]
        split at h
        · rename_i hx
          have hb := hy true ⟨_, hx, rfl⟩
          cases want with
          | true => exact .inl ⟨yes' _ hb rfl, st, h, hi⟩
          | false => exact .inr ⟨no' _ hb rfl, st, h, hi⟩
        · rename_i hx
          have hb := hy false ⟨_, hx, rfl⟩
          cases want with
          | true => exact .inr ⟨no' _ hb rfl, st, h, hi⟩
          | false => exact .inl ⟨yes' _ hb rfl, st, h, hi⟩
        · rename_i l hx
          refine .inr ⟨?_, st, h, hi⟩
          have h1 := (hi.tm s _ hx).1
          have h2 : yielded ops a.tmps j = none := by simp [yielded, hoj, hd, h1, SV.den]
          simp [Region.wanted, hg, h2]
        · rename_i p hx
          have hb := hy p ⟨_, hx, rfl⟩
          by_cases hpw : p = want
          · exact .inl ⟨yes' _ hb hpw, _, h.1 hpw, hi.retell hx (y := .v (.bool want)) (by simp only [SV.den, hpw]) ⟨rfl, trivial⟩⟩
          · have hpw' : p = (!want) := by cases p <;> cases want <;> first | rfl | exact absurd rfl hpw
            exact .inr ⟨no' _ hb hpw', _, h.2 hpw', hi.retell hx (y := .v (.bool (!want))) (by simp only [SV.den, hpw']) ⟨rfl, trivial⟩⟩
        · exact h.elim

theorem eqVal_ok {x y : Value} (h : eqVal x y) : x = y := by
  unfold eqVal at h
  split at h
  · split at h
    · split at h
      · rename_i hk; rw [ikN_inj hk, h]
      · exact h.elim
    · exact h.elim
  · split at h
    · rw [h]
    · exact h.elim
  · split at h
    · rw [h]
    · exact h.elim
  · split at h
    · obtain ⟨rfl, rfl, rfl⟩ := h; rfl
    · exact h.elim
  · exact h
theorem beq2_ok {i j o p : Nat} {K : Prop} (h : beq2 i j o p K) : i = j ∧ o = p ∧ K := by
  unfold beq2 at h
  split at h
  · rename_i h1
    split at h
    · rename_i h2; exact ⟨Nat.eq_of_beq_eq_true h1, Nat.eq_of_beq_eq_true h2, h⟩
    · exact h.elim
  · exact h.elim
mutual
theorem eqS_ok : ∀ (x y : SV), eqS x y → x = y
  | .v u, y, h => by cases y <;> simp only [eqS] at h; rw [eqVal_ok h]
  | .b p, y, h => by cases y <;> simp only [eqS] at h; rw [h]
  | .nils, y, h => by cases y <;> simp only [eqS] at h; rfl
  | .nilp, y, h => by cases y <;> simp only [eqS] at h; rfl
  | .nilf, y, h => by cases y <;> simp only [eqS] at h; rfl
  | .ptr i o, y, h => by cases y <;> simp only [eqS] at h; obtain ⟨rfl, rfl, _⟩ := beq2_ok h; rfl
  | .ptrx i o x, y, h => by cases y <;> simp only [eqS] at h; obtain ⟨rfl, rfl, rfl⟩ := beq2_ok h; rfl
  | .optr a k, y, h => by cases y <;> simp only [eqS] at h; obtain ⟨rfl, rfl⟩ := h; rfl
  | .osl i n c z, y, h => by cases y <;> simp only [eqS] at h; obtain ⟨rfl, _, rfl, rfl, rfl⟩ := beq2_ok h; rfl
  | .sub i lo n c, y, h => by cases y <;> simp only [eqS] at h; obtain ⟨rfl, _, rfl, rfl, rfl⟩ := beq2_ok h; rfl
  | .clo f l, y, h => by cases y <;> simp only [eqS] at h; obtain ⟨rfl, _, h⟩ := beq2_ok h; rw [eqLs_ok _ _ h]
  | .agg l, y, h => by cases y <;> simp only [eqS] at h; rw [eqG_ok _ _ h]
  | .tup l, y, h => by cases y <;> simp only [eqS] at h; rw [eqLs_ok _ _ h]
theorem eqLs_ok : ∀ (l r : List SV), eqLs l r → l = r
  | [], r, h => by cases r <;> simp only [eqLs] at h; rfl
  | x :: l, r, h => by
    cases r with
    | nil => simp only [eqLs] at h
    | cons y r => simp only [eqLs] at h; rw [eqS_ok x y h.1, eqLs_ok l r h.2]
theorem eqG_ok : ∀ (l r : List Seg), eqG l r → l = r
  | [], r, h => by cases r <;> simp only [eqG] at h; rfl
  | x :: l, r, h => by
    cases r with
    | nil => simp only [eqG] at h
    | cons y r => simp only [eqG] at h; rw [eqGs_ok x y h.1, eqG_ok l r h.2]
theorem eqGs_ok : ∀ (x y : Seg), eqGs x y → x = y
  | .one x, y, h => by cases y <;> simp only [eqGs] at h; rw [eqS_ok _ _ h]
  | .many n vs, y, h => by cases y <;> simp only [eqGs] at h; rw [h.1, h.2]
end
theorem eqS_den {x y : SV} (h : eqS x y) (β : Nat → Nat) : x.den β = y.den β := by rw [eqS_ok x y h]

theorem againS_sound (hE : EnvOk Γ C) {j : Nat} (hj : eag ops j = true) (hi : Inv C β st a w) (h : againS Γ ops j st) :
    ∃ v, YA C.P ops j a w v ∧ ((∃ d, dstO ops j = some d ∧ a.tmps[d]? = some v) ∨ dstO ops j = none ∨ ∃ o, ops[j]? = some o ∧ Region.wanted o (yielded ops a.tmps) = false ∧ v = undef) := by
  unfold againS at h
  cases ho : ops[j]? with
  | none => simp only [ho] at h
  | some o =>
    simp only [ho] at h
    have he : eagerOp o.op = true := by simpa [eag, ho] using hj
    have hdst : dstO ops j = o.dst := by simp [dstO, ho]
    rcases guardS_sound hi h with ⟨hw, st1, h1, hi1⟩ | ⟨hw, st1, _, _⟩
    · cases hd : o.dst with
      | none =>
        simp only [hd] at h1
        obtain ⟨_, v, hv, _⟩ := opS_ev (next := fun _ _ => True) hE (fun _ _ _ _ => trivial) hi1 he h1
        exact ⟨v, ⟨o, ho, .inl ⟨hw, hv⟩⟩, .inr (.inl (by rw [hdst, hd]))⟩
      | some d =>
        simp only [hd] at h1
        cases hl : lk st1.tm d with
        | none => simp only [hl] at h1
        | some x =>
          simp only [hl] at h1
          obtain ⟨_, v, hv, hn⟩ := opS_ev (next := fun a' _ => a'.tmps[d]? = some (x.den β)) hE (fun st' a' hk hi' => by
            cases hl' : lk st'.tm d with
            | none => simp only [hl'] at hk
            | some y =>
              simp only [hl'] at hk
              rw [(hi'.tm d y hl').1, eqS_den hk]) hi1 he h1
          have hx := (hi1.tm d x hl).1
          have hlt : d < a.tmps.size := (Array.getElem?_eq_some_iff.1 hx).1
          have hvx : v = x.den β := by
            rw [hd, Act.put_some] at hn
            simpa [hlt] using hn
          exact ⟨v, ⟨o, ho, .inl ⟨hw, hv⟩⟩, .inl ⟨d, by rw [hdst, hd], by rw [hx, hvx]⟩⟩
    · exact ⟨undef, ⟨o, ho, .inr ⟨hw, rfl⟩⟩, .inr (.inr ⟨o, rfl, hw, rfl⟩)⟩

theorem againsS_mem : ∀ {ag : List Nat}, againsS Γ ops ag st → ∀ j ∈ ag, againS Γ ops j st
  | [], _, j, h => by simp at h
  | k :: r, h, j, hj => by
    rcases List.mem_cons.1 hj with rfl | hj
    · exact h.1
    · exact againsS_mem h.2 j hj

/-- What has been yielded stands in its place. -/
def WI (ops : Array Oper) (W : List (Nat × Value)) (c : List Nat) (a : Act) : Prop := ∀ p ∈ W, p.1 < ops.size ∧ p.1 ∉ c ∧ eag ops p.1 = true ∧
  (∀ o, ops[p.1]? = some o → Region.wanted o (yielded ops a.tmps) = false → p.2 = undef) ∧ ∀ d, dstO ops p.1 = some d → a.tmps[d]? = some p.2

theorem sameD_false {d e : Tmp} (h : sameD (some d) (some e) = false) : d ≠ e := by
  intro e'; subst e'; simp [sameD] at h

theorem WI.put (hS : Stat ops N A) {W : List (Nat × Value)} {c : List Nat} {a a' : Act} {i : Nat} {u : Value} (h : WI ops W c a) (hcl : Closed ops c) (hi : i ∈ c) (hil : i < ops.size) (ha : a'.tmps = (a.put (dstO ops i) u).tmps) : WI ops W (c.erase i) a' := by
  intro p hp
  obtain ⟨h1, h2, h3, h4, h5⟩ := h p hp
  have hpi : i ≠ p.1 := fun e => h2 (e ▸ hi)
  have hlk : memN (dstO ops i) (lks ops p.1) = false := by
    cases hm : memN (dstO ops i) (lks ops p.1) with
    | false => rfl
    | true => exact absurd hi (hcl p.1 h1 h2 i (hS.look i p.1 hil h1 hpi hm))
  refine ⟨h1, fun hm => h2 (List.mem_of_mem_erase hm), h3, fun o ho hw => ?_, fun d hd => ?_⟩
  · refine h4 o ho ?_
    rw [ha, wanted_put o a _ u (by simpa [lks, ho] using memN_iff.1 hlk)] at hw
    exact hw
  · rw [ha]
    have := hS.apart i p.1 hil h1 hpi
    cases hdi : dstO ops i with
    | none => exact h5 d hd
    | some e =>
      rw [hdi, hd] at this
      simp only [Act.put]
      rw [Array.getElem?_setIfInBounds_ne (sameD_false this)]
      exact h5 d hd

theorem er_erase (i : Nat) : ∀ c : List Nat, er i c = c.erase i
  | [] => rfl
  | k :: r => by
    simp only [er]
    cases h : Nat.beq i k with
    | true => have := Nat.eq_of_beq_eq_true h; subst this; simp
    | false =>
      have hne : i ≠ k := by intro e; subst e; simp at h
      simp only
      rw [List.erase_cons_tail (by simpa using Ne.symm hne), er_erase i r]

theorem skipS_keeps (hn : Γ.N = C.N) {d : Option Tmp} (h : skipS Γ.N d st K) (hi : Inv C β st a w) : ∃ st', K st' ∧ Inv C β st' (a.put d undef) w := skipS_sound hn h hi

/-- What a tree of orders tells. -/
def DRes (C : Ctx) (r : Option Nat) (n : Nat) (ops : Array Oper) (A : List Nat) (Q : Exit → Act → World → Prop) (T : DT) (c : List Nat) (seen : List Nat) (W : List (Nat × Value)) (a : Act) (w : World) : Prop := match T with
  | .done => Good (FW r) n C.P ops A Q c.length c W a w
  | .eag _ _ => Good (FW r) n C.P ops A Q c.length c W a w
  | _ => ∀ i, i ∈ c → rdy ops c i = true → i ∉ seen → eag ops i = false ∧ wpOpIn (FW r) n C.P ops Q i (fun a' w' => Stab C.P ops A W i a' w' ∧ Good (FW r) n C.P ops A Q (c.length - 1) (c.erase i) W a' w') a w

theorem sxDraw_sound (hE : EnvOk Γ C) (hS : Stat ops C.N A) (hQ : ∀ β' st' a' w', K st' → Inv C β' st' a' w' → Q .normal a' w') : ∀ (T : DT) (c ex seen : List Nat) (W : List (Nat × Value)) (β : Nat → Nat) (st : SState) (a : Act) (w : World),
    dtOk ops A T c ex seen = true → c.Nodup → (∀ j ∈ c, j < ops.size) → Closed ops c → WI ops W c a → (∀ p ∈ W, p.1 ∈ ex) → sxDraw Γ ops T st K → Inv C β st a w → DRes C r n ops A Q T c seen W a w := by
  have good : ∀ (T : DT) (c ex : List Nat) (W : List (Nat × Value)) (a : Act) (w : World), dtOk ops A T c ex [] = true → DRes C r n ops A Q T c [] W a w → Good (FW r) n C.P ops A Q c.length c W a w := by
    intro T c ex W a w hd h
    cases T with
    | done => exact h
    | eag i t => exact h
    | alt i ag t m =>
      simp only [dtOk, Bool.and_eq_true] at hd
      have hi := (mem1_iff _ _).1 hd.1.1.1.1.1.1
      have hlen : c.length = (c.length - 1) + 1 := by have := List.length_pos_of_mem hi; omega
      rw [hlen, Good]
      exact .inr (.inr ⟨⟨i, hi, hd.1.1.1.1.2⟩, fun i hi hr => h i hi hr (by simp)⟩)
    | stop => simp [dtOk] at hd
  intro T
  induction T with
  | done =>
    intro c ex seen W β st a w hd hnd hlt hcl hW hex h hi
    simp only [dtOk, Bool.and_eq_true, List.isEmpty_iff] at hd
    obtain ⟨rfl, _⟩ := hd
    exact ⟨rfl, hQ β st a w h hi⟩
  | stop =>
    intro c ex seen W β st a w hd hnd hlt hcl hW hex h hi i hi' hr hs
    simp only [dtOk, Bool.and_eq_true, List.all_eq_true, Bool.or_eq_true, Bool.not_eq_true'] at hd
    rcases hd.2 i hi' with h | h
    · exact absurd ((mem1_iff _ _).1 h) hs
    · rw [hr] at h; cases h
  | eag i t ih =>
    intro c ex seen W β st a w hd hnd hlt hcl hW hex h hi
    simp only [dtOk, Bool.and_eq_true, List.isEmpty_iff] at hd
    obtain ⟨⟨⟨⟨rfl, h1⟩, h2⟩, h3⟩, h4⟩ := hd
    have hic := (mem1_iff _ _).1 h1
    have hil := hlt i hic
    rw [er_erase] at h4
    have hlen : c.length = (c.length - 1) + 1 := by have := List.length_pos_of_mem hic; omega
    have hlen' : (c.erase i).length = c.length - 1 := List.length_erase_of_mem hic
    obtain ⟨o, ho⟩ : ∃ o, ops[i]? = some o := ⟨ops[i], by simp [hil]⟩
    have hdst : dstO ops i = o.dst := by simp [dstO, ho]
    simp only [sxDraw, ho] at h
    have he : eagerOp o.op = true := by simpa [eag, ho] using h2
    have step : ∀ v, YA C.P ops i a w v → (Region.wanted o (yielded ops a.tmps) = false → v = undef) → (∃ st', sxDraw Γ ops t st' K ∧ Inv C β st' (a.put o.dst v) w) → Good (FW r) n C.P ops A Q c.length c W a w := by
      rintro v hv hvu ⟨st', hK, hi'⟩
      rw [hlen, Good]
      refine .inr (.inl ⟨i, hic, h2, h3, v, hv, ?_⟩)
      rw [← hlen']
      refine good t _ (i :: ex) _ _ _ h4 (ih _ _ _ _ β st' _ w h4 (hnd.erase i) (fun j hj => hlt j (List.mem_of_mem_erase hj)) (hcl.erase hnd h3) ?_ ?_ hK (by rw [hdst]; exact hi'))
      · intro p hp
        rcases List.mem_cons.1 hp with rfl | hp
        · refine ⟨hil, hnd.not_mem_erase, h2, fun o' ho' hw' => ?_, fun d hd => ?_⟩
          · rw [ho] at ho'; cases ho'
            rw [wanted_put o a _ v (by simpa [lks, ho] using memN_iff.1 (hS.self i hil))] at hw'
            exact hvu hw'
          · have : d < a.tmps.size := by rw [hi.siz]; exact hS.dst i hil d hd
            rw [hd]; simp [Act.put, this]
        · exact (hW.put hS hcl hic hil rfl) p hp
      · intro p hp
        rcases List.mem_cons.1 hp with rfl | hp
        · simp
        · exact List.mem_cons_of_mem _ (hex p hp)
    rcases guardS_sound hi h with ⟨hw, st1, k, hi1⟩ | ⟨hw, st1, k, hi1⟩
    · obtain ⟨_, v, hv, st', hK, hi'⟩ := opS_ev (next := fun a' w' => ∃ st', sxDraw Γ ops t st' K ∧ Inv C β st' a' w') hE (fun st' a' hK hi' => ⟨st', hK, hi'⟩) hi1 he k
      exact step v ⟨o, ho, .inl ⟨hw, hv⟩⟩ (fun h => by rw [hw] at h; cases h) ⟨st', hK, hi'⟩
    · exact step undef ⟨o, ho, .inr ⟨hw, rfl⟩⟩ (fun _ => rfl) (skipS_sound hE.n k hi1)
  | alt i ag t m iht ihm =>
    intro c ex seen W β st a w hd hnd hlt hcl hW hex h hi
    simp only [dtOk, Bool.and_eq_true, Bool.not_eq_true', List.all_eq_true, Bool.or_eq_true] at hd
    obtain ⟨⟨⟨⟨⟨⟨h1, h2⟩, h3⟩, h4⟩, h5⟩, h6⟩, h7⟩ := hd
    have hic := (mem1_iff _ _).1 h1
    have hil := hlt i hic
    rw [er_erase] at h5
    have hlen' : (c.erase i).length = c.length - 1 := List.length_erase_of_mem hic
    obtain ⟨o, ho⟩ : ∃ o, ops[i]? = some o := ⟨ops[i], by simp [hil]⟩
    have hdst : dstO ops i = o.dst := by simp [dstO, ho]
    simp only [sxDraw, ho] at h
    obtain ⟨h, hm⟩ := h
    -- the others
    have hothers : ∀ j, j ∈ c → rdy ops c j = true → j ∉ i :: seen → eag ops j = false ∧ wpOpIn (FW r) n C.P ops Q j (fun a' w' => Stab C.P ops A W j a' w' ∧ Good (FW r) n C.P ops A Q (c.length - 1) (c.erase j) W a' w') a w := by
      cases m with
      | done => cases h7
      | eag _ _ => cases h7
      | stop => exact ihm c ex (i :: seen) W β st a w h6 hnd hlt hcl hW hex trivial hi
      | alt _ _ _ _ => exact ihm c ex (i :: seen) W β st a w h6 hnd hlt hcl hW hex hm hi
    -- behind i
    have next : ∀ β' st' a' w', (againsS Γ ops ag st' ∧ sxDraw Γ ops t st' K) → Inv C β' st' a' w' → (∃ u, a'.tmps = (a.put (dstO ops i) u).tmps) → Stab C.P ops A W i a' w' ∧ Good (FW r) n C.P ops A Q (c.length - 1) (c.erase i) W a' w' := by
      rintro β' st' a' w' ⟨hag, hK⟩ hi' ⟨u, hu⟩
      have hW' := hW.put hS hcl hic hil hu
      refine ⟨fun p hp hna => ?_, ?_⟩
      · have hpag : p.1 ∈ ag := by
          rcases h4 p.1 (hex p hp) with h | h
          · exact (mem1_iff _ _).1 h
          · rw [hna] at h; cases h
        obtain ⟨q1, q2, q3, q4, q5⟩ := hW' p hp
        obtain ⟨v, hv, hv'⟩ := againS_sound hE q3 hi' (againsS_mem hag p.1 hpag)
        refine ⟨v, hv, fun d hd => ?_⟩
        rcases hv' with ⟨d', hd', hvd⟩ | hnone | ⟨o', ho', hw', rfl⟩
        · rw [hd] at hd'; cases hd'
          rw [q5 d hd] at hvd; exact (Option.some.inj hvd).symm
        · rw [hd] at hnone; cases hnone
        · exact (q4 o' ho' hw').symm
      · rw [← hlen']
        exact good t _ ex _ _ _ h5 (iht _ _ _ _ β' st' _ w' h5 (hnd.erase i) (fun j hj => hlt j (List.mem_of_mem_erase hj)) (hcl.erase hnd h3) hW' hex hK hi')
    intro j hj hr hs
    by_cases e : j = i
    · subst e
      refine ⟨h2, ?_⟩
      have fin : wpOpIn (FW r) n C.P ops Q j (fun a' w' => ∃ β' st', (againsS Γ ops ag st' ∧ sxDraw Γ ops t st' K) ∧ Inv C β' st' a' w') a w := by
        unfold wpOpIn
        simp only [ho]
        rcases guardS_sound hi h with ⟨hw, st1, k, hi1⟩ | ⟨hw, st1, k, hi1⟩
        · rw [if_pos hw]
          exact opS_sound hE (fun β' st' a' w' hK hi' => ⟨β', st', hK, hi'⟩) hi1 k
        · rw [if_neg (by simp [hw])]
          obtain ⟨st', k1, k2⟩ := skipS_sound hE.n k hi1
          exact ⟨fun _ _ => trivial, β, st', k1, k2⟩
      refine wpOpIn_mono ?_ (wpOpIn_keeps (hS.plain j hil) hil fin)
      rintro a' w' ⟨⟨β', st', k1, k2⟩, hu⟩
      exact next β' st' a' w' k1 k2 hu
    · exact hothers j hj hr (by simp [e, hs])

theorem sxDraw_region (hE : EnvOk Γ C) {id : Nat} {T : DT} (hs : statOk ops Γ.N A = true) (hd : dtOk ops A T (List.range ops.size) [] [] = true)
    (hQ : ∀ β' st' a' w', K st' → Inv C β' st' a' w' → Q .normal a' w') (h : sxDraw Γ ops T st K) (hi : Inv C β st a w) : (Code.region id ops true).wpIn (FW r) n C.P Q a w := by
  have hS := Stat.of hs
  rw [hE.n] at hS
  refine region_draw hE.mo hS ?_
  have := sxDraw_sound (r := r) (n := n) (Q := fun e a w => e = .normal ∧ Q .normal a w) hE hS (fun β' st' a' w' hk hi' => ⟨rfl, hQ β' st' a' w' hk hi'⟩) T (List.range ops.size) [] [] [] β st a { w with drawn := w.drawn + 1 } hd List.nodup_range (fun j hj => List.mem_range.1 hj) (fun j hj hjc => absurd (List.mem_range.2 hj) hjc) (fun p hp => by simp at hp) (fun p hp => by simp at hp) h hi.drew
  have hl : (List.range ops.size).length = ops.size := List.length_range
  cases T with
  | done => rw [DRes, hl] at this; exact this
  | eag i t => rw [DRes, hl] at this; exact this
  | stop => simp [dtOk] at hd
  | alt i ag t m =>
    simp only [dtOk, Bool.and_eq_true] at hd
    have hi := (mem1_iff _ _).1 hd.1.1.1.1.1.1
    have hlen : ops.size = (ops.size - 1) + 1 := by have := List.length_pos_of_mem hi; rw [hl] at this; omega
    rw [hlen, Good]
    rw [← hlen]
    refine .inr (.inr ⟨⟨i, hi, hd.1.1.1.1.2⟩, fun i hi hr => ?_⟩)
    have := this i hi hr (by simp)
    rw [hl] at this
    exact this

end Go.SX
