/-
  SX, part N: calls by contract.
-/
import Derived.Test.YtgjoileoekbkoaaSXM
set_option linter.unusedVariables false
set_option linter.unusedSimpArgs false
namespace Go.SX

/-- What a contract says of a function: in whatever world its blocks lie as told, beside whatever others, the call comes back, its blocks are as told then, all else is as it was. -/
def FSpec.ok (S : FSpec) (P : Program) (g : FuncId) : Prop :=
  ∀ (X : Nat → Prop) (β : Nat → Nat) (w : World) (x : S.X), S.pp x → ltL S.nx (S.args x) = true → ltH S.nx (S.hp x) = true → (∀ y ∈ S.args x, okV y) → HpOk X β (S.hp x) S.nx w → (∀ b, X b → b < w.heap.size) →
    (∀ w', AgreeOff (fun b => (X b ∨ isDef w b) ∨ trk β (S.hp x) b) w w' → S.pf x w') →
    Calls P g (denL β (S.args x)).toArray w fun e w' => ∃ o ∈ S.outs, ∃ (y : o.Y) (β' : Nat → Nat), o.qp x y ∧ (∀ i, i < S.nx → β' i = β i) ∧ e = .returned ((resSV (o.ret x y)).den β') ∧ gd o.nx2 (resSV (o.ret x y)) ∧
      HpOk X β' (o.hq x y) o.nx2 w' ∧ (∀ j t, lk (o.hq x y) j = some t → t.live → trk β (S.hp x) (β' j) ∨ w.heap.size ≤ β' j) ∧ AgreeOff (trk β (S.hp x)) w w' ∧
      (∀ w'', AgreeOff (fun b => (X b ∨ isDef w' b) ∨ trk β' (o.hq x y) b) w' w'' → o.qf x y w'')

theorem outsS_mem {X : Type} {K : (o : FOut X) → o.Y → Prop} {x : X} : ∀ {l : List (FOut X)}, outsS K x l → ∀ o ∈ l, ∀ y : o.Y, o.qp x y → K o y
  | [], _, o, ho, _, _ => by simp at ho
  | [p], h, o, ho, y, hy => by
    obtain rfl := List.mem_singleton.1 ho
    exact h y hy
  | p :: q :: r, h, o, ho, y, hy => by
    rcases List.mem_cons.1 ho with rfl | ho
    · exact h.1 y hy
    · exact outsS_mem h.2 o ho y hy

mutual
theorem SV.ren_den {β β' ρ : Nat → Nat} {n : Nat} (h : ∀ i, i < n → β' (ρ i) = β i) : ∀ x : SV, x.lt n = true → (x.ren ρ).den β' = x.den β
  | .v x, _ => rfl
  | .b p, _ => rfl
  | .nils, _ => rfl
  | .nilp, _ => rfl
  | .nilf, _ => rfl
  | .ptr i o, hl => by have := h i (blt_lt hl); simp [SV.ren, SV.den, this]
  | .ptrx i o x, hl => by have := h i (blt_lt hl); simp [SV.ren, SV.den, this]
  | .optr a k, _ => rfl
  | .osl i m c z, hl => by have := h i (blt_lt hl); simp [SV.ren, SV.den, this]
  | .sub i lo m c, hl => by have := h i (blt_lt hl); simp [SV.ren, SV.den, this]
  | .clo f l, hl => by simp only [SV.ren, SV.den]; rw [renL_den h l (by simpa [SV.lt] using hl)]
  | .agg l, hl => by simp only [SV.ren, SV.den]; rw [renS_den h l (by simpa [SV.lt] using hl)]
  | .tup l, hl => by simp only [SV.ren, SV.den]; rw [renL_den h l (by simpa [SV.lt] using hl)]
theorem renL_den {β β' ρ : Nat → Nat} {n : Nat} (h : ∀ i, i < n → β' (ρ i) = β i) : ∀ l : List SV, ltL n l = true → denL β' (renL ρ l) = denL β l
  | [], _ => rfl
  | x :: r, hl => by
    have hl' : x.lt n = true ∧ ltL n r = true := by simpa [ltL] using hl
    simp only [renL, denL]; rw [SV.ren_den h x hl'.1, renL_den h r hl'.2]
theorem renS_den {β β' ρ : Nat → Nat} {n : Nat} (h : ∀ i, i < n → β' (ρ i) = β i) : ∀ l : List Seg, ltS n l = true → denS β' (renS ρ l) = denS β l
  | [], _ => rfl
  | s :: r, hl => by
    have hl' : s.lt n = true ∧ ltS n r = true := by simpa [ltS] using hl
    simp only [renS, denS]; rw [Seg.ren_den h s hl'.1, renS_den h r hl'.2]
theorem Seg.ren_den {β β' ρ : Nat → Nat} {n : Nat} (h : ∀ i, i < n → β' (ρ i) = β i) : ∀ s : Seg, s.lt n = true → (s.ren ρ).den β' = s.den β
  | .one x, hl => by simp only [Seg.ren, Seg.den]; rw [SV.ren_den h x (by simpa [Seg.lt] using hl)]
  | .many _ _, _ => rfl
end
theorem lt_blt {i n : Nat} (h : i < n) : Nat.blt i n = true := by simp [Nat.blt]; omega
mutual
theorem SV.ren_lt {ρ : Nat → Nat} {n m : Nat} (h : ∀ i, i < n → ρ i < m) : ∀ x : SV, x.lt n = true → (x.ren ρ).lt m = true
  | .v x, _ => rfl
  | .b p, _ => rfl
  | .nils, _ => rfl
  | .nilp, _ => rfl
  | .nilf, _ => rfl
  | .ptr i o, hl => lt_blt (h i (blt_lt hl))
  | .ptrx i o x, hl => lt_blt (h i (blt_lt hl))
  | .optr a k, _ => rfl
  | .osl i _ c z, hl => lt_blt (h i (blt_lt hl))
  | .sub i lo _ c, hl => lt_blt (h i (blt_lt hl))
  | .clo f l, hl => renL_lt h l hl
  | .agg l, hl => renS_lt h l hl
  | .tup l, hl => renL_lt h l hl
theorem renL_lt {ρ : Nat → Nat} {n m : Nat} (h : ∀ i, i < n → ρ i < m) : ∀ l : List SV, ltL n l = true → ltL m (renL ρ l) = true
  | [], _ => rfl
  | x :: r, hl => by
    have hl' : x.lt n = true ∧ ltL n r = true := by simpa [ltL] using hl
    simp [renL, ltL, SV.ren_lt h x hl'.1, renL_lt h r hl'.2]
theorem renS_lt {ρ : Nat → Nat} {n m : Nat} (h : ∀ i, i < n → ρ i < m) : ∀ l : List Seg, ltS n l = true → ltS m (renS ρ l) = true
  | [], _ => rfl
  | s :: r, hl => by
    have hl' : s.lt n = true ∧ ltS n r = true := by simpa [ltS] using hl
    simp [renS, ltS, Seg.ren_lt h s hl'.1, renS_lt h r hl'.2]
theorem Seg.ren_lt {ρ : Nat → Nat} {n m : Nat} (h : ∀ i, i < n → ρ i < m) : ∀ s : Seg, s.lt n = true → (s.ren ρ).lt m = true
  | .one x, hl => SV.ren_lt h x hl
  | .many _ _, _ => rfl
end
theorem smplL_ren {ρ : Nat → Nat} : ∀ {l : List SV}, smplL l = true → smplL (renL ρ l) = true
  | [], _ => rfl
  | x :: r, h => by
    simp only [renL, smplL] at h ⊢
    cases hx : smpl x with
    | false => simp [hx] at h
    | true =>
      simp only [hx] at h
      have : smpl (x.ren ρ) = true := by cases x <;> first | rfl | (simp [smpl] at hx)
      rw [this]; exact smplL_ren h
theorem isC_ren {ρ : Nat → Nat} {x : SV} (h : isC x) : isC (x.ren ρ) := by
  cases x
  case clo f l => exact smplL_ren (l := l) h
  all_goals first | exact h | trivial
theorem okS_ren {ρ : Nat → Nat} : ∀ {l : List Seg}, okS l → okS (renS ρ l)
  | [], _ => trivial
  | .one x :: r, h => ⟨isC_ren h.1, okS_ren h.2⟩
  | .many n vs :: r, h => ⟨h.1, okS_ren h.2⟩
theorem okV1_ren {ρ : Nat → Nat} {x : SV} (h : okV1 x) : okV1 (x.ren ρ) := by
  cases x
  case agg l => exact okS_ren h
  case tup l => exact h.elim
  case clo f l => exact smplL_ren (l := l) h
  all_goals trivial
theorem okT_ren {ρ : Nat → Nat} : ∀ {l : List SV}, okT l → okT (renL ρ l)
  | [], _ => trivial
  | x :: r, h => ⟨okV1_ren h.1, okT_ren h.2⟩
theorem okV_ren {ρ : Nat → Nat} {x : SV} (h : okV x) : okV (x.ren ρ) := by
  cases x
  case agg l => exact okS_ren h
  case tup l => exact okT_ren h
  case clo f l => exact smplL_ren (l := l) h
  all_goals trivial
theorem SB.ren_den {β β' ρ : Nat → Nat} {n : Nat} (h : ∀ i, i < n → β' (ρ i) = β i) {s : SB} (hl : s.lt n = true) {o : Option Obj} (hs : s.den β o) : (s.ren ρ).den β' o := by
  cases s with
  | cells l =>
    obtain ⟨h1, ty, fz, h2, h3⟩ := hs
    have := renS_den h l (by simpa [SB.lt] using hl)
    exact ⟨okS_ren h1, ty, fz, by rw [this]; exact h2, by rw [this]; exact h3⟩
  | orow vs len cap sz => exact hs
theorem SB.ren_live {ρ : Nat → Nat} {s : SB} : (s.ren ρ).live ↔ s.live := by cases s <;> exact Iff.rfl
theorem SB.ren_lt {ρ : Nat → Nat} {n m : Nat} (h : ∀ i, i < n → ρ i < m) {s : SB} (hl : s.lt n = true) : (s.ren ρ).lt m = true := by
  cases s with
  | cells l => exact renS_lt h l hl
  | orow _ _ _ _ => rfl

theorem lk_append {α : Type} (a b : List (Nat × α)) (k : Nat) : lk (a ++ b) k = match lk a k with | some x => some x | none => lk b k := by
  induction a with
  | nil => simp [lk]
  | cons p r ih =>
    obtain ⟨j, x⟩ := p
    simp only [List.cons_append, lk_cons]
    split
    · rfl
    · exact ih
theorem lk_renH {ρ : Nat → Nat} : ∀ {l : List (Nat × SB)} {k : Nat} {t : SB}, lk (renH ρ l) k = some t → ∃ i s, lk l i = some s ∧ ρ i = k ∧ t = s.ren ρ
  | [], k, t, h => by simp [renH, lk] at h
  | (i, s) :: r, k, t, h => by
    simp only [renH, lk_cons] at h
    by_cases e : ρ i = k
    · rw [if_pos e] at h; cases h
      exact ⟨i, s, by rw [lk_cons, if_pos rfl], e, rfl⟩
    · rw [if_neg e] at h
      obtain ⟨i', s', h1, h2, h3⟩ := lk_renH h
      refine ⟨i', s', ?_, h2, h3⟩
      rw [lk_cons, if_neg (fun e' => e (by rw [e']; exact h2))]; exact h1
theorem lk_rms : ∀ (js : List Nat) {hp : List (Nat × SB)} {k : Nat} {t : SB}, lk (rms hp js) k = some t → lk hp k = some t ∧ k ∉ js
  | [], hp, k, t, h => ⟨h, by simp⟩
  | j :: r, hp, k, t, h => by
    simp only [rms] at h
    obtain ⟨h1, h2⟩ := lk_rms r h
    rw [lk_rm] at h1
    split at h1
    · cases h1
    · rename_i e; exact ⟨h1, by simp [h2, Ne.symm e]⟩
theorem mem_imgs {σ : Sub} : ∀ {l : List (Nat × SB)} {i j : Nat} {t : SB}, lk l i = some t → lk σ i = some j → j ∈ imgs σ l
  | [], i, j, t, h, _ => by simp [lk] at h
  | (k, s) :: r, i, j, t, h, e => by
    rw [lk_cons] at h
    simp only [imgs]
    split at h
    · rename_i e'; subst e'; simp [e]
    · have := mem_imgs h e
      cases lk σ k with
      | none => exact this
      | some _ => exact List.mem_cons_of_mem _ this

variable {C : Ctx} {β : Nat → Nat} {st : SState} {a : Act} {w : World}

theorem noTup_ok : ∀ {l : List SV}, noTup l = true → (∀ x ∈ l, okV x) → okT l
  | [], _, _ => trivial
  | x :: r, h, ho => by
    have hx := ho x (by simp)
    have hr : noTup r = true → okT r := fun hn => noTup_ok hn (fun y hy => ho y (by simp [hy]))
    cases x <;> simp only [noTup] at h <;> first | exact ⟨hx, hr h⟩ | cases h
theorem okT_all : ∀ {l : List SV}, okT l → ∀ x ∈ l, okV x
  | x :: r, h, y, hy => by
    rcases List.mem_cons.1 hy with rfl | hy
    · have := h.1; cases y <;> first | exact this | exact this.elim
    · exact okT_all h.2 y hy

theorem callS_sound (hC : CtxOk C) {S : FSpec} {g : FuncId} (hS : S.ok C.P g) (hi : Inv C β st a w) {as : List SV} {K : SState → SV → Prop} (h : callS S as st K) (hlt : ltL st.nx as = true) (hok : ∀ x ∈ as, okV x) :
    Calls C.P g (denL β as).toArray w fun e w' => ∃ (β' : Nat → Nat) (st' : SState) (r : SV), e = .returned (r.den β') ∧ K st' r ∧ gd st'.nx r ∧ Inv C β' st' a w' := by
  obtain ⟨x, h⟩ := h
  cases ha : ltL S.nx (S.args x) with
  | false => simp only [ha] at h
  | true =>
  simp only [ha] at h
  cases hh : ltH S.nx (S.hp x) with
  | false => simp only [hh] at h
  | true =>
  simp only [hh] at h
  cases hnt : noTup as with
  | false => simp only [hnt] at h
  | true =>
  simp only [hnt] at h
  obtain ⟨σ1, g1, g2, g3, g4, g5, _⟩ := mL_sound (m := S.nx) (β := β) _ _ [] _ h (fun i j e => by simp [lk] at e) ha hlt
  obtain ⟨σ, k1, k2, k3, k4⟩ := mHp_sound (m := S.nx) (β := β) st.hp (fun i s e => (hi.hp.blk i s e).2.1) _ σ1 _ g1 g3 hh
  cases hd : dist1 (imgs σ (S.hp x)) with
  | false => simp only [hd] at k1
  | true =>
  simp only [hd] at k1
  obtain ⟨hpp, hpf, hK⟩ := k1
  obtain ⟨hpo, hlive⟩ := hp_of_match hi.hp hd hh k4
  -- what is not the contract's
  have hrest : ∀ b, (∃ j s, lk st.hp j = some s ∧ s.live ∧ j ∉ imgs σ (S.hp x) ∧ β j = b) → b < w.heap.size := by
    rintro b ⟨j, s, h1, h2, _, rfl⟩
    exact SB.den_lt (hi.hp.blk j s h1).1 h2
  let X' : Nat → Prop := fun b => C.X b ∨ ∃ j s, lk st.hp j = some s ∧ s.live ∧ j ∉ imgs σ (S.hp x) ∧ β j = b
  have hpo' : HpOk X' (sub β σ) (S.hp x) S.nx w := ⟨hpo.blk, hpo.inj, fun i t ht lt => by
    obtain ⟨j, y, h1, h2, h3, h4⟩ := hlive i t ht lt
    rintro (hx | ⟨j', s, e1, e2, e3, e4⟩)
    · exact hpo.exc i t ht lt hx
    · rw [h4] at e4
      have : j' = j := hi.hp.inj j' j s y e1 h2 e2 h3 e4
      subst this
      exact e3 (mem_imgs ht h1)⟩
  have htrk : ∀ b, trk (sub β σ) (S.hp x) b → ∃ j s, lk st.hp j = some s ∧ s.live ∧ j ∈ imgs σ (S.hp x) ∧ β j = b := by
    rintro b ⟨i, t, ht, lt, rfl⟩
    obtain ⟨j, y, h1, h2, h3, h4⟩ := hlive i t ht lt
    exact ⟨j, y, h2, h3, mem_imgs ht h1, h4.symm⟩
  have hXlt : ∀ b, X' b → b < w.heap.size := by
    rintro b (hx | hx)
    · exact hC.lt hi hx
    · exact hrest b hx
  have hfacts : ∀ w', AgreeOff (fun b => (X' b ∨ isDef w b) ∨ trk (sub β σ) (S.hp x) b) w w' → S.pf x w' := fun w' hw' => hpf w' (hi.fx w' (hw'.mono (by
    rintro b hb (((hx | ⟨j, s, e1, e2, e3, e4⟩) | hd) | hx)
    · exact .inl (.inl hx)
    · exact .inr ⟨j, s, e1, e2, e4⟩
    · exact .inl (.inr hd)
    · obtain ⟨j, s, e1, e2, e3, e4⟩ := htrk b hx
      exact .inr ⟨j, s, e1, e2, e4⟩)))
  have hcall := hS X' (sub β σ) w x hpp ha hh (okT_all (g5 (noTup_ok hnt hok))) hpo' hXlt hfacts
  rw [g4 σ k2] at hcall
  refine hcall.mono ?_
  rintro e w' ⟨o, ho, y, β', q1, q2, q3, q4, q5, q6, q7, q8⟩
  have hK := outsS_mem hK o ho
  -- the caller's reading behind the call
  let β'' : Nat → Nat := fun k => if k < st.nx then β k else β' (k - st.nx)
  have hold : ∀ k, k < st.nx → β'' k = β k := fun k hk => if_pos hk
  have hρ : ∀ i, i < o.nx2 → β'' (rho σ st.nx i) = β' i := by
    intro i hi2
    unfold rho
    cases hl : lk σ i with
    | none => simp only; show (if st.nx + i < st.nx then _ else _) = _; rw [if_neg (by omega)]; congr 1; omega
    | some j =>
      simp only
      obtain ⟨b1, b2⟩ := k3 i j hl
      rcases b2 with b2 | b2
      · rw [hold j b2, q2 i b1]; simp [sub, hl]
      · subst b2; show (if st.nx + i < st.nx then _ else _) = _; rw [if_neg (by omega)]; congr 1; omega
  have hρlt : ∀ i, i < o.nx2 → rho σ st.nx i < st.nx + o.nx2 := by
    intro i hi2
    unfold rho
    cases hl : lk σ i with
    | none => simp only; omega
    | some j =>
      simp only
      obtain ⟨b1, b2⟩ := k3 i j hl
      omega
  refine ⟨β'', _, _, ?_, hK y q1, ⟨SV.ren_lt hρlt _ q4.1, okV_ren q4.2⟩, ?_⟩
  · rw [q3, SV.ren_den hρ _ q4.1]
  -- a block that is not the contract's
  have hrst : ∀ k t, lk (rms st.hp (imgs σ (S.hp x))) k = some t → lk st.hp k = some t ∧ k ∉ imgs σ (S.hp x) ∧ k < st.nx ∧ (t.live → w'.heap[β k]? = w.heap[β k]?) := by
    intro k t ht
    obtain ⟨e1, e2⟩ := lk_rms _ ht
    refine ⟨e1, e2, (hi.hp.blk k t e1).2.2, fun lt => q7.same _ (SB.den_lt (hi.hp.blk k t e1).1 lt) (fun hT => ?_)⟩
    obtain ⟨j, s, f1, f2, f3, f4⟩ := htrk _ hT
    have : j = k := hi.hp.inj j k s t f1 e1 f2 lt f4
    subst this; exact e2 f3
  -- of the two kinds
  have hcase : ∀ k t, lk (renH (rho σ st.nx) (o.hq x y) ++ rms st.hp (imgs σ (S.hp x))) k = some t →
      (∃ i s, lk (o.hq x y) i = some s ∧ rho σ st.nx i = k ∧ t = s.ren (rho σ st.nx) ∧ i < o.nx2) ∨ lk (rms st.hp (imgs σ (S.hp x))) k = some t := by
    intro k t ht
    rw [lk_append] at ht
    cases hr : lk (renH (rho σ st.nx) (o.hq x y)) k with
    | none => rw [hr] at ht; exact .inr ht
    | some t' =>
      rw [hr] at ht; cases ht
      obtain ⟨i, s, f1, f2, f3⟩ := lk_renH hr
      exact .inl ⟨i, s, f1, f2, f3, (q5.blk i s f1).2.2⟩
  have hnewb : ∀ i s, lk (o.hq x y) i = some s → s.live → (∃ j s, lk st.hp j = some s ∧ s.live ∧ j ∈ imgs σ (S.hp x) ∧ β j = β' i) ∨ w.heap.size ≤ β' i := by
    intro i s e1 e2
    rcases q6 i s e1 e2 with h | h
    · exact .inl (htrk _ h)
    · exact .inr h
  have htrk2 : ∀ b, b < w.heap.size → trk β'' (renH (rho σ st.nx) (o.hq x y) ++ rms st.hp (imgs σ (S.hp x))) b → trk β st.hp b := by
    rintro b hb ⟨k, t, ht, lt, rfl⟩
    rcases hcase k t ht with ⟨i, s, f1, f2, f3, f4⟩ | ht
    · subst f2; subst f3
      rw [hρ i f4] at hb ⊢
      rcases hnewb i s f1 (SB.ren_live.1 lt) with ⟨j, s', h1, h2, h3, h4⟩ | h
      · exact ⟨j, s', h1, h2, h4⟩
      · omega
    · obtain ⟨e1, e2, e3, _⟩ := hrst k t ht
      exact ⟨k, t, e1, lt, (hold k e3).symm⟩
  exact {
    siz := hi.siz
    dfr := hi.dfr.keep (fun b hd => q7.same b hd.lt (fun hT => by
      obtain ⟨j, s, f1, f2, f3, f4⟩ := htrk _ hT
      obtain ⟨c, ty, fz, hc⟩ := SB.den_cells (hi.hp.blk j s f1).1 f2
      exact isDef.not hc (f4 ▸ hd)))
    xs := fun b hb => by
      rw [q7.same b (hC.lt hi hb) (fun hT => by
        obtain ⟨j, s, f1, f2, f3, f4⟩ := htrk _ hT
        exact hi.hp.exc j s f1 f2 (f4 ▸ hb))]
      exact hi.xs b hb
    tm := fun s z hs => by
      obtain ⟨h1, h2⟩ := hi.tm s z hs
      exact ⟨by rw [h1, SV.den_congr (fun i hi' => (hold i hi').symm) z h2.1], h2.mono (Nat.le_add_right _ _)⟩
    hp := {
      blk := fun k t ht => by
        rcases hcase k t ht with ⟨i, s, f1, f2, f3, f4⟩ | ht
        · subst f2; subst f3
          obtain ⟨b1, b2, b3⟩ := q5.blk i s f1
          refine ⟨?_, SB.ren_lt hρlt b2, hρlt i f4⟩
          rw [hρ i f4]; exact SB.ren_den hρ b2 b1
        · obtain ⟨e1, e2, e3, e4⟩ := hrst k t ht
          obtain ⟨b1, b2, b3⟩ := hi.hp.blk k t e1
          refine ⟨?_, ?_, Nat.lt_of_lt_of_le e3 (Nat.le_add_right _ _)⟩
          · rw [hold k e3]
            have b1' := (SB.den_congr (fun i hi' => (hold i hi').symm) w.heap[β k]? t b2).1 b1
            cases t with
            | cells l => rw [e4 trivial]; exact b1'
            | orow vs len cap sz =>
              rcases Nat.eq_zero_or_pos cap with hc | hc
              · exact ⟨b1.1, b1.2.1, .inl hc⟩
              · rw [e4 (show cap ≠ 0 by omega)]; exact b1'
          · cases t with
            | cells l => exact ltS_mono (Nat.le_add_right _ _) l b2
            | orow _ _ _ _ => rfl
      inj := fun k k' t t' ht ht' lt lt' e => by
        rcases hcase k t ht with ⟨i, s, f1, f2, f3, f4⟩ | ht <;> rcases hcase k' t' ht' with ⟨i', s', f1', f2', f3', f4'⟩ | ht'
        · subst f2; subst f3; subst f2'; subst f3'
          rw [hρ i f4, hρ i' f4'] at e
          have : i = i' := q5.inj i i' s s' f1 f1' (SB.ren_live.1 lt) (SB.ren_live.1 lt') e
          rw [this]
        · subst f2; subst f3
          obtain ⟨e1, e2, e3, _⟩ := hrst k' t' ht'
          rw [hρ i f4, hold k' e3] at e
          rcases hnewb i s f1 (SB.ren_live.1 lt) with ⟨j, s', h1, h2, h3, h4⟩ | h
          · have : j = k' := hi.hp.inj j k' s' t' h1 e1 h2 lt' (by rw [h4, e])
            subst this; exact absurd h3 e2
          · have := SB.den_lt (hi.hp.blk k' t' e1).1 lt'; omega
        · subst f2'; subst f3'
          obtain ⟨e1, e2, e3, _⟩ := hrst k t ht
          rw [hρ i' f4', hold k e3] at e
          rcases hnewb i' s' f1' (SB.ren_live.1 lt') with ⟨j, s', h1, h2, h3, h4⟩ | h
          · have : j = k := hi.hp.inj j k s' t h1 e1 h2 lt (by rw [h4, e])
            subst this; exact absurd h3 e2
          · have := SB.den_lt (hi.hp.blk k t e1).1 lt; omega
        · obtain ⟨e1, _, e3, _⟩ := hrst k t ht
          obtain ⟨e1', _, e3', _⟩ := hrst k' t' ht'
          rw [hold k e3, hold k' e3'] at e
          exact hi.hp.inj k k' t t' e1 e1' lt lt' e
      exc := fun k t ht lt => by
        rcases hcase k t ht with ⟨i, s, f1, f2, f3, f4⟩ | ht
        · subst f2; subst f3
          rw [hρ i f4]
          exact fun hx => q5.exc i s f1 (SB.ren_live.1 lt) (.inl hx)
        · obtain ⟨e1, _, e3, _⟩ := hrst k t ht
          rw [hold k e3]; exact hi.hp.exc k t e1 lt }
    old := fun k t ht lt => by
      rcases hcase k t ht with ⟨i, s, f1, f2, f3, f4⟩ | ht
      · subst f2; subst f3
        rw [hρ i f4]
        rcases hnewb i s f1 (SB.ren_live.1 lt) with ⟨j, s', h1, h2, h3, h4⟩ | h
        · rw [← h4]; exact hi.old j s' h1 h2
        · exact .inr (Nat.le_trans hi.frm.size h)
      · obtain ⟨e1, _, e3, _⟩ := hrst k t ht
        rw [hold k e3]; exact hi.old k t e1 lt
    frm := AgreeOff.step hi.frm q7 (fun b hb hT => by
      obtain ⟨j, s, f1, f2, f3, rfl⟩ := htrk b hT
      rcases hi.old j s f1 f2 with h | h
      · exact h
      · omega)
    fx := fun w'' hw'' => ⟨hi.fx w'' (AgreeOff.step (T := fun b => (C.X b ∨ isDef w b) ∨ trk β st.hp b) (q7.mono (fun b hb hT => by
        obtain ⟨j, s, f1, f2, f3, f4⟩ := htrk b hT
        exact .inr ⟨j, s, f1, f2, f4⟩)) hw'' (by
      rintro b hb ((hx | hd) | hx)
      · exact .inl (.inl hx)
      · by_cases hT : trk (sub β σ) (S.hp x) b
        · obtain ⟨j, s, f1, f2, f3, f4⟩ := htrk b hT
          exact .inr ⟨j, s, f1, f2, f4⟩
        · exact .inl (.inr (hd.same (q7.same b hb hT)))
      · exact .inr (htrk2 b hb hx))), q8 w'' (hw''.mono (by
      rintro b hb ((hx | hd) | ⟨k, t, ht, lt, rfl⟩)
      · exact .inl (.inl (.inl hx))
      · exact .inl (.inr hd)
      · rcases hcase k t ht with ⟨i, s, f1, f2, f3, f4⟩ | ht
        · subst f2; subst f3
          exact .inr ⟨i, s, f1, SB.ren_live.1 lt, (hρ i f4).symm⟩
        · obtain ⟨e1, e2, e3, _⟩ := hrst k t ht
          exact .inl (.inl (.inr ⟨k, t, e1, lt, e2, (hold k e3).symm⟩))))⟩
    fix := fun i hi' => ⟨Nat.lt_of_lt_of_le (hi.fix i hi').1 (Nat.le_add_right _ _), by rw [hold i (hi.fix i hi').1]; exact (hi.fix i hi').2⟩ }

end Go.SX
