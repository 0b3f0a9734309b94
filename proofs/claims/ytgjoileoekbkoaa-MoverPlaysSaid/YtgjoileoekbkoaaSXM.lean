/-
  SX, part M: a state that is a template's; a call by its contract.
-/
import Derived.Test.YtgjoileoekbkoaaSXL
set_option linter.unusedVariables false
set_option linter.unusedSimpArgs false
namespace Go.SX

variable {m nx : Nat} {β : Nat → Nat}

theorem ltT_get {n : Nat} : ∀ {l : List (Nat × SV)} {i : Nat} {x : SV}, ltT n l = true → lk l i = some x → x.lt n = true
  | [], i, x, _, h => by simp [lk] at h
  | (j, y) :: r, i, x, ht, h => by
    simp only [ltT] at ht
    cases hy : y.lt n with
    | false => simp [hy] at ht
    | true =>
      simp only [hy] at ht
      rw [lk_cons] at h
      split at h
      · cases h; exact hy
      · exact ltT_get ht h
theorem ltH_get {n : Nat} : ∀ {l : List (Nat × SB)} {i : Nat} {x : SB}, ltH n l = true → lk l i = some x → x.lt n = true ∧ i < n
  | [], i, x, _, h => by simp [lk] at h
  | (j, y) :: r, i, x, ht, h => by
    simp only [ltH] at ht
    cases hj : Nat.blt j n with
    | false => simp [hj] at ht
    | true =>
      simp only [hj] at ht
      cases hy : y.lt n with
      | false => simp [hy] at ht
      | true =>
        simp only [hy] at ht
        rw [lk_cons] at h
        split at h
        · rename_i e; subst e; cases h; exact ⟨hy, blt_lt hj⟩
        · exact ltH_get ht h

theorem mTm_sound (tm : List (Nat × SV)) (htm : ∀ s x, lk tm s = some x → gd nx x) : ∀ (l : List (Nat × SV)) (σ : Sub) (K : Sub → Prop), mTm nx l tm σ K → bok m nx σ → ltT m l = true →
    MG m nx σ K (fun σ' => ∀ s t, lk l s = some t → ∃ y, lk tm s = some y ∧ SameAs β σ' t y ∧ okV t)
  | [], σ, K, h, hb, _ => ⟨σ, h, ext.refl _, hb, fun s t e => by simp [lk] at e⟩
  | (s0, t0) :: r, σ, K, h, hb, hl => by
    simp only [mTm] at h
    simp only [ltT] at hl
    cases hy : t0.lt m with
    | false => simp [hy] at hl
    | true =>
      simp only [hy] at hl
      cases hs : lk tm s0 with
      | none => simp [hs] at h
      | some y =>
        simp only [hs] at h
        obtain ⟨hg1, hg2⟩ := htm s0 y hs
        obtain ⟨σ1, g1, g2, g3, g4, _, _, g5, _⟩ := mSV_sound (β := β) t0 y σ _ h hb hy hg1
        obtain ⟨σ2, k1, k2, k3, k4⟩ := mTm_sound tm htm r σ1 K g1 g3 hl
        refine ⟨σ2, k1, g2.trans k2, k3, fun s t e => ?_⟩
        rw [lk_cons] at e
        split at e
        · rename_i e0; subst e0; cases e
          exact ⟨y, hs, g4.ext k2, g5 hg2⟩
        · exact k4 s t e

theorem mHp_sound (hp : List (Nat × SB)) (hhp : ∀ i s, lk hp i = some s → s.lt nx = true) : ∀ (l : List (Nat × SB)) (σ : Sub) (K : Sub → Prop), mHp nx l hp σ K → bok m nx σ → ltH m l = true →
    MG m nx σ K (fun σ' => ∀ i t, (i, t) ∈ l → ∃ j, lk σ' i = some j ∧ ((∃ y, lk hp j = some y ∧ (∀ σ'', ext σ' σ'' → ∀ o, y.den β o → t.den (sub β σ'') o) ∧ (t.live ↔ y.live)) ∨ (lk hp j = none ∧ ¬ t.live ∧ ∀ β o, t.den β o)))
  | [], σ, K, h, hb, _ => ⟨σ, h, ext.refl _, hb, fun i t e => by simp at e⟩
  | (i0, t0) :: r, σ, K, h, hb, hl => by
    simp only [mHp] at h
    simp only [ltH] at hl
    cases hj : Nat.blt i0 m with
    | false => simp [hj] at hl
    | true =>
      simp only [hj] at hl
      cases hy : t0.lt m with
      | false => simp [hy] at hl
      | true =>
        simp only [hy] at hl
        cases hs : lk σ i0 with
        | none => simp [hs] at h
        | some j =>
          simp only [hs] at h
          cases hq : lk hp j with
          | none =>
            simp only [hq] at h
            cases t0 with
            | cells l => simp only at h
            | orow vs n c s =>
              simp only at h
              cases hbl : Nat.ble nx j with
              | false => simp [hbl] at h
              | true =>
                simp only [hbl] at h
                obtain ⟨⟨rfl, rfl, rfl⟩, h⟩ := h
                obtain ⟨σ2, k1, k2, k3, k4⟩ := mHp_sound hp hhp r σ K h hb hl
                refine ⟨σ2, k1, k2, k3, fun i t e => ?_⟩
                rcases List.mem_cons.1 e with e | e
                · cases e
                  exact ⟨j, k2 _ _ hs, .inr ⟨hq, fun hl => hl rfl, fun β o => ⟨by simp, Nat.le_refl _, .inl rfl⟩⟩⟩
                · exact k4 i t e
          | some y =>
            simp only [hq] at h
            have hylt := hhp j y hq
            have fin : ∀ σ1, (mHp nx r hp σ1 K) → ext σ σ1 → bok m nx σ1 → (∀ σ'', ext σ1 σ'' → ∀ o, y.den β o → t0.den (sub β σ'') o) → (t0.live ↔ y.live) → MG m nx σ K (fun σ' => ∀ i t, (i, t) ∈ (i0, t0) :: r → ∃ j, lk σ' i = some j ∧ ((∃ y, lk hp j = some y ∧ (∀ σ'', ext σ' σ'' → ∀ o, y.den β o → t.den (sub β σ'') o) ∧ (t.live ↔ y.live)) ∨ (lk hp j = none ∧ ¬ t.live ∧ ∀ β o, t.den β o))) := by
              intro σ1 h1 h2 h3 h4 h5
              obtain ⟨σ2, k1, k2, k3, k4⟩ := mHp_sound hp hhp r σ1 K h1 h3 hl
              refine ⟨σ2, k1, h2.trans k2, k3, fun i t e => ?_⟩
              rcases List.mem_cons.1 e with e | e
              · cases e
                exact ⟨j, k2 _ _ (h2 _ _ hs), .inl ⟨y, hq, fun s hs' => h4 s (k2.trans hs'), h5⟩⟩
              · exact k4 i t e
            cases t0 with
            | cells l =>
              cases y with
              | cells l' =>
                simp only [mSB] at h
                obtain ⟨σ1, g1, g2, g3, g4, g5⟩ := mS_sound (β := β) l l' σ _ h hb (by simpa [SB.lt] using hy) (by simpa [SB.lt] using hylt)
                refine fin σ1 g1 g2 g3 (fun s hs' o ho => ?_) (by simp [SB.live])
                obtain ⟨a1, ty, fz, a2, a3⟩ := ho
                exact ⟨g5 a1, ty, fz, by rw [g4 s hs']; exact a2, by rw [g4 s hs']; exact a3⟩
              | orow _ _ _ _ => simp only [mSB] at h
            | orow vs n c s =>
              cases y with
              | cells l' => simp only [mSB] at h
              | orow vs' n' c' s' =>
                simp only [mSB] at h
                obtain ⟨⟨rfl, rfl, rfl, rfl⟩, h⟩ := h
                exact fin σ h (ext.refl _) hb (fun s hs' o ho => ho) Iff.rfl

theorem lk_mem {α : Type} : ∀ {l : List (Nat × α)} {i : Nat} {x : α}, lk l i = some x → (i, x) ∈ l
  | [], i, x, h => by simp [lk] at h
  | (j, y) :: r, i, x, h => by
    rw [lk_cons] at h
    split at h
    · rename_i e; subst e; cases h; simp
    · exact List.mem_cons_of_mem _ (lk_mem h)
theorem mem1_iff (j : Nat) : ∀ l : List Nat, mem1 j l = true ↔ j ∈ l
  | [] => by simp [mem1]
  | k :: r => by
    simp only [mem1]
    cases hb : Nat.beq j k with
    | true => simp [Nat.eq_of_beq_eq_true hb]
    | false =>
      have : j ≠ k := by intro e; subst e; simp at hb
      simp [mem1_iff j r, this]
/-- The images of a template's blocks are each its own. -/
theorem imgs_inj {σ : Sub} : ∀ {l : List (Nat × SB)}, dist1 (imgs σ l) = true → ∀ i i' s s' j, lk l i = some s → lk l i' = some s' → lk σ i = some j → lk σ i' = some j → i = i'
  | [], _, i, i', s, s', j, h, _, _, _ => by simp [lk] at h
  | (k, t) :: r, hd, i, i', s, s', j, h, h', e, e' => by
    have hin : ∀ i s, lk r i = some s → ∀ j, lk σ i = some j → j ∈ imgs σ r := by
      clear hd h h' e e'
      induction r with
      | nil => intro i s h; simp [lk] at h
      | cons p r ih =>
        obtain ⟨k', t'⟩ := p
        intro i s h j hj
        rw [lk_cons] at h
        simp only [imgs]
        split at h
        · rename_i e; subst e; simp [hj]
        · have := ih i s h j hj
          cases hk : lk σ k' with
          | none => simpa [hk] using this
          | some j' => simp [hk, this]
    have hd' : dist1 (imgs σ r) = true ∧ ∀ j, lk σ k = some j → j ∉ imgs σ r := by
      simp only [imgs] at hd
      cases hk : lk σ k with
      | none => simp only [hk] at hd; exact ⟨hd, fun j hj => by cases hj⟩
      | some j' =>
        simp only [hk, dist1] at hd
        cases hm : mem1 j' (imgs σ r) with
        | true => simp [hm] at hd
        | false => simp only [hm] at hd; exact ⟨hd, fun j hj hc => by cases hj; rw [(mem1_iff _ _).2 hc] at hm; cases hm⟩
    rw [lk_cons] at h h'
    split at h <;> split at h'
    · omega
    · rename_i e1 _; subst e1; exact absurd (hin i' s' h' j e') (hd'.2 j e)
    · rename_i _ e1; subst e1; exact absurd (hin i s h j e) (hd'.2 j e')
    · exact imgs_inj hd'.1 i i' s s' j h h' e e'

/-- A template's blocks, as matched, are as they are to be. -/
theorem hp_of_match {X : Nat → Prop} {hp tp : List (Nat × SB)} {w : World} (h : HpOk X β hp nx w) {σ : Sub} (hd : dist1 (imgs σ tp) = true) (hl : ltH m tp = true)
    (hm : ∀ i t, (i, t) ∈ tp → ∃ j, lk σ i = some j ∧ ((∃ y, lk hp j = some y ∧ (∀ σ'', ext σ σ'' → ∀ o, y.den β o → t.den (sub β σ'') o) ∧ (t.live ↔ y.live)) ∨ (lk hp j = none ∧ ¬ t.live ∧ ∀ β o, t.den β o))) :
    HpOk X (sub β σ) tp m w ∧ ∀ i t, lk tp i = some t → t.live → ∃ j y, lk σ i = some j ∧ lk hp j = some y ∧ y.live ∧ sub β σ i = β j := by
  have hlive : ∀ i t, lk tp i = some t → t.live → ∃ j y, lk σ i = some j ∧ lk hp j = some y ∧ y.live ∧ sub β σ i = β j := by
    intro i t ht lt
    obtain ⟨j, h1, h2⟩ := hm i t (lk_mem ht)
    rcases h2 with ⟨y, h2, _, h3⟩ | ⟨_, h3, _⟩
    · exact ⟨j, y, h1, h2, h3.1 lt, by simp [sub, h1]⟩
    · exact absurd lt h3
  refine ⟨⟨fun i t ht => ?_, fun i i' t t' ht ht' lt lt' e => ?_, fun i t ht lt => ?_⟩, hlive⟩
  · obtain ⟨g1, g2⟩ := ltH_get hl ht
    refine ⟨?_, g1, g2⟩
    obtain ⟨j, h1, h2⟩ := hm i t (lk_mem ht)
    rcases h2 with ⟨y, h2, h3, _⟩ | ⟨_, _, h3⟩
    · have := h3 σ (ext.refl _) _ (h.blk j y h2).1
      simpa [sub, h1] using this
    · exact h3 _ _
  · obtain ⟨j, y, h1, h2, h3, h4⟩ := hlive i t ht lt
    obtain ⟨j', y', h1', h2', h3', h4'⟩ := hlive i' t' ht' lt'
    have : j = j' := h.inj j j' y y' h2 h2' h3 h3' (by rw [← h4, ← h4', e])
    subst this
    exact imgs_inj hd i i' t t' j ht ht' h1 h1'
  · obtain ⟨j, y, h1, h2, h3, h4⟩ := hlive i t ht lt
    rw [h4]; exact h.exc j y h2 h3

end Go.SX
