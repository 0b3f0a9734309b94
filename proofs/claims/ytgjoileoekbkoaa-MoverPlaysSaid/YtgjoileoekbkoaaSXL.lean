/-
  SX, part L: matching a template.
-/
import Derived.Test.YtgjoileoekbkoaaSXK
set_option linter.unusedVariables false
set_option linter.unusedSimpArgs false
namespace Go.SX

/-- A template's ids, read through what they are bound to. -/
def sub (β : Nat → Nat) (σ : Sub) (i : Nat) : Nat := match lk σ i with
  | some j => β j
  | none => β i
def ext (σ σ' : Sub) : Prop := ∀ i j, lk σ i = some j → lk σ' i = some j
theorem ext.refl (σ : Sub) : ext σ σ := fun _ _ h => h
theorem ext.trans {a b c : Sub} (h : ext a b) (k : ext b c) : ext a c := fun i j e => k i j (h i j e)
theorem ext.sub {σ σ' : Sub} (h : ext σ σ') (β : Nat → Nat) {i j : Nat} (e : lk σ i = some j) : sub β σ' i = β j := by simp [SX.sub, h i j e]
/-- Bound are the template's own ids, to what is there, or behind it. -/
def bok (m nx : Nat) (σ : Sub) : Prop := ∀ i j, lk σ i = some j → i < m ∧ (j < nx ∨ j = nx + i)

/-- What a match gives: the template, wherever its ids are read as bound, is the value. -/
def MG (m nx : Nat) (σ : Sub) (K : Sub → Prop) (R : Sub → Prop) : Prop := ∃ σ', K σ' ∧ ext σ σ' ∧ bok m nx σ' ∧ R σ'

theorem bindS_sound {m nx i j : Nat} {σ : Sub} {K : Sub → Prop} (h : bindS σ i j K) (hb : bok m nx σ) (hi : i < m) (hj : j < nx ∨ j = nx + i) : MG m nx σ K (fun σ' => lk σ' i = some j) := by
  unfold bindS at h
  cases hl : lk σ i with
  | some j' =>
    simp only [hl] at h
    cases hbq : Nat.beq j j' with
    | false => simp [hbq] at h
    | true =>
      simp only [hbq] at h
      have := Nat.eq_of_beq_eq_true hbq
      subst this
      exact ⟨σ, h, ext.refl _, hb, hl⟩
  | none =>
    simp only [hl] at h
    refine ⟨_, h, fun k l e => ?_, fun k l e => ?_, ?_⟩
    · rw [lk_cons]
      by_cases hk : i = k
      · subst hk; rw [hl] at e; cases e
      · rw [if_neg hk]; exact e
    · rw [lk_cons] at e
      by_cases hk : i = k
      · subst hk; simp at e; subst e; exact ⟨hi, hj⟩
      · rw [if_neg hk] at e; exact hb k l e
    · show lk ((i, j) :: σ) i = some j
      rw [lk_cons, if_pos rfl]

section
variable {m nx : Nat} {β : Nat → Nat}

/-- Whatever binds more. -/
def Rd (β : Nat → Nat) (t : Value → Prop) : Prop := True

theorem mVal_sound {x : Value} {y : SV} {K : Prop} (h : mVal x y K) : K ∧ y.den β = x ∧ (okV y → one1 x = true ∨ ∃ c, x = .agg c ∨ x = .tuple c) := by
  have hone : one1 x = true ∨ ∃ c, x = .agg c ∨ x = .tuple c := by cases x <;> simp [one1]
  cases x <;> simp only [mVal] at h
  case int k n =>
    split at h
    · rename_i k' m'
      cases hb : Nat.beq (ikN k) (ikN k') with
      | false => simp [hb] at h
      | true =>
        simp only [hb] at h
        have e : k = k' := by
          have := Nat.eq_of_beq_eq_true hb
          cases k <;> cases k' <;> first | rfl | (simp [ikN] at this)
        exact ⟨h.2, by simp [SV.den, e, h.1], fun _ => hone⟩
    · exact h.elim
  case bool p =>
    split at h
    · exact ⟨h.2, by simp [SV.den, h.1], fun _ => hone⟩
    · exact ⟨h.2, by simp [SV.den, h.1], fun _ => hone⟩
    · exact h.elim
  case string s =>
    split at h
    · exact ⟨h.2, by simp [SV.den, h.1], fun _ => hone⟩
    · exact h.elim
  case slice ao n c =>
    split at h
    · obtain ⟨⟨e1, e2, e3⟩, h⟩ := h; exact ⟨h, by simp [SV.den, e1, e2, e3], fun _ => hone⟩
    · obtain ⟨⟨e1, e2, e3⟩, h⟩ := h; exact ⟨h, by simp [SV.den, e1, e2, e3], fun _ => hone⟩
    · exact h.elim
  all_goals
    split at h
    · exact ⟨h.2, by simp only [SV.den]; exact h.1.symm, fun _ => hone⟩
    · exact h.elim

/-- The template reads as the value wherever what is bound is kept. -/
def SameAs (β : Nat → Nat) (σ' : Sub) (t y : SV) : Prop := ∀ σ'', ext σ' σ'' → t.den (sub β σ'') = y.den β
theorem SameAs.ext {β : Nat → Nat} {σ σ' : Sub} {t y : SV} (h : SameAs β σ t y) (e : ext σ σ') : SameAs β σ' t y := fun s hs => h s (e.trans hs)
def SameL (β : Nat → Nat) (σ' : Sub) (t y : List SV) : Prop := ∀ σ'', SX.ext σ' σ'' → denL (sub β σ'') t = denL β y
def SameS (β : Nat → Nat) (σ' : Sub) (t y : List Seg) : Prop := ∀ σ'', SX.ext σ' σ'' → denS (sub β σ'') t = denS β y
def SameG (β : Nat → Nat) (σ' : Sub) (t y : Seg) : Prop := ∀ σ'', SX.ext σ' σ'' → t.den (sub β σ'') = y.den β

theorem ZB_same {z z' : ZB} {K : Prop} (h : mZB z z' K) (b : Nat) : K ∧ z.den b = z'.den b := by
  unfold mZB at h
  exact ⟨h.2, by rw [h.1]⟩

mutual
theorem mSV_sound : ∀ (t y : SV) (σ : Sub) (K : Sub → Prop), mSV nx t y σ K → bok m nx σ → t.lt m = true → y.lt nx = true → MG m nx σ K (fun σ' => SameAs β σ' t y ∧ (okV1 y → okV1 t) ∧ (isC y → isC t) ∧ (okV y → okV t) ∧ (smpl y = true → smpl t = true))
  | .v x, y, σ, K, h, hb, ht, hy => by
    simp only [mSV] at h
    obtain ⟨h1, h2, h3⟩ := mVal_sound (β := β) h
    refine ⟨σ, h1, ext.refl _, hb, fun _ _ => by rw [h2]; rfl, fun _ => trivial, fun hc => ?_, fun _ => trivial, fun _ => rfl⟩
    have := isC.one1 hc β
    rw [h2] at this; exact this
  | .b p, y, σ, K, h, hb, ht, hy => by
    simp only [mSV] at h
    split at h
    · exact ⟨σ, h.2, ext.refl _, hb, fun _ _ => by simp [SV.den, h.1], fun _ => trivial, fun _ => trivial, fun _ => trivial, fun _ => rfl⟩
    · exact ⟨σ, h.2, ext.refl _, hb, fun _ _ => by simp [SV.den, h.1], fun _ => trivial, fun _ => trivial, fun _ => trivial, fun _ => rfl⟩
    · exact h.elim
  | .nils, y, σ, K, h, hb, ht, hy => by
    simp only [mSV] at h
    split at h
    · exact ⟨σ, h, ext.refl _, hb, fun _ _ => rfl, fun _ => trivial, fun _ => trivial, fun _ => trivial, fun _ => rfl⟩
    · obtain ⟨⟨e1, e2, e3⟩, h⟩ := h
      exact ⟨σ, h, ext.refl _, hb, fun _ _ => by simp [SV.den, e1, e2, e3], fun _ => trivial, fun _ => trivial, fun _ => trivial, fun _ => rfl⟩
    · exact h.elim
  | .nilp, y, σ, K, h, hb, ht, hy => by
    simp only [mSV] at h
    split at h
    · exact ⟨σ, h, ext.refl _, hb, fun _ _ => rfl, fun _ => trivial, fun _ => trivial, fun _ => trivial, fun _ => rfl⟩
    · exact ⟨σ, h.2, ext.refl _, hb, fun _ _ => by simp [SV.den, h.1], fun _ => trivial, fun _ => trivial, fun _ => trivial, fun _ => rfl⟩
    · exact h.elim
  | .nilf, y, σ, K, h, hb, ht, hy => by
    simp only [mSV] at h
    split at h
    · exact ⟨σ, h, ext.refl _, hb, fun _ _ => rfl, fun _ => trivial, fun _ => trivial, fun _ => trivial, fun _ => rfl⟩
    · exact h.elim
  | .ptr i o, y, σ, K, h, hb, ht, hy => by
    simp only [mSV] at h
    split at h
    · rename_i j o'
      cases hq : Nat.beq o o' with
      | false => simp [hq] at h
      | true =>
        simp only [hq] at h
        have := Nat.eq_of_beq_eq_true hq
        subst this
        obtain ⟨σ', g1, g2, g3, g4⟩ := bindS_sound h hb (blt_lt ht) (.inl (blt_lt hy))
        exact ⟨σ', g1, g2, g3, fun s hs => by simp [SV.den, hs.sub β g4], fun _ => trivial, fun _ => trivial, fun _ => trivial, fun _ => rfl⟩
    · exact h.elim
  | .ptrx i o x, y, σ, K, h, hb, ht, hy => by
    simp only [mSV] at h
    split at h
    · rename_i j o' x'
      cases hq : Nat.beq o o' with
      | false => simp [hq] at h
      | true =>
        simp only [hq] at h
        obtain ⟨rfl, h⟩ := h
        have := Nat.eq_of_beq_eq_true hq
        subst this
        obtain ⟨σ', g1, g2, g3, g4⟩ := bindS_sound h hb (blt_lt ht) (.inl (blt_lt hy))
        exact ⟨σ', g1, g2, g3, fun s hs => by simp [SV.den, hs.sub β g4], fun _ => trivial, fun _ => trivial, fun _ => trivial, fun _ => rfl⟩
    · exact h.elim
  | .optr ao k, y, σ, K, h, hb, ht, hy => by
    simp only [mSV] at h
    split at h
    · exact ⟨σ, h.2, ext.refl _, hb, fun _ _ => by simp only [SV.den]; rw [h.1], fun _ => trivial, fun _ => trivial, fun _ => trivial, fun _ => rfl⟩
    · exact ⟨σ, h.2, ext.refl _, hb, fun _ _ => by simp [SV.den, h.1], fun _ => trivial, fun _ => trivial, fun _ => trivial, fun _ => rfl⟩
    · exact h.elim
  | .osl i n c z, y, σ, K, h, hb, ht, hy => by
    simp only [mSV] at h
    split at h
    · rename_i j n' c' z'
      obtain ⟨⟨rfl, rfl⟩, h⟩ := h
      obtain ⟨h, hz⟩ := ZB_same h (β j)
      obtain ⟨σ', g1, g2, g3, g4⟩ := bindS_sound h hb (blt_lt ht) (.inl (blt_lt hy))
      exact ⟨σ', g1, g2, g3, fun s hs => by simp [SV.den, hs.sub β g4, hz], fun _ => trivial, fun _ => trivial, fun _ => trivial, fun _ => rfl⟩
    · obtain ⟨⟨rfl, rfl, rfl⟩, h⟩ := h
      obtain ⟨σ', g1, g2, g3, g4⟩ := bindS_sound h hb (blt_lt ht) (.inr rfl)
      exact ⟨σ', g1, g2, g3, fun s hs => by simp [SV.den, ZB.den], fun _ => trivial, fun _ => trivial, fun _ => trivial, fun _ => rfl⟩
    · exact h.elim
  | .sub i lo n c, y, σ, K, h, hb, ht, hy => by
    simp only [mSV] at h
    split at h
    · rename_i j lo' n' c'
      obtain ⟨⟨rfl, rfl, rfl⟩, h⟩ := h
      obtain ⟨σ', g1, g2, g3, g4⟩ := bindS_sound h hb (blt_lt ht) (.inl (blt_lt hy))
      exact ⟨σ', g1, g2, g3, fun s hs => by simp [SV.den, hs.sub β g4], fun _ => trivial, fun _ => trivial, fun _ => trivial, fun _ => rfl⟩
    · exact h.elim
  | .clo f l, y, σ, K, h, hb, ht, hy => by
    simp only [mSV] at h
    split at h
    · rename_i f' l'
      cases hq : Nat.beq f f' with
      | false => simp [hq] at h
      | true =>
        simp only [hq] at h
        have := Nat.eq_of_beq_eq_true hq
        subst this
        obtain ⟨σ', g1, g2, g3, g4, _, g5⟩ := mL_sound l l' σ K h hb (by simpa [SV.lt] using ht) (by simpa [SV.lt] using hy)
        exact ⟨σ', g1, g2, g3, fun s hs => by simp only [SV.den]; rw [g4 s hs], g5, g5, g5, fun hc => by simp [smpl] at hc⟩
    · exact h.elim
  | .agg l, y, σ, K, h, hb, ht, hy => by
    simp only [mSV] at h
    split at h
    · rename_i l'
      obtain ⟨σ', g1, g2, g3, g4, g5⟩ := mS_sound l l' σ K h hb (by simpa [SV.lt] using ht) (by simpa [SV.lt] using hy)
      exact ⟨σ', g1, g2, g3, fun s hs => by simp only [SV.den]; rw [g4 s hs], g5, fun hc => hc.elim, g5, fun hc => by simp [smpl] at hc⟩
    · exact h.elim
  | .tup l, y, σ, K, h, hb, ht, hy => by
    simp only [mSV] at h
    split at h
    · rename_i l'
      obtain ⟨σ', g1, g2, g3, g4, g5, _⟩ := mL_sound l l' σ K h hb (by simpa [SV.lt] using ht) (by simpa [SV.lt] using hy)
      exact ⟨σ', g1, g2, g3, fun s hs => by simp only [SV.den]; rw [g4 s hs], fun hc => hc.elim, fun hc => hc.elim, g5, fun hc => by simp [smpl] at hc⟩
    · exact h.elim
theorem mL_sound : ∀ (t y : List SV) (σ : Sub) (K : Sub → Prop), mL nx t y σ K → bok m nx σ → ltL m t = true → ltL nx y = true → MG m nx σ K (fun σ' => SameL β σ' t y ∧ (okT y → okT t) ∧ (smplL y = true → smplL t = true))
  | [], y, σ, K, h, hb, ht, hy => by
    simp only [mL] at h
    split at h
    · exact ⟨σ, h, ext.refl _, hb, fun _ _ => rfl, fun _ => trivial, fun _ => rfl⟩
    · exact h.elim
  | x :: r, y, σ, K, h, hb, ht, hy => by
    simp only [mL] at h
    split at h
    · exact h.elim
    · rename_i y0 r'
      have ht' : x.lt m = true ∧ ltL m r = true := by simpa [ltL] using ht
      have hy' : y0.lt nx = true ∧ ltL nx r' = true := by simpa [ltL] using hy
      obtain ⟨σ1, g1, g2, g3, g4, g5, _, _, g6⟩ := mSV_sound x y0 σ _ h hb ht'.1 hy'.1
      obtain ⟨σ2, k1, k2, k3, k4, k5, k6⟩ := mL_sound r r' σ1 K g1 g3 ht'.2 hy'.2
      refine ⟨σ2, k1, g2.trans k2, k3, fun s hs => by simp only [denL]; rw [g4 s (k2.trans hs), k4 s hs], fun ho => ⟨g5 ho.1, k5 ho.2⟩, fun ho => ?_⟩
      simp only [smplL] at ho ⊢
      cases hy0 : smpl y0 with
      | false => simp [hy0] at ho
      | true => simp only [hy0] at ho; rw [g6 hy0]; exact k6 ho
theorem mS_sound : ∀ (t y : List Seg) (σ : Sub) (K : Sub → Prop), mS nx t y σ K → bok m nx σ → ltS m t = true → ltS nx y = true → MG m nx σ K (fun σ' => SameS β σ' t y ∧ (okS y → okS t))
  | [], y, σ, K, h, hb, ht, hy => by
    simp only [mS] at h
    split at h
    · exact ⟨σ, h, ext.refl _, hb, fun _ _ => rfl, fun _ => trivial⟩
    · exact h.elim
  | x :: r, y, σ, K, h, hb, ht, hy => by
    simp only [mS] at h
    split at h
    · exact h.elim
    · rename_i y0 r'
      have ht' : x.lt m = true ∧ ltS m r = true := by simpa [ltS] using ht
      have hy' : y0.lt nx = true ∧ ltS nx r' = true := by simpa [ltS] using hy
      obtain ⟨σ1, g1, g2, g3, g4, g5⟩ := mG_sound x y0 σ _ h hb ht'.1 hy'.1
      obtain ⟨σ2, k1, k2, k3, k4, k5⟩ := mS_sound r r' σ1 K g1 g3 ht'.2 hy'.2
      refine ⟨σ2, k1, g2.trans k2, k3, fun s hs => by simp only [denS]; rw [g4 s (k2.trans hs), k4 s hs], fun ho => ?_⟩
      have hr : okS r' → okS r := k5
      have hx : okS [y0] → okS [x] := g5
      have h1 : okS [x] := hx (by cases y0 <;> exact ⟨ho.1, trivial⟩)
      have h2 : okS r := hr (by cases y0 <;> exact ho.2)
      cases x <;> exact ⟨h1.1, h2⟩
theorem mG_sound : ∀ (t y : Seg) (σ : Sub) (K : Sub → Prop), mG nx t y σ K → bok m nx σ → t.lt m = true → y.lt nx = true → MG m nx σ K (fun σ' => SameG β σ' t y ∧ (okS [y] → okS [t]))
  | .one x, y, σ, K, h, hb, ht, hy => by
    simp only [mG] at h
    split at h
    · rename_i y0
      obtain ⟨σ1, g1, g2, g3, g4, _, g5, _, _⟩ := mSV_sound x y0 σ K h hb (by simpa [Seg.lt] using ht) (by simpa [Seg.lt] using hy)
      exact ⟨σ1, g1, g2, g3, fun s hs => by simp only [Seg.den]; rw [g4 s hs], fun ho => ⟨g5 ho.1, trivial⟩⟩
    · exact h.elim
  | .many n vs, y, σ, K, h, hb, ht, hy => by
    simp only [mG] at h
    split at h
    · exact h.elim
    · rename_i n' vs'
      obtain ⟨⟨rfl, rfl⟩, h⟩ := h
      exact ⟨σ, h, ext.refl _, hb, fun s hs => by simp [Seg.den], fun ho => ho⟩
end
end

end Go.SX
