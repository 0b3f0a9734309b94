/-
  SX, part C: facts on cells, on the world, on the state.
-/
import Derived.Test.YtgjoileoekbkoaaSXB
set_option linter.unusedVariables false
set_option linter.unusedSimpArgs false
namespace Go.SX

/-! ### Cells -/
theorem Seg.den_one (β : Nat → Nat) (x : SV) : (Seg.one x).den β = [x.den β] := by simp [Seg.den]
theorem Seg.den_many (β : Nat → Nat) (n : Nat) (vs : List Value) : (Seg.many n vs).den β = vs := by simp [Seg.den]
theorem denS_nil (β : Nat → Nat) : denS β [] = [] := by simp [denS]
theorem denS_cons (β : Nat → Nat) (s : Seg) (r : List Seg) : denS β (s :: r) = s.den β ++ denS β r := by simp [denS]
theorem denS_append (β : Nat → Nat) (a b : List Seg) : denS β (a ++ b) = denS β a ++ denS β b := by
  induction a with
  | nil => simp [denS_nil]
  | cons s r ih => simp [denS_cons, ih, List.append_assoc]
theorem denL_length (β : Nat → Nat) (l : List SV) : (denL β l).length = l.length := by
  induction l with
  | nil => simp [denL]
  | cons s r ih => simp [denL, ih]
theorem denL_append (β : Nat → Nat) (a b : List SV) : denL β (a ++ b) = denL β a ++ denL β b := by
  induction a with
  | nil => simp [denL]
  | cons s r ih => simp [denL, ih]
theorem okS_append (a b : List Seg) : okS (a ++ b) ↔ okS a ∧ okS b := by
  induction a with
  | nil => simp [okS]
  | cons s r ih => cases s <;> simp [okS, ih, and_assoc]
theorem ltS_append (n : Nat) (a b : List Seg) : ltS n (a ++ b) = (ltS n a && ltS n b) := by
  induction a with
  | nil => simp [ltS]
  | cons s r ih => simp [ltS, ih, Bool.and_assoc]
theorem lenS_den {β : Nat → Nat} : ∀ {l : List Seg}, okS l → (denS β l).length = lenS l
  | [], _ => by simp [denS_nil, lenS]
  | .one x :: r, h => by simp [denS_cons, Seg.den_one, lenS, lenS_den (l := r) h.2]
  | .many n vs :: r, h => by simp [denS_cons, Seg.den_many, lenS, lenS_den (l := r) h.2, h.1.1]

theorem ble_le {a b : Nat} (h : Nat.ble a b = true) : a ≤ b := by simpa using h
theorem ble_lt {a b : Nat} (h : Nat.ble a b = false) : b < a := by
  rcases Nat.lt_or_ge b a with h' | h'
  · exact h'
  · rw [(show Nat.ble a b = true from by rw [Nat.ble_eq]; exact h')] at h; cases h

theorem drop_app {α : Type} (A B : List α) (k : Nat) (h : A.length ≤ k) : (A ++ B).drop k = B.drop (k - A.length) := by
  rw [List.drop_append, List.drop_of_length_le h]; simp
theorem take_app {α : Type} (A B : List α) (k : Nat) (h : A.length ≤ k) : (A ++ B).take k = A ++ B.take (k - A.length) := by
  rw [List.take_append, List.take_of_length_le h]

theorem dropS_spec (β : Nat → Nat) (n : Nat) : ∀ (l : List Seg) (o : Nat) (r : List Seg), okS l → ltS n l = true → dropS l o = some r → denS β r = (denS β l).drop o ∧ okS r ∧ ltS n r = true ∧ o ≤ (denS β l).length
  | [], 0, r, _, _, h => by simp only [dropS] at h; cases h; simp [denS_nil, okS, ltS]
  | [], o + 1, r, _, _, h => by simp [dropS] at h
  | s :: l, 0, r, hk, hl, h => by simp only [dropS] at h; cases h; simp [hk, hl]
  | .one x :: l, o + 1, r, hk, hl, h => by
    simp only [dropS] at h
    have hl' : ltS n l = true := by simp [ltS] at hl; exact hl.2
    obtain ⟨h1, h2, h3, h4⟩ := dropS_spec β n l o r hk.2 hl' h
    refine ⟨?_, h2, h3, ?_⟩
    · rw [h1, denS_cons, Seg.den_one]; simp
    · rw [denS_cons, Seg.den_one]; simp; omega
  | .many m vs :: l, o + 1, r, hk, hl, h => by
    have hl' : ltS n l = true := by simp [ltS] at hl; exact hl.2
    simp only [dropS] at h
    cases hb : Nat.ble m (o + 1) with
    | false => simp [hb] at h
    | true =>
      simp only [hb] at h
      have hm := ble_le hb
      obtain ⟨h1, h2, h3, h4⟩ := dropS_spec β n l (o + 1 - m) r hk.2 hl' h
      refine ⟨?_, h2, h3, ?_⟩
      · rw [h1, denS_cons, Seg.den_many, drop_app _ _ _ (by rw [hk.1.1]; exact hm), hk.1.1]
      · rw [denS_cons, Seg.den_many]; simp [hk.1.1]; omega

theorem takeS_spec (β : Nat → Nat) (n : Nat) : ∀ (l : List Seg) (o : Nat) (r : List Seg), okS l → ltS n l = true → takeS l o = some r → denS β r = (denS β l).take o ∧ okS r ∧ ltS n r = true ∧ o ≤ (denS β l).length
  | [], 0, r, _, _, h => by simp only [takeS] at h; cases h; simp [denS_nil, okS, ltS]
  | [], o + 1, r, _, _, h => by simp [takeS] at h
  | s :: l, 0, r, hk, hl, h => by simp only [takeS] at h; cases h; simp [denS_nil, okS, ltS]
  | .one x :: l, o + 1, r, hk, hl, h => by
    simp only [takeS] at h
    have hl' : x.lt n = true ∧ ltS n l = true := by simpa [ltS, Seg.lt] using hl
    cases ht : takeS l o with
    | none => simp [ht] at h
    | some r' =>
      simp only [ht] at h
      cases h
      obtain ⟨h1, h2, h3, h4⟩ := takeS_spec β n l o r' hk.2 hl'.2 ht
      refine ⟨?_, ⟨hk.1, h2⟩, by simp [ltS, Seg.lt, hl'.1, h3], ?_⟩
      · rw [denS_cons, denS_cons, Seg.den_one, h1]; simp
      · rw [denS_cons, Seg.den_one]; simp; omega
  | .many m vs :: l, o + 1, r, hk, hl, h => by
    have hl' : ltS n l = true := by simp [ltS] at hl; exact hl.2
    simp only [takeS] at h
    cases hb : Nat.ble m (o + 1) with
    | false => simp [hb] at h
    | true =>
      simp only [hb] at h
      have hm := ble_le hb
      cases ht : takeS l (o + 1 - m) with
      | none => simp [ht] at h
      | some r' =>
        simp only [ht] at h
        cases h
        obtain ⟨h1, h2, h3, h4⟩ := takeS_spec β n l (o + 1 - m) r' hk.2 hl' ht
        refine ⟨?_, ⟨hk.1, h2⟩, by simp [ltS, Seg.lt, h3], ?_⟩
        · rw [denS_cons, denS_cons, Seg.den_many, h1, take_app _ _ _ (by rw [hk.1.1]; exact hm), hk.1.1]
        · rw [denS_cons, Seg.den_many]; simp [hk.1.1]; omega

theorem getS_spec {β : Nat → Nat} {n : Nat} {l : List Seg} {o m : Nat} {r : List Seg} (hk : okS l) (hl : ltS n l = true) (h : getS l o m = some r) :
    denS β r = ((denS β l).drop o).take m ∧ okS r ∧ ltS n r = true ∧ o + m ≤ (denS β l).length := by
  unfold getS at h
  cases hd : dropS l o with
  | none => simp [hd] at h
  | some r' =>
    simp only [hd] at h
    obtain ⟨h1, h2, h3, h4⟩ := dropS_spec β n l o r' hk hl hd
    obtain ⟨g1, g2, g3, g4⟩ := takeS_spec β n r' m r h2 h3 h
    refine ⟨by rw [g1, h1], g2, g3, ?_⟩
    rw [h1] at g4; simp at g4; omega

/-- The cells with a part set. -/
def setR (L : List Value) (o : Nat) (new : List Value) : List Value := L.take o ++ new ++ L.drop (o + new.length)
theorem setR_length {L : List Value} {o : Nat} {new : List Value} (h : o + new.length ≤ L.length) : (setR L o new).length = L.length := by simp [setR]; omega

theorem setS_spec {β : Nat → Nat} {n : Nat} {l : List Seg} {o m : Nat} {new r : List Seg} (hk : okS l) (hl : ltS n l = true) (hk' : okS new) (hl' : ltS n new = true) (hm : (denS β new).length = m) (h : setS l o new m = some r) :
    denS β r = setR (denS β l) o (denS β new) ∧ okS r ∧ ltS n r = true ∧ o + m ≤ (denS β l).length := by
  unfold setS at h
  cases ht : takeS l o with
  | none => simp [ht] at h
  | some a =>
    simp only [ht] at h
    cases hd : dropS l (o + m) with
    | none => simp [hd] at h
    | some b =>
      simp only [hd] at h
      cases h
      obtain ⟨h1, h2, h3, h4⟩ := dropS_spec β n l (o + m) b hk hl hd
      obtain ⟨g1, g2, g3, g4⟩ := takeS_spec β n l o a hk hl ht
      refine ⟨?_, ?_, ?_, h4⟩
      · rw [denS_append, denS_append, g1, h1, setR, hm]
      · rw [okS_append, okS_append]; exact ⟨⟨g2, hk'⟩, h2⟩
      · rw [ltS_append, ltS_append, g3, hl', h3]; rfl

theorem locM_spec (β : Nat → Nat) : ∀ (l : List Seg) (o j : Nat) (vs : List Value), okS l → locM l o = some (j, vs) →
    ∃ s, o = s + j ∧ j < vs.length ∧ (∀ k, k < vs.length → (denS β l)[s + k]? = vs[k]?) ∧ s + vs.length ≤ (denS β l).length
  | [], o, j, vs, _, h => by simp [locM] at h
  | .one x :: l, 0, j, vs, hk, h => by simp [locM] at h
  | .one x :: l, o + 1, j, vs, hk, h => by
    simp only [locM] at h
    obtain ⟨s, h1, h2, h3, h4⟩ := locM_spec β l o j vs hk.2 h
    refine ⟨s + 1, by omega, h2, fun k hk' => ?_, ?_⟩
    · rw [denS_cons, Seg.den_one, show s + 1 + k = (s + k) + 1 by omega]; simp [h3 k hk']
    · rw [denS_cons, Seg.den_one]; simp; omega
  | .many m us :: l, o, j, vs, hk, h => by
    simp only [locM] at h
    cases hb : Nat.ble m o with
    | true =>
      simp only [hb] at h
      have hm := ble_le hb
      obtain ⟨s, h1, h2, h3, h4⟩ := locM_spec β l (o - m) j vs hk.2 h
      refine ⟨m + s, by omega, h2, fun k hk' => ?_, ?_⟩
      · rw [denS_cons, Seg.den_many, List.getElem?_append_right (by rw [hk.1.1]; omega), hk.1.1, show m + s + k - m = s + k by omega, h3 k hk']
      · rw [denS_cons, Seg.den_many]; simp [hk.1.1]; omega
    | false =>
      simp only [hb] at h
      cases h
      have hm := ble_lt hb
      refine ⟨0, by omega, by rw [hk.1.1]; omega, fun k hk' => ?_, ?_⟩
      · rw [denS_cons, Seg.den_many, Nat.zero_add, List.getElem?_append_left hk']
      · rw [denS_cons, Seg.den_many]; simp

theorem setM_spec (β : Nat → Nat) (n : Nat) : ∀ (l : List Seg) (o j : Nat) (vs new : List Value), okS l → ltS n l = true → locM l o = some (j, vs) → new.length = vs.length → (∀ v ∈ new, one1 v = true) →
    okS (setM l o new) ∧ ltS n (setM l o new) = true ∧ ∃ s, o = s + j ∧ s + vs.length ≤ (denS β l).length ∧ denS β (setM l o new) = setR (denS β l) s new ∧ (∀ k, k < vs.length → (denS β l)[s + k]? = vs[k]?)
  | [], o, j, vs, new, _, _, h, _, _ => by simp [locM] at h
  | .one x :: l, 0, j, vs, new, hk, _, h, _, _ => by simp [locM] at h
  | .one x :: l, o + 1, j, vs, new, hk, hl, h, hn, hnew => by
    simp only [locM] at h
    have hl' : x.lt n = true ∧ ltS n l = true := by simpa [ltS, Seg.lt] using hl
    obtain ⟨k1, k2, s, h1, h2, h3, h4⟩ := setM_spec β n l o j vs new hk.2 hl'.2 h hn hnew
    refine ⟨⟨hk.1, k1⟩, by simp [setM, ltS, Seg.lt, hl'.1, k2], s + 1, by omega, ?_, ?_, fun k hk' => ?_⟩
    · rw [denS_cons, Seg.den_one]; simp; omega
    · simp only [setM]; rw [denS_cons, h3, denS_cons, Seg.den_one]; simp [setR, show s + 1 + new.length = (s + new.length) + 1 by omega]
    · rw [denS_cons, Seg.den_one, show s + 1 + k = (s + k) + 1 by omega]; simp [h4 k hk']
  | .many m us :: l, o, j, vs, new, hk, hl, h, hn, hnew => by
    simp only [locM] at h
    have hl' : ltS n l = true := by simp [ltS] at hl; exact hl.2
    cases hb : Nat.ble m o with
    | true =>
      simp only [hb] at h
      have hm := ble_le hb
      obtain ⟨k1, k2, s, h1, h2, h3, h4⟩ := setM_spec β n l (o - m) j vs new hk.2 hl' h hn hnew
      simp only [setM, hb]
      refine ⟨⟨hk.1, k1⟩, by simp [ltS, Seg.lt, k2], m + s, by omega, ?_, ?_, fun k hk' => ?_⟩
      · rw [denS_cons, Seg.den_many]; simp [hk.1.1]; omega
      · rw [denS_cons, h3, denS_cons, Seg.den_many, setR, setR, take_app _ _ _ (by rw [hk.1.1]; omega), hk.1.1, drop_app _ _ _ (by rw [hk.1.1]; omega), hk.1.1,
          show m + s - m = s by omega, show m + s + new.length - m = s + new.length by omega]
        simp
      · rw [denS_cons, Seg.den_many, List.getElem?_append_right (by rw [hk.1.1]; omega), hk.1.1, show m + s + k - m = s + k by omega, h4 k hk']
    | false =>
      simp only [hb] at h
      cases h
      simp only [setM, hb]
      refine ⟨⟨⟨by rw [hn, hk.1.1], hnew⟩, hk.2⟩, by simp [ltS, Seg.lt, hl'], 0, by omega, ?_, ?_, fun k hk' => ?_⟩
      · rw [denS_cons, Seg.den_many]; simp
      · rw [denS_cons, Seg.den_many, denS_cons, Seg.den_many, setR, hn]; simp
      · rw [denS_cons, Seg.den_many, Nat.zero_add, List.getElem?_append_left hk']

theorem updL_length : ∀ (xs vs : List Value) (j : Nat), (updL vs j xs).length = vs.length
  | [], vs, j => rfl
  | x :: xs, vs, j => by simp [updL, updL_length xs]
theorem updL_eq : ∀ (xs vs : List Value) (j : Nat), j + xs.length ≤ vs.length → updL vs j xs = setR vs j xs
  | [], vs, j, h => by simp [updL, setR]
  | x :: xs, vs, j, h => by
    simp only [updL]
    simp at h
    rw [updL_eq xs _ _ (by simp; omega), setR, setR]
    have hj : j < vs.length := by omega
    rw [List.set_eq_take_append_cons_drop, if_pos hj]
    have ht : (vs.take j).length = j := by simp; omega
    rw [take_app _ _ _ (by omega), ht, drop_app _ _ _ (by omega), ht]
    simp [show j + 1 - j = 1 by omega, show j + 1 + xs.length - j = xs.length + 1 by omega, show j + (xs.length + 1) = j + 1 + xs.length by omega]

end Go.SX
