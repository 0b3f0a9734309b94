/-
  SX, part Z: blocks of the call's own that become memory which stays as it is.
-/
import Derived.Test.YtgjoileoekbkoaaSXG
set_option linter.unusedVariables false
set_option linter.unusedSimpArgs false
namespace Go.SX

variable {C : Ctx} {Γ : Env} {β : Nat → Nat} {st : SState} {a : Act} {w : World} {o : Oper} {K : SState → Prop} {next : Act → World → Prop} {Q : Exit → Act → World → Prop} {r : Option Nat} {n : Nat}

theorem valOf_den {x : SV} {v : Value} (h : valOf x = some v) (β : Nat → Nat) : x.den β = v := by
  cases x <;> simp only [valOf] at h
  case v y => cases hy : one1 y <;> simp [hy] at h; subst h; rfl
  all_goals (first | (cases h; rfl) | cases h)
theorem valsOf_den : ∀ {l : List Seg} {xs : List Value}, valsOf l = some xs → ∀ β, denS β l = xs
  | [], xs, h, β => by simp only [valsOf] at h; cases h; simp [denS]
  | .one x :: r, xs, h, β => by
    simp only [valsOf] at h
    cases hx : valOf x with
    | none => simp [hx] at h
    | some u =>
      simp only [hx] at h
      cases hr : valsOf r with
      | none => simp [hr] at h
      | some l => simp only [hr] at h; cases h; simp [denS, Seg.den, valOf_den hx β, valsOf_den hr β]
  | .many n vs :: r, xs, h, β => by
    simp only [valsOf] at h
    cases hr : valsOf r with
    | none => simp [hr] at h
    | some l => simp only [hr] at h; cases h; simp [denS, Seg.den, valsOf_den hr β]

theorem ZB.at_den (z : ZB) (b : Nat) : z.at ⟨b, 0, none⟩ = z.den b := by cases z <;> rfl

mutual
theorem SV.seal_den {β : Nat → Nat} {i : Nat} : ∀ x : SV, (x.slv i ⟨β i, 0, none⟩).den β = x.den β
  | .ptr j o => by
    simp only [SV.slv]
    split
    · rename_i h; have := Nat.eq_of_beq_eq_true h; subst this; simp [SV.den, add_pl]
    · rfl
  | .ptrx j o x => by
    simp only [SV.slv]
    split
    · rename_i h; have := Nat.eq_of_beq_eq_true h; subst this; simp [SV.den, add_pl]
    · rfl
  | .osl j n c z => by
    simp only [SV.slv]
    split
    · rename_i h; have := Nat.eq_of_beq_eq_true h; subst this; simp [SV.den, ZB.at_den]
    · rfl
  | .sub j lo n c => by
    simp only [SV.slv]
    split
    · rename_i h; have := Nat.eq_of_beq_eq_true h; subst this; simp [SV.den, add_pl]
    · rfl
  | .clo f l => by simp only [SV.slv, SV.den, sealVs_den l]
  | .agg l => by simp only [SV.slv, SV.den, sealSs_den l]
  | .tup l => by simp only [SV.slv, SV.den, sealVs_den l]
  | .v _ => rfl
  | .b _ => rfl
  | .nils => rfl
  | .nilp => rfl
  | .nilf => rfl
  | .optr _ _ => rfl
theorem sealVs_den {β : Nat → Nat} {i : Nat} : ∀ l : List SV, denL β (sealVs i ⟨β i, 0, none⟩ l) = denL β l
  | [] => rfl
  | x :: r => by simp only [sealVs, denL, SV.seal_den x, sealVs_den r]
theorem sealSs_den {β : Nat → Nat} {i : Nat} : ∀ l : List Seg, denS β (sealSs i ⟨β i, 0, none⟩ l) = denS β l
  | [] => rfl
  | x :: r => by simp only [sealSs, denS, Seg.seal_den x, sealSs_den r]
theorem Seg.seal_den {β : Nat → Nat} {i : Nat} : ∀ s : Seg, (s.slv i ⟨β i, 0, none⟩).den β = s.den β
  | .one x => by simp only [Seg.slv, Seg.den, SV.seal_den x]
  | .many _ _ => rfl
end

mutual
theorem SV.seal_lt {i n : Nat} {a0 : Addr} : ∀ x : SV, x.lt n = true → (x.slv i a0).lt n = true
  | .ptr j o, h => by simp only [SV.slv]; split <;> first | rfl | exact h
  | .ptrx j o x, h => by simp only [SV.slv]; split <;> first | rfl | exact h
  | .osl j _ c z, h => by simp only [SV.slv]; split <;> first | rfl | exact h
  | .sub j lo _ c, h => by simp only [SV.slv]; split <;> first | rfl | exact h
  | .clo f l, h => sealVs_lt l h
  | .agg l, h => sealSs_lt l h
  | .tup l, h => sealVs_lt l h
  | .v _, _ => rfl
  | .b _, _ => rfl
  | .nils, _ => rfl
  | .nilp, _ => rfl
  | .nilf, _ => rfl
  | .optr _ _, _ => rfl
theorem sealVs_lt {i n : Nat} {a0 : Addr} : ∀ l : List SV, ltL n l = true → ltL n (sealVs i a0 l) = true
  | [], _ => rfl
  | x :: r, h => by
    have h' : x.lt n = true ∧ ltL n r = true := by simpa [ltL] using h
    simp [sealVs, ltL, SV.seal_lt x h'.1, sealVs_lt r h'.2]
theorem sealSs_lt {i n : Nat} {a0 : Addr} : ∀ l : List Seg, ltS n l = true → ltS n (sealSs i a0 l) = true
  | [], _ => rfl
  | x :: r, h => by
    have h' : x.lt n = true ∧ ltS n r = true := by simpa [ltS] using h
    simp [sealSs, ltS, Seg.seal_lt x h'.1, sealSs_lt r h'.2]
theorem Seg.seal_lt {i n : Nat} {a0 : Addr} : ∀ s : Seg, s.lt n = true → (s.slv i a0).lt n = true
  | .one x, h => SV.seal_lt x h
  | .many _ _, _ => rfl
end
theorem smplL_seal {i : Nat} {a0 : Addr} : ∀ {l : List SV}, smplL l = true → smplL (sealVs i a0 l) = true
  | [], _ => rfl
  | x :: r, h => by
    simp only [sealVs, smplL] at h ⊢
    cases hx : smpl x with
    | false => simp [hx] at h
    | true =>
      simp only [hx] at h
      have : smpl (x.slv i a0) = true := by
        cases x <;> simp only [SV.slv] <;> first | rfl | (split <;> rfl) | (simp [smpl] at hx)
      rw [this]; exact smplL_seal h
theorem isC_seal {i : Nat} {a0 : Addr} {x : SV} (h : isC x) : isC (x.slv i a0) := by
  cases x
  case clo f l => exact smplL_seal (l := l) h
  case agg => exact h
  case tup => exact h
  case v => exact h
  all_goals first | trivial | (simp only [SV.slv]; split <;> first | trivial | rfl)
theorem okS_seal {i : Nat} {a0 : Addr} : ∀ {l : List Seg}, okS l → okS (sealSs i a0 l)
  | [], _ => trivial
  | .one x :: r, h => ⟨isC_seal h.1, okS_seal h.2⟩
  | .many n vs :: r, h => ⟨h.1, okS_seal h.2⟩
theorem okV1_seal {i : Nat} {a0 : Addr} {x : SV} (h : okV1 x) : okV1 (x.slv i a0) := by
  cases x
  case agg l => exact okS_seal (l := l) h
  case tup l => exact h.elim
  case clo f l => exact smplL_seal (l := l) h
  all_goals first | trivial | (simp only [SV.slv]; split <;> trivial)
theorem okT_seal {i : Nat} {a0 : Addr} : ∀ {l : List SV}, okT l → okT (sealVs i a0 l)
  | [], _ => trivial
  | x :: r, h => ⟨okV1_seal h.1, okT_seal h.2⟩
theorem okV_seal {i : Nat} {a0 : Addr} {x : SV} (h : okV x) : okV (x.slv i a0) := by
  cases x
  case agg l => exact okS_seal (l := l) h
  case tup l => exact okT_seal (l := l) h
  case clo f l => exact smplL_seal (l := l) h
  all_goals first | trivial | (simp only [SV.slv]; split <;> trivial)
theorem gd_seal {i m : Nat} {a0 : Addr} {x : SV} (h : gd m x) : gd m (x.slv i a0) := ⟨SV.seal_lt x h.1, okV_seal h.2⟩

theorem lk_sealT {i : Nat} {a0 : Addr} : ∀ {l : List (Nat × SV)} {s : Nat} {x : SV}, lk (sealT i a0 l) s = some x → ∃ y, lk l s = some y ∧ x = y.slv i a0
  | [], s, x, h => by simp [sealT, lk] at h
  | (t, y) :: r, s, x, h => by
    simp only [sealT, lk_cons] at h
    by_cases e : t = s
    · rw [if_pos e] at h; cases h; exact ⟨y, by rw [lk_cons, if_pos e], rfl⟩
    · rw [if_neg e] at h
      obtain ⟨z, h1, h2⟩ := lk_sealT h
      exact ⟨z, by rw [lk_cons, if_neg e]; exact h1, h2⟩
theorem lk_sealH {i : Nat} {a0 : Addr} : ∀ {l : List (Nat × SB)} {s : Nat} {x : SB}, lk (sealH i a0 l) s = some x → ∃ y, lk l s = some y ∧ x = y.slv i a0
  | [], s, x, h => by simp [sealH, lk] at h
  | (t, y) :: r, s, x, h => by
    simp only [sealH, lk_cons] at h
    by_cases e : t = s
    · rw [if_pos e] at h; cases h; exact ⟨y, by rw [lk_cons, if_pos e], rfl⟩
    · rw [if_neg e] at h
      obtain ⟨z, h1, h2⟩ := lk_sealH h
      exact ⟨z, by rw [lk_cons, if_neg e]; exact h1, h2⟩
theorem SB.seal_live {i : Nat} {a0 : Addr} {s : SB} : (s.slv i a0).live ↔ s.live := by cases s <;> exact Iff.rfl
theorem SB.seal_lt {i m : Nat} {a0 : Addr} {s : SB} (h : s.lt m = true) : (s.slv i a0).lt m = true := by
  cases s with
  | cells l => exact sealSs_lt l h
  | orow _ _ _ _ => rfl
theorem SB.seal_den {β : Nat → Nat} {i : Nat} {s : SB} {o : Option Obj} (h : s.den β o) : (s.slv i ⟨β i, 0, none⟩).den β o := by
  cases s with
  | cells l =>
    obtain ⟨h1, ty, fz, h2, h3⟩ := h
    exact ⟨okS_seal h1, ty, fz, by rw [sealSs_den]; exact h2, by rw [sealSs_den]; exact h3⟩
  | orow _ _ _ _ => exact h

/-- What a block holds, as cells. -/
def SB.holds (s : SB) (vs : List Value) : Prop := match s with
  | .cells l => valsOf l = some vs
  | .orow us _ _ _ => us = vs
theorem SB.row_at {s : SB} {vs : List Value} (hv : s.holds vs) {b : Nat} {β : Nat → Nat} (h : s.den β w.heap[b]?) (hl : s.live) : RowAt w (some ⟨b, 0, none⟩) vs := by
  intro k x hx
  refine ⟨_, rfl, ?_⟩
  rw [add_pl, Nat.zero_add]
  cases s with
  | cells l =>
    obtain ⟨h1, ty, fz, h2, h3⟩ := h
    rw [cell_at h2, valsOf_den hv β]; exact hx
  | orow us len cap sz =>
    obtain ⟨h1, h2, h | ⟨rest, ty, fz, h3, h4, h5⟩⟩ := h
    · exact absurd h hl
    · rw [cell_at h4]
      have hv' : us = vs := hv
      rw [hv', List.getElem?_append_left (List.getElem?_eq_some_iff.1 hx).1]; exact hx

theorem Inv.slv (h : Inv C β st a w) {i : Nat} {s : SB} (hs : lk st.hp i = some s) {vs : List Value} (hv : s.holds vs) {lv : Prop} (hlv : lv → s.live) : Inv C β (sealSt i ⟨β i, 0, none⟩ lv vs st) a w where
  siz := h.siz
  dfr := h.dfr
  tm := fun t x hx => by
    obtain ⟨y, h1, rfl⟩ := lk_sealT hx
    obtain ⟨h2, h3⟩ := h.tm t y h1
    exact ⟨by rw [SV.seal_den]; exact h2, gd_seal h3⟩
  hp := {
    blk := fun j t ht => by
      obtain ⟨u, h1, rfl⟩ := lk_sealH ht
      rw [lk_rm] at h1
      split at h1
      · cases h1
      · obtain ⟨k1, k2, k3⟩ := h.hp.blk j u h1
        exact ⟨SB.seal_den k1, SB.seal_lt k2, k3⟩
    inj := fun j k t u ht hu lt lu e => by
      obtain ⟨t', h1, rfl⟩ := lk_sealH ht
      obtain ⟨u', h2, rfl⟩ := lk_sealH hu
      rw [lk_rm] at h1 h2
      split at h1
      · cases h1
      · split at h2
        · cases h2
        · exact h.hp.inj j k t' u' h1 h2 (SB.seal_live.1 lt) (SB.seal_live.1 lu) e
    exc := fun j t ht lt => by
      obtain ⟨t', h1, rfl⟩ := lk_sealH ht
      rw [lk_rm] at h1
      split at h1
      · cases h1
      · exact h.hp.exc j t' h1 (SB.seal_live.1 lt) }
  old := fun j t ht lt => by
    obtain ⟨t', h1, rfl⟩ := lk_sealH ht
    rw [lk_rm] at h1
    split at h1
    · cases h1
    · exact h.old j t' h1 (SB.seal_live.1 lt)
  frm := h.frm
  fx := fun w' hw' => by
    have htr : ∀ b, trk β (sealSt i ⟨β i, 0, none⟩ lv vs st).hp b → trk β st.hp b ∧ (s.live → b ≠ β i) := by
      rintro b ⟨j, t, ht, lt, rfl⟩
      obtain ⟨t', h1, rfl⟩ := lk_sealH ht
      rw [lk_rm] at h1
      split at h1
      · cases h1
      · rename_i hne
        exact ⟨⟨j, t', h1, SB.seal_live.1 lt, rfl⟩, fun ls e => hne (h.hp.inj i j s t' hs h1 ls (SB.seal_live.1 lt) e.symm)⟩
    refine ⟨h.fx w' (hw'.mono ?_), fun hl => ?_⟩
    · rintro b hb (hx | hx)
      · exact .inl hx
      · exact .inr (htr b hx).1
    · have ls := hlv hl
      have hb := (h.hp.blk i s hs).1
      have hsame : w'.heap[β i]? = w.heap[β i]? := hw'.same _ (SB.den_lt hb ls) (by
        rintro ((hx | hd) | hx)
        · exact h.hp.exc i s hs ls hx
        · obtain ⟨c, ty, fz, hc⟩ := SB.den_cells hb ls
          exact isDef.not hc hd
        · exact (htr _ hx).2 ls rfl)
      exact SB.row_at (w := w') hv (by rw [hsame]; exact hb) ls
  xs := h.xs
  fix := h.fix

theorem sealN_sound : ∀ (n : Nat) (ids : List Nat) (st : SState) (f : SV → SV) (K : SState → (SV → SV) → Prop), sealN n ids st f K → Inv C β st a w → (∀ x, (f x).den β = x.den β) → (∀ m x, gd m x → gd m (f x)) →
    ∃ st' f', K st' f' ∧ Inv C β st' a w ∧ st'.nx = st.nx ∧ (∀ x, (f' x).den β = x.den β) ∧ (∀ m x, gd m x → gd m (f' x))
  | n, [], st, f, K, h, hi, h1, h2 => by
    refine ⟨st, f, ?_, hi, rfl, h1, h2⟩
    cases n <;> exact h
  | 0, i :: r, st, f, K, h, hi, h1, h2 => h.elim
  | n + 1, i :: r, st, f, K, h, hi, h1, h2 => by
    simp only [sealN] at h
    split at h
    · exact sealN_sound n r st f K h hi h1 h2
    · rename_i vs len cap sz hs
      obtain ⟨st', f', k1, k2, k3, k4, k5⟩ := sealN_sound n r _ _ K (h ⟨β i, 0, none⟩) (hi.slv hs (vs := vs) rfl (fun h => h)) (fun x => by rw [SV.seal_den, h1]) (fun m x hx => gd_seal (h2 m x hx))
      exact ⟨st', f', k1, k2, k3, k4, k5⟩
    · rename_i l hs
      split at h
      · rename_i vs hv
        obtain ⟨st', f', k1, k2, k3, k4, k5⟩ := sealN_sound n r _ _ K (h ⟨β i, 0, none⟩) (hi.slv hs (vs := vs) hv (fun _ => trivial)) (fun x => by rw [SV.seal_den, h1]) (fun m x hx => gd_seal (h2 m x hx))
        exact ⟨st', f', k1, k2, k3, k4, k5⟩
      · exact sealN_sound n _ st f K h hi h1 h2

theorem sealS_sound {ids : List Nat} {K : SState → (SV → SV) → Prop} (h : sealS ids st K) (hi : Inv C β st a w) :
    ∃ st' f, K st' f ∧ Inv C β st' a w ∧ st'.nx = st.nx ∧ (∀ x, (f x).den β = x.den β) ∧ (∀ m x, gd m x → gd m (f x)) :=
  sealN_sound 64 ids st _ K h hi (fun _ => rfl) (fun _ _ h => h)

end Go.SX
