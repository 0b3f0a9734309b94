/-
  SX, part U: slices.
-/
import Derived.Test.YtgjoileoekbkoaaSXR
set_option linter.unusedVariables false
set_option linter.unusedSimpArgs false
namespace Go.SX

variable {C : Ctx} {Γ : Env} {β : Nat → Nat} {st : SState} {a : Act} {w : World} {o : Oper} {K : SState → Prop} {next : Act → World → Prop} {Q : Exit → Act → World → Prop} {r : Option Nat} {n : Nat}

theorem one1_cell {v : Value} (h : one1 v = true) : v.oneCell' = true := by cases v <;> simp_all [one1, Value.oneCell']

/-- A block of which nothing is told any more. -/
theorem Inv.drop (h : Inv C β st a w) (id : Nat) : Inv C β { st with hp := rm st.hp id } a w where
  siz := h.siz
  dfr := h.dfr
  tm := h.tm
  hp := {
    blk := fun i s hs => by
      simp only [lk_rm] at hs
      split at hs
      · cases hs
      · exact h.hp.blk i s hs
    inj := fun i j s t hs ht ls lt e => by
      simp only [lk_rm] at hs ht
      split at hs
      · cases hs
      · split at ht
        · cases ht
        · exact h.hp.inj i j s t hs ht ls lt e
    exc := fun i s hs ls => by
      simp only [lk_rm] at hs
      split at hs
      · cases hs
      · exact h.hp.exc i s hs ls }
  old := fun i s hs ls => by
    simp only [lk_rm] at hs
    split at hs
    · cases hs
    · exact h.old i s hs ls
  frm := h.frm
  xs := h.xs
  fx := fun w' hw' => h.fx w' (hw'.mono (by
    rintro b hb (hx | ⟨j, s, hs, ls, e⟩)
    · exact .inl hx
    · simp only [lk_rm] at hs
      split at hs
      · cases hs
      · exact .inr ⟨j, s, hs, ls, e⟩))
  fix := h.fix

theorem SB.lt_mono {n m : Nat} (h : n ≤ m) {s : SB} (hs : s.lt n = true) : s.lt m = true := by
  cases s with
  | cells l => exact ltS_mono h l hs
  | orow _ _ _ _ => rfl

/-- A row that is not there. -/
theorem Inv.dead (h : Inv C β st a w) (sz : Nat) : Inv C β (newS st (.orow [] 0 0 sz)) a w where
  siz := h.siz
  dfr := h.dfr
  tm := fun s x hs => ⟨(h.tm s x hs).1, (h.tm s x hs).2.mono (Nat.le_succ _)⟩
  hp := {
    blk := fun i s hs => by
      simp only [newS, lk_cons] at hs
      split at hs
      · rename_i e
        cases hs
        exact ⟨⟨by simp, Nat.le_refl _, .inl rfl⟩, rfl, by simp only [newS]; omega⟩
      · obtain ⟨h1, h2, h3⟩ := h.hp.blk i s hs
        exact ⟨h1, SB.lt_mono (Nat.le_succ _) h2, Nat.lt_succ_of_lt h3⟩
    inj := fun i j s t hs ht ls lt e => by
      simp only [newS, lk_cons] at hs ht
      split at hs
      · cases hs; exact absurd rfl ls
      · split at ht
        · cases ht; exact absurd rfl lt
        · exact h.hp.inj i j s t hs ht ls lt e
    exc := fun i s hs ls => by
      simp only [newS, lk_cons] at hs
      split at hs
      · cases hs; exact absurd rfl ls
      · exact h.hp.exc i s hs ls }
  old := fun i s hs ls => by
    simp only [newS, lk_cons] at hs
    split at hs
    · cases hs; exact absurd rfl ls
    · exact h.old i s hs ls
  frm := h.frm
  xs := h.xs
  fx := fun w' hw' => h.fx w' (hw'.mono (by
    rintro b hb (hx | ⟨j, s, hs, ls, e⟩)
    · exact .inl hx
    · simp only [newS, lk_cons] at hs
      split at hs
      · cases hs; exact absurd rfl ls
      · exact .inr ⟨j, s, hs, ls, e⟩))
  fix := fun i hi => ⟨Nat.lt_succ_of_lt (h.fix i hi).1, (h.fix i hi).2⟩

/-- A block by another number. -/
theorem Inv.move (h : Inv C β st a w) {id : Nat} {s : SB} (hs : lk st.hp id = some s) : Inv C (up β st.nx (β id)) { st with hp := (st.nx, s) :: rm st.hp id, nx := st.nx + 1 } a w := by
  obtain ⟨hb, hl, hid⟩ := h.hp.blk id s hs
  refine { siz := h.siz, dfr := h.dfr, tm := fun t x ht => ?_, hp := ⟨fun i t ht => ?_, fun i j t u ht hu lt lu e => ?_, fun i t ht lt => ?_⟩, old := fun i t ht lt => ?_, frm := h.frm, fx := fun w' hw' => ?_, xs := h.xs, fix := fun i hi => ?_ }
  · obtain ⟨h1, h2⟩ := h.tm t x ht
    exact ⟨by rw [h1, SV.den_congr (fun j hj => (up_lt (β := β) (b := β id) hj).symm) x h2.1], h2.mono (Nat.le_succ _)⟩
  · simp only [lk_cons, lk_rm] at ht
    by_cases e : st.nx = i
    · subst e
      rw [if_pos rfl] at ht; cases ht
      refine ⟨?_, SB.lt_mono (Nat.le_succ _) hl, by simp⟩
      rw [up_same]
      exact (SB.den_congr (fun j hj => (up_lt hj).symm) _ s hl).1 hb
    · rw [if_neg e] at ht
      split at ht
      · cases ht
      · obtain ⟨h1, h2, h3⟩ := h.hp.blk i t ht
        refine ⟨?_, SB.lt_mono (Nat.le_succ _) h2, Nat.lt_succ_of_lt h3⟩
        rw [up_lt h3]
        exact (SB.den_congr (fun j hj => (up_lt hj).symm) _ t h2).1 h1
  · simp only [lk_cons, lk_rm] at ht hu
    by_cases ei : st.nx = i <;> by_cases ej : st.nx = j
    · omega
    · subst ei
      rw [if_pos rfl] at ht; rw [if_neg ej] at hu; cases ht
      split at hu
      · cases hu
      · rename_i hne
        obtain ⟨_, _, h3⟩ := h.hp.blk j u hu
        rw [up_same, up_lt h3] at e
        exact absurd (h.hp.inj id j s u hs hu lt lu e) hne
    · subst ej
      rw [if_pos rfl] at hu; rw [if_neg ei] at ht; cases hu
      split at ht
      · cases ht
      · rename_i hne
        obtain ⟨_, _, h3⟩ := h.hp.blk i t ht
        rw [up_same, up_lt h3] at e
        exact absurd (h.hp.inj i id t s ht hs lt lu e).symm hne
    · rw [if_neg ei] at ht; rw [if_neg ej] at hu
      split at ht
      · cases ht
      · split at hu
        · cases hu
        · obtain ⟨_, _, h3⟩ := h.hp.blk i t ht
          obtain ⟨_, _, h4⟩ := h.hp.blk j u hu
          rw [up_lt h3, up_lt h4] at e
          exact h.hp.inj i j t u ht hu lt lu e
  · simp only [lk_cons, lk_rm] at ht
    by_cases e : st.nx = i
    · subst e
      rw [if_pos rfl] at ht; cases ht
      rw [up_same]; exact h.hp.exc id s hs lt
    · rw [if_neg e] at ht
      split at ht
      · cases ht
      · obtain ⟨_, _, h3⟩ := h.hp.blk i t ht
        rw [up_lt h3]; exact h.hp.exc i t ht lt
  · simp only [lk_cons, lk_rm] at ht
    by_cases e : st.nx = i
    · subst e
      rw [if_pos rfl] at ht; cases ht
      rw [up_same]; exact h.old id s hs lt
    · rw [if_neg e] at ht
      split at ht
      · cases ht
      · obtain ⟨_, _, h3⟩ := h.hp.blk i t ht
        rw [up_lt h3]; exact h.old i t ht lt
  · refine h.fx w' (hw'.mono ?_)
    rintro b hb (hx | ⟨i, t, ht, lt, e⟩)
    · exact .inl hx
    · simp only [lk_cons, lk_rm] at ht
      by_cases ei : st.nx = i
      · subst ei
        rw [if_pos rfl] at ht; cases ht
        rw [up_same] at e
        exact .inr ⟨id, s, hs, lt, e⟩
      · rw [if_neg ei] at ht
        split at ht
        · cases ht
        · obtain ⟨_, _, h3⟩ := h.hp.blk i t ht
          rw [up_lt h3] at e
          exact .inr ⟨i, t, ht, lt, e⟩
  · exact ⟨Nat.lt_succ_of_lt (h.fix i hi).1, by rw [up_lt (h.fix i hi).1]; exact (h.fix i hi).2⟩

theorem agree_drew (T : Nat → Prop) (w : World) : AgreeOff T w { w with drawn := w.drawn + 1 } := ⟨Nat.le_refl _, fun _ _ _ => rfl, rfl, rfl, rfl⟩
theorem Inv.drew (h : Inv C β st a w) : Inv C β st a { w with drawn := w.drawn + 1 } where
  siz := h.siz
  dfr := h.dfr
  tm := h.tm
  hp := ⟨h.hp.blk, h.hp.inj, h.hp.exc⟩
  old := h.old
  frm := h.frm.trans (agree_drew _ _)
  xs := h.xs
  fx := fun w' hw' => h.fx w' ((agree_drew _ _).trans hw')
  fix := h.fix

/-! ### Sources -/
theorem firstCells_at {P : Program} {w : World} {size n : Nat} {a : Option Addr} {m c : Nat} {news : List Value} (hl : news.length = n * size) (hr : RowAt w a news) : (Builtin.firstCells size n (.slice a m c)).run P w = .ok news.toArray w := by
  cases a with
  | none =>
    cases news with
    | nil => exact run_firstCells_none w size n m c
    | cons x r => obtain ⟨ad, h, _⟩ := hr 0 x rfl; cases h
  | some ad => exact run_firstCells_some w size n ad m c news hl (fun j v hj => by
      obtain ⟨ad', h, h'⟩ := hr j v hj
      cases h; exact h')

theorem Src.ofRow {P : Program} {size : Nat} {tx e' : TypeId} (hk : P.underlying tx = some (.slice e')) {a : Option Addr} {n c : Nat} {news : List Value} (hl : news.length = n * size) (hr : RowAt w a news) (h1 : ∀ v ∈ news, one1 v = true) :
    Src P size tx (.slice a n c) n news w :=
  ⟨.inl ⟨e', hk⟩, fun _ => rfl, firstCells_at hl hr, firstCells_at hl (fun k x hx => by obtain ⟨ad, h, h'⟩ := hr k x hx; exact ⟨ad, h, by simpa using h'⟩), hl, fun u hu => one1_cell (h1 u hu)⟩

/-- The cells of a row lie behind its block's start. -/
theorem rowAt_block {b : Nat} {cs : List Value} {ty : TypeId} {fz : Nat × Nat} (h : w.heap[b]? = some (.cells cs.toArray ty fz)) (lo k : Nat) (hk : lo + k ≤ cs.length) : RowAt w (some ⟨b, lo, none⟩) ((cs.drop lo).take k) := by
  intro j x hj
  refine ⟨_, rfl, ?_⟩
  rw [add_pl, cell_at h]
  rw [List.getElem?_take] at hj
  split at hj
  · rw [List.getElem?_drop] at hj; exact hj
  · cases hj

theorem lenS_of_beq {l : List Seg} {n : Nat} (h : Nat.beq (lenS l) n = true) : lenS l = n := Nat.eq_of_beq_eq_true h

theorem srcS_sound {P : Program} {k : TK} {tx : TypeId} {ti : TI} (hu : ti.ok P tx) (hk : ti.k = k) (hi : Inv C β st a w) {sz : Nat} {x : SV} (hx : gd st.nx x) {K : Nat → List Value → Prop} (h : srcS k st.hp st.fx sz x K) :
    ∃ n news, K n news ∧ Src P sz tx (x.den β) n news w ∧ ∀ v ∈ news, one1 v = true := by
  have hund := hu.und
  unfold srcS at h
  split at h
  · rename_i e
    rw [hk] at hund
    simp only at hund
    split at h
    · exact ⟨0, [], h, Src.ofNil w hund 0, by simp⟩
    · obtain ⟨news, h1, h2, h3, h4⟩ := h
      exact ⟨_, news, h4, Src.ofRow hund h1 (h3 w hi.now) h2, h2⟩
    · rename_i id n c z
      split at h
      · rename_i vs len cap s hl
        cases hs : Nat.beq s sz with
        | false => simp only [hs] at h
        | true =>
          simp only [hs] at h
          obtain ⟨news, rfl, h2, rfl, h3, h4⟩ := h
          have := Nat.eq_of_beq_eq_true hs; subst this
          obtain ⟨⟨b1, b2, b3⟩, _, _⟩ := hi.hp.blk id _ hl
          refine ⟨n, _, h4, ?_, h3⟩
          rcases b3 with hc | ⟨rest, ty, fz, b4, b5, b6⟩
          · subst hc
            obtain rfl : len = 0 := by omega
            obtain rfl : n = 0 := by omega
            simp only [SV.den, Nat.zero_mul, List.take_zero]
            exact Src.ofRow hund (by simp) (fun k x hx => by simp at hx) (by simp)
          · have hn : n * s ≤ vs.length := by rw [b1]; exact Nat.mul_le_mul_right _ h2
            have hr := rowAt_block b5 0 (n * s) (by simp; omega)
            rw [List.drop_zero, List.take_append_of_le_length hn] at hr
            simp only [SV.den]
            split
            · rename_i hc
              obtain rfl : n = 0 := by omega
              simp only [Nat.zero_mul, List.take_zero] at *
              exact Src.ofRow hund (by simp) (fun k x hx => by simp at hx) (by simp)
            · exact Src.ofRow hund (by simp [hn]) hr h3
      · exact h.elim
    · rename_i id lo n c
      split at h
      · rename_i vs len cap s hl
        obtain ⟨news, rfl, h1, h2, h3, h4⟩ := h
        obtain ⟨⟨b1, b2, b3⟩, _, _⟩ := hi.hp.blk id _ hl
        rcases b3 with hc | ⟨rest, ty, fz, b4, b5, b6⟩
        · exact absurd hc h2
        · have hr := rowAt_block b5 lo (n * sz) (by simp; omega)
          rw [List.drop_append_of_le_length (by omega), List.take_append_of_le_length (by simp; omega)] at hr
          exact ⟨n, _, h4, Src.ofRow hund (by simp; omega) hr h3, h3⟩
      · rename_i l hl
        cases hg : getS l lo (n * sz) with
        | none => simp only [hg] at h
        | some rr =>
          simp only [hg] at h
          cases hv : valsOf rr with
          | none => simp only [hv] at h
          | some news =>
            simp only [hv] at h
            cases hb : Nat.beq (lenS rr) (n * sz) with
            | false => simp only [hb] at h
            | true =>
              simp only [hb] at h
              obtain ⟨⟨bk, ty, fz, b1, b2⟩, b3, _⟩ := hi.hp.blk id _ hl
              obtain ⟨g1, g2, g3, g4⟩ := getS_spec (β := β) bk (by simpa [SB.lt] using b3) hg
              have hd := valsOf_den hv β
              have h1 : ∀ v ∈ news, one1 v = true := by rw [← hd]; exact okS.one1 g2 β
              have hlen : news.length = n * sz := by rw [← hd, lenS_den g2, lenS_of_beq hb]
              refine ⟨n, news, h, ?_, h1⟩
              have hr := rowAt_block b1 lo (n * sz) (by omega)
              rw [← g1, hd] at hr
              exact Src.ofRow hund hlen hr h1
      · exact h.elim
    · exact h.elim
  · rw [hk] at hund
    simp only at hund
    split at h
    · rename_i s
      cases hb : Nat.beq sz 1 with
      | false => simp only [hb] at h
      | true =>
        simp only [hb] at h
        have := Nat.eq_of_beq_eq_true hb; subst this
        exact ⟨_, _, h, Src.ofString w hund s, fun v hv => by obtain ⟨_, _, rfl⟩ := List.mem_map.1 hv; rfl⟩
    · exact h.elim
  · exact h.elim

end Go.SX
