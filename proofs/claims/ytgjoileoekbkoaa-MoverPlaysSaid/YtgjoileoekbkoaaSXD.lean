/-
  SX, part D: how the state goes on: a temporary, a new block, a block that is written.
-/
import Derived.Test.YtgjoileoekbkoaaSXC
set_option linter.unusedVariables false
set_option linter.unusedSimpArgs false
namespace Go.SX

structure CtxOk (C : Ctx) : Prop where
  xsm : ∀ b, C.X b → (C.xh b).isSome = true
  lsx : ∀ l ∈ C.ls, C.X l ∧ (l < C.w0.heap.size → C.T0 l)

variable {C : Ctx} {β : Nat → Nat} {st : SState} {a : Act} {w : World}

theorem Act.put_some (a : Act) (d : Nat) (v : Value) : a.put (some d) v = { a with tmps := a.tmps.setIfInBounds d v } := rfl
theorem Act.put_none (a : Act) (v : Value) : a.put none v = a := rfl

theorem Inv.put (h : Inv C β st a w) {d : Nat} (hd : d < C.N) {x : SV} (hx : gd st.nx x) : Inv C β { st with tm := (d, x) :: st.tm } (a.put (some d) (x.den β)) w where
  siz := by simp [Act.put_some, h.siz]
  dfr := h.dfr
  tm := fun s y hs => by
    simp only [lk_cons] at hs
    by_cases e : d = s
    · subst e
      rw [if_pos rfl] at hs
      cases hs
      refine ⟨?_, hx⟩
      simp only [Act.put_some]
      rw [Array.getElem?_setIfInBounds_self_of_lt (by rw [h.siz]; exact hd)]
    · rw [if_neg e] at hs
      obtain ⟨h1, h2⟩ := h.tm s y hs
      refine ⟨?_, h2⟩
      simp only [Act.put_some]
      rw [Array.getElem?_setIfInBounds_ne e]; exact h1
  hp := h.hp
  old := h.old
  frm := h.frm
  fx := h.fx
  xs := h.xs
  fix := h.fix

/-- A slot of which nothing is told any more. -/
theorem Inv.skip (h : Inv C β st a w) (d : Nat) (v : Value) : Inv C β { st with tm := rm st.tm d } (a.put (some d) v) w where
  siz := by simp [Act.put_some, h.siz]
  dfr := h.dfr
  tm := fun s y hs => by
    simp only [lk_rm] at hs
    by_cases e : d = s
    · simp [e] at hs
    · rw [if_neg e] at hs
      obtain ⟨h1, h2⟩ := h.tm s y hs
      refine ⟨?_, h2⟩
      simp only [Act.put_some]
      rw [Array.getElem?_setIfInBounds_ne e]; exact h1
  hp := h.hp
  old := h.old
  frm := h.frm
  fx := h.fx
  xs := h.xs
  fix := h.fix

/-- A value told anew. -/
theorem Inv.retell (h : Inv C β st a w) {s : Nat} {x y : SV} (hx : lk st.tm s = some x) (he : y.den β = x.den β) (hy : gd st.nx y) : Inv C β { st with tm := (s, y) :: st.tm } a w where
  siz := h.siz
  dfr := h.dfr
  tm := fun t z hs => by
    simp only [lk_cons] at hs
    by_cases e : s = t
    · subst e
      rw [if_pos rfl] at hs
      cases hs
      exact ⟨by rw [he]; exact (h.tm s x hx).1, hy⟩
    · rw [if_neg e] at hs
      exact h.tm t z hs
  hp := h.hp
  old := h.old
  frm := h.frm
  fx := h.fx
  xs := h.xs
  fix := h.fix

def up (β : Nat → Nat) (i b : Nat) : Nat → Nat := fun j => if j = i then b else β j
theorem up_lt {β : Nat → Nat} {i b j : Nat} (h : j < i) : up β i b j = β j := if_neg (by omega)
theorem up_same {β : Nat → Nat} {i b : Nat} : up β i b i = b := if_pos rfl

theorem heap_alloc_lt (w : World) (o : Obj) {k : Nat} (h : k < w.heap.size) : (w.alloc o).heap[k]? = w.heap[k]? := RowKit.Below.heap_alloc w o k h
theorem heap_alloc_new (w : World) (o : Obj) : (w.alloc o).heap[w.heap.size]? = some o := by
  show (w.heap.push o)[w.heap.size]? = some o
  simp
theorem agree_alloc (T : Nat → Prop) (w : World) (o : Obj) : AgreeOff T w (w.alloc o) :=
  ⟨by simp, fun b hb _ => heap_alloc_lt w o hb, rfl, rfl, rfl⟩

theorem HpOk.new {X : Nat → Prop} {hp : List (Nat × SB)} {nx : Nat} (h : HpOk X β hp nx w) {b : SB} {o : Obj} (hb : ∀ β', (∀ i, i < nx → β' i = β i) → b.den β' (some o)) (hl : b.lt nx = true)
    (hx : ¬ X w.heap.size) : HpOk X (up β nx w.heap.size) ((nx, b) :: hp) (nx + 1) (w.alloc o) where
  blk := fun i s hs => by
    simp only [lk_cons] at hs
    by_cases e : nx = i
    · subst e
      rw [if_pos rfl] at hs; cases hs
      refine ⟨?_, ?_, by omega⟩
      · rw [up_same, heap_alloc_new w o]
        exact hb _ (fun i hi => up_lt hi)
      · cases b with
        | cells l => exact ltS_mono (by omega) l hl
        | orow _ _ _ _ => rfl
    · rw [if_neg e] at hs
      obtain ⟨h1, h2, h3⟩ := h.blk i s hs
      refine ⟨?_, ?_, by omega⟩
      · rw [up_lt h3]
        have h1' : s.den (up β nx w.heap.size) w.heap[β i]? := (SB.den_congr (fun j hj => (up_lt hj).symm) _ s h2).1 h1
        cases s with
        | cells l => rw [heap_alloc_lt w o (SB.den_lt (s := .cells l) h1 trivial)]; exact h1'
        | orow vs len cap sz =>
          rcases Nat.eq_zero_or_pos cap with hc | hc
          · exact ⟨h1.1, h1.2.1, .inl hc⟩
          · rw [heap_alloc_lt w o (SB.den_lt (s := .orow vs len cap sz) h1 (show cap ≠ 0 by omega))]; exact h1'
      · cases s with
        | cells l => exact ltS_mono (by omega) l h2
        | orow _ _ _ _ => rfl
  inj := fun i j s t hs ht ls lt e => by
    simp only [lk_cons] at hs ht
    by_cases ei : nx = i <;> by_cases ej : nx = j
    · omega
    · subst ei
      rw [if_pos rfl] at hs; rw [if_neg ej] at ht
      obtain ⟨h1, h2, h3⟩ := h.blk j t ht
      rw [up_same, up_lt h3] at e
      have := SB.den_lt h1 lt
      omega
    · subst ej
      rw [if_pos rfl] at ht; rw [if_neg ei] at hs
      obtain ⟨h1, h2, h3⟩ := h.blk i s hs
      rw [up_same, up_lt h3] at e
      have := SB.den_lt h1 ls
      omega
    · rw [if_neg ei] at hs; rw [if_neg ej] at ht
      obtain ⟨_, _, h3⟩ := h.blk i s hs
      obtain ⟨_, _, h4⟩ := h.blk j t ht
      rw [up_lt h3, up_lt h4] at e
      exact h.inj i j s t hs ht ls lt e
  exc := fun i s hs ls => by
    simp only [lk_cons] at hs
    by_cases e : nx = i
    · subst e; rw [up_same]; exact hx
    · rw [if_neg e] at hs
      obtain ⟨_, _, h3⟩ := h.blk i s hs
      rw [up_lt h3]; exact h.exc i s hs ls

theorem AgreeOff.step {T T1 : Nat → Prop} {w w1 w2 : World} (h : AgreeOff T w w1) (k : AgreeOff T1 w1 w2) (ht : ∀ b, b < w.heap.size → T1 b → T b) : AgreeOff T w w2 :=
  ⟨Nat.le_trans h.size k.size, fun i hi hn => (k.same i (Nat.lt_of_lt_of_le hi h.size) (fun hT => hn (ht i hi hT))).trans (h.same i hi hn), k.os.trans h.os, k.output.trans h.output, k.tape.trans h.tape⟩

theorem CtxOk.lt (hC : CtxOk C) (h : Inv C β st a w) {b : Nat} (hb : C.X b) : b < w.heap.size := by
  have h1 := hC.xsm b hb
  rw [← xhOf_some C.ls st.pe, ← h.xs b hb] at h1
  obtain ⟨o, ho⟩ := Option.isSome_iff_exists.1 h1
  exact (Array.getElem?_eq_some_iff.1 ho).1

/-- A new block. -/
theorem Inv.new (hC : CtxOk C) (h : Inv C β st a w) {b : SB} {o : Obj} (hb : ∀ β', (∀ i, i < st.nx → β' i = β i) → b.den β' (some o)) (hl : b.lt st.nx = true) : Inv C (up β st.nx w.heap.size) (newS st b) a (w.alloc o) where
  siz := h.siz
  dfr := h.dfr.keep (fun b hb => heap_alloc_lt w o hb.lt)
  tm := fun s x hs => by
    obtain ⟨h1, h2⟩ := h.tm s x hs
    exact ⟨by rw [h1, SV.den_congr (fun j hj => (up_lt (β := β) (b := w.heap.size) hj).symm) x h2.1], h2.mono (Nat.le_succ _)⟩
  hp := h.hp.new hb hl (fun hx => absurd (hC.lt h hx) (Nat.lt_irrefl _))
  old := fun i s hs ls => by
    simp only [newS, lk_cons] at hs
    by_cases e : st.nx = i
    · subst e; rw [up_same]; exact .inr h.frm.size
    · rw [if_neg e] at hs
      rw [up_lt (h.hp.blk i s hs).2.2]
      exact h.old i s hs ls
  frm := h.frm.trans (agree_alloc _ _ _)
  fx := fun w' hw' => h.fx w' (by
    refine AgreeOff.step (agree_alloc _ w o) hw' ?_
    rintro i hi (hx | ⟨j, s, hs, ls, e⟩)
    · exact .inl (hx.imp id (fun hd => hd.same (heap_alloc_lt w o hi)))
    · simp only [newS, lk_cons] at hs
      by_cases e1 : st.nx = j
      · subst e1; rw [up_same] at e; omega
      · rw [if_neg e1] at hs
        exact .inr ⟨j, s, hs, ls, by rw [← e, up_lt (h.hp.blk j s hs).2.2]⟩)
  xs := fun b hb => by rw [heap_alloc_lt w o (hC.lt h hb)]; exact h.xs b hb
  fix := fun i hi => ⟨Nat.lt_of_lt_of_le (h.fix i hi).1 (Nat.le_succ _), by rw [up_lt (h.fix i hi).1]; exact (h.fix i hi).2⟩

/-- A block that is written. -/
theorem HpOk.upd {X : Nat → Prop} {hp : List (Nat × SB)} {nx : Nat} (h : HpOk X β hp nx w) {id : Nat} {s s' : SB} (hs : lk hp id = some s) (ls : s.live) {w' : World} (hz : w'.heap.size = w.heap.size)
    (ho : ∀ b, b ≠ β id → w'.heap[b]? = w.heap[b]?) (hb : s'.den β w'.heap[β id]?) (hl : s'.lt nx = true) : HpOk X β ((id, s') :: rm hp id) nx w' where
  blk := fun i t ht => by
    simp only [lk_cons, lk_rm] at ht
    by_cases e : id = i
    · subst e
      rw [if_pos rfl] at ht; cases ht
      exact ⟨hb, hl, (h.blk id s hs).2.2⟩
    · rw [if_neg e, if_neg e] at ht
      obtain ⟨h1, h2, h3⟩ := h.blk i t ht
      refine ⟨?_, h2, h3⟩
      cases t with
      | cells l => rw [ho _ (fun e' => e (h.inj id i s _ hs ht ls trivial e'.symm))]; exact h1
      | orow vs len cap sz =>
        rcases Nat.eq_zero_or_pos cap with hc | hc
        · exact ⟨h1.1, h1.2.1, .inl hc⟩
        · rw [ho _ (fun e' => e (h.inj id i s _ hs ht ls (show cap ≠ 0 by omega) e'.symm))]; exact h1
  inj := fun i j t u ht hu lt lu e => by
    simp only [lk_cons, lk_rm] at ht hu
    by_cases ei : id = i <;> by_cases ej : id = j
    · omega
    · subst ei
      rw [if_neg ej, if_neg ej] at hu
      exact h.inj id j s u hs hu ls lu e
    · subst ej
      rw [if_neg ei, if_neg ei] at ht
      exact h.inj i id t s ht hs lt ls e
    · rw [if_neg ei, if_neg ei] at ht; rw [if_neg ej, if_neg ej] at hu
      exact h.inj i j t u ht hu lt lu e
  exc := fun i t ht lt => by
    simp only [lk_cons, lk_rm] at ht
    by_cases e : id = i
    · subst e; exact h.exc id s hs ls
    · rw [if_neg e, if_neg e] at ht
      exact h.exc i t ht lt

theorem Inv.upd (h : Inv C β st a w) {id : Nat} {s s' : SB} (hs : lk st.hp id = some s) (ls : s.live) {w' : World} (hz : w'.heap.size = w.heap.size)
    (ho : ∀ b, b ≠ β id → w'.heap[b]? = w.heap[b]?) (h1 : w'.os = w.os) (h2 : w'.output = w.output) (h3 : w'.tape = w.tape) (hb : s'.den β w'.heap[β id]?) (hl : s'.lt st.nx = true) :
    Inv C β { st with hp := (id, s') :: rm st.hp id } a w' where
  siz := h.siz
  dfr := h.dfr.keep (fun b hd => ho b (fun e => by
    obtain ⟨c, ty, fz, hc⟩ := SB.den_cells (h.hp.blk id s hs).1 ls
    exact isDef.not hc (e ▸ hd)))
  tm := h.tm
  hp := h.hp.upd hs ls hz ho hb hl
  old := fun i t ht lt => by
    simp only [lk_cons, lk_rm] at ht
    by_cases e : id = i
    · subst e; exact h.old id s hs ls
    · rw [if_neg e, if_neg e] at ht
      exact h.old i t ht lt
  frm := by
    refine AgreeOff.step h.frm (T1 := fun b => b = β id) ⟨by omega, fun b _ hn => ho b hn, h1, h2, h3⟩ ?_
    rintro b hb rfl
    rcases h.old id s hs ls with h | h
    · exact h
    · omega
  fx := fun w'' hw' => h.fx w'' (by
    refine AgreeOff.step (T := fun b => (C.X b ∨ isDef w b) ∨ trk β st.hp b) ⟨by omega, fun b _ hn => ho b (fun e => hn (.inr ⟨id, s, hs, ls, e.symm⟩)), h1, h2, h3⟩ hw' ?_
    rintro b hb (hx | ⟨j, t, ht, lt, rfl⟩)
    · by_cases e : b = β id
      · exact .inr ⟨id, s, hs, ls, e.symm⟩
      · exact .inl (hx.imp (fun h => h) (fun hd => hd.same (ho b e)))
    · simp only [lk_cons, lk_rm] at ht
      by_cases e : id = j
      · subst e; exact .inr ⟨id, s, hs, ls, rfl⟩
      · rw [if_neg e, if_neg e] at ht
        exact .inr ⟨j, t, ht, lt, rfl⟩)
  xs := fun b hb => by rw [ho b (fun e => h.hp.exc id s hs ls (e ▸ hb))]; exact h.xs b hb
  fix := h.fix

end Go.SX
