/-
  SX, part E: loads and stores: what the model's own operations do, said of the symbolic cells.
-/
import Derived.Test.YtgjoileoekbkoaaSXD
set_option linter.unusedVariables false
set_option linter.unusedSimpArgs false
namespace Go.SX

structure TI.ok (P : Program) (t : TypeId) (ti : TI) : Prop where
  und : match ti.k with
    | .int k => P.underlying t = some (.int k)
    | .bool => P.underlying t = some .bool
    | .str => P.underlying t = some .string
    | .ptr => ∃ e, P.underlying t = some (.pointer e)
    | .slice e => P.underlying t = some (.slice e)
    | .struct fs => ∃ (F : Array Field) (pl : List (Nat × Nat)), P.underlying t = some (.struct F) ∧ F.toList.map (fun f => (f.offset, f.type)) = fs ∧ F.toList.mapM (fun f => (P.info? f.type).map fun i => (f.offset, i.size)) = some pl
    | .arr n e => P.underlying t = some (.array n e)
    | .func => ∃ a b c, P.underlying t = some (.func a b c)
    | .oth => ∃ k e, P.underlying t = some (.map k e)
  inf : ∃ i, P.info? t = some i ∧ i.size = ti.size ∧ i.bytes = ti.bytes ∧ ∃ z, i.zero = some z ∧ z.cells.toList = denS (fun i => i) ti.zero
  zok : okS ti.zero
  zlt : ltS 0 ti.zero = true
  zln : lenS ti.zero = ti.size

variable {P : Program} {t : TypeId} {ti : TI}

theorem TI.ok.size (h : ti.ok P t) (w : World) : (sizeOf t).run P w = .ok ti.size w := by
  obtain ⟨i, h1, h2, _⟩ := h.inf
  simp [sizeOf, typeInfo, h1, h2]
theorem TI.ok.zero (h : ti.ok P t) (w : World) : ∃ z, (zeroValue t).run P w = .ok z w ∧ ∀ β, z.cells.toList = denS β ti.zero := by
  obtain ⟨i, h1, h2, _, z, h3, h4⟩ := h.inf
  exact ⟨z, by simp [zeroValue, typeInfo, h1, h3], fun β => by rw [h4]; exact denS_congr (n := 0) (fun i hi => absurd hi (Nat.not_lt_zero i)) _ h.zlt⟩
theorem TI.ok.isAgg (h : ti.ok P t) (w : World) : (isAgg t).run P w = .ok ti.agg w := by
  have hu := h.und
  unfold TI.agg
  cases hk : ti.k <;> simp only [hk] at hu
  case ptr => obtain ⟨e, hu⟩ := hu; simp [Go.isAgg, run_underlying hu]
  case struct => obtain ⟨e, _, hu, _⟩ := hu; simp [Go.isAgg, run_underlying hu]
  case func => obtain ⟨a, b, c, hu⟩ := hu; simp [Go.isAgg, run_underlying hu]
  case oth => obtain ⟨a, b, hu⟩ := hu; simp [Go.isAgg, run_underlying hu]
  all_goals simp [Go.isAgg, run_underlying hu]

theorem add_pl (b o j : Nat) : (⟨b, o, none⟩ : Addr).add j = ⟨b, o + j, none⟩ := by unfold Addr.add; split <;> simp_all
theorem add_add (a : Addr) (j k : Nat) : (a.add j).add k = a.add (j + k) := by
  unfold Addr.add
  by_cases hj : j = 0 <;> by_cases hk : k = 0 <;> simp [hj, hk, Nat.add_assoc]
theorem add_zero' (a : Addr) : a.add 0 = a := rfl
theorem map_add_zero (a : Option Addr) : a.map (·.add 0) = a := by cases a <;> rfl

theorem cell_at {w : World} {b : Nat} {cs : List Value} {ty : TypeId} {fz : Nat × Nat} (h : w.heap[b]? = some (.cells cs.toArray ty fz)) (o : Nat) : w.cell? ⟨b, o, none⟩ = cs[o]? := by
  simp [World.cell?, h]
theorem frozen_at {w : World} {b : Nat} {cs : List Value} {ty : TypeId} {fz : Nat × Nat} (h : w.heap[b]? = some (.cells cs.toArray ty fz)) (hn : nf fz cs.length) {o : Nat} (ho : o < cs.length) : w.frozen? ⟨b, o, none⟩ = false := by
  have := hn o ho
  simp [World.frozen?, h, this]

/-- The cells as a value. -/
def aggV (b : Bool) (cs : List Value) : Value := match b with
  | true => .agg cs.toArray
  | false => cs.headD undef

/-- A load whose cells are known. -/
theorem run_loadAt {w : World} (h : ti.ok P t) (a : Addr) (cs : List Value) (hn : cs.length = ti.size) (hc : ∀ j v, cs[j]? = some v → w.cell? (a.add j) = some v) (hone : ti.agg = false → ∃ v, cs = [v]) :
    (Instr.loadAt t (.pointer (some a))).run P w = .ok (aggV ti.agg cs) w := by
  simp only [Instr.loadAt, Instr.sureAddr, Sem.run_bind, Sem.run_pure, Result.andThen_ok, loadVar, h.isAgg]
  cases hg : ti.agg with
  | true =>
    simp only [if_true, Sem.run_bind, h.size, Result.andThen_ok]
    rw [← hn, run_loadCells_list w a cs hc]
    simp [aggV]
  | false =>
    obtain ⟨v, rfl⟩ := hone hg
    have := hc 0 v rfl
    rw [add_zero'] at this
    simp [load, Sem.run, this, aggV]

/-- The world with another object at a block. -/
def putB (w : World) (b : Nat) (o : Obj) : World := { w with heap := w.heap.setIfInBounds b o }
theorem putB_same {w : World} {b : Nat} {o : Obj} (h : b < w.heap.size) : (putB w b o).heap[b]? = some o := by simp [putB, h]
theorem putB_other {w : World} {b : Nat} {o : Obj} {c : Nat} (h : c ≠ b) : (putB w b o).heap[c]? = w.heap[c]? := by
  simp only [putB]; rw [Array.getElem?_setIfInBounds_ne (by omega)]
theorem putB_size {w : World} {b : Nat} {o : Obj} : (putB w b o).heap.size = w.heap.size := by simp [putB]
theorem putB_putB {w : World} {b : Nat} {o o' : Obj} : putB (putB w b o) b o' = putB w b o' := by simp [putB]
theorem putB_self {w : World} {b : Nat} {o : Obj} (h : w.heap[b]? = some o) : putB w b o = w := by
  have : w.heap.setIfInBounds b o = w.heap := by
    apply Array.ext_getElem?
    intro i
    by_cases e : b = i
    · subst e; rw [Array.getElem?_setIfInBounds_self_of_lt (Array.getElem?_eq_some_iff.1 h).1, h]
    · rw [Array.getElem?_setIfInBounds_ne e]
  simp only [putB, this]
theorem setCell_put {w : World} {b o : Nat} {cs : List Value} {ty : TypeId} {fz : Nat × Nat} (h : w.heap[b]? = some (.cells cs.toArray ty fz)) (v : Value) :
    w.setCell ⟨b, o, none⟩ v = putB w b (.cells (cs.set o v).toArray ty fz) := by
  obtain ⟨hb, he⟩ := Array.getElem?_eq_some_iff.1 h
  simp only [World.setCell, putB]
  congr 1
  apply Array.ext_getElem?
  intro i
  rw [Array.getElem?_modify]
  by_cases e : b = i
  · subst e; rw [if_pos rfl, Array.getElem?_setIfInBounds_self_of_lt hb, h]; simp
  · rw [if_neg e, Array.getElem?_setIfInBounds_ne e]

theorem run_storeCells {b : Nat} {ty : TypeId} {fz : Nat × Nat} (o : Nat) : ∀ (vs : List Value) (i : Nat) (cs : List Value) (w : World), w.heap[b]? = some (.cells cs.toArray ty fz) → nf fz cs.length → o + i + vs.length ≤ cs.length → (∀ v ∈ vs, one1 v = true) →
    (storeCells ⟨b, o, none⟩ vs i).run P w = .ok () (putB w b (.cells (updL cs (o + i) vs).toArray ty fz))
  | [], i, cs, w, h, hn, hl, h1 => by simp [storeCells, updL, putB_self h]
  | v :: vs, i, cs, w, h, hn, hl, h1 => by
    simp at hl
    have hv : v.oneCell' = true := by have := h1 v (by simp); cases v <;> simp_all [one1, Value.oneCell']
    have hc : w.cell? ⟨b, o + i, none⟩ = some (cs[o + i]'(by omega)) := by rw [cell_at h]; exact List.getElem?_eq_getElem _
    have hf := frozen_at h hn (o := o + i) (by omega)
    have hb : b < w.heap.size := (Array.getElem?_eq_some_iff.1 h).1
    have ih := run_storeCells o vs (i + 1) (cs.set (o + i) v) (putB w b (.cells (cs.set (o + i) v).toArray ty fz)) (putB_same hb) (by simpa using hn) (by simp; omega) (fun x hx => h1 x (by simp [hx]))
    simp only [storeCells, Sem.run_bind, add_pl, run_store _ _ _ _ _ hv, hc, hf, Bool.false_eq_true, if_false, Result.andThen_ok, setCell_put h, ih, updL, putB_putB, Nat.add_assoc]

theorem run_storeAt {w : World} (h : ti.ok P t) {b o : Nat} {cs : List Value} {ty : TypeId} {fz : Nat × Nat} (hb : w.heap[b]? = some (.cells cs.toArray ty fz)) (hn : nf fz cs.length) (v : Value) (hv : v.cells.size = ti.size) (hl : o + ti.size ≤ cs.length)
    (h1 : ∀ x ∈ v.cells.toList, one1 x = true) :
    (Instr.storeAt t (.pointer (some ⟨b, o, none⟩)) v).run P w = .ok () (putB w b (.cells (setR cs o v.cells.toList).toArray ty fz)) := by
  have hz : ¬ (v.cells.size ≠ ti.size) := by simp [hv]
  simp only [Instr.storeAt, Instr.sureAddr, Sem.run_bind, Sem.run_pure, Result.andThen_ok, storeVar, h.size]
  have hs := run_storeCells (P := P) (b := b) o v.cells.toList 0 cs w hb hn (by simp; omega) h1
  rw [updL_eq _ _ _ (by simp; omega)] at hs
  simp [hv, hs]

end Go.SX
