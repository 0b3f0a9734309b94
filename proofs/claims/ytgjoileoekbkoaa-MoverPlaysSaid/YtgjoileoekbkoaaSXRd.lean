/-
  Reading what a call is handed: from the form's reading of data to cells.
-/
import Derived.Test.YtgjoileoekbkoaaSXB
import Derived.SizedLaws
import Derived.Deep.Slices
set_option linter.unusedVariables false
namespace Go.SX
open Go Go.WideShapes

mutual
/-- The words that a type of plain words lays out. -/
def leafs (P : Program) : Nat → TypeId → Option (List TypeId)
  | 0, _ => none
  | n + 1, t => match P.underlying t with
    | some (.struct fs) => match leafsF P n 0 fs.toList with
      | some l => if l.length = P.cellsOf t then some l else none
      | none => none
    | some .bool => some [t]
    | some (.int _) => some [t]
    | some .string => some [t]
    | some (.slice _) => some [t]
    | _ => none
def leafsF (P : Program) : Nat → Nat → List Field → Option (List TypeId)
  | 0, _, _ => none
  | _ + 1, _, [] => some []
  | n + 1, off, f :: fs => match leafs P n f.type with
    | some l => if f.offset = off ∧ P.cellsOf f.type = l.length then (match leafsF P n (off + l.length) fs with
      | some r => some (l ++ r)
      | none => none) else none
    | none => none
end

section
variable {H : Type} {enc : TypeId × Value → H} {P : Program} {w : World} {base : Nat} {spare : Nat → Bool} {held : Bool}

/-- A word, as it reads; it is in reach. -/
def LeafAt (enc : TypeId × Value → H) (P : Program) (w : World) (base : Nat) (spare : Nat → Bool) (held : Bool) (t : TypeId) (c : Value) : Prop :=
  ∃ fuel x, DataW.trod enc P w base spare held fuel t [c] = some x ∧ ∀ q ∈ x.1.weights P t, q ≤ reachBytes

theorem trod_one {t : TypeId} {fuel : Nat} {cs : List Value} {x : DataW H × List MemPlace}
    (hu : P.underlying t = some .bool ∨ (∃ k, P.underlying t = some (.int k)) ∨ P.underlying t = some .string ∨ ∃ e, P.underlying t = some (.slice e))
    (h : DataW.trod enc P w base spare held fuel t cs = some x) : ∃ c, cs = [c] := by
  cases fuel with
  | zero => simp [DataW.trod] at h
  | succ fuel =>
    match cs with
    | [c] => exact ⟨c, rfl⟩
    | [] => rcases hu with hu | ⟨k, hu⟩ | hu | ⟨e, hu⟩ <;> simp [DataW.trod, hu] at h
    | a :: b :: r => rcases hu with hu | ⟨k, hu⟩ | hu | ⟨e, hu⟩ <;> simp [DataW.trod, hu] at h

theorem leafs_both (n : Nat) : (∀ (t : TypeId) (ls : List TypeId), leafs P n t = some ls → ∀ (fuel : Nat) (cs : List Value) (x : DataW H × List MemPlace), DataW.trod enc P w base spare held fuel t cs = some x → (∀ q ∈ x.1.weights P t, q ≤ reachBytes) →
      cs.length = ls.length ∧ ∀ (i : Nat) (t' : TypeId), ls[i]? = some t' → ∃ c, cs[i]? = some c ∧ LeafAt enc P w base spare held t' c) ∧
    (∀ (off : Nat) (fs : List Field) (ls : List TypeId), leafsF P n off fs = some ls → ∀ (fuel : Nat) (cs : List Value) (xs : List (DataW H × List MemPlace)), (fs.mapM fun f => DataW.trod enc P w base spare held fuel f.type ((cs.drop f.offset).take (P.cellsOf f.type))) = some xs →
      (∀ q ∈ DataW.weightsEach P (fs.map (·.type)) (xs.map (·.1)), q ≤ reachBytes) → ∀ (i : Nat) (t' : TypeId), ls[i]? = some t' → ∃ c, cs[off + i]? = some c ∧ LeafAt enc P w base spare held t' c) := by
  induction n with
  | zero => exact ⟨fun t ls h => by simp [leafs] at h, fun off fs ls h => by simp [leafsF] at h⟩
  | succ n ih =>
    obtain ⟨ih1, ih2⟩ := ih
    constructor
    · intro t ls h fuel cs x hx hw
      have leaf : ls = [t] → (P.underlying t = some .bool ∨ (∃ k, P.underlying t = some (.int k)) ∨ P.underlying t = some .string ∨ ∃ e, P.underlying t = some (.slice e)) →
          cs.length = ls.length ∧ ∀ (i : Nat) (t' : TypeId), ls[i]? = some t' → ∃ c, cs[i]? = some c ∧ LeafAt enc P w base spare held t' c := by
        intro e hu
        obtain ⟨c, rfl⟩ := trod_one hu hx
        subst e
        refine ⟨rfl, fun i t' hi => ?_⟩
        cases i with
        | zero => simp at hi; subst hi; exact ⟨c, rfl, fuel, x, hx, hw⟩
        | succ i => simp at hi
      simp only [leafs] at h
      split at h
      · rename_i fs hu
        split at h
        · rename_i l hl
          split at h
          · rename_i hlen
            cases h
            cases fuel with
            | zero => simp [DataW.trod] at hx
            | succ fuel =>
              simp only [DataW.trod, hu] at hx
              split at hx
              · rename_i hcl
                cases hm : (fs.toList.mapM fun f => DataW.trod enc P w base spare held fuel f.type ((cs.drop f.offset).take (P.cellsOf f.type))) with
                | none => rw [hm] at hx; simp at hx
                | some xs =>
                  rw [hm] at hx
                  simp only [Option.map_some, Option.some.injEq] at hx
                  subst hx
                  refine ⟨by omega, fun i t' hi => ?_⟩
                  have := ih2 0 fs.toList ls hl fuel cs xs hm (fun q hq => hw q (by simp only [DataW.weights, hu]; exact hq)) i t' hi
                  simpa using this
              · cases hx
          · cases h
        · cases h
      · rename_i hu; cases h; exact leaf rfl (.inl hu)
      · rename_i k hu; cases h; exact leaf rfl (.inr (.inl ⟨k, hu⟩))
      · rename_i hu; cases h; exact leaf rfl (.inr (.inr (.inl hu)))
      · rename_i e hu; cases h; exact leaf rfl (.inr (.inr (.inr ⟨e, hu⟩)))
      · cases h
    · intro off fs ls h fuel cs xs hx hw i t' hi
      cases fs with
      | nil => simp [leafsF] at h; subst h; simp at hi
      | cons f fs =>
        simp only [leafsF] at h
        split at h
        · rename_i l hl
          split at h
          · rename_i hc
            split at h
            · rename_i r hr
              cases h
              rw [List.mapM_cons] at hx
              cases h0 : DataW.trod enc P w base spare held fuel f.type ((cs.drop f.offset).take (P.cellsOf f.type)) with
              | none => rw [h0] at hx; simp at hx
              | some y =>
                rw [h0] at hx
                cases h1 : (fs.mapM fun f => DataW.trod enc P w base spare held fuel f.type ((cs.drop f.offset).take (P.cellsOf f.type))) with
                | none => rw [h1] at hx; simp at hx
                | some ys =>
                  rw [h1] at hx
                  simp at hx
                  subst hx
                  simp only [List.map_cons, DataW.weightsEach] at hw
                  obtain ⟨q1, q2⟩ := ih1 f.type l hl fuel _ y h0 (fun q hq => hw q (List.mem_append_left _ hq))
                  by_cases hil : i < l.length
                  · rw [List.getElem?_append_left hil] at hi
                    obtain ⟨c, e1, e2⟩ := q2 i t' hi
                    refine ⟨c, ?_, e2⟩
                    rw [List.getElem?_take] at e1
                    split at e1
                    · rw [List.getElem?_drop, hc.1] at e1; exact e1
                    · cases e1
                  · rw [List.getElem?_append_right (by omega)] at hi
                    obtain ⟨c, e1, e2⟩ := ih2 (off + l.length) fs r hr fuel cs ys h1 (fun q hq => hw q (List.mem_append_right _ hq)) (i - l.length) t' hi
                    exact ⟨c, by rw [← e1]; congr 1; omega, e2⟩
            · cases h
          · cases h
        · cases h

theorem leafs_trod {n : Nat} {t : TypeId} {ls : List TypeId} (h : leafs P n t = some ls) {fuel : Nat} {cs : List Value} {x : DataW H × List MemPlace} (hx : DataW.trod enc P w base spare held fuel t cs = some x) (hw : ∀ q ∈ x.1.weights P t, q ≤ reachBytes) :
    cs.length = ls.length ∧ ∀ (i : Nat) (t' : TypeId), ls[i]? = some t' → ∃ c, cs[i]? = some c ∧ LeafAt enc P w base spare held t' c := (leafs_both n).1 t ls h fuel cs x hx hw

theorem LeafAt.int {t : TypeId} {k : IntKind} {c : Value} (hu : P.underlying t = some (.int k)) (h : LeafAt enc P w base spare held t c) : ∃ n, c = .int k n := by
  obtain ⟨fuel, x, h, -⟩ := h
  cases fuel with
  | zero => simp [DataW.trod] at h
  | succ fuel =>
    cases c <;> simp [DataW.trod, hu] at h
    obtain ⟨⟨rfl, _⟩, _⟩ := h
    exact ⟨_, rfl⟩
theorem LeafAt.bool {t : TypeId} {c : Value} (hu : P.underlying t = some .bool) (h : LeafAt enc P w base spare held t c) : ∃ b, c = .bool b := by
  obtain ⟨fuel, x, h, -⟩ := h
  cases fuel with
  | zero => simp [DataW.trod] at h
  | succ fuel =>
    cases c <;> simp [DataW.trod, hu] at h
    exact ⟨_, rfl⟩
theorem LeafAt.string {t : TypeId} {c : Value} (hu : P.underlying t = some .string) (h : LeafAt enc P w base spare held t c) : ∃ s, c = .string s := by
  obtain ⟨fuel, x, h, -⟩ := h
  cases fuel with
  | zero => simp [DataW.trod] at h
  | succ fuel =>
    cases c <;> simp [DataW.trod, hu] at h
    exact ⟨_, rfl⟩

/-- What lies at a's cells. -/
def rowOf (w : World) (a : Option Addr) (n : Nat) : List Value := (List.range n).map fun i => match a with
  | some p => (w.cell? (p.add i)).getD (.bool false)
  | none => .bool false
theorem rowOf_length (w : World) (a : Option Addr) (n : Nat) : (rowOf w a n).length = n := by simp [rowOf]

theorem weightsAll_mem {e : TypeId} : ∀ {l : List (DataW H)} {d : DataW H}, d ∈ l → ∀ q ∈ d.weights P e, q ∈ DataW.weightsAll P e l
  | _ :: r, d, h, q, hq => by
    rcases List.mem_cons.1 h with rfl | h
    · exact List.mem_append_left _ hq
    · exact List.mem_append_right _ (weightsAll_mem h q hq)

/-- A slice, as it reads. -/
theorem LeafAt.slice {t e : TypeId} {c : Value} (hu : P.underlying t = some (.slice e)) (hb : 1 ≤ P.bytesOf e) (h : LeafAt enc P w base spare held t c) :
    ∃ a l cp, c = .slice a l cp ∧ l ≤ reachBytes ∧ (a = none → l = 0) ∧ ∀ i, i < l → ∃ p fuel cs x, a = some p ∧ w.cells? base (p.add (i * P.cellsOf e)) (P.cellsOf e) = some cs ∧ DataW.trod enc P w base spare held fuel e cs = some x ∧ ∀ q ∈ x.1.weights P e, q ≤ reachBytes := by
  obtain ⟨fuel, x, h, hw⟩ := h
  rcases Deep.open_slice hu h with ⟨e1, -⟩ | ⟨a, len, cap, m, n, D, Pl, e1, e2, e3, e4, e5, rfl, hel⟩
  · cases e1; exact ⟨none, 0, 0, rfl, Nat.zero_le _, fun _ => rfl, fun i hi => absurd hi (Nat.not_lt_zero _)⟩
  · cases e1
    simp only [DataW.weights, hu] at hw
    have hlen : len ≤ m := by rw [e5]; split <;> omega
    refine ⟨some a, len, cap, rfl, ?_, fun h => (by cases h), fun i hi => ?_⟩
    · have h0 := hw _ (List.mem_cons_self ..)
      simp only [List.length_map, List.length_range] at h0
      have : len * 1 ≤ (len + (m - len)) * P.bytesOf e := Nat.mul_le_mul (by omega) hb
      omega
    · obtain ⟨cs, c1, c2⟩ := hel i (by omega)
      refine ⟨a, n, cs, _, rfl, c1, c2, fun q hq => hw q (List.mem_cons_of_mem _ (List.mem_append_left _ (weightsAll_mem (List.mem_map.2 ⟨i, List.mem_range.2 hi, rfl⟩) q hq)))⟩

theorem cells?_get {w : World} {base : Nat} {a : Addr} : ∀ {n : Nat} {cs : List Value}, w.cells? base a n = some cs → ∀ (i : Nat) (c : Value), cs[i]? = some c → w.cell? (a.add i) = some c := by
  intro n cs h i c hc
  unfold World.cells? at h
  split at h
  · have key : ∀ (l : List Nat) (cs : List Value), (l.mapM fun i => w.cell? (a.add i)) = some cs → ∀ (i : Nat) (c : Value), cs[i]? = some c → ∃ j : Nat, l[i]? = some j ∧ w.cell? (a.add j) = some c := by
      intro l
      induction l with
      | nil => intro cs h i c hc; simp at h; subst h; simp at hc
      | cons j l ih =>
        intro cs h i c hc
        rw [List.mapM_cons] at h
        cases h0 : w.cell? (a.add j) with
        | none => rw [h0] at h; simp at h
        | some v =>
          rw [h0] at h
          cases h1 : (l.mapM fun i => w.cell? (a.add i)) with
          | none => rw [h1] at h; simp at h
          | some vs =>
            rw [h1] at h
            simp at h
            subst h
            cases i with
            | zero => simp at hc; subst hc; exact ⟨j, rfl, h0⟩
            | succ i => simp at hc; obtain ⟨j', e1, e2⟩ := ih vs h1 i c hc; exact ⟨j', by simpa using e1, e2⟩
    obtain ⟨j, e1, e2⟩ := key _ _ h i c hc
    have : j = i := by
      have := List.getElem?_eq_some_iff.1 e1
      obtain ⟨h1, h2⟩ := this
      simp at h2
      exact h2.symm
    rw [← this]; exact e2
  · cases h

/-- A slice of bytes, as it reads. -/
theorem LeafAt.bytes {t e : TypeId} {c : Value} (hu : P.underlying t = some (.slice e)) (he : P.underlying e = some (.int .u8)) (hc : P.cellsOf e = 1) (hb : 1 ≤ P.bytesOf e) (h : LeafAt enc P w base spare held t c) :
    ∃ a l cp, c = .slice a l cp ∧ l ≤ reachBytes ∧ RowAt w a (rowOf w a l) ∧ ∀ v ∈ rowOf w a l, isU8 v := by
  obtain ⟨a, l, cp, e1, e2, e3, e4⟩ := h.slice hu hb
  have key : ∀ i, i < l → ∃ p n, a = some p ∧ w.cell? (p.add i) = some (.int .u8 n) := by
    intro i hi
    obtain ⟨p, fuel, cs, x, c1, c2, c3, c4⟩ := e4 i hi
    rw [hc] at c2
    obtain ⟨c, rfl⟩ := trod_one (.inr (.inl ⟨_, he⟩)) c3
    have h1 := cells?_get c2 0 c rfl
    obtain ⟨n, rfl⟩ := LeafAt.int he ⟨fuel, x, c3, c4⟩
    refine ⟨p, n, c1, ?_⟩
    simpa [Addr.add] using h1
  refine ⟨a, l, cp, e1, e2, fun i v hv => ?_, fun v hv => ?_⟩
  · simp only [rowOf, List.getElem?_map, Option.map_eq_some_iff] at hv
    obtain ⟨j, h1, h2⟩ := hv
    have hj := List.getElem?_eq_some_iff.1 h1
    obtain ⟨h3, h4⟩ := hj
    simp at h3 h4
    subst h4
    obtain ⟨p, n, rfl, hp⟩ := key i h3
    simp only [hp, Option.getD_some] at h2
    subst h2
    exact ⟨p, rfl, hp⟩
  · simp only [rowOf, List.mem_map, List.mem_range] at hv
    obtain ⟨j, h1, h2⟩ := hv
    obtain ⟨p, n, rfl, hp⟩ := key j h1
    simp only [hp, Option.getD_some] at h2
    exact ⟨n, h2.symm⟩
end

/-- What was read stands as long as no block of cells of old is touched. -/
theorem cell?_agree {w w' : World} {T : Nat → Prop} (h : AgreeOff T w w') (hT : ∀ b, T b → isDef w b) {a : Addr} {v : Value} (hp : w.cell? a = some v) : w'.cell? a = some v := by
  unfold World.cell? at hp ⊢
  cases hb : w.heap[a.block]? with
  | none => rw [hb] at hp; simp at hp
  | some o =>
    have hlt : a.block < w.heap.size := (Array.getElem?_eq_some_iff.1 hb).1
    cases o with
    | cells c t f =>
      have hn : ¬ T a.block := fun ht => by
        obtain ⟨o, h1, h2⟩ := hT _ ht
        rw [hb] at h1
        cases h1
        simp at h2
      rw [h.same _ hlt hn]
      exact hp
    | _ => rw [hb] at hp; simp at hp
theorem RowAt.agree {w w' : World} {T : Nat → Prop} (h : AgreeOff T w w') (hT : ∀ b, T b → isDef w b) {a : Option Addr} {vs : List Value} (hr : RowAt w a vs) : RowAt w' a vs := by
  intro k v hv
  obtain ⟨p, rfl, hp⟩ := hr k v hv
  exact ⟨p, rfl, cell?_agree h hT hp⟩
end Go.SX
