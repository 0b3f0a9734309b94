/-
  SX, part Q: a table of types, held against the program's own.
-/
import Derived.Test.YtgjoileoekbkoaaSXP
import Derived.KernelRfl
set_option linter.unusedVariables false
set_option linter.unusedSimpArgs false
namespace Go.SX

def kOf (P : Program) (t : TypeId) : Option TK := match P.underlying t with
  | some (.int k) => some (.int k)
  | some .bool => some .bool
  | some .string => some .str
  | some (.pointer _) => some .ptr
  | some (.slice e) => some (.slice e)
  | some (.struct F) => some (.struct (F.toList.map (fun f => (f.offset, f.type))))
  | some (.array n e) => some (.arr n e)
  | some (.func _ _ _) => some .func
  | some (.map _ _) => some .oth
  | _ => none
def plOf (P : Program) (t : TypeId) : Bool := match P.underlying t with
  | some (.struct F) => (F.toList.mapM (fun f => (P.info? f.type).map fun i => (f.offset, i.size))).isSome
  | _ => true
def infOf (P : Program) (t : TypeId) : Option (Nat × Nat × List Value) := match P.info? t with
  | some i => match i.zero with
    | some z => some (i.size, i.bytes, z.cells.toList)
    | none => none
  | none => none
def okSB : List Seg → Bool
  | [] => true
  | .one x :: r => (match x with | .agg _ => false | .tup _ => false | .clo _ _ => false | .v y => one1 y | _ => true) && okSB r
  | .many n vs :: r => Nat.beq vs.length n && vs.all one1 && okSB r
theorem okSB_ok : ∀ {l : List Seg}, okSB l = true → okS l
  | [], _ => trivial
  | .one x :: r, h => by
    simp only [okSB, Bool.and_eq_true] at h
    refine ⟨?_, okSB_ok h.2⟩
    have := h.1
    cases x <;> first | trivial | exact this | (simp at this)
  | .many n vs :: r, h => by
    simp only [okSB, Bool.and_eq_true] at h
    exact ⟨⟨Nat.eq_of_beq_eq_true h.1.1, fun v hv => (List.all_eq_true.1 h.1.2) v hv⟩, okSB_ok h.2⟩

theorem TI.mk_ok {P : Program} {t : TypeId} {ti : TI} (h1 : kOf P t = some ti.k) (h2 : plOf P t = true) (h3 : infOf P t = some (ti.size, ti.bytes, denS (fun i => i) ti.zero)) (h4 : okSB ti.zero = true) (h5 : ltS 0 ti.zero = true) (h6 : lenS ti.zero = ti.size) : TI.ok P t ti := by
  refine ⟨?_, ?_, okSB_ok h4, h5, h6⟩
  · unfold kOf at h1
    unfold plOf at h2
    split at h1 <;> first | (cases h1; done) | simp only [Option.some.injEq] at h1
    all_goals first | (rw [← h1]; assumption) | skip
    · rename_i e hu; rw [← h1]; exact ⟨e, hu⟩
    · rename_i F hu
      rw [← h1]
      simp only [hu] at h2
      obtain ⟨pl, hpl⟩ := Option.isSome_iff_exists.1 h2
      exact ⟨F, pl, hu, rfl, hpl⟩
    · rename_i hu; rw [← h1]; exact ⟨_, _, _, hu⟩
    · rename_i hu; rw [← h1]; exact ⟨_, _, hu⟩
  · unfold infOf at h3
    cases hi : P.info? t with
    | none => simp [hi] at h3
    | some i =>
      cases hz : i.zero with
      | none => simp [hi, hz] at h3
      | some z =>
        simp [hi, hz] at h3
        exact ⟨i, rfl, h3.1, h3.2.1, z, hz, h3.2.2⟩

def allOk (P : Program) : List (Nat × TI) → Prop
  | [] => True
  | (t, ti) :: r => TI.ok P t ti ∧ allOk P r
theorem allOk_get {P : Program} : ∀ {l : List (Nat × TI)}, allOk P l → ∀ t ti, lk l t = some ti → TI.ok P t ti
  | [], _, t, ti, h => by simp [lk] at h
  | (j, y) :: r, ho, t, ti, h => by
    rw [lk_cons] at h
    split at h
    · rename_i e; subst e; cases h; exact ho.1
    · exact allOk_get ho.2 t ti h

def allEq (P : Program) : List (Nat × List CK) → Prop
  | [] => True
  | (t, ks) :: r => EqOk P t ks ∧ allEq P r
theorem allEq_get {P : Program} : ∀ {l : List (Nat × List CK)}, allEq P l → ∀ t ks, lk l t = some ks → EqOk P t ks
  | [], _, t, ks, h => by simp [lk] at h
  | (j, y) :: r, ho, t, ks, h => by
    rw [lk_cons] at h
    split at h
    · rename_i e; subst e; cases h; exact ho.1
    · exact allEq_get ho.2 t ks h
def fOkB (P : Program) : Nat → List Field → List CK → Bool
  | _, [], [] => true
  | o, f :: fs, c :: ks => (f.name != "_") && Nat.beq f.offset o && (match c with
      | .int k => match P.underlying f.type with
        | some (.int k') => Nat.beq (ikN k') (ikN k)
        | _ => false
      | .bool => match P.underlying f.type with
        | some .bool => true
        | _ => false
      | .str => match P.underlying f.type with
        | some .string => true
        | _ => false
      | _ => false) && fOkB P (o + 1) fs ks
  | _, _, _ => false
theorem fOkB_ok {P : Program} : ∀ {fs : List Field} {o : Nat} {ks : List CK}, fOkB P o fs ks = true → fOk P o fs ks
  | [], _, [], _ => trivial
  | [], _, _ :: _, h => by simp [fOkB] at h
  | _ :: _, _, [], h => by simp [fOkB] at h
  | f :: fs, o, c :: ks, h => by
    simp only [fOkB, Bool.and_eq_true] at h
    refine ⟨by simpa using h.1.1.1, Nat.eq_of_beq_eq_true h.1.1.2, ?_, fOkB_ok h.2⟩
    have h3 := h.1.2
    cases c <;> simp only at h3 ⊢
    case int k =>
      split at h3
      · rename_i k' hu; rw [hu, ikN_inj h3]
      · cases h3
    case bool =>
      split at h3
      · rename_i hu; exact hu
      · cases h3
    case str =>
      split at h3
      · rename_i hu; exact hu
      · cases h3
    all_goals cases h3
def eqB (P : Program) (t : TypeId) (ks : List CK) : Bool := match P.underlying t with
  | some (.struct F) => fOkB P 0 F.toList ks && !P.stoodInHeld t && !P.eqGuardType P.depth t
  | _ => false
theorem EqOk.mk_ok {P : Program} {t : TypeId} {ks : List CK} (h : eqB P t ks = true) : EqOk P t ks := by
  unfold eqB at h
  split at h
  · rename_i F hu
    simp only [Bool.and_eq_true, Bool.not_eq_true'] at h
    exact ⟨⟨F, hu, fOkB_ok h.1.1⟩, h.1.2, h.2⟩
  · cases h

/-- The callees' contracts. -/
def allFs (P : Program) : List (Nat × FT) → Prop
  | [] => True
  | (g, S) :: r => (FnOk P g S ∧ ∀ args w, (callFunc g args).run P w = .ok (.enter g args) w) ∧ allFs P r
theorem allFs_get {P : Program} : ∀ {l : List (Nat × FT)}, allFs P l → ∀ g S, lk l g = some S → FnOk P g S ∧ ∀ args w, (callFunc g args).run P w = .ok (.enter g args) w
  | [], _, t, ti, h => by simp [lk] at h
  | (j, y) :: r, ho, t, ti, h => by
    rw [lk_cons] at h
    split at h
    · rename_i e; subst e; cases h; exact ho.1
    · exact allFs_get ho.2 t ti h

end Go.SX
