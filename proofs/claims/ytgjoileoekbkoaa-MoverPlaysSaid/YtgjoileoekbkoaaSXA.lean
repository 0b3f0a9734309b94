/-
  SX, part A: symbolic values, symbolic blocks, the symbolic state, and what they say of the machine's activation and world.
-/
import Derived.WalkKit
import Derived.CallsIn
import Derived.Laws.Tables
import Derived.OrdersIn
import Derived.Deep.Upon
import Derived.Great.BuildSlice
import Derived.Laws.MakeOwn
set_option linter.unusedVariables false
set_option linter.unusedSimpArgs false
namespace Go.SX

/-- What a slice of the call's own is where its capacity is 0: nil; based at its own block; based elsewhere. -/
inductive ZB where
  | nil
  | own
  | src (a : Option Addr)

mutual
inductive SV where
  | v (x : Value)
  | b (p : Bool)
  | nils
  | nilp
  | nilf
  | ptr (id off : Nat)
  | ptrx (id off ix : Nat)
  | optr (a : Option Addr) (k : Nat)
  | osl (id len cap : Nat) (z : ZB)
  | sub (id lo len cap : Nat)
  | clo (f : FuncId) (cap : List SV)
  | agg (l : List Seg)
  | tup (l : List SV)
inductive Seg where
  | one (x : SV)
  | many (n : Nat) (vs : List Value)
end

def ZB.den (z : ZB) (b : Nat) : Option Addr :=
  match z with
  | .nil => none
  | .own => some ⟨b, 0, none⟩
  | .src a => a

mutual
def SV.den (β : Nat → Nat) : SV → Value
  | .v x => x
  | .b p => .bool p
  | .nils => .slice none 0 0
  | .nilp => .pointer none
  | .nilf => .nilFunc
  | .ptr i o => .pointer (some ⟨β i, o, none⟩)
  | .ptrx i o x => .pointer (some ⟨β i, o + x, none⟩)
  | .optr a k => .pointer (a.map (·.add k))
  | .osl i n c z => .slice (if c = 0 then z.den (β i) else some ⟨β i, 0, none⟩) n c
  | .sub i lo n c => .slice (some ⟨β i, lo, none⟩) n c
  | .clo f l => .func (.func f) #[] (denL β l).toArray
  | .agg l => .agg (denS β l).toArray
  | .tup l => .tuple (denL β l).toArray
def denL (β : Nat → Nat) : List SV → List Value
  | [] => []
  | x :: r => x.den β :: denL β r
def denS (β : Nat → Nat) : List Seg → List Value
  | [] => []
  | s :: r => s.den β ++ denS β r
def Seg.den (β : Nat → Nat) : Seg → List Value
  | .one x => [x.den β]
  | .many _ vs => vs
end

mutual
def SV.lt (n : Nat) : SV → Bool
  | .v _ => true
  | .b _ => true
  | .nils => true
  | .nilp => true
  | .nilf => true
  | .ptr i _ => Nat.blt i n
  | .ptrx i _ _ => Nat.blt i n
  | .optr _ _ => true
  | .osl i _ _ _ => Nat.blt i n
  | .sub i _ _ _ => Nat.blt i n
  | .clo _ l => ltL n l
  | .agg l => ltS n l
  | .tup l => ltL n l
def ltL (n : Nat) : List SV → Bool
  | [] => true
  | x :: r => x.lt n && ltL n r
def ltS (n : Nat) : List Seg → Bool
  | [] => true
  | s :: r => s.lt n && ltS n r
def Seg.lt (n : Nat) : Seg → Bool
  | .one x => x.lt n
  | .many _ _ => true
end

theorem blt_lt {i n : Nat} (h : Nat.blt i n = true) : i < n := by simp [Nat.blt] at h; omega

mutual
theorem SV.den_congr {β β' : Nat → Nat} {n : Nat} (h : ∀ i, i < n → β i = β' i) : ∀ x : SV, x.lt n = true → x.den β = x.den β'
  | .v x, _ => rfl
  | .b p, _ => rfl
  | .nils, _ => rfl
  | .nilp, _ => rfl
  | .nilf, _ => rfl
  | .ptr i o, hl => by have := h i (blt_lt hl); simp [SV.den, this]
  | .ptrx i o x, hl => by have := h i (blt_lt hl); simp [SV.den, this]
  | .optr a k, _ => rfl
  | .osl i m c z, hl => by have := h i (blt_lt hl); simp [SV.den, this]
  | .sub i lo m c, hl => by have := h i (blt_lt hl); simp [SV.den, this]
  | .clo f l, hl => by simp only [SV.den]; rw [denL_congr h l (by simpa [SV.lt] using hl)]
  | .agg l, hl => by simp only [SV.den]; rw [denS_congr h l (by simpa [SV.lt] using hl)]
  | .tup l, hl => by simp only [SV.den]; rw [denL_congr h l (by simpa [SV.lt] using hl)]
theorem denL_congr {β β' : Nat → Nat} {n : Nat} (h : ∀ i, i < n → β i = β' i) : ∀ l : List SV, ltL n l = true → denL β l = denL β' l
  | [], _ => rfl
  | x :: r, hl => by
    have hl' : x.lt n = true ∧ ltL n r = true := by simpa [ltL] using hl
    simp only [denL]; rw [SV.den_congr h x hl'.1, denL_congr h r hl'.2]
theorem denS_congr {β β' : Nat → Nat} {n : Nat} (h : ∀ i, i < n → β i = β' i) : ∀ l : List Seg, ltS n l = true → denS β l = denS β' l
  | [], _ => rfl
  | s :: r, hl => by
    have hl' : s.lt n = true ∧ ltS n r = true := by simpa [ltS] using hl
    simp only [denS]; rw [Seg.den_congr h s hl'.1, denS_congr h r hl'.2]
theorem Seg.den_congr {β β' : Nat → Nat} {n : Nat} (h : ∀ i, i < n → β i = β' i) : ∀ s : Seg, s.lt n = true → s.den β = s.den β'
  | .one x, hl => by simp only [Seg.den]; rw [SV.den_congr h x (by simpa [Seg.lt] using hl)]
  | .many _ _, _ => rfl
end

mutual
theorem SV.lt_mono {n m : Nat} (h : n ≤ m) : ∀ x : SV, x.lt n = true → x.lt m = true
  | .v x, _ => rfl
  | .b p, _ => rfl
  | .nils, _ => rfl
  | .nilp, _ => rfl
  | .nilf, _ => rfl
  | .ptr i o, hl => by simp [SV.lt, Nat.blt] at hl ⊢; omega
  | .ptrx i o x, hl => by simp [SV.lt, Nat.blt] at hl ⊢; omega
  | .optr a k, _ => rfl
  | .osl i _ c z, hl => by simp [SV.lt, Nat.blt] at hl ⊢; omega
  | .sub i lo _ c, hl => by simp [SV.lt, Nat.blt] at hl ⊢; omega
  | .clo f l, hl => ltL_mono h l hl
  | .agg l, hl => ltS_mono h l hl
  | .tup l, hl => ltL_mono h l hl
theorem ltL_mono {n m : Nat} (h : n ≤ m) : ∀ l : List SV, ltL n l = true → ltL m l = true
  | [], _ => rfl
  | x :: r, hl => by
    have hl' : x.lt n = true ∧ ltL n r = true := by simpa [ltL] using hl
    simp [ltL, SV.lt_mono h x hl'.1, ltL_mono h r hl'.2]
theorem ltS_mono {n m : Nat} (h : n ≤ m) : ∀ l : List Seg, ltS n l = true → ltS m l = true
  | [], _ => rfl
  | s :: r, hl => by
    have hl' : s.lt n = true ∧ ltS n r = true := by simpa [ltS] using hl
    simp [ltS, Seg.lt_mono h s hl'.1, ltS_mono h r hl'.2]
theorem Seg.lt_mono {n m : Nat} (h : n ≤ m) : ∀ s : Seg, s.lt n = true → s.lt m = true
  | .one x, hl => SV.lt_mono h x hl
  | .many _ _, _ => rfl
end

/-- A value of one cell, as it is written. -/
def one1 : Value → Bool
  | .agg _ => false
  | .tuple _ => false
  | _ => true
/-- Neither a composite nor a closure. -/
def smpl : SV → Bool
  | .agg _ => false
  | .tup _ => false
  | .clo _ _ => false
  | _ => true
def smplL : List SV → Bool
  | [] => true
  | x :: r => match smpl x with
    | true => smplL r
    | false => false
/-- A symbolic value of one cell. -/
def isC : SV → Prop
  | .agg _ => False
  | .tup _ => False
  | .v x => one1 x = true
  | .clo _ l => smplL l = true
  | _ => True
/-- The lists within are as long as is told; each cell holds a value of one cell. -/
def okS : List Seg → Prop
  | [] => True
  | .one x :: r => isC x ∧ okS r
  | .many n vs :: r => (vs.length = n ∧ ∀ v ∈ vs, one1 v = true) ∧ okS r

/-- A block: cells told one by one (a part may be a whole list) · a row of the call's own, of which the first len * sz cells are told. -/
inductive SB where
  | cells (l : List Seg)
  | orow (vs : List Value) (len cap sz : Nat)

def SB.lt (n : Nat) : SB → Bool
  | .cells l => ltS n l
  | .orow _ _ _ _ => true

/-- The frozen range of a block touches none of its cells. -/
def nf (fz : Nat × Nat) (n : Nat) : Prop := ∀ o, o < n → (decide (fz.1 ≤ o) && decide (o < fz.2)) = false

def SB.den (β : Nat → Nat) (o : Option Obj) : SB → Prop
  | .cells l => okS l ∧ ∃ ty fz, o = some (.cells (denS β l).toArray ty fz) ∧ nf fz (denS β l).length
  | .orow vs len cap sz => vs.length = len * sz ∧ len ≤ cap ∧
      (cap = 0 ∨ ∃ rest ty fz, vs.length + rest.length = cap * sz ∧ o = some (.cells (vs ++ rest).toArray ty fz) ∧ nf fz (vs.length + rest.length))

/-- Is there a block at all? -/
def SB.live : SB → Prop
  | .cells _ => True
  | .orow _ _ cap _ => cap ≠ 0

theorem SB.den_congr {β β' : Nat → Nat} {n : Nat} (h : ∀ i, i < n → β i = β' i) (o : Option Obj) (s : SB) (hl : s.lt n = true) : s.den β o ↔ s.den β' o := by
  cases s with
  | cells l => simp only [SB.den]; rw [denS_congr h l (by simpa [SB.lt] using hl)]
  | orow vs len cap sz => simp only [SB.den]

/-- How a code is left. -/
inductive SExit where
  | normal
  | ret
  | exit (id : Nat)
def SExit.code : SExit → Code
  | .normal => .skip
  | .ret => .ret
  | .exit j => .exit j

/-- pe: of each range over a function whose function runs, the innermost first: how its body was left for good, if it was. -/
structure SState where
  tm : List (Nat × SV)
  hp : List (Nat × SB)
  nx : Nat
  fx : World → Prop
  pe : List (Option SExit)

def lk.{u} {α : Type u} : List (Nat × α) → Nat → Option α
  | [], _ => none
  | (j, x) :: r, k => match Nat.beq j k with
    | true => some x
    | false => lk r k

def rm.{u} {α : Type u} : List (Nat × α) → Nat → List (Nat × α)
  | [], _ => []
  | (j, x) :: r, k => match Nat.beq j k with
    | true => rm r k
    | false => (j, x) :: rm r k

theorem lk_cons.{u} {α : Type u} (j k : Nat) (x : α) (r : List (Nat × α)) : lk ((j, x) :: r) k = if j = k then some x else lk r k := by
  simp only [lk]
  by_cases h : j = k
  · subst h; simp
  · rw [if_neg h]
    cases hb : Nat.beq j k with
    | true => exact absurd (Nat.eq_of_beq_eq_true hb) h
    | false => rfl
theorem lk_rm.{u} {α : Type u} (k i : Nat) (l : List (Nat × α)) : lk (rm l k) i = if k = i then none else lk l i := by
  induction l with
  | nil => simp [rm, lk]
  | cons p r ih =>
    obtain ⟨j, x⟩ := p
    simp only [rm]
    by_cases h : j = k
    · subst h; simp only [Nat.beq_refl, ih, lk_cons]; split <;> simp_all
    · have hb : Nat.beq j k = false := by
        cases hb : Nat.beq j k with
        | true => exact absurd (Nat.eq_of_beq_eq_true hb) h
        | false => rfl
      rw [hb]; simp only [lk_cons, ih]
      split
      · rename_i e; subst e; rw [if_neg (fun e => h e.symm)]
      · rfl

/-- The old world, but for what T names: as it was. -/
structure AgreeOff (T : Nat → Prop) (w w' : World) : Prop where
  size : w.heap.size ≤ w'.heap.size
  same : ∀ b, b < w.heap.size → ¬ T b → w'.heap[b]? = w.heap[b]?
  os : w'.os = w.os
  output : w'.output = w.output
  tape : w'.tape = w.tape

theorem AgreeOff.refl (T : Nat → Prop) (w : World) : AgreeOff T w w := ⟨Nat.le_refl _, fun _ _ _ => rfl, rfl, rfl, rfl⟩
theorem AgreeOff.trans {T : Nat → Prop} {a b c : World} (h : AgreeOff T a b) (k : AgreeOff T b c) : AgreeOff T a c :=
  ⟨Nat.le_trans h.size k.size, fun i hi hn => (k.same i (Nat.lt_of_lt_of_le hi h.size) hn).trans (h.same i hi hn), k.os.trans h.os, k.output.trans h.output, k.tape.trans h.tape⟩
theorem AgreeOff.mono {T T' : Nat → Prop} {a b : World} (h : AgreeOff T a b) (ht : ∀ i, i < a.heap.size → T i → T' i) : AgreeOff T' a b :=
  ⟨h.size, fun i hi hn => h.same i hi (fun hT => hn (ht i hi hT)), h.os, h.output, h.tape⟩

/-- The block is tracked. -/
def trk (β : Nat → Nat) (hp : List (Nat × SB)) (b : Nat) : Prop := ∃ i s, lk hp i = some s ∧ s.live ∧ β i = b

/-- What a function's verification runs in. -/
structure Ctx where
  P : Program
  X : Nat → Prop
  T0 : Nat → Prop
  w0 : World
  N : Nat
  F : Nat
  β0 : Nat → Nat
  xh : Nat → Option Obj
  ls : List Nat

/-- A loop's record behind a round that left it so. -/
def pendR (e : Option SExit) (o : Option Obj) : Option Obj := match e with
  | none => o
  | some e => match o with
    | some (.loop r) => some (.loop { r with state := .done, pending := some e.code })
    | o => o
/-- What an exempt block holds. -/
def xhOf : List Nat → List (Option SExit) → (Nat → Option Obj) → Nat → Option Obj
  | [], _, xh, b => xh b
  | _ :: _, [], xh, b => xh b
  | l :: ls, e :: pe, xh, b => if b = l then pendR e (xh b) else xhOf ls pe xh b
theorem pendR_some {e : Option SExit} {o : Option Obj} : (pendR e o).isSome = o.isSome := by
  cases e with
  | none => rfl
  | some e => cases o with
    | none => rfl
    | some o => cases o <;> rfl
theorem xhOf_some : ∀ (ls : List Nat) (pe : List (Option SExit)) (xh : Nat → Option Obj) (b : Nat), (xhOf ls pe xh b).isSome = (xh b).isSome
  | [], _, _, _ => rfl
  | _ :: _, [], _, _ => rfl
  | l :: ls, e :: pe, xh, b => by
    simp only [xhOf]
    split
    · exact pendR_some
    · exact xhOf_some ls pe xh b
theorem pendR_loop {e : Option SExit} {r : Loop} : ∃ r' : Loop, pendR e (some (.loop r)) = some (.loop r') ∧ r'.defers = r.defers := by
  cases e with
  | none => exact ⟨r, rfl, rfl⟩
  | some e => exact ⟨_, rfl, rfl⟩
theorem xhOf_loop : ∀ (ls : List Nat) (pe : List (Option SExit)) {xh : Nat → Option Obj} {b : Nat} {r : Loop}, xh b = some (.loop r) → ∃ r' : Loop, xhOf ls pe xh b = some (.loop r') ∧ r'.defers = r.defers
  | [], _, _, _, r, h => ⟨r, h, rfl⟩
  | _ :: _, [], _, _, r, h => ⟨r, h, rfl⟩
  | l :: ls, e :: pe, xh, b, r, h => by
    simp only [xhOf]
    split
    · rw [h]; exact pendR_loop
    · exact xhOf_loop ls pe h
/-- No cells, whatever round ended. -/
theorem pendR_def {e : Option SExit} {o : Option Obj} (h : ∃ x : Obj, o = some x ∧ (match x with | .cells _ _ _ => false | _ => true) = true) : ∃ x : Obj, pendR e o = some x ∧ (match x with | .cells _ _ _ => false | _ => true) = true := by
  obtain ⟨x, rfl, hx⟩ := h
  cases e with
  | none => exact ⟨x, rfl, hx⟩
  | some e =>
    cases x
    case loop r => exact ⟨_, rfl, rfl⟩
    all_goals exact ⟨_, rfl, hx⟩
theorem xhOf_def : ∀ (ls : List Nat) (pe : List (Option SExit)) {xh : Nat → Option Obj} {b : Nat}, (∃ x : Obj, xh b = some x ∧ (match x with | .cells _ _ _ => false | _ => true) = true) → ∃ x : Obj, xhOf ls pe xh b = some x ∧ (match x with | .cells _ _ _ => false | _ => true) = true
  | [], _, _, _, h => h
  | _ :: _, [], _, _, h => h
  | l :: ls, e :: pe, xh, b, h => by
    simp only [xhOf]
    split
    · exact pendR_def h
    · exact xhOf_def ls pe h
theorem xhOf_off : ∀ (ls : List Nat) (pe : List (Option SExit)) {xh xh' : Nat → Option Obj} {b : Nat}, xh b = xh' b → xhOf ls pe xh b = xhOf ls pe xh' b
  | [], _, _, _, _, h => h
  | _ :: _, [], _, _, _, h => h
  | l :: ls, e :: pe, xh, xh', b, h => by
    simp only [xhOf, h]
    rw [xhOf_off ls pe h]
theorem xhOf_not : ∀ (ls : List Nat) (pe : List (Option SExit)) {xh : Nat → Option Obj} {b : Nat}, b ∉ ls → xhOf ls pe xh b = xh b
  | [], _, _, _, h => rfl
  | _ :: _, [], _, _, h => rfl
  | l :: ls, e :: pe, xh, b, h => by
    simp only [xhOf]
    rw [if_neg (fun e => h (by simp [e])), xhOf_not ls pe (fun hh => h (by simp [hh]))]

def okV1 : SV → Prop
  | .agg l => okS l
  | .tup _ => False
  | .clo _ l => smplL l = true
  | _ => True
def okT : List SV → Prop
  | [] => True
  | x :: r => okV1 x ∧ okT r
def okV : SV → Prop
  | .tup l => okT l
  | x => okV1 x
/-- A good value: its ids are known, its parts are as long as told. -/
def gd (n : Nat) (x : SV) : Prop := x.lt n = true ∧ okV x
theorem gd.mono {n m : Nat} {x : SV} (h : gd n x) (hm : n ≤ m) : gd m x := ⟨SV.lt_mono hm x h.1, h.2⟩

theorem isC.okV {x : SV} (h : isC x) : okV x := by cases x <;> first | exact h.elim | exact h | trivial
theorem isC.one1 {x : SV} (h : isC x) (β : Nat → Nat) : one1 (x.den β) = true := by
  cases x <;> simp only [isC] at h <;> first | exact h.elim | (simp only [SV.den]; first | exact h | rfl)
theorem okS.one1 : ∀ {l : List Seg}, okS l → ∀ β, ∀ v ∈ denS β l, one1 v = true
  | [], _, β, v, hv => by simp [denS] at hv
  | .one x :: r, h, β, v, hv => by
    simp only [denS, Seg.den, List.singleton_append, List.mem_cons] at hv
    rcases hv with rfl | hv
    · exact isC.one1 h.1 β
    · exact okS.one1 h.2 β v hv
  | .many n vs :: r, h, β, v, hv => by
    simp only [denS, Seg.den, List.mem_append] at hv
    rcases hv with hv | hv
    · exact h.1.2 v hv
    · exact okS.one1 h.2 β v hv

theorem smplL_ok : ∀ {l : List SV}, smplL l = true → ∀ x ∈ l, okV x
  | y :: r, h, x, hx => by
    simp only [smplL] at h
    cases hy : smpl y with
    | false => simp [hy] at h
    | true =>
      simp only [hy] at h
      rcases List.mem_cons.1 hx with rfl | hx
      · cases x <;> first | trivial | (simp [smpl] at hy)
      · exact smplL_ok h x hx

/-- The tracked blocks are as told, each its own, none of them among those of which nothing is to be said. -/
structure HpOk (X : Nat → Prop) (β : Nat → Nat) (hp : List (Nat × SB)) (nx : Nat) (w : World) : Prop where
  blk : ∀ i s, lk hp i = some s → s.den β w.heap[β i]? ∧ s.lt nx = true ∧ i < nx
  inj : ∀ i j s t, lk hp i = some s → lk hp j = some t → s.live → t.live → β i = β j → i = j
  exc : ∀ i s, lk hp i = some s → s.live → ¬ X (β i)

/-- A block that is no cells. -/
def isDef (w : World) (b : Nat) : Prop := ∃ o : Obj, w.heap[b]? = some o ∧ (match o with
  | .cells _ _ _ => false
  | _ => true) = true
/-- The mark that a range over a function leaves. -/
def mark (D : Nat) : Deferred := { target := .collected D, args := #[] }
/-- What is deferred: marks alone, of new blocks that hold no call. -/
def Dfr (X : Nat → Prop) (n0 : Nat) (ds : List Deferred) (w : World) : Prop := ∃ l : List Nat, ds = l.map mark ∧ l.Nodup ∧ ∀ D ∈ l, (n0 ≤ D ∧ ¬ X D) ∧ w.heap[D]? = some (.deferred (some []))
theorem Dfr.keep {X : Nat → Prop} {n0 : Nat} {ds : List Deferred} {w w' : World} (h : Dfr X n0 ds w) (hw : ∀ b, isDef w b → w'.heap[b]? = w.heap[b]?) : Dfr X n0 ds w' := by
  obtain ⟨l, h1, h2, h3⟩ := h
  exact ⟨l, h1, h2, fun D hD => ⟨(h3 D hD).1, by rw [hw D ⟨_, (h3 D hD).2, rfl⟩]; exact (h3 D hD).2⟩⟩
theorem Dfr.keepX {X T : Nat → Prop} {ls : List Nat} {n0 : Nat} {ds : List Deferred} {w w' : World} (h : Dfr X n0 ds w) (hw : AgreeOff (fun b => T b ∨ b ∈ ls) w w') (hls : ∀ b ∈ ls, X b) (ht : ∀ b, isDef w b → ¬ T b) : Dfr X n0 ds w' := by
  obtain ⟨l, h1, h2, h3⟩ := h
  refine ⟨l, h1, h2, fun D hD => ⟨(h3 D hD).1, ?_⟩⟩
  have hd : isDef w D := ⟨_, (h3 D hD).2, rfl⟩
  have hlt : D < w.heap.size := (Array.getElem?_eq_some_iff.1 (h3 D hD).2).1
  rw [hw.same D hlt (fun h => h.elim (ht D hd) (fun hm => (h3 D hD).1.2 (hls D hm)))]; exact (h3 D hD).2
theorem isDef.same {w w' : World} {b : Nat} (h : w'.heap[b]? = w.heap[b]?) (hd : isDef w' b) : isDef w b := by
  obtain ⟨d, hd, hc⟩ := hd; exact ⟨d, by rw [← h]; exact hd, hc⟩

structure Inv (C : Ctx) (β : Nat → Nat) (st : SState) (a : Act) (w : World) : Prop where
  siz : a.tmps.size = C.N
  dfr : Dfr C.X C.w0.heap.size a.defers w
  tm : ∀ s x, lk st.tm s = some x → a.tmps[s]? = some (x.den β) ∧ gd st.nx x
  hp : HpOk C.X β st.hp st.nx w
  old : ∀ i s, lk st.hp i = some s → s.live → C.T0 (β i) ∨ C.w0.heap.size ≤ β i
  frm : AgreeOff C.T0 C.w0 w
  fx : ∀ w', AgreeOff (fun b => (C.X b ∨ isDef w b) ∨ trk β st.hp b) w w' → st.fx w'
  xs : ∀ b, C.X b → w.heap[b]? = xhOf C.ls st.pe C.xh b
  fix : ∀ i, i < C.F → i < st.nx ∧ β i = C.β0 i

/-- A live block holds cells. -/
theorem SB.den_cells {β : Nat → Nat} {s : SB} {o : Option Obj} (h : s.den β o) (hl : s.live) : ∃ c ty fz, o = some (.cells c ty fz) := by
  cases s with
  | cells l =>
    obtain ⟨_, ty, fz, h, _⟩ := h
    exact ⟨_, _, _, h⟩
  | orow vs len cap sz =>
    obtain ⟨_, _, h | ⟨rest, ty, fz, _, h, _⟩⟩ := h
    · exact absurd h hl
    · exact ⟨_, _, _, h⟩
theorem isDef.not {w : World} {b : Nat} {c : Array Value} {ty : TypeId} {fz : Nat × Nat} (h : w.heap[b]? = some (.cells c ty fz)) : ¬ isDef w b := by
  rintro ⟨d, hd, hc⟩; rw [h] at hd; cases hd; cases hc
theorem isDef.lt {w : World} {b : Nat} (h : isDef w b) : b < w.heap.size := by
  obtain ⟨d, hd, _⟩ := h; exact (Array.getElem?_eq_some_iff.1 hd).1

theorem Inv.now {C : Ctx} {β : Nat → Nat} {st : SState} {a : Act} {w : World} (h : Inv C β st a w) : st.fx w := h.fx w (AgreeOff.refl _ _)

/-- A live block lies in the heap. -/
theorem SB.den_lt {β : Nat → Nat} {s : SB} {w : World} {b : Nat} (h : s.den β w.heap[b]?) (hl : s.live) : b < w.heap.size := by
  cases s with
  | cells l =>
    obtain ⟨_, ty, fz, h, _⟩ := h
    exact (Array.getElem?_eq_some_iff.1 h).1
  | orow vs len cap sz =>
    obtain ⟨_, _, h | ⟨rest, ty, fz, _, h, _⟩⟩ := h
    · exact absurd h hl
    · exact (Array.getElem?_eq_some_iff.1 h).1

end Go.SX
