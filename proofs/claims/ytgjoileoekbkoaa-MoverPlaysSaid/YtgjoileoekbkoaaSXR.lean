/-
  SX, part R: a region that draws its order: a tree of orders stands for all.
-/
import Derived.Test.YtgjoileoekbkoaaSXN
set_option linter.unusedVariables false
set_option linter.unusedSimpArgs false
namespace Go.SX

variable {F : Fence} {n : Nat} {P : Program} {ops : Array Oper} {Q : Exit → Act → World → Prop} {A : List Nat} {N : Nat}

/-- Operation i yields v here, and leaves the world alone. -/
def YA (P : Program) (ops : Array Oper) (i : Nat) (a : Act) (w : World) (v : Value) : Prop := ∃ o, ops[i]? = some o ∧
  ((Region.wanted o (yielded ops a.tmps) = true ∧ (execOp a.eval o).run P w = .ok (.value v) w) ∨ (Region.wanted o (yielded ops a.tmps) = false ∧ v = undef))

theorem memN_iff {d : Option Tmp} {l : List Tmp} : memN d l = false ↔ ∀ t, d = some t → t ∉ l := by
  cases d with
  | none => simp [memN]
  | some t =>
    simp only [memN]
    constructor
    · intro h t' e; cases e; intro hm; rw [(mem1_iff _ _).2 hm] at h; cases h
    · intro h
      cases hm : mem1 t l with
      | false => rfl
      | true => exact absurd ((mem1_iff _ _).1 hm) (h t rfl)

/-- What a temporary that it does not look at holds is nothing to an operation. -/
theorem YA.put {i : Nat} {a : Act} {w : World} {v u : Value} {d : Option Tmp} (hpl : ∀ o, ops[i]? = some o → plainOp o.op = true) (hd : memN d (lks ops i) = false) : YA P ops i (a.put d u) w v ↔ YA P ops i a w v := by
  unfold YA
  constructor
  · rintro ⟨o, ho, h⟩
    have hl : ∀ t, d = some t → t ∉ o.looksAt ops := by simpa [lks, ho] using memN_iff.1 hd
    have hs : ∀ cs b, o.op ≠ .select cs b := by intro cs b e; have := hpl o ho; rw [e] at this; simp [plainOp] at this
    rw [wanted_put o a d u hl, execOp_put o hs a d u hl] at h
    exact ⟨o, ho, h⟩
  · rintro ⟨o, ho, h⟩
    have hl : ∀ t, d = some t → t ∉ o.looksAt ops := by simpa [lks, ho] using memN_iff.1 hd
    have hs : ∀ cs b, o.op ≠ .select cs b := by intro cs b e; have := hpl o ho; rw [e] at this; simp [plainOp] at this
    refine ⟨o, ho, ?_⟩
    rw [wanted_put o a d u hl, execOp_put o hs a d u hl]
    exact h

theorem put_comm {a : Act} {d e : Option Tmp} {u v : Value} (h : sameD d e = false) : (a.put d u).put e v = (a.put e v).put d u := by
  cases d with
  | none => rfl
  | some d =>
    cases e with
    | none => rfl
    | some e =>
      have hne : d ≠ e := by intro e'; subst e'; simp [sameD] at h
      simp only [Act.put]
      congr 1
      exact Array.setIfInBounds_comm _ _ hne

/-- An operation that does not look at d's temporary goes as if d had gone ahead of it. -/
theorem wpOpIn_behind {i d : Nat} {v : Value} {a : Act} {w : World} {K : Act → World → Prop} (hpl : ∀ o, ops[i]? = some o → plainOp o.op = true)
    (h1 : memN (dstO ops d) (lks ops i) = false) (h2 : sameD (dstO ops d) (dstO ops i) = false) (hpan : ∀ c a w, ¬ Q (.panic c) a w) (h : wpOpIn F n P ops Q i K (a.put (dstO ops d) v) w) :
    wpOpIn F n P ops Q i (fun a' w' => K (a'.put (dstO ops d) v) w') a w := by
  unfold wpOpIn at h ⊢
  cases ho : ops[i]? with
  | none => simp only [ho] at h ⊢; exact h
  | some o =>
    simp only [ho] at h ⊢
    have hl : ∀ t, dstO ops d = some t → t ∉ o.looksAt ops := by simpa [lks, ho] using memN_iff.1 h1
    have hs : ∀ cs b, o.op ≠ .select cs b := by intro cs b e; have := hpl o ho; rw [e] at this; simp [plainOp] at this
    have hnd : ∀ c, o.op ≠ .defer c := by intro c e; have := hpl o ho; rw [e] at this; simp [plainOp] at this
    have hdst : dstO ops i = o.dst := by simp [dstO, ho]
    rw [wanted_put o a _ v hl] at h
    have hput : ∀ u, (a.put (dstO ops d) v).put o.dst u = (a.put o.dst u).put (dstO ops d) v := fun u => put_comm (by rw [← hdst]; exact h2)
    split
    · rename_i hw
      rw [if_pos hw] at h
      unfold Oper.wpIn at h ⊢
      rw [about_put o w a (dstO ops d) v hl, Oper.semAt_eq _ _ _ hnd, execOp_put o hs a _ v hl] at h
      rw [Oper.semAt_eq _ _ _ hnd]
      refine ⟨h.1, ?_⟩
      have h := h.2
      generalize (execOp a.eval o).run P w = r at *
      cases r with
      | ok x w' =>
        cases x <;> simp only [Oper.uponIn] at h ⊢
        case value u => rw [hput] at h; exact h
        case skip => rw [hput] at h; exact h
        case defer =>
          rename_i dd _
          have e1 : ({ a.put (dstO ops d) v with defers := dd :: (a.put (dstO ops d) v).defers } : Act) = ({ a with defers := dd :: a.defers } : Act).put (dstO ops d) v := by cases dstO ops d <;> rfl
          rw [e1, put_comm (by rw [← hdst]; exact h2)] at h
          exact h
        case enter f args =>
          exact ⟨h.1, h.2.mono (fun e w'' he => by
            cases e with
            | returned u => simp only at he ⊢; rw [hput] at he; exact he
            | panicked c => exact absurd he (hpan _ _ _)
            | outgrown => exact he)⟩
        case row row args => exact ⟨h.1, h.2.mono (fun u w'' he => by rw [hput] at he; exact he)⟩
        case round =>
          exact ⟨h.1, h.2.mono (fun e w'' he => by
            cases e with
            | returned u => simp only at he ⊢; rw [hput] at he; exact he
            | panicked c => exact absurd he (hpan _ _ _)
            | outgrown => exact he)⟩
        all_goals exact h
      | halt x w' =>
        cases x <;> simp only [Oper.uponIn] at h ⊢
        case panic u => exact absurd h (hpan _ _ _)
        all_goals exact h
    · rename_i hw
      rw [if_neg hw] at h
      rw [about_put o w a (dstO ops d) v hl] at h
      exact ⟨h.1, by have h := h.2; rw [hput] at h; exact h⟩

theorem YA.wpOpIn {r : Option Nat} {i : Nat} {a : Act} {w : World} {v : Value} {K : Act → World → Prop} (hpl : ∀ o, ops[i]? = some o → plainOp o.op = true) (h : YA P ops i a w v) (hk : K (a.put (dstO ops i) v) w) : wpOpIn (FW r) n P ops Q i K a w := by
  obtain ⟨o, ho, h⟩ := h
  have hdst : dstO ops i = o.dst := by simp [dstO, ho]
  rw [hdst] at hk
  have hnd : ∀ c, o.op ≠ .defer c := by intro c e; have := hpl o ho; rw [e] at this; simp [plainOp] at this
  unfold Go.wpOpIn
  simp only [ho]
  rcases h with ⟨hw, hrun⟩ | ⟨hw, rfl⟩
  · rw [if_pos hw]
    refine ⟨fun _ _ => trivial, ?_⟩
    rw [Oper.semAt_eq _ _ _ hnd, hrun]
    exact hk
  · rw [if_neg (by simp [hw])]
    exact ⟨fun _ _ => trivial, hk⟩


/-- What has been yielded would be yielded again. -/
def Stab (P : Program) (ops : Array Oper) (A : List Nat) (W : List (Nat × Value)) (i : Nat) (a : Act) (w : World) : Prop :=
  ∀ p ∈ W, anc A p.1 i = false → ∃ v, YA P ops p.1 a w v ∧ ∀ d, dstO ops p.1 = some d → v = p.2

/-- The runs: an eager operation comes as soon as it may; out of the others each that may come. -/
def Good (F : Fence) (n : Nat) (P : Program) (ops : Array Oper) (A : List Nat) (Q : Exit → Act → World → Prop) : Nat → List Nat → List (Nat × Value) → Act → World → Prop
  | 0, c, _, a, w => c = [] ∧ Q .normal a w
  | f + 1, c, W, a, w => (c = [] ∧ Q .normal a w) ∨
    (∃ d, d ∈ c ∧ eag ops d = true ∧ rdy ops c d = true ∧ ∃ v, YA P ops d a w v ∧ Good F n P ops A Q f (c.erase d) ((d, v) :: W) (a.put (dstO ops d) v) w) ∨
    ((∃ i, i ∈ c ∧ rdy ops c i = true) ∧ ∀ i, i ∈ c → rdy ops c i = true → eag ops i = false ∧ wpOpIn F n P ops Q i (fun a' w' => Stab P ops A W i a' w' ∧ Good F n P ops A Q f (c.erase i) W a' w') a w)

theorem Good.mono' : ∀ (f : Nat) {c : List Nat} {W W' : List (Nat × Value)} {a : Act} {w : World}, (∀ p ∈ W', ∃ q ∈ W, q.1 = p.1 ∧ ∀ d, dstO ops p.1 = some d → q.2 = p.2) → Good F n P ops A Q f c W a w → Good F n P ops A Q f c W' a w
  | 0, c, W, W', a, w, _, h => h
  | f + 1, c, W, W', a, w, hs, h => by
    simp only [Good] at h ⊢
    rcases h with h | ⟨d, h1, h2, h3, v, h4, h5⟩ | ⟨h1, h2⟩
    · exact .inl h
    · refine .inr (.inl ⟨d, h1, h2, h3, v, h4, Good.mono' f (fun p hp => ?_) h5⟩)
      rcases List.mem_cons.1 hp with rfl | hp
      · exact ⟨_, by simp, rfl, fun _ _ => rfl⟩
      · obtain ⟨q, k1, k2⟩ := hs p hp
        exact ⟨q, List.mem_cons_of_mem _ k1, k2⟩
    · refine .inr (.inr ⟨h1, fun i hi hr => ⟨(h2 i hi hr).1, wpOpIn_mono ?_ (h2 i hi hr).2⟩⟩)
      rintro a' w' ⟨k1, k2⟩
      refine ⟨fun p hp hr' => ?_, Good.mono' f hs k2⟩
      obtain ⟨q, q1, q2, q3⟩ := hs p hp
      obtain ⟨v, v1, v2⟩ := k1 q q1 (by rw [q2]; exact hr')
      rw [q2] at v1 v2
      exact ⟨v, v1, fun d hd => by rw [v2 d hd, q3 d hd]⟩
theorem Good.mono (f : Nat) {c : List Nat} {W W' : List (Nat × Value)} {a : Act} {w : World} (hs : ∀ p ∈ W', p ∈ W) (h : Good F n P ops A Q f c W a w) : Good F n P ops A Q f c W' a w :=
  Good.mono' f (fun p hp => ⟨p, hs p hp, rfl, fun _ _ => rfl⟩) h

/-- What must be of the operations. -/
structure Stat (ops : Array Oper) (N : Nat) (A : List Nat) : Prop where
  plain : ∀ i, i < ops.size → ∀ o, ops[i]? = some o → plainOp o.op = true
  lt : ∀ i, i < ops.size → ∀ j ∈ preds ops i, j < i
  dst : ∀ i, i < ops.size → ∀ d, dstO ops i = some d → d < N
  self : ∀ i, i < ops.size → memN (dstO ops i) (lks ops i) = false
  apart : ∀ i d, i < ops.size → d < ops.size → i ≠ d → sameD (dstO ops i) (dstO ops d) = false
  look : ∀ i d, i < ops.size → d < ops.size → i ≠ d → memN (dstO ops i) (lks ops d) = true → i ∈ preds ops d
  anc : ∀ i, i < ops.size → ∀ d, anc A d i = true → ∃ j ∈ preds ops i, j = d ∨ anc A d j = true

theorem msk_bit : ∀ (l : List Nat) (d : Nat), Nat.testBit (msk A l) d = true → ∃ j ∈ l, j = d ∨ Nat.testBit (A.getD j 0) d = true
  | [], d, h => by simp [msk] at h
  | j :: r, d, h => by
    have e : msk A (j :: r) = ((1 <<< j) ||| (A.getD j 0)) ||| msk A r := rfl
    rw [e, Nat.testBit_or, Nat.testBit_or] at h
    simp only [Bool.or_eq_true] at h
    rcases h with (h | h) | h
    · rw [Nat.one_shiftLeft, Nat.testBit_two_pow] at h
      exact ⟨j, by simp, .inl (by simpa using h)⟩
    · exact ⟨j, by simp, .inr h⟩
    · obtain ⟨k, h1, h2⟩ := msk_bit r d h
      exact ⟨k, by simp [h1], h2⟩
theorem anc_bit (d i : Nat) : anc A d i = Nat.testBit (A.getD i 0) d := by
  have e : anc A d i = Nat.beq (((A.getD i 0) >>> d) &&& 1) 1 := rfl
  rw [e, Nat.testBit]
  have : ((A.getD i 0) >>> d) &&& 1 = ((A.getD i 0) >>> d) % 2 := Nat.and_one_is_mod _
  rw [Nat.and_comm 1, this]
  rcases Nat.mod_two_eq_zero_or_one ((A.getD i 0) >>> d) with h | h <;> rw [h] <;> rfl

theorem mskOk_spec : ∀ (l : List Nat), mskOk ops A l = true → ∀ i ∈ l, A.getD i 0 = msk A (preds ops i) ∧ ∀ k ∈ preds ops i, k < i
  | [], _, i, h => by simp at h
  | k :: r, h, i, hi => by
    simp only [mskOk] at h
    cases h1 : Nat.beq (A.getD k 0) (msk A (preds ops k)) with
    | false => rw [h1] at h; cases h
    | true =>
      simp only [h1] at h
      cases h2 : (preds ops k).all (fun j => Nat.blt j k) with
      | false => simp [h2] at h
      | true =>
        simp only [h2] at h
        rcases List.mem_cons.1 hi with rfl | hi
        · exact ⟨Nat.eq_of_beq_eq_true h1, fun j hj => blt_lt (List.all_eq_true.1 h2 j hj)⟩
        · exact mskOk_spec r h i hi

theorem Stat.of (h : statOk ops N A = true) : Stat ops N A := by
  simp only [statOk, Bool.and_eq_true] at h
  obtain ⟨⟨h1, h2⟩, h3⟩ := h
  have one : ∀ i, i < ops.size → oneOk ops N i = true := fun i hi => List.all_eq_true.1 h2 i (List.mem_range.2 hi)
  have two : ∀ i d, i < ops.size → d < ops.size → pairOk ops i d = true := fun i d hi hd => List.all_eq_true.1 (List.all_eq_true.1 h3 i (List.mem_range.2 hi)) d (List.mem_range.2 hd)
  refine ⟨fun i hi o ho => ?_, fun i hi => (mskOk_spec _ h1 i (List.mem_range.2 hi)).2, fun i hi d hd => ?_, fun i hi => ?_, fun i d hi hd hne => ?_, fun i d hi hd hne hm => ?_, fun i hi d hd => ?_⟩
  · have := one i hi
    simp only [oneOk, Bool.and_eq_true, ho] at this
    exact this.1.1.1
  · have := one i hi
    simp only [oneOk, Bool.and_eq_true, hd] at this
    exact blt_lt this.2
  · have := one i hi
    simp only [oneOk, Bool.and_eq_true, Bool.not_eq_true'] at this
    exact this.1.2
  · have := two i d hi hd
    simp only [pairOk, Bool.or_eq_true, Bool.and_eq_true, Bool.not_eq_true'] at this
    rcases this with h | h
    · exact absurd (Nat.eq_of_beq_eq_true h) hne
    · exact h.1
  · have := two i d hi hd
    simp only [pairOk, Bool.or_eq_true, Bool.and_eq_true, Bool.not_eq_true', hm] at this
    rcases this with h | h
    · exact absurd (Nat.eq_of_beq_eq_true h) hne
    · exact (mem1_iff _ _).1 (h.2.resolve_left (by simp))
  · rw [anc_bit, (mskOk_spec _ h1 i (List.mem_range.2 hi)).1] at hd
    obtain ⟨j, h1, h2⟩ := msk_bit _ _ hd
    exact ⟨j, h1, h2.imp id (fun h => by rw [anc_bit]; exact h)⟩

/-- What is done is done with all that it waits for. -/
def Closed (ops : Array Oper) (c : List Nat) : Prop := ∀ j, j < ops.size → j ∉ c → ∀ k ∈ preds ops j, k ∉ c

theorem rdy_iff {c : List Nat} {i : Nat} : rdy ops c i = true ↔ ∀ k ∈ preds ops i, k ∉ c := by
  simp only [rdy, List.all_eq_true, Bool.not_eq_true']
  constructor
  · intro h k hk hc; have := h k hk; rw [(mem1_iff _ _).2 hc] at this; cases this
  · intro h k hk
    cases hm : mem1 k c with
    | false => rfl
    | true => exact absurd ((mem1_iff _ _).1 hm) (h k hk)
theorem anc_done (hS : Stat ops N A) {c : List Nat} (hcl : Closed ops c) : ∀ (i : Nat), i < ops.size → (∀ k ∈ preds ops i, k ∉ c) → ∀ d, anc A d i = true → d ∉ c := by
  intro i
  induction i using Nat.strongRecOn with
  | _ i ih =>
    intro hi hp d hd
    obtain ⟨j, h1, rfl | h2⟩ := hS.anc i hi d hd
    · exact hp _ h1
    · have hlt := hS.lt i hi j h1
      exact ih j hlt (Nat.lt_trans hlt hi) (hcl j (Nat.lt_trans hlt hi) (hp j h1)) d h2

theorem Closed.erase {c : List Nat} {i : Nat} (hcl : Closed ops c) (hnd : c.Nodup) (hr : rdy ops c i = true) : Closed ops (c.erase i) := by
  intro j hj hjc k hk hkc
  have hkc' := List.mem_of_mem_erase hkc
  by_cases e : j = i
  · subst e; exact rdy_iff.1 hr k hk hkc'
  · exact hcl j hj (fun h => hjc ((List.mem_erase_of_ne e).2 h)) k hk hkc'
theorem rdy_erase {c : List Nat} {i d : Nat} (h : rdy ops c i = true) : rdy ops (c.erase d) i = true :=
  rdy_iff.2 fun k hk hc => rdy_iff.1 h k hk (List.mem_of_mem_erase hc)

/-- i goes ahead of the eager ones that may come, too. -/
theorem Good.front (hS : Stat ops N A) (hpan : ∀ c a w, ¬ Q (.panic c) a w) {i : Nat} : ∀ (f : Nat) {c : List Nat} {W : List (Nat × Value)} {a : Act} {w : World}, c.length ≤ f + 1 → c.Nodup → (∀ j ∈ c, j < ops.size) → Closed ops c →
    (∀ p ∈ W, p.1 < ops.size ∧ p.1 ∉ c) → i ∈ c → rdy ops c i = true → Good F n P ops A Q (f + 1) c W a w →
    (eag ops i = true → ∃ v, YA P ops i a w v ∧ Good F n P ops A Q f (c.erase i) ((i, v) :: W) (a.put (dstO ops i) v) w) ∧
    (eag ops i = false → wpOpIn F n P ops Q i (fun a' w' => Stab P ops A W i a' w' ∧ Good F n P ops A Q f (c.erase i) W a' w') a w) := by
  intro f
  induction f with
  | zero =>
    intro c W a w hlen hnd hlt hcl hW hi hr h
    simp only [Good] at h
    rcases h with ⟨rfl, _⟩ | ⟨d, h1, h2, h3, v, h4, h5⟩ | ⟨h1, h2⟩
    · simp at hi
    · obtain ⟨x, rfl⟩ : ∃ x, c = [x] := by
        match c, hi, hlen with
        | [x], _, _ => exact ⟨x, rfl⟩
      simp only [List.mem_singleton] at h1 hi
      subst h1; subst hi
      exact ⟨fun _ => ⟨v, h4, h5⟩, fun h => by rw [h2] at h; cases h⟩
    · exact ⟨fun he => (by rw [(h2 i hi hr).1] at he; cases he), fun _ => (h2 i hi hr).2⟩
  | succ f ih =>
    intro c W a w hlen hnd hlt hcl hW hi hr h
    rw [Good] at h
    rcases h with ⟨rfl, _⟩ | ⟨d, h1, h2, h3, v, h4, h5⟩ | ⟨h1, h2⟩
    · simp at hi
    · by_cases hid : i = d
      · subst hid
        exact ⟨fun _ => ⟨v, h4, h5⟩, fun h => by rw [h2] at h; cases h⟩
      · have hiL := hlt i hi
        have hdL := hlt d h1
        have hdi : d ≠ i := fun e => hid e.symm
        have l1 : memN (dstO ops d) (lks ops i) = false := by
          cases hm : memN (dstO ops d) (lks ops i) with
          | false => rfl
          | true => exact absurd h1 (rdy_iff.1 hr d (hS.look d i hdL hiL hdi hm))
        have l2 : memN (dstO ops i) (lks ops d) = false := by
          cases hm : memN (dstO ops i) (lks ops d) with
          | false => rfl
          | true => exact absurd hi (rdy_iff.1 h3 i (hS.look i d hiL hdL hid hm))
        have l3 := hS.apart d i hdL hiL hdi
        have hie : i ∈ c.erase d := (List.mem_erase_of_ne hid).2 hi
        have hde : d ∈ c.erase i := (List.mem_erase_of_ne hdi).2 h1
        have hlen' : (c.erase d).length ≤ f + 1 := by rw [List.length_erase_of_mem h1]; omega
        have hlt' : ∀ j ∈ c.erase d, j < ops.size := fun j hj => hlt j (List.mem_of_mem_erase hj)
        have hW' : ∀ p ∈ (d, v) :: W, p.1 < ops.size ∧ p.1 ∉ c.erase d := by
          intro p hp
          rcases List.mem_cons.1 hp with rfl | hp
          · exact ⟨hdL, fun h => hnd.not_mem_erase h⟩
          · exact ⟨(hW p hp).1, fun h => (hW p hp).2 (List.mem_of_mem_erase h)⟩
        have IH := ih hlen' (hnd.erase d) hlt' (hcl.erase hnd h3) hW' hie (rdy_erase hr) h5
        have hcomm : (c.erase d).erase i = (c.erase i).erase d := List.erase_comm _ _
        constructor
        · intro he
          obtain ⟨u, hu, hg⟩ := IH.1 he
          refine ⟨u, (YA.put (hS.plain i hiL) l1).1 hu, ?_⟩
          rw [Good]
          refine .inr (.inl ⟨d, hde, h2, rdy_erase h3, v, (YA.put (hS.plain d hdL) l2).2 h4, ?_⟩)
          rw [← put_comm l3, ← hcomm]
          exact Good.mono _ (fun p hm => by
            rcases List.mem_cons.1 hm with rfl | hm
            · simp
            · rcases List.mem_cons.1 hm with rfl | hm
              · simp
              · simp [hm]) hg
        · intro he
          refine wpOpIn_mono ?_ (wpOpIn_behind (hS.plain i hiL) l1 l3 hpan (IH.2 he))
          rintro a' w' ⟨k1, k2⟩
          have hna : anc A d i = false := by
            cases hm : anc A d i with
            | false => rfl
            | true => exact absurd h1 (anc_done hS hcl i hiL (rdy_iff.1 hr) d hm)
          refine ⟨fun p hm hr' => ?_, ?_⟩
          · obtain ⟨u, hu, hv⟩ := k1 p (by simp [hm]) hr'
            have hp := hW p hm
            have hpd : p.1 ≠ d := fun e => hp.2 (e ▸ h1)
            have : memN (dstO ops d) (lks ops p.1) = false := by
              cases hm' : memN (dstO ops d) (lks ops p.1) with
              | false => rfl
              | true => exact absurd h1 (hcl p.1 hp.1 hp.2 d (hS.look d p.1 hdL hp.1 (Ne.symm hpd) hm'))
            exact ⟨u, (YA.put (hS.plain _ hp.1) this).1 hu, hv⟩
          · obtain ⟨u, hu, hv⟩ := k1 (d, v) (by simp) hna
            rw [Good]
            refine .inr (.inl ⟨d, hde, h2, rdy_erase h3, u, (YA.put (hS.plain d hdL) (hS.self d hdL)).1 hu, ?_⟩)
            have e1 : a'.put (dstO ops d) u = a'.put (dstO ops d) v := by
              cases hd : dstO ops d with
              | none => rfl
              | some t => rw [hv t hd]
            rw [e1, ← hcomm]
            refine Good.mono' _ (fun p hp => ?_) k2
            rcases List.mem_cons.1 hp with rfl | hp
            · exact ⟨(d, v), by simp, rfl, fun t ht => (hv t ht).symm⟩
            · exact ⟨p, by simp [hp], rfl, fun _ _ => rfl⟩
    · exact ⟨fun he => (by rw [(h2 i hi hr).1] at he; cases he), fun _ => (h2 i hi hr).2⟩

theorem any_of_good {r : Option Nat} (hS : Stat ops N A) (hpan : ∀ c a w, ¬ Q (.panic c) a w) : ∀ (fuel : Nat) (listed : Array Bool) (c : List Nat) (W : List (Nat × Value)) (a : Act) (w : World), c.length = fuel → listed.size = ops.size →
    (∀ i, i ∈ c ↔ (i < ops.size ∧ listed.getD i false = false)) → c.Nodup → Closed ops c →
    (∀ p ∈ W, p.1 < ops.size ∧ p.1 ∉ c) →
    Good (FW r) n P ops A Q fuel c W a w → wpAnyIn (FW r) n P .any ops Q fuel listed a w := by
  intro fuel
  induction fuel with
  | zero =>
    intro listed c W a w hlen hsz hmem hnd hcl hW h
    obtain rfl : c = [] := List.eq_nil_of_length_eq_zero hlen
    refine ⟨?_, h.2⟩
    rw [List.eq_nil_iff_forall_not_mem]
    intro j hj
    obtain ⟨h1, o, h2, _⟩ := mem_ready.1 hj
    have hlt := (Array.getElem?_eq_some_iff.1 h2).1
    have hl : j < listed.size := by omega
    have := (hmem j).2 ⟨hlt, by simp [hl] at h1 ⊢; exact h1⟩
    simp at this
  | succ fuel ih =>
    intro listed c W a w hlen hsz hmem hnd hcl hW h
    have hrd : ∀ i, i ∈ Region.ready .any ops listed ↔ i ∈ c ∧ ∀ k ∈ preds ops i, listed.getD k false = true := by
      intro i
      rw [mem_ready, hmem]
      constructor
      · rintro ⟨h1, o, h2, h3⟩
        have hlt := (Array.getElem?_eq_some_iff.1 h2).1
        refine ⟨⟨hlt, ?_⟩, fun k hk => ?_⟩
        · have hl : i < listed.size := by omega
          simp [hl] at h1 ⊢; exact h1
        · simp only [preds, h2, List.mem_map, List.mem_filter] at hk
          obtain ⟨e, ⟨he1, he2⟩, rfl⟩ := hk
          exact h3 e (by simpa using he1) he2
      · rintro ⟨⟨h1, h2⟩, h3⟩
        have hl : i < listed.size := by omega
        refine ⟨by simp [hl] at h2 ⊢; exact h2, ops[i], by simp [h1], fun e he hb => h3 e.on ?_⟩
        simp only [preds, Array.getElem?_eq_getElem h1, List.mem_map, List.mem_filter]
        exact ⟨e, ⟨by simpa using he, hb⟩, rfl⟩
    have hlt : ∀ j ∈ c, j < ops.size := fun j hj => ((hmem j).1 hj).1
    have hlc : ∀ k, k < ops.size → (listed.getD k false = true ↔ k ∉ c) := by
      intro k hk
      rw [hmem]
      cases listed.getD k false <;> simp [hk]
    have hrd' : ∀ i, i ∈ Region.ready .any ops listed ↔ i ∈ c ∧ rdy ops c i = true := by
      intro i
      rw [hrd]
      refine and_congr_right fun hi => ?_
      rw [rdy_iff]
      exact forall₂_congr fun k hk => hlc k (Nat.lt_trans (hS.lt i (hlt i hi) k hk) (hlt i hi))
    refine ⟨fun hnil => ?_, fun i hi => ?_⟩
    · exfalso
      rw [Good] at h
      rcases h with ⟨rfl, _⟩ | ⟨d, h1, h2, h3, _⟩ | ⟨⟨i, h1, h2⟩, _⟩
      · simp at hlen
      · have := (hrd' d).2 ⟨h1, h3⟩; rw [hnil] at this; simp at this
      · have := (hrd' i).2 ⟨h1, h2⟩; rw [hnil] at this; simp at this
    · obtain ⟨hic, hir⟩ := (hrd' i).1 hi
      have hfront := Good.front hS hpan (i := i) fuel (Nat.le_of_eq hlen) hnd hlt hcl hW hic hir h
      have hilt : i < listed.size := by rw [hsz]; exact hlt i hic
      have hset : ∀ j, (listed.setIfInBounds i true).getD j false = if j = i then true else listed.getD j false := by
        intro j
        by_cases e : j = i
        · subst e; simp [hilt]
        · rw [if_neg e]; simp only [Array.getD_eq_getD_getElem?]; rw [Array.getElem?_setIfInBounds_ne (Ne.symm e)]
      have go : ∀ (W' : List (Nat × Value)) (a' : Act) (w' : World), (∀ p ∈ W', p.1 < ops.size ∧ p.1 ∉ c.erase i) → Good (FW r) n P ops A Q fuel (c.erase i) W' a' w' → wpAnyIn (FW r) n P .any ops Q fuel (listed.setIfInBounds i true) a' w' := by
        intro W' a' w' hW' hg
        refine ih _ _ W' a' w' (by rw [List.length_erase_of_mem hic]; omega) (by simpa using hsz) (fun j => ?_) (hnd.erase i) (hcl.erase hnd hir) hW' hg
        rw [hset]
        by_cases e : j = i
        · subst e; rw [if_pos rfl]; exact ⟨fun h => absurd h hnd.not_mem_erase, fun h => by cases h.2⟩
        · rw [if_neg e, List.mem_erase_of_ne e]; exact hmem j
      cases hei : eag ops i with
      | true =>
        obtain ⟨v, hv, hg⟩ := hfront.1 hei
        refine YA.wpOpIn (hS.plain i (hlt i hic)) hv (go _ _ _ (fun p hp => ?_) hg)
        rcases List.mem_cons.1 hp with rfl | hp
        · exact ⟨hlt _ hic, hnd.not_mem_erase⟩
        · exact ⟨(hW p hp).1, fun h => (hW p hp).2 (List.mem_of_mem_erase h)⟩
      | false =>
        exact wpOpIn_mono (fun a' w' hh => go W a' w' (fun p hp => ⟨(hW p hp).1, fun h => (hW p hp).2 (List.mem_of_mem_erase h)⟩) hh.2) (hfront.2 hei)

/-- **A region that draws its order, by its runs.** -/
theorem region_draw {r : Option Nat} {id : Nat} {a : Act} {w : World} (hm : P.follows .mixedOrders = true) (hS : Stat ops N A)
    (h : Good (FW r) n P ops A (fun e a w => e = .normal ∧ Q .normal a w) ops.size (List.range ops.size) [] a { w with drawn := w.drawn + 1 }) : (Code.region id ops true).wpIn (FW r) n P Q a w := by
  have hrep : ∀ i : Nat, (Array.replicate ops.size false).getD i false = false := fun i => by
    rw [Array.getD_eq_getD_getElem?]
    rcases Nat.lt_or_ge i ops.size with h' | h'
    · simp [h']
    · rw [Array.getElem?_eq_none (by simpa using h')]; rfl
  refine wpIn_mono (wpIn_region_any hm (any_of_good hS (fun c a w h => by cases h.1) ops.size (Array.replicate ops.size false) (List.range ops.size) [] a _ (by simp) (by simp) (fun i => ?_) List.nodup_range (fun j hj hjc => absurd (List.mem_range.2 hj) hjc) (by simp) h)) ?_
  · rw [hrep]; simp
  · rintro e a w ⟨rfl, h⟩; exact h

end Go.SX
