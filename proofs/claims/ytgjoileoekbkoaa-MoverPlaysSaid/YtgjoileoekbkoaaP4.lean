/-
  What the reference's mover is told.
-/
import Derived.Test.YtgjoileoekbkoaaP3
import Derived.Test.YtgjoileoekbkoaaV3
set_option linter.unusedVariables false
set_option linter.unusedSimpArgs false
namespace Go.Proofs.Ytgjoileoekbkoaa
open Go Go.SX

theorem Ab.told_ok {m : Ab} (h : m.ok) (x : Mv) (a : Ak) (k : Nat) (why : Int) {d : List Value} (hd : d.length ≤ 140737488355328) (hu : ∀ v ∈ d, isU8 v) : (m.told x a k why d).1.ok := by
  unfold Ab.told
  by_cases hc : a.g ≠ (if a.c.kind = 9 then x.to else x.frm) ∨ a.c.slot ≠ x.slot ∨ a.c.ep ≠ x.ep
  · rw [if_pos hc]; exact Ab.know_ok h x
  · rw [if_neg hc]; exact Ab.hear_ok (Ab.know_ok h x) x a.c k why hd hu

theorem hear_none (m : Ab) (x : Mv) (c : Cm) (k : Nat) (why : Int) (d : List Value) (h8 : c.kind = 8 ∧ (x.ph = 1 ∨ x.ph = 2) → ¬ why = 0) (h9 : (c.kind = 9 ∧ x.ph = 2) ∧ m.has = true → ¬ c.at_ = m.at_) (h10 : (decide (c.kind = 10) && decide (x.ph = 3) && decide (why = 0)) = false) : (m, false) = m.hear x c k why d := by
  unfold Ab.hear
  by_cases k8 : c.kind = 8
  · simp [k8] at h8
    rw [if_pos k8, if_neg (fun h => h8 h.2 h.1)]
  · rw [if_neg k8]
    by_cases k9 : c.kind = 9
    · rw [if_pos k9, if_neg (fun h => h9 ⟨⟨k9, h.1⟩, h.2.1⟩ h.2.2)]
    · rw [if_neg k9]
      by_cases k10 : c.kind = 10
      · rw [if_pos k10]
        simp [k10] at h10
        by_cases hp : x.ph = 3 <;> simp [hp, h10]
      · rw [if_neg k10]

set_option maxHeartbeats 40000000 in
theorem rtoldT_g : goalX c14 rtoldT r14 Γ14 := by
  refine Eq.mpr rtoldT_vc ?_
  rintro x ⟨hm, hu, hl, hk⟩
  refine ⟨(x.m, x.x), rfl, rfl, rfl, rfl, rfl, rfl, rfl, rfl, ⟨rfl, rfl⟩, rfl, rfl, ⟨rfl, rfl, rfl, rfl⟩, hm, fun _ _ => trivial, ?_⟩
  rintro ⟨n, has, ⟨vs, c, z⟩, mat⟩ hy
  dsimp only at hy ⊢
  have fin : ∀ {y : Rm} {b : Bool}, (y.ab, b) = x.m.ab.told x.x x.a x.al x.r.why x.d → y.d.vs.length ≤ y.d.c → (y.ab, b) = x.m.ab.told x.x x.a x.al x.r.why x.d ∧ y.ab.ok ∧ y.d.vs.length ≤ y.d.c := fun e hc => ⟨e, by
    have := Ab.told_ok hm.1 x.x x.a x.al x.r.why hl hu
    rw [← e] at this; exact this, hc⟩
  have hone : ∀ v ∈ x.d, one1 v = true := fun v hv => by obtain ⟨n, rfl⟩ := hu v hv; rfl
  have hw : ∀ n : Int, -9223372036854775808 ≤ n → n ≤ 9223372036854775807 → IntKind.wrap .i64 n = n := fun n => w64
  generalize IntKind.wrap IntKind.i64 = W at hw ⊢
  repeat' first
    | (rintro (⟨⟨_, _, ⟨_, _, _⟩, _⟩, _⟩ : Rm × Bool) ⟨⟨_, ⟨_, _, _, _, _⟩, _⟩, _, _⟩; dsimp only)
    | (rintro (⟨_, _, ⟨_, _, _⟩, _⟩ : Rm) ⟨_, _⟩; dsimp only)
    | (intro _)
    | (refine ⟨(⟨_, _, ⟨_, _, _⟩, _⟩, true), rfl, rfl, rfl, rfl, rfl, rfl, rfl, rfl, ⟨?_, rfl⟩, rfl, rfl, ⟨rfl, ?_, rfl, rfl⟩, fin ?_ ?_, fun _ _ => trivial⟩)
    | (refine ⟨(⟨_, _, ⟨_, _, _⟩, _⟩, false), rfl, rfl, rfl, rfl, rfl, rfl, rfl, rfl, ⟨?_, rfl⟩, rfl, rfl, ⟨rfl, ?_, rfl, rfl⟩, fin ?_ ?_, fun _ _ => trivial⟩)
    | (refine ⟨⟨_, _, ⟨_, _, _⟩, _⟩, rfl, rfl, ⟨?_, rfl⟩, rfl, rfl, ⟨rfl, ?_, rfl, rfl⟩, rfl, rfl, rfl, rfl, rfl, fin ?_ ?_, ?_⟩)
    | (refine ⟨(⟨_, _, ⟨_, _, _⟩, _⟩, _), rfl, rfl, rfl, ⟨?_, rfl⟩, rfl, rfl, ⟨rfl, ?_, rfl, rfl⟩, ?_⟩)
    | (refine ⟨x.d, ?_⟩)
    | rfl
    | assumption
    | (refine And.intro ?_ ?_)
  all_goals first
    | exact (‹RowAt _ _ _ ∧ True›).1 _ _ ‹_›
    | exact (‹(RowAt _ _ _ ∧ True) ∧ True›).1.1 _ _ ‹_›
    | exact (‹((RowAt _ _ _ ∧ True) ∧ True) ∧ True›).1.1.1 _ _ ‹_›
    | exact (‹(((RowAt _ _ _ ∧ True) ∧ True) ∧ True) ∧ True›).1.1.1.1 _ _ ‹_›
    | skip
  all_goals try trivial
  all_goals try (exact hone _ ‹_›)
  all_goals dsimp only [Rm.ab] at *
  all_goals simp (disch := omega) only [hw, Rm.ok, Rm.ab, q8, q9, q10, beq_dec, Bool.and_eq_true, Bool.or_eq_true, decide_eq_true_eq, decide_eq_false_iff_not, bne_iff_ne, ne_eq, Bool.not_eq_true', bne_eq_false_iff_eq, Nat.mul_one, Bool.and_eq_false_imp, Int.zero_add] at *
  all_goals try omega
  all_goals try (simp_all [Ab.hear, Ab.told, beq_dec]; done)
  all_goals try (simp_all [Ab.hear, Ab.told, beq_dec]; omega)
  all_goals clear fin hw hone
  all_goals first
    | (exact ⟨by assumption, by assumption, by assumption, by assumption, by assumption⟩)
    | (rw [hy.1]; simp [Ab.told, *]; done)
    | (simp [*, Ab.hear]; omega)
    | (simp_all [Ab.hear]; omega)
    | (simp [*, Ab.hear]; done)
    | (simp_all [Ab.hear, Int.min_def]; omega)
    | (simp_all [Ab.hear, Int.min_def]; split <;> omega)
    | (simp_all [Ab.hear, Int.min_def]; done)
    | (have h3 := ‹(_ → _) ∧ (_ → _) ∧ _ = _›; rw [‹Ab.told _ _ _ _ _ _ = Ab.hear _ _ _ _ _ _›]; exact hear_none _ _ _ _ _ _ h3.1 h3.2.1 (by rw [← h3.2.2]; assumption))
end Go.Proofs.Ytgjoileoekbkoaa
