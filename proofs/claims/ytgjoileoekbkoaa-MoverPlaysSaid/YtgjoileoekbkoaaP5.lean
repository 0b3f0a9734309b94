/-
  The mover, known by one run.
-/
import Derived.Test.YtgjoileoekbkoaaP1
import Derived.Test.YtgjoileoekbkoaaV4
set_option linter.unusedVariables false
set_option linter.unusedSimpArgs false
namespace Go.Proofs.Ytgjoileoekbkoaa
open Go Go.SX

theorem zeros_len (v : Value) : ∀ n, (zerosV [v] n).length = n ∧ ∀ u ∈ zerosV [v] n, u = v
  | 0 => by simp [zerosV]
  | n + 1 => by
    have h := zeros_len v n
    refine ⟨by simp [zerosV, h.1], fun u hu => ?_⟩
    simp [zerosV] at hu
    exact hu.elim id (h.2 u)


set_option maxHeartbeats 4000000 in
theorem knownS_g : goalS Γ18 c18 knownS r18 := by
  refine Eq.mpr knownS_vc ?_
  intro _ _
  refine ⟨fun h => absurd h (by decide), fun _ => ?_⟩
  refine ⟨(⟨0, ⟨[], 0, .nil⟩, 0⟩, ⟨3, 1, 2, 1, 1, 1⟩), rfl, rfl, rfl, rfl, rfl, rfl, rfl, ⟨rfl, rfl, rfl⟩, rfl, ⟨rfl, rfl, rfl⟩, ⟨⟨by decide, by decide, by decide, fun _ => ⟨rfl, rfl⟩, by simp [Mo.ab]⟩, by decide⟩, fun _ _ => trivial, ?_, ?_⟩
  · rintro ⟨n, ⟨vs, c, z⟩, at_⟩ ⟨⟨hm, -⟩, ha⟩
    simp [Mo.ab, Ab.know] at hm
    simp [Mo.ab, hm, Ab.ask] at ha
  rintro ⟨⟨n, ⟨vs, c, z⟩, at_⟩, ⟨g, k⟩, ⟨ds, dc, dz⟩, q⟩ ⟨⟨hm, hok⟩, ha, -⟩
  simp [Mo.ab, Ab.know] at hm
  simp [Mo.ab, hm, Ab.ask] at ha
  obtain ⟨⟨rfl, rfl⟩, rfl⟩ := ha
  obtain ⟨rfl, hh, rfl, rfl⟩ := hm
  dsimp only at hok
  (((try dsimp only); try simp (config := { decide := true }) only [true_and, and_true, true_imp_iff, false_imp_iff, implies_true, Bool.false_eq_true, List.length_nil, ite_true, ite_false]))
  have hZ := zeros_len (Value.int IntKind.u8 0) 1500
  generalize he : zerosV [Value.int IntKind.u8 0] (Int.toNat 1500) = Z
  have hZl : Z.length = 1500 := by rw [← he]; exact hZ.1
  have hZu : ∀ v ∈ Z, isU8 v := fun v hv => ⟨0, hZ.2 v (by rw [← he] at hv; exact hv)⟩
  clear he hZ
  repeat' refine And.intro ?_ ?_
  all_goals
    refine ⟨⟨⟨1, ⟨[], c, z⟩, 0⟩, ⟨3, 1, 2, 1, 1, 1⟩, ⟨1, { kind := 8, slot := 3, ep := 1 }⟩, ⟨[], dc, dz⟩, ⟨0, false, 0, 0⟩, ⟨Z, 1500, .own⟩⟩, rfl, rfl, rfl, rfl, rfl, rfl, rfl, rfl, rfl, rfl, rfl, rfl, rfl, rfl, rfl, rfl, rfl, rfl, rfl, rfl, rfl, rfl, rfl, ⟨rfl, rfl⟩, rfl, rfl, rfl, rfl, rfl, ⟨hZl, rfl⟩, rfl, rfl, ⟨rfl, rfl⟩, rfl, rfl, ⟨rfl, rfl, rfl⟩, ⟨rfl, rfl, rfl⟩, ⟨rfl, hZl, rfl⟩, ⟨hok, hZu, by dsimp only; omega, by dsimp only [List.length_nil]; omega⟩, ?_⟩
    rintro ⟨⟨n, ⟨vs, c, z⟩, at_⟩, b⟩ ⟨hm, hok⟩
    simp [Mo.ab, Ab.know, Ab.told, Ab.hear, hh, hZl] at hm
    obtain ⟨⟨rfl, hh, rfl, rfl⟩, rfl⟩ := hm
    dsimp only at hok
    (((try dsimp only); try simp (config := { decide := true }) only [true_and, and_true, true_imp_iff, false_imp_iff, implies_true, Bool.false_eq_true, List.length_nil, ite_true, ite_false]))
    refine ⟨(⟨1, ⟨_, c, z⟩, 0⟩, ⟨3, 1, 2, 1, 2, 1⟩), rfl, rfl, rfl, rfl, rfl, rfl, rfl, ⟨rfl, rfl⟩, rfl, rfl, ⟨rfl, rfl, rfl⟩, hok, ?_, ?_⟩
    · rintro ⟨n, ⟨vs, c, z⟩, at_⟩ ⟨⟨hm, -⟩, ha⟩
      simp [Mo.ab, Ab.know, hh] at hm
      obtain ⟨rfl, h2, rfl, rfl⟩ := hm
      simp [Mo.ab, Ab.ask, h2] at ha
    rintro ⟨⟨n, ⟨vs, c, z⟩, at_⟩, ⟨g, k⟩, ⟨ds, dc, dz⟩, q⟩ ⟨⟨hm, hok⟩, ha, -⟩
    simp [Mo.ab, Ab.know, hh] at hm
    obtain ⟨rfl, h2, rfl, rfl⟩ := hm
    simp [Mo.ab, Ab.ask, h2, hZl, Int.min_def] at ha
    obtain ⟨⟨rfl, rfl⟩, rfl⟩ := ha
    dsimp only at hok
    have hdl : (List.take 1000 vs).length = 1000 := by simp [hZl]
    generalize List.take 1000 vs = ds at hdl ⊢
    (((try dsimp only); try simp (config := { decide := true }) only [true_and, and_true, true_imp_iff, false_imp_iff, implies_true, Bool.false_eq_true, List.length_nil, ite_true, ite_false]))
    simp only [hdl]
    simp (config := { decide := true }) only [true_and, and_true, true_imp_iff, false_imp_iff, implies_true, Bool.false_eq_true]
    refine ⟨⟨⟨1, ⟨vs, c, z⟩, 0⟩, ⟨3, 1, 2, 1, 2, 1⟩, ⟨2, { kind := 9, slot := 3, ep := 1 }⟩, ⟨ds, dc, dz⟩, ⟨0, false, 0, 0⟩, ⟨[], 0, .nil⟩⟩, rfl, rfl, rfl, rfl, rfl, rfl, rfl, rfl, rfl, rfl, rfl, rfl, rfl, rfl, rfl, rfl, rfl, rfl, rfl, rfl, rfl, rfl, rfl, ⟨hdl, rfl⟩, rfl, rfl, rfl, rfl, rfl, ⟨rfl, rfl, rfl⟩, rfl, ⟨rfl, rfl⟩, rfl, rfl, ⟨rfl, rfl, rfl⟩, ⟨rfl, hdl, rfl⟩, ⟨rfl, rfl, rfl⟩, ⟨hok, by simp, by dsimp only [List.length_nil]; omega, by dsimp only; omega⟩, ?_⟩
    rintro ⟨⟨n, ⟨vs, c, z⟩, at_⟩, b⟩ ⟨hm, hok⟩
    simp [Mo.ab, Ab.know, Ab.told, Ab.hear, h2, hZl, hdl, Int.min_def] at hm
    obtain ⟨⟨rfl, h3, rfl, rfl⟩, rfl⟩ := hm
    dsimp only at hok
    (((try dsimp only); try simp (config := { decide := true }) only [true_and, and_true, true_imp_iff, false_imp_iff, implies_true, Bool.false_eq_true, List.length_nil, ite_true, ite_false]))
    refine ⟨(⟨1, ⟨_, c, z⟩, 1000⟩, ⟨3, 1, 2, 1, 2, 1⟩), rfl, rfl, rfl, rfl, rfl, rfl, rfl, ⟨rfl, rfl⟩, rfl, rfl, ⟨rfl, rfl, rfl⟩, hok, ?_, ?_⟩
    · rintro ⟨n, ⟨vs, c, z⟩, at_⟩ ⟨⟨hm, -⟩, ha⟩
      simp [Mo.ab, Ab.know, h3] at hm
      obtain ⟨rfl, h4, rfl, rfl⟩ := hm
      simp [Mo.ab, Ab.ask, h4] at ha
    rintro ⟨⟨n, ⟨vs, c, z⟩, at_⟩, ⟨g, k⟩, ⟨ds, dc, dz⟩, q⟩ ⟨⟨hm, hok⟩, ha, -⟩
    simp [Mo.ab, Ab.know, h3] at hm
    obtain ⟨rfl, h4, rfl, rfl⟩ := hm
    simp [Mo.ab, Ab.ask, h4, hZl, Int.min_def] at ha
    obtain ⟨⟨rfl, rfl⟩, rfl⟩ := ha
    dsimp only at hok
    (((try dsimp only); try simp (config := { decide := true }) only [true_and, and_true, true_imp_iff, false_imp_iff, implies_true, Bool.false_eq_true, List.length_nil, ite_true, ite_false]))
    refine ⟨⟨1, ⟨_, c, z⟩, 1000⟩, rfl, ⟨rfl, rfl⟩, rfl, rfl, ⟨rfl, rfl, rfl⟩, fun y hy => ?_⟩
    dsimp only at hy
    rw [if_pos h4, hZl] at hy
    subst hy
    (((try dsimp only); try simp (config := { decide := true }) only [true_and, and_true, true_imp_iff, false_imp_iff, implies_true, Bool.false_eq_true, List.length_nil, ite_true, ite_false]))
end Go.Proofs.Ytgjoileoekbkoaa
