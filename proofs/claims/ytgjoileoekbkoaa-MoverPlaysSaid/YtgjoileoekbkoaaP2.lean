/-
  What a mover asks.
-/
import Derived.Test.YtgjoileoekbkoaaP1
set_option linter.unusedVariables false
set_option linter.unusedSimpArgs false
namespace Go.Proofs.Ytgjoileoekbkoaa
open Go Go.SX

set_option maxHeartbeats 4000000 in
theorem nextS_g : goalS Γ26 c26 nextS r26 := by
  refine Eq.mpr nextS_vc ?_
  rintro ⟨⟨mn, ⟨mvs, mc, mz⟩, mat⟩, x⟩ ⟨hm, hc⟩
  dsimp only at hc ⊢
  have h1 := hm.at0
  have h2 := hm.at1
  have h3 := hm.len
  have hno := hm.no
  have hu := hm.u8
  simp only [Mo.ab] at h1 h2 h3 hno hu
  have hone : ∀ (k n : Nat) v, v ∈ (mvs.drop k).take n → one1 v = true := fun k n v hv => by obtain ⟨n, rfl⟩ := hu v (List.mem_of_mem_drop (List.mem_of_mem_take hv)); rfl
  rw [w64 (n := mat + 1000) (by omega) (by omega), ite_min]
  generalize he : min (mat + 1000) (mvs.length : Int) = e
  have e1 : mat ≤ e := by omega
  have e2 : e ≤ mvs.length := by omega
  repeat' first
    | (intro _)
    | (refine ⟨(⟨_, ⟨_, _, _, _, _, _, _, _, _, _, _, _, _, _, _, _⟩⟩, ⟨_, _, _⟩, _), rfl, rfl, rfl, rfl, rfl, rfl, rfl, rfl, rfl, rfl, rfl, rfl, rfl, rfl, rfl, rfl, rfl, ⟨rfl, ?_, rfl⟩, rfl, rfl, ⟨rfl, rfl⟩, rfl, rfl, ⟨rfl, rfl, rfl, rfl⟩, ⟨rfl, ?_, rfl⟩, ?_, fun _ _ => trivial⟩)
    | (refine ⟨(⟨_, ⟨_, _, _, _, _, _, _, _, _, _, _, _, _, _, _, _⟩⟩, ⟨_, _, _⟩, _), rfl, rfl, rfl, rfl, rfl, rfl, rfl, rfl, rfl, rfl, rfl, rfl, rfl, rfl, rfl, rfl, rfl, ⟨?_, rfl⟩, rfl, rfl, rfl, ⟨rfl, rfl⟩, rfl, rfl, ⟨rfl, rfl, rfl, rfl⟩, ⟨rfl, ?_, rfl, rfl⟩, ?_, fun _ _ => trivial⟩)
    | (refine ⟨_, rfl, ?_⟩)
    | (refine And.intro ?_ ?_)
  all_goals try dsimp only [List.nil_append] at *
  all_goals first | rfl | trivial | assumption | (exact hone _ _ _ ‹_›) | omega | skip
  all_goals try (rw [List.length_take, List.length_drop]; omega)
  all_goals simp only [Ab.ask, Mo.ab, Sl.has, he, beq_dec]
  all_goals generalize (mc == 0 && mz.isNil) = b at *
  all_goals simp only [beq_iff_eq, Bool.not_eq_true', beq_eq_false_iff_ne, ne_eq, Bool.not_eq_false'] at *
  all_goals try rw [List.drop_eq_nil_of_le (by omega)]
  all_goals simp [*]
  all_goals first | rfl | exact ⟨rfl, by omega⟩ | omega | (simp_all [ZB.isNil]; done) | (simp_all [ZB.isNil]; omega)
end Go.Proofs.Ytgjoileoekbkoaa
