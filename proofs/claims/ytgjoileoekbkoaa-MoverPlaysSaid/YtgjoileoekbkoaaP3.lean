/-
  What is asked, as a list; what is told; what is spoiled.
-/
import Derived.Test.YtgjoileoekbkoaaP2
import Derived.Test.YtgjoileoekbkoaaV2
set_option linter.unusedVariables false
set_option linter.unusedSimpArgs false
namespace Go.Proofs.Ytgjoileoekbkoaa
open Go Go.SX

theorem asksS_g : goalS Γ5 c5 asksS r5 := by
  refine Eq.mpr asksS_vc ?_
  intro x hx
  refine ⟨fun h => absurd h (by simp), fun _ l => ⟨fun _ => ?_, fun h => absurd h (by simp)⟩⟩
  refine ⟨x, rfl, rfl, rfl, rfl, rfl, rfl, rfl, ⟨rfl, rfl⟩, rfl, rfl, ⟨rfl, rfl, rfl, rfl⟩, hx, fun _ _ => trivial, fun m hm => ?_⟩
  refine ⟨(m, x.2), rfl, rfl, rfl, rfl, rfl, rfl, rfl, ⟨rfl, rfl⟩, rfl, rfl, ⟨rfl, rfl, rfl, rfl⟩, hm.2, fun _ _ => trivial, fun y hy => ⟨fun hb => ?_, fun hb => ?_⟩⟩
  · refine ⟨rfl, by omega, fun c zs hc hz => .inr ⟨(m, y.1, y.2.1, c, _, zs), ⟨rfl, rfl, rfl⟩, rfl, ⟨rfl, rfl⟩, rfl, rfl, ⟨rfl, rfl, rfl, rfl⟩, rfl, rfl, rfl, rfl, rfl, rfl, rfl, rfl, rfl, rfl, rfl, rfl, rfl, rfl, rfl, rfl, rfl, ⟨rfl, rfl⟩, rfl, ⟨rfl, rfl⟩, ⟨rfl, rfl, rfl, rfl⟩, ⟨⟨hm.1, hm.2⟩, ?_⟩, fun _ _ => trivial⟩⟩
    dsimp only at hy ⊢
    cases ha : m.ab.ask x.2 with
    | none => rw [ha] at hy; simp only at hy; rw [hy] at hb; cases hb
    | some q => rw [ha] at hy; simp only at hy; exact ⟨by rw [hy.1.2.1, hy.1.2.2], hy.2⟩
  · refine .inl ⟨m, rfl, ⟨rfl, rfl⟩, rfl, rfl, ⟨rfl, rfl, rfl, rfl⟩, ⟨⟨hm.1, hm.2⟩, ?_⟩, fun _ _ => trivial⟩
    dsimp only at hy ⊢
    cases ha : m.ab.ask x.2 with
    | none => rfl
    | some q => rw [ha] at hy; simp only at hy; rw [hy.1.1] at hb; cases hb

theorem spoilS_g : goalS Γ10 c10 spoilS r10 := by
  refine Eq.mpr spoilS_vc ?_
  rintro x ⟨h1, h2, h3⟩
  refine ⟨⟨(0, x), ⟨rfl, rfl⟩, rfl, rfl, ⟨rfl, rfl, rfl, rfl⟩, ⟨Int.le_refl _, by simp, h1, h2, h3⟩, fun _ _ => ⟨trivial, trivial⟩⟩, ?_⟩
  rintro ⟨i, ⟨vs, c, z⟩⟩ ⟨k1, k2, k3, k4, k5⟩
  dsimp only at k1 k2 k3 k4 k5 ⊢
  refine ⟨fun hi => ?_, fun hi => ?_⟩
  · have hi' : i < vs.length := by simpa using hi
    have hset : updL vs (0 + i.toNat * 1) [Value.int IntKind.u8 90] = vs.set i.toNat (Value.int IntKind.u8 90) := by simp [updL]
    refine ⟨⟨k1, hi', by omega⟩, by omega, by omega, (i + 1, ⟨vs.set i.toNat (Value.int IntKind.u8 90), c, z⟩), ⟨⟨by simp, rfl⟩, rfl, (w64 (by omega) (by omega)).symm, ⟨hset.symm, by simp, rfl, rfl⟩, ⟨by simp only; omega, by simp only [List.length_set]; omega, by simpa using k3, fun v hv => ?_, by simpa using k5⟩, fun _ _ => ⟨trivial, trivial⟩⟩, by simp only [List.length_set]; omega⟩
    rcases List.mem_or_eq_of_mem_set hv with h | h
    · exact k4 v h
    · exact ⟨90, h⟩
  · have hone : ∀ v ∈ vs, one1 v = true := fun v hv => by obtain ⟨n, rfl⟩ := k4 v hv; rfl
    have hw : IntKind.wrap IntKind.i64 (((vs.length + 1 : Nat) : Int) - 1) = vs.length := by rw [w64 (by omega) (by omega)]; omega
    refine ⟨rfl, rfl, hone, by omega, fun c' e1 e2 => ⟨⟨?_, ?_, by omega⟩, ?_, by omega, (), trivial, fun _ _ => trivial⟩⟩
    · rw [hw]; omega
    · rw [hw]; omega
    · rw [hw]; simp

set_option maxHeartbeats 4000000 in
theorem toldS_g : goalS Γ12 c12 toldS r12 := by
  refine Eq.mpr toldS_vc ?_
  rintro x ⟨hm, hu, hl, hk⟩
  refine ⟨fun h => absurd h (by simp), fun _ => ?_⟩
  refine ⟨(x.m, x.x), rfl, rfl, rfl, rfl, rfl, rfl, rfl, ⟨rfl, rfl⟩, rfl, rfl, ⟨rfl, rfl, rfl, rfl⟩, hm, fun _ _ => trivial, fun m hy => ?_⟩
  dsimp only at hy
  have no : Ab.told x.m.ab x.x x.a x.ad.vs.length x.r.why x.rd.vs = (m.ab, false) → ∃ y : Mo × Bool, (bif y.2 then 2 else 0) = (0 : Int) ∧ (0 : Int) = 0 ∧ (0 : Int) = 0 ∧ (bif y.2 then x.x.n else 0) = (0 : Int) ∧ (bif y.2 then x.x.ph else 0) = (0 : Int) ∧ y.2 = false ∧ y.1.n = m.n ∧ (y.1.d.vs.length = m.d.vs.length ∧ y.1.d.c = m.d.c) ∧ y.1.d.z = m.d.z ∧ y.1.at_ = m.at_ ∧ (y.1.d.vs = m.d.vs ∧ y.1.d.vs.length = m.d.vs.length ∧ y.1.d.c = m.d.c ∧ 1 = 1) ∧ (x.ad.vs = x.ad.vs ∧ x.ad.vs.length = x.ad.vs.length ∧ x.ad.c = x.ad.c ∧ 1 = 1) ∧ (x.rd.vs = x.rd.vs ∧ x.rd.vs.length = x.rd.vs.length ∧ x.rd.c = x.rd.c ∧ 1 = 1) ∧
      ((y.1.ab, y.2) = Ab.told x.m.ab x.x x.a x.ad.vs.length x.r.why x.rd.vs ∧ y.1.ab.ok ∧ y.1.d.vs.length ≤ y.1.d.c) ∧ ∀ w : World, True ∧ True → True := fun he =>
    ⟨(m, false), rfl, rfl, rfl, rfl, rfl, rfl, rfl, ⟨rfl, rfl⟩, rfl, rfl, ⟨rfl, rfl, rfl, rfl⟩, ⟨rfl, rfl, rfl, rfl⟩, ⟨rfl, rfl, rfl, rfl⟩, ⟨he.symm, hy.2⟩, fun _ _ => trivial⟩
  refine ⟨fun hk9 => ⟨fun hg => ⟨fun hs => ⟨fun he => ?_, fun he => ?_⟩, fun hs => ?_⟩, fun hg => ?_⟩, fun hk9 => ⟨fun hg => ⟨fun hs => ⟨fun he => ?_, fun he => ?_⟩, fun hs => ?_⟩, fun hg => ?_⟩⟩
  all_goals simp only [beq_iff_eq, bne_iff_ne, bne_eq_false_iff_eq, beq_eq_false_iff_ne, ne_eq] at *
  case refine_2 => exact no (by simp [Ab.told, *])
  case refine_3 => exact no (by simp [Ab.told, *])
  case refine_4 => exact no (by simp [Ab.told, *])
  case refine_6 => exact no (by simp [Ab.told, *])
  case refine_7 => exact no (by simp [Ab.told, *])
  case refine_8 => exact no (by simp [Ab.told, *])
  all_goals refine ⟨⟨m, x.x, x.a, x.ad, x.r, x.rd⟩, ?_⟩
  all_goals dsimp only
  all_goals repeat' first | rfl | exact hy.2 | exact hu | exact hl | exact hk | trivial | (refine And.intro ?_ ?_) | (intro _)
  all_goals rename_i y hq hb
  all_goals refine ⟨y, ?_⟩
  all_goals have ht : Ab.told x.m.ab x.x x.a x.ad.vs.length x.r.why x.rd.vs = (y.1.ab, y.2) := by rw [hq.1, hy.1]; simp [Ab.told, hk9, hg, hs, he]
  all_goals cases hb2 : y.2 <;> simp [hb2] at hb <;> rw [hb2] at ht <;> simp [hb2, ← ht, hq.2.1, hq.2.2]

set_option maxHeartbeats 4000000 in
theorem rasksS_g : goalS Γ7 c7 rasksS r7 := by
  refine Eq.mpr rasksS_vc ?_
  intro x hm
  refine ⟨x, rfl, rfl, rfl, rfl, rfl, rfl, rfl, rfl, ⟨rfl, rfl⟩, rfl, rfl, ⟨rfl, rfl, rfl, rfl⟩, hm, fun _ _ => trivial, ?_⟩
  rintro ⟨n, has, ⟨vs, c, z⟩, mat⟩ hy
  dsimp only at hy ⊢
  obtain ⟨h0, hk, hc⟩ := hy
  have hy := And.intro h0 (And.intro hk hc)
  have h1 := hk.at0
  have h2 := hk.at1
  have h3 := hk.len
  have hno := hk.no
  have hu := hk.u8
  simp only [Rm.ab] at h1 h2 h3 hno hu
  dsimp only at hc
  have hone : ∀ (k n : Nat) v, v ∈ (vs.drop k).take n → one1 v = true := fun k n v hv => by obtain ⟨n, rfl⟩ := hu v (List.mem_of_mem_drop (List.mem_of_mem_take hv)); rfl
  have hone' : ∀ v, v ∈ vs → one1 v = true := fun v hv => by obtain ⟨n, rfl⟩ := hu v hv; rfl
  rw [w64 (n := mat + 1000) (by omega) (by omega)]
  repeat' first
    | (intro _)
    | (refine .inr ⟨(⟨_, _, ⟨_, _, _⟩, _⟩, ⟨_, ⟨_, _, _, _, _, _, _, _, _, _, _, _, _, _, _, _⟩⟩, ⟨_, _, _⟩), ⟨rfl, rfl, rfl⟩, rfl, rfl, ⟨rfl, rfl⟩, rfl, rfl, ⟨rfl, rfl, rfl, rfl⟩, rfl, rfl, rfl, rfl, rfl, rfl, rfl, rfl, rfl, rfl, rfl, rfl, rfl, rfl, rfl, rfl, rfl, ⟨rfl, ?_, rfl⟩, ⟨rfl, ?_, rfl⟩, ⟨⟨hy.1, hy.2⟩, ?_⟩, fun _ _ => trivial⟩)
    | (refine .inr ⟨(⟨_, _, ⟨_, _, _⟩, _⟩, ⟨_, ⟨_, _, _, _, _, _, _, _, _, _, _, _, _, _, _, _⟩⟩, ⟨_, _, _⟩), ⟨rfl, rfl, rfl⟩, rfl, rfl, ⟨rfl, rfl⟩, rfl, rfl, ⟨rfl, rfl, rfl, rfl⟩, rfl, rfl, rfl, rfl, rfl, rfl, rfl, rfl, rfl, rfl, rfl, rfl, rfl, rfl, rfl, rfl, rfl, ⟨?_, rfl⟩, rfl, ⟨rfl, ?_, rfl, rfl⟩, ⟨⟨hy.1, hy.2⟩, ?_⟩, fun _ _ => trivial⟩)
    | (refine .inl ⟨⟨_, _, ⟨_, _, _⟩, _⟩, rfl, rfl, ⟨rfl, rfl⟩, rfl, rfl, ⟨rfl, rfl, rfl, rfl⟩, ⟨⟨hy.1, hy.2⟩, ?_⟩, fun _ _ => trivial⟩)
    | (refine ⟨_, rfl, ?_⟩)
    | (refine And.intro ?_ ?_)
  all_goals try dsimp only [List.nil_append] at *
  all_goals first | rfl | trivial | assumption | (exact hone _ _ _ ‹_›) | (exact hone' _ ‹_›) | omega | skip
  all_goals simp only [decide_eq_true_eq, decide_eq_false_iff_not, beq_iff_eq, beq_eq_false_iff_ne, ne_eq, Nat.mul_one, Int.toNat_natCast, gt_iff_lt, Int.not_lt, beq_dec] at *
  all_goals first | omega | (rw [List.length_take, List.length_drop]; omega) | skip
  all_goals first
    | (have e3 : ¬ x.2.ph = 3 := by omega
       have e2 : ¬ x.2.ph = 2 := by omega
       have e1 : ¬ x.2.ph = 1 := by omega
       simp [Ab.ask, e1, e2, e3]; done)
    | (have e3 : x.2.ph = 3 := by omega
       simp [Ab.ask, e3]; rfl)
    | (have e2 : x.2.ph = 2 := by omega
       have e0 : has = true := by assumption
       have he : min (mat + 1000) (vs.length : Int) = vs.length := by omega
       simp [Ab.ask, Rm.ab, e2, e0, he]; rfl)
    | (have e2 : x.2.ph = 2 := by omega
       have e0 : has = true := by assumption
       have he : min (mat + 1000) (vs.length : Int) = vs.length := by omega
       rw [Ab.ask]
       simp only [Rm.ab, e2, e0, he, List.drop_eq_nil_of_le (show vs.length ≤ mat.toNat by omega)]
       simp; rfl)
    | (have e2 : x.2.ph = 2 := by omega
       have e0 : has = true := by assumption
       have he : min (mat + 1000) (vs.length : Int) = mat + 1000 := by omega
       simp [Ab.ask, Rm.ab, e2, e0, he]; rfl)
    | (have e2 : x.2.ph = 2 := by omega
       have e0 : has = false := by assumption
       simp [Ab.ask, Rm.ab, e2, e0]; rfl)
    | (have e1 : x.2.ph = 1 := by omega
       simp [Ab.ask, e1]; rfl)
end Go.Proofs.Ytgjoileoekbkoaa
