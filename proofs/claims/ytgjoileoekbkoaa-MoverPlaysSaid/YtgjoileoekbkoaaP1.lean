/-
  The contracts of the mover's small functions, proved.
-/
import Derived.Test.YtgjoileoekbkoaaV1
set_option linter.unusedVariables false
set_option linter.unusedSimpArgs false
namespace Go.Proofs.Ytgjoileoekbkoaa
open Go Go.SX

theorem w64 {n : Int} (h1 : -9223372036854775808 ≤ n) (h2 : n ≤ 9223372036854775807) : IntKind.wrap .i64 n = n := by rw [IntKind.wrap_i64]; omega

theorem Ab.know_ok {m : Ab} (h : m.ok) (x : Mv) : (m.know x).ok := by
  unfold Ab.know
  split
  · exact ⟨by simp, by simp, by simp, by simp, by simp⟩
  · exact h
theorem Ab.hear_ok {m : Ab} (h : m.ok) (x : Mv) (c : Cm) (k : Nat) (why : Int) {d : List Value} (hd : d.length ≤ 140737488355328) (hu : ∀ v ∈ d, isU8 v) : (m.hear x c k why d).1.ok := by
  have h1 := h.at0
  have h2 := h.at1
  have h3 := h.len
  unfold Ab.hear
  repeat' split
  all_goals first | exact h | skip
  · exact ⟨hd, by simp, by simp, by simp, hu⟩
  · exact ⟨hd, h1, by simp only; omega, by simp, hu⟩
  · refine ⟨h.len, by simp only; omega, by simp only; omega, ?_, h.u8⟩
    intro hn
    simp_all
  · refine ⟨h.len, by simp, by simp, ?_, h.u8⟩
    intro hn
    simp_all

theorem know_mo {m : Mo} (h : m.ok) {y : Mo} {x : Mv} (e : y.ab = m.ab.know x) (hy : y.d.vs.length ≤ y.d.c) : y.ok := ⟨by rw [e]; exact Ab.know_ok h.1 x, hy⟩
theorem know_rm {m : Rm} (h : m.ok) {y : Rm} {x : Mv} (e : y.ab = m.ab.know x) (hy : y.d.vs.length ≤ y.d.c) : y.ok := ⟨by rw [e]; exact Ab.know_ok h.1 x, hy⟩

theorem knowS_g : goalS Γ22 c22 knowS r22 := by
  refine Eq.mpr knowS_vc ?_
  intro x hx
  have nil_ok : (⟨x.2.n, false, [], 0⟩ : Ab).ok := ⟨by simp, by simp, by simp, by simp, by simp⟩
  refine ⟨fun h1 => ⟨fun h2 => ?_, fun h2 => ?_⟩, fun h1 => ?_⟩
  · exact ⟨⟨x.2.n, .nil, 0⟩, by simp_all [Mo.ok, Mo.ab, Ab.know, Sl.has, ZB.isNil]⟩
  · exact ⟨x.1, by simp_all [Mo.ok, Mo.ab, Ab.know]⟩
  · exact ⟨⟨x.2.n, .nil, 0⟩, by simp_all [Mo.ok, Mo.ab, Ab.know, Sl.has, ZB.isNil]⟩

theorem rknowS_g : goalS Γ20 c20 rknowS r20 := by
  refine Eq.mpr rknowS_vc ?_
  intro x hx
  have nil_ok : (⟨x.2.n, false, [], 0⟩ : Ab).ok := ⟨by simp, by simp, by simp, by simp, by simp⟩
  refine ⟨fun h1 => ⟨fun h2 => ?_, fun h2 => ?_⟩, fun h1 => ?_⟩
  · exact ⟨⟨x.2.n, false, .nil, 0⟩, by simp_all [Rm.ok, Rm.ab, Ab.know, ZB.isNil]⟩
  · exact ⟨x.1, by simp_all [Rm.ok, Rm.ab, Ab.know]⟩
  · exact ⟨⟨x.2.n, false, .nil, 0⟩, by simp_all [Rm.ok, Rm.ab, Ab.know, ZB.isNil]⟩

theorem hasS_g : goalS Γ15 c15 hasS r15 := by
  refine Eq.mpr hasS_vc ?_
  intro x _
  refine ⟨fun h => absurd h (by simp), fun _ => ⟨fun h => ⟨_, rfl, ?_⟩, fun h => ⟨_, rfl, ?_⟩⟩⟩ <;> simp_all [Sl.has]

theorem rcountS_g : goalS Γ16 c16 rcountS r16 := by
  refine Eq.mpr rcountS_vc ?_
  intro x _
  refine ⟨fun h => ⟨_, rfl, ?_⟩, fun h => ⟨_, rfl, ?_⟩⟩ <;> simp_all

theorem ba_beq (s : ByteArray) : (s == s) = true := by
  cases s
  show ByteArray.beq _ _ = true
  simp [ByteArray.beq]
theorem ite_min (a b : Int) : (if b < a then b else a) = min a b := by omega
theorem beq_dec (a b : Int) : (a == b) = decide (a = b) := by by_cases h : a = b <;> simp [h]
theorem andL_true {l : List Bool} (h : ∀ b ∈ l, b = true) : andL l = true := by rw [andL_all]; exact List.all_eq_true.2 (fun b hb => by simpa using h b hb)
theorem sameS_g : goalS Γ8 c8 sameS r8 := by
  refine Eq.mpr sameS_vc ?_
  rintro ⟨a, a', d, d'⟩ ⟨h1, h2, h3⟩
  simp only at h1 h2 h3
  subst h1
  have h4 : ∀ v ∈ d'.vs, isU8 v := by rw [← h2]; exact h3
  have hall : andL [a.c.ok == a.c.ok, a.c.ofr == a.c.ofr, a.c.oto == a.c.oto, a.c.oam == a.c.oam, a.c.okey == a.c.okey, a.c.osl == a.c.osl, a.c.osh == a.c.osh] = true := andL_true (by simp [ba_beq])
  repeat' first | (intro _) | (refine And.intro ?_ ?_)
  all_goals first
    | rfl
    | (exfalso; rename_i hf; rw [hall] at hf; cases hf; done)
    | exact h3 _ ‹_›
    | exact h4 _ ‹_›
    | exact ⟨_, rfl, by simp_all⟩
    | (exfalso; simp_all; done)

set_option maxHeartbeats 4000000 in
theorem hearS_g : goalS Γ23 c23 hearS r23 := by
  refine Eq.mpr hearS_vc ?_
  rintro ⟨⟨mn, ⟨mvs, mc, mz⟩, mat⟩, x, a, ⟨avs, ac, az⟩, r, ⟨rvs, rc, rz⟩⟩ ⟨⟨hm, hc⟩, hu, hl, hk⟩
  dsimp only at hc hu hl hk ⊢
  have h1 := hm.at0
  have h2 := hm.at1
  have h3 := hm.len
  have hno := hm.no
  have hone : ∀ v ∈ rvs, one1 v = true := fun v hv => by obtain ⟨n, rfl⟩ := hu v hv; rfl
  have fin : ∀ {y : Mo} {b : Bool}, (y.ab, b) = (Mo.ab ⟨mn, ⟨mvs, mc, mz⟩, mat⟩).hear x a.c avs.length r.why rvs → y.d.vs.length ≤ y.d.c → (y.ab, b) = (Mo.ab ⟨mn, ⟨mvs, mc, mz⟩, mat⟩).hear x a.c avs.length r.why rvs ∧ y.ok := fun e hy => ⟨e, by
    have := Ab.hear_ok hm x a.c avs.length r.why hl hu
    rw [← e] at this; exact this, hy⟩
  simp only [Mo.ab] at h1 h2 h3 hno
  rw [w64 (n := mat + ↑avs.length) (by omega) (by omega), ite_min]
  repeat' first
    | (intro _)
    | (refine ⟨(⟨_, ⟨_, _, _⟩, _⟩, _), rfl, rfl, ⟨?_, rfl⟩, rfl, rfl, ⟨rfl, ?_, rfl, rfl⟩, ⟨rfl, rfl, rfl, rfl⟩, ⟨rfl, rfl, rfl, rfl⟩, fin ?_ ?_, fun _ _ => trivial⟩)
    | (refine ⟨_, rfl, ?_⟩)
    | (refine And.intro ?_ ?_)
  all_goals try dsimp only [List.nil_append] at *
  all_goals first | rfl | trivial | assumption | skip
  all_goals try (simp only [Nat.mul_one, List.take_length, Nat.zero_add] at *)
  all_goals first | omega | (exact hone _ ‹_›) | (simp_all [Mo.ab, Ab.hear, Sl.has, ZB.isNil, beq_dec]; done) | (simp_all [Mo.ab, Ab.hear, Sl.has, ZB.isNil, beq_dec]; omega) | skip
  all_goals simp_all [Mo.ab, Ab.hear, Sl.has, ZB.isNil, beq_dec]
end Go.Proofs.Ytgjoileoekbkoaa
