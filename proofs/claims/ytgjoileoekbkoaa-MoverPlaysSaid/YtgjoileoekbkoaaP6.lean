/-
  The law's loop.
-/
import Derived.Test.YtgjoileoekbkoaaP1
import Derived.Test.YtgjoileoekbkoaaV5
set_option linter.unusedVariables false
set_option linter.unusedSimpArgs false
namespace Go.Proofs.Ytgjoileoekbkoaa
open Go Go.SX


theorem Ab.ask_ok {m : Ab} (h : m.ok) {x : Mv} {q : Ak × List Value} (e : m.ask x = some q) : (∀ v ∈ q.2, isU8 v) ∧ q.2.length ≤ 1000 := by
  have h1 := h.at0
  unfold Ab.ask at e
  split at e
  · cases e; simp
  · split at e
    · cases e
      refine ⟨fun v hv => h.u8 v (List.mem_of_mem_drop (List.mem_of_mem_take hv)), ?_⟩
      simp only [List.length_take]
      omega
    · split at e
      · cases e; simp
      · cases e

theorem kn_law {x : LX} {y : LL} {P : World → Prop} {Q : World → Prop} (h : ∀ w, P w → True) (h' : ∀ w, Q w → True) : ∃ _ : Unit, True ∧ (∀ w, P w → True) ∧ ∀ b : Bool, b = true → ∃ c : Bool, c = b ∧ c = true ∧ ∀ w, Q w → True :=
  ⟨(), trivial, h, fun b hb => ⟨b, rfl, hb, h'⟩⟩

set_option maxHeartbeats 40000000 in
theorem lawS_g : goalX c3 lawS r3 Γ3 := by
  refine Eq.mpr lawS_vc ?_
  intro x hx
  refine ⟨fun h => absurd h (by simp), fun _ => ⟨?_, ?_⟩⟩
  · refine ⟨⟨0, ⟨0, .nil, 0⟩, ⟨0, false, .nil, 0⟩, ⟨0, {}⟩, none, 0, []⟩, ?_⟩
    dsimp only
    repeat' first | rfl | (refine And.intro ?_ ?_)
    · exact ⟨Int.le_refl _, by simp, ⟨⟨by decide, by decide, by decide, fun _ => ⟨rfl, rfl⟩, by simp [Mo.ab]⟩, by decide⟩, ⟨⟨by decide, by decide, by decide, fun _ => ⟨rfl, rfl⟩, by simp [Rm.ab]⟩, by decide⟩, by simp, by simp⟩
    · exact fun w hw => ⟨hw, by simp⟩
  · rintro y ⟨hy, hab⟩
    have bnd : ∀ {a b : Prop}, a → b → a ∧ b := And.intro
    refine ⟨fun h1 => ⟨fun h2 => ⟨?_, ?_⟩, fun h2 => ⟨(), trivial, fun _ _ => trivial, fun b hb => ⟨b, rfl, hb, fun _ _ => trivial⟩⟩⟩, fun h1 => ⟨(), trivial, fun _ _ => trivial, fun b hb => ⟨b, rfl, hb, fun _ _ => trivial⟩⟩⟩
    · have hi0 := hy.i0
      have hi : y.i.toNat < x.l.length := by simp at h1; omega
      obtain ⟨o, ho⟩ : ∃ o, x.l[y.i.toNat]? = some o := ⟨_, List.getElem?_eq_getElem hi⟩
      have ld : ∀ w, x.in w ∧ RowAt w y.la y.ld → ∀ k v, o.vals[k]? = some v → ∃ ad, x.a = some ad ∧ w.cell? (ad.add (y.i.toNat * 31 + k)) = some v := fun w hw k v hv => by
        obtain ⟨ad, e1, e2⟩ := (hw.1 _ _ ho).1 k v hv
        cases ha : x.a with
        | none => rw [ha] at e1; cases e1
        | some a => rw [ha] at e1; cases e1; exact ⟨a, rfl, by rw [Addr.add_add] at e2; exact e2⟩
      refine ⟨⟨hi0, by omega⟩, fun w hw => by obtain ⟨a, e, -⟩ := ld w hw 0 _ rfl; rw [e]; rfl, ?_⟩
      repeat first
        | refine ⟨_, fun w hw => ld w hw _ _ rfl, ?_⟩
        | refine ⟨_, _, _, fun w hw => ld w hw _ _ rfl, ?_⟩
      refine ⟨(y, o), ?_⟩
      dsimp only
      repeat' first | rfl | (refine And.intro ?_ ?_)
      · exact hy
      · exact hab
      · exact ho
      · exact fun w hw => ⟨hw, hw.2⟩
    · clear h1 hy hab
      rintro ⟨y1, o⟩ ⟨⟨hy1, he1, hab⟩, ho⟩
      dsimp only at hy1 he1 hab ho ⊢
      have hm := hy1.m
      have hr := hy1.r
      have hi : y1.i < x.l.length := by
        have := (List.getElem?_eq_some_iff.mp ho).1
        have := hy1.i0
        omega
      refine ⟨⟨fun hk => ?_, fun hk => ?_⟩, ?_⟩
      · clear hk he1 h2
        (repeat' (first | rfl | exact True.intro | exact fun _ _ => True.intro | refine And.intro ?_ ?_))
        refine ⟨(y1.m, o.mv), ?_⟩
        (repeat' (first | rfl | exact True.intro | exact fun _ _ => True.intro | refine And.intro ?_ ?_))
        · exact hm.1
        · exact hm.2
        · rintro m2 ⟨⟨hm2, hm2o⟩, ha⟩
          dsimp only at hm2 ha
          refine ⟨(y1.r, o.mv), ?_⟩
          (repeat' (first | rfl | exact True.intro | exact fun _ _ => True.intro | refine And.intro ?_ ?_))
          · exact hr.1
          · exact hr.2
          · rintro r2 ⟨⟨hr2, hr2o⟩, ha2⟩
            dsimp only at hr2
            have hab2 : m2.ab = r2.ab := by rw [hm2, hr2, hab]
            refine ⟨fun h => absurd h (by decide), fun _ => ⟨fun h => absurd h (by decide), fun _ => ?_⟩⟩
            refine ⟨⟨y1.i, m2, r2, y1.a, y1.la, y1.lc, y1.ld⟩, ?_⟩
            (repeat' (first | rfl | exact True.intro | exact fun _ _ => True.intro | refine And.intro ?_ ?_))
            · exact ⟨hy1.i0, hy1.i1, hm2o, hr2o, hy1.u8, hy1.len⟩
            · exact hab2
            · exact hi
            · ((intro w hw; repeat' (first | exact hw | exact hw.1 | exact hw.2 | exact hw.1.1 | exact hw.1.2 | exact hw.1.1.1 | exact hw.1.1.2 | exact hw.1.1.1.1 | exact hw.1.1.1.2 | exact hw.1.1.1.1.1 | exact hw.1.1.1.1.2 | exact hw.1.1.1.1.1.1 | exact hw.1.1.1.1.1.2 | exact hw.1.1.1.1.1.1.1 | exact hw.1.1.1.1.1.1.2 | exact hw.1.2.1 | exact hw.1.2.2 | exact hw.1.1.2.1 | exact hw.1.1.2.2 | exact hw.1.1.1.2.1 | exact hw.1.1.1.2.2 | exact hw.1.1.1.1.2.1 | exact hw.1.1.1.1.2.2 | exact hw.1.1.1.1.1.2.1 | exact hw.1.1.1.1.1.2.2 | exact hw.2.1 | exact hw.2.2 | refine And.intro ?_ ?_)))
          · rintro ⟨r2, b, d⟩ ⟨⟨hr2, hr2o⟩, ha2⟩
            exfalso
            dsimp only at hr2 ha2
            rw [hr2, ← hab, ← hm2, ha] at ha2
            cases ha2
        · rintro ⟨m2, ak, ds, n9, vs9⟩ ⟨⟨hm2, hm2o⟩, ha, hcap⟩
          dsimp only at hm2 ha hm2o hcap
          (repeat' (first | rfl | exact True.intro | exact fun _ _ => True.intro | refine And.intro ?_ ?_))
          refine ⟨(y1.r, o.mv), ?_⟩
          (repeat' (first | rfl | exact True.intro | exact fun _ _ => True.intro | refine And.intro ?_ ?_))
          · exact hr.1
          · exact hr.2
          · rintro r2 ⟨⟨hr2, hr2o⟩, ha2⟩
            exfalso
            dsimp only at hr2 ha2
            rw [hr2, ← hab, ← hm2, ha] at ha2
            cases ha2
          · rintro ⟨r2, b, d⟩ ⟨⟨hr2, hr2o⟩, ha2⟩
            dsimp only at hr2 hr2o ha2
            have hq := Ab.ask_ok hm2o.1 ha
            have hab2 : m2.ab = r2.ab := by rw [hm2, hr2, hab]
            rw [← hab2, ha] at ha2
            simp only [Option.some.injEq, Prod.mk.injEq] at ha2
            obtain ⟨rfl, hd⟩ := ha2
            have hw01 : IntKind.wrap IntKind.i64 ((0 : Int) + 1) = 1 := w64 (n := 0 + 1) (by omega) (by omega)
            refine ⟨fun h => absurd h (by decide), fun _ => ⟨fun _ => ?_, fun h => absurd h (by decide)⟩⟩
            repeat' first
              | rfl
              | exact True.intro
              | exact fun _ _ => True.intro
              | (refine And.intro ?_ ?_)
              | (intro (_ : (0 : Int) = ((0 : Nat) : Int)))
              | decide
            refine ⟨(ak, ak, ds, d), ?_⟩
            (repeat' (first | rfl | exact True.intro | exact fun _ _ => True.intro | refine And.intro ?_ ?_))
            · exact hd
            · exact hq.1
            rintro b hb
            subst hb
            refine ⟨trivial, fun h => absurd h (by decide), fun _ => ?_⟩
            repeat' first
              | rfl
              | exact True.intro
              | exact fun _ _ => True.intro
              | (refine And.intro ?_ ?_)
              | (intro (_ : (0 : Int) = ((0 : Nat) : Int)))
              | decide
            have hlen : d.vs.length ≤ 1000 := by rw [← hd]; exact hq.2
            refine ⟨d.vs, by simp, Nat.le_refl _, rfl, fun v hv => ?_, by dsimp only; omega, fun cc e1 e2 => ?_⟩
            · rw [← hd] at hv
              obtain ⟨n, rfl⟩ := hq.1 v hv
              rfl
            dsimp only at e1 e2
            repeat' first
              | rfl
              | exact True.intro
              | exact fun _ _ => True.intro
              | (refine And.intro ?_ ?_)
              | (intro (_ : (0 : Int) = ((0 : Nat) : Int)))
              | decide
            refine ⟨ds, ?_⟩
            (repeat' (first | rfl | exact True.intro | exact fun _ _ => True.intro | refine And.intro ?_ ?_))
            · have := hq.2; dsimp only at this; omega
            · exact hq.1
            · exact hcap
            intro _ _
            refine ⟨fun h => absurd h (by rw [hw01]; decide), fun _ => ?_⟩
            repeat' first
              | rfl
              | exact True.intro
              | exact fun _ _ => True.intro
              | (refine And.intro ?_ ?_)
            intro a0
            refine ⟨⟨y1.i, m2, r2, ak, (if cc = 0 then ZB.at ZB.nil a0 else some a0), cc, d.vs⟩, ?_⟩
            (repeat' (first | rfl | exact True.intro | exact fun _ _ => True.intro | refine And.intro ?_ ?_))
            · exact ⟨hy1.i0, hy1.i1, hm2o, hr2o, by dsimp only; rw [← hd]; exact hq.1, by dsimp only; omega⟩
            · exact hab2
            · exact hi
            · intro w hw
              have hr3 : RowAt w (if cc = 0 then ZB.at ZB.nil a0 else some a0) d.vs := by
                by_cases hc0 : cc = 0
                · have : d.vs = [] := List.eq_nil_of_length_eq_zero (by omega)
                  rw [this]; intro k v hk; simp at hk
                · rw [if_neg hc0]; exact hw.2 hc0
              exact ⟨hw.1.1.1.1.1, hr3⟩
      · refine ⟨?_, ?_⟩
        · (repeat' (first | rfl | exact True.intro | exact fun _ _ => True.intro | refine And.intro ?_ ?_))
          · intro h1
            refine ⟨(y1, o, true), ?_⟩
            (repeat' (first | rfl | exact True.intro | exact fun _ _ => True.intro | refine And.intro ?_ ?_))
            · exact hy1
            · exact hab
            · exact ho
            · ((intro w hw; repeat' (first | exact hw | exact hw.1 | exact hw.2 | exact hw.1.1 | exact hw.1.2 | exact hw.1.1.1 | exact hw.1.1.2 | exact hw.1.1.1.1 | exact hw.1.1.1.2 | exact hw.1.1.1.1.1 | exact hw.1.1.1.1.2 | exact hw.1.1.1.1.1.1 | exact hw.1.1.1.1.1.2 | exact hw.1.1.1.1.1.1.1 | exact hw.1.1.1.1.1.1.2 | exact hw.1.2.1 | exact hw.1.2.2 | exact hw.1.1.2.1 | exact hw.1.1.2.2 | exact hw.1.1.1.2.1 | exact hw.1.1.1.2.2 | exact hw.1.1.1.1.2.1 | exact hw.1.1.1.1.2.2 | exact hw.1.1.1.1.1.2.1 | exact hw.1.1.1.1.1.2.2 | exact hw.2.1 | exact hw.2.2 | refine And.intro ?_ ?_)))
          · intro h1
            refine ⟨?_, ?_⟩
            · intro h2
              refine ⟨(y1, o, true), ?_⟩
              (repeat' (first | rfl | exact True.intro | exact fun _ _ => True.intro | refine And.intro ?_ ?_))
              · exact hy1
              · exact hab
              · exact ho
              · ((intro w hw; repeat' (first | exact hw | exact hw.1 | exact hw.2 | exact hw.1.1 | exact hw.1.2 | exact hw.1.1.1 | exact hw.1.1.2 | exact hw.1.1.1.1 | exact hw.1.1.1.2 | exact hw.1.1.1.1.1 | exact hw.1.1.1.1.2 | exact hw.1.1.1.1.1.1 | exact hw.1.1.1.1.1.2 | exact hw.1.1.1.1.1.1.1 | exact hw.1.1.1.1.1.1.2 | exact hw.1.2.1 | exact hw.1.2.2 | exact hw.1.1.2.1 | exact hw.1.1.2.2 | exact hw.1.1.1.2.1 | exact hw.1.1.1.2.2 | exact hw.1.1.1.1.2.1 | exact hw.1.1.1.1.2.2 | exact hw.1.1.1.1.1.2.1 | exact hw.1.1.1.1.1.2.2 | exact hw.2.1 | exact hw.2.2 | refine And.intro ?_ ?_)))
            · intro h2
              refine ⟨(y1, o, o.kind == 3), ?_⟩
              (repeat' (first | rfl | exact True.intro | exact fun _ _ => True.intro | refine And.intro ?_ ?_))
              · exact hy1
              · exact hab
              · exact ho
              · ((intro w hw; repeat' (first | exact hw | exact hw.1 | exact hw.2 | exact hw.1.1 | exact hw.1.2 | exact hw.1.1.1 | exact hw.1.1.2 | exact hw.1.1.1.1 | exact hw.1.1.1.2 | exact hw.1.1.1.1.1 | exact hw.1.1.1.1.2 | exact hw.1.1.1.1.1.1 | exact hw.1.1.1.1.1.2 | exact hw.1.1.1.1.1.1.1 | exact hw.1.1.1.1.1.1.2 | exact hw.1.2.1 | exact hw.1.2.2 | exact hw.1.1.2.1 | exact hw.1.1.2.2 | exact hw.1.1.1.2.1 | exact hw.1.1.1.2.2 | exact hw.1.1.1.1.2.1 | exact hw.1.1.1.1.2.2 | exact hw.1.1.1.1.1.2.1 | exact hw.1.1.1.1.1.2.2 | exact hw.2.1 | exact hw.2.2 | refine And.intro ?_ ?_)))
        · clear hm hr hi ho hab hk hy1 h2 he1
          rintro ⟨y2, o, b⟩ ⟨⟨hy2, he2, hab⟩, ho⟩
          dsimp only at hy2 he2 hab ho ⊢
          have hi : y2.i < x.l.length := by
            have := (List.getElem?_eq_some_iff.mp ho).1
            have := hy2.i0
            omega
          obtain ⟨q1, q2, q3, q4, q5⟩ := hx o (List.mem_of_getElem? ho)
          refine ⟨fun hb => ⟨?_, ?_⟩, fun hb => ?_⟩
          · refine ⟨fun hk => ?_, fun hk => ?_⟩
            · refine ⟨(y2, o, ⟨y2.a, y2.la, y2.lc, y2.ld⟩), ?_⟩
              (repeat' (first | rfl | exact True.intro | exact fun _ _ => True.intro | refine And.intro ?_ ?_))
              · exact hy2
              · exact hab
              · exact ho
              · exact ⟨hy2.u8, hy2.len⟩
              · ((intro w hw; repeat' (first | exact hw | exact hw.1 | exact hw.2 | exact hw.1.1 | exact hw.1.2 | exact hw.1.1.1 | exact hw.1.1.2 | exact hw.1.1.1.1 | exact hw.1.1.1.2 | exact hw.1.1.1.1.1 | exact hw.1.1.1.1.2 | exact hw.1.1.1.1.1.1 | exact hw.1.1.1.1.1.2 | exact hw.1.1.1.1.1.1.1 | exact hw.1.1.1.1.1.1.2 | exact hw.1.2.1 | exact hw.1.2.2 | exact hw.1.1.2.1 | exact hw.1.1.2.2 | exact hw.1.1.1.2.1 | exact hw.1.1.1.2.2 | exact hw.1.1.1.1.2.1 | exact hw.1.1.1.1.2.2 | exact hw.1.1.1.1.1.2.1 | exact hw.1.1.1.1.1.2.2 | exact hw.2.1 | exact hw.2.2 | refine And.intro ?_ ?_)))
            · refine ⟨(y2, o, ⟨o.a, o.aa, o.ac, x.ad o⟩), ?_⟩
              (repeat' (first | rfl | exact True.intro | exact fun _ _ => True.intro | refine And.intro ?_ ?_))
              · exact q4
              · exact hy2
              · exact hab
              · exact ho
              · exact ⟨q3, by dsimp only; omega⟩
              · intro w hw
                exact ⟨hw, hw.2, (hw.1.1.1 _ _ ho).2.2⟩
          · clear hy2 hi hb hab ho q1 q2 q3 q4 q5
            rintro ⟨y3, o, ad⟩ ⟨⟨hy3, he3, hab⟩, ho, had⟩
            dsimp only at hy3 he3 hab ho had ⊢
            obtain ⟨q1, q2, q3, q4, q5⟩ := hx o (List.mem_of_getElem? ho)
            have o1 : ∀ v ∈ o.d, one1 v = true := fun v hv => by obtain ⟨n, rfl⟩ := q1 v hv; rfl
            have o2 : ∀ v ∈ ad.d, one1 v = true := fun v hv => by obtain ⟨n, rfl⟩ := had.u8 v hv; rfl
            have hal := had.len
            refine ⟨o.d, by simp, o1, fun w hw => (hw.1.1.1.1 _ _ ho).2.1, by omega, fun c1 e1 e2 => ?_⟩
            repeat' first
              | rfl
              | exact True.intro
              | exact fun _ _ => True.intro
              | (refine And.intro ?_ ?_)
            rotate_left 3
            · clear e1 e2 o1 o2 hal q1 q2 q3 q4 q5 had ho hab hy3
              rintro ⟨y4, o, ad, sl, b4⟩ ⟨⟨hy4, he4, hto⟩, ho, had, hsl, hsc⟩
              dsimp only at hy4 he4 hto ho had hsl hsc ⊢
              obtain ⟨q1, q2, q3, q4, q5⟩ := hx o (List.mem_of_getElem? ho)
              have hal := had.len
              have hi : y4.i < x.l.length := by
                have := (List.getElem?_eq_some_iff.mp ho).1
                have := hy4.i0
                omega
              refine ⟨⟨y4.r, o.mv, ad.a, ad.p, ad.c, ad.d.length, o.r, o.rn, o.ra, o.rc, o.da, o.dc, o.d⟩, ?_⟩
              repeat' first
                | rfl
                | exact True.intro
                | exact fun _ _ => True.intro
                | exact hy4.r.1
                | exact hy4.r.2
                | exact q1
                | (dsimp only; omega)
                | exact fun w hw => (hw.1.1.1.1.1 _ _ ho).2.1
                | (refine And.intro ?_ ?_)
              rintro ⟨r5, b5⟩ ⟨hq, hr5⟩
              dsimp only at hq hr5
              rw [← hto] at hq
              obtain ⟨hab, hb⟩ := Prod.mk.inj hq
              subst hb
              refine ⟨sl, ?_⟩
              repeat' first
                | rfl
                | exact True.intro
                | exact fun _ _ => True.intro
                | (refine And.intro ?_ ?_)
              · rw [hsl]; omega
              · rw [hsl]; exact q1
              · exact hsc
              intro _ _
              repeat' first
                | rfl
                | exact True.intro
                | exact fun _ _ => True.intro
                | (refine And.intro ?_ ?_)
                | (intro (h : (_ != _) = true); exact absurd h (by simp))
                | (intro (h : (!_ == _) = true); exact absurd h (by simp))
                | (intro (_ : _ = false))
              refine ⟨⟨y4.i, y4.m, r5, y4.a, y4.la, y4.lc, y4.ld⟩, ?_⟩
              (repeat' (first | rfl | exact True.intro | exact fun _ _ => True.intro | refine And.intro ?_ ?_))
              · exact ⟨hy4.i0, hy4.i1, hy4.m, hr5, hy4.u8, hy4.len⟩
              · dsimp only; rw [he4, he3, he2]
              · exact hab.symm
              · exact hi
              · ((intro w hw; repeat' (first | exact hw | exact hw.1 | exact hw.2 | exact hw.1.1 | exact hw.1.2 | exact hw.1.1.1 | exact hw.1.1.2 | exact hw.1.1.1.1 | exact hw.1.1.1.2 | exact hw.1.1.1.1.1 | exact hw.1.1.1.1.2 | exact hw.1.1.1.1.1.1 | exact hw.1.1.1.1.1.2 | exact hw.1.1.1.1.1.1.1 | exact hw.1.1.1.1.1.1.2 | exact hw.1.2.1 | exact hw.1.2.2 | exact hw.1.1.2.1 | exact hw.1.1.2.2 | exact hw.1.1.1.2.1 | exact hw.1.1.1.2.2 | exact hw.1.1.1.1.2.1 | exact hw.1.1.1.1.2.2 | exact hw.1.1.1.1.1.2.1 | exact hw.1.1.1.1.1.2.2 | exact hw.2.1 | exact hw.2.2 | refine And.intro ?_ ?_)))
            all_goals
              refine ⟨ad.d, by simp, o2, fun w hw => hw.2.2, by omega, fun c2 e3 e4 => ?_⟩
              repeat' first
                | rfl
                | exact True.intro
                | exact fun _ _ => True.intro
                | (refine And.intro ?_ ?_)
              all_goals
                refine ⟨⟨y3.m, o.mv, ad.a, ⟨ad.d, c2, .nil⟩, ⟨o.r.why, o.r.wait, 0, 0⟩, ⟨o.d, c1, .nil⟩⟩, ?_⟩
                repeat' first
                  | rfl
                  | exact True.intro
                  | exact fun _ _ => True.intro
                  | exact hy3.m.1
                  | exact hy3.m.2
                  | exact q1
                  | (dsimp only; omega)
                  | (refine And.intro ?_ ?_)
                all_goals
                  rintro ⟨m4, b4⟩ ⟨hq, hm4⟩
                  dsimp only at hq hm4
                  repeat' first
                    | rfl
                    | exact True.intro
                    | exact fun _ _ => True.intro
                    | (refine And.intro ?_ ?_)
                  all_goals
                    refine ⟨(⟨y3.i, m4, y3.r, y3.a, y3.la, y3.lc, y3.ld⟩, o, ad, ⟨o.d, c1, .nil⟩, b4), ?_⟩
                    (repeat' (first | rfl | exact True.intro | exact fun _ _ => True.intro | refine And.intro ?_ ?_))
                    · exact ⟨hy3.i0, hy3.i1, hm4, hy3.r, hy3.u8, hy3.len⟩
                    · dsimp only; rw [hq, hab]
                    · exact ho
                    · exact had
                    · exact e1
                    · ((intro w hw; repeat' (first | exact hw | exact hw.1 | exact hw.2 | exact hw.1.1 | exact hw.1.2 | exact hw.1.1.1 | exact hw.1.1.2 | exact hw.1.1.1.1 | exact hw.1.1.1.2 | exact hw.1.1.1.1.1 | exact hw.1.1.1.1.2 | exact hw.1.1.1.1.1.1 | exact hw.1.1.1.1.1.2 | exact hw.1.1.1.1.1.1.1 | exact hw.1.1.1.1.1.1.2 | exact hw.1.2.1 | exact hw.1.2.2 | exact hw.1.1.2.1 | exact hw.1.1.2.2 | exact hw.1.1.1.2.1 | exact hw.1.1.1.2.2 | exact hw.1.1.1.1.2.1 | exact hw.1.1.1.1.2.2 | exact hw.1.1.1.1.1.2.1 | exact hw.1.1.1.1.1.2.2 | exact hw.2.1 | exact hw.2.2 | refine And.intro ?_ ?_)))
          · refine ⟨⟨y2.i, y2.m, y2.r, y2.a, y2.la, y2.lc, y2.ld⟩, ?_⟩
            (repeat' (first | rfl | exact True.intro | exact fun _ _ => True.intro | refine And.intro ?_ ?_))
            · exact hy2
            · exact he2
            · exact hab
            · exact hi
            · ((intro w hw; repeat' (first | exact hw | exact hw.1 | exact hw.2 | exact hw.1.1 | exact hw.1.2 | exact hw.1.1.1 | exact hw.1.1.2 | exact hw.1.1.1.1 | exact hw.1.1.1.2 | exact hw.1.1.1.1.1 | exact hw.1.1.1.1.2 | exact hw.1.1.1.1.1.1 | exact hw.1.1.1.1.1.2 | exact hw.1.1.1.1.1.1.1 | exact hw.1.1.1.1.1.1.2 | exact hw.1.2.1 | exact hw.1.2.2 | exact hw.1.1.2.1 | exact hw.1.1.2.2 | exact hw.1.1.1.2.1 | exact hw.1.1.1.2.2 | exact hw.1.1.1.1.2.1 | exact hw.1.1.1.1.2.2 | exact hw.1.1.1.1.1.2.1 | exact hw.1.1.1.1.1.2.2 | exact hw.2.1 | exact hw.2.2 | refine And.intro ?_ ?_)))
      · clear hm hr hi ho hab hy1
        rintro y2 ⟨⟨hy2, he2, hab⟩, hi2⟩
        have a1 : y2.m.d.has = y2.r.has := congrArg Ab.has hab
        have a2 : y2.m.d.vs = y2.r.d.vs := congrArg Ab.vs hab
        have a3 : y2.m.at_ = y2.r.at_ := congrArg Ab.at_ hab
        (repeat' (first | rfl | exact True.intro | exact fun _ _ => True.intro | refine And.intro ?_ ?_))
        refine ⟨y2.m, ?_⟩
        (repeat' (first | rfl | exact True.intro | exact fun _ _ => True.intro | refine And.intro ?_ ?_))
        intro k1 e1
        (repeat' (first | rfl | exact True.intro | exact fun _ _ => True.intro | refine And.intro ?_ ?_))
        refine ⟨y2.r, ?_⟩
        (repeat' (first | rfl | exact True.intro | exact fun _ _ => True.intro | refine And.intro ?_ ?_))
        intro k2 e2
        have hk : k1 = k2 := by rw [e1, e2, a1, a2]
        have hi0 := hy2.i0
        have hl : y2.i < 100 := by rw [he2, he1]; simpa using h2
        repeat' first
          | rfl
          | exact True.intro
          | (refine And.intro ?_ ?_)
          | (intro (h : (k1 != k2) = true); exact absurd h (by simp [hk]))
          | (intro (h : false = true); cases h)
          | (intro (h : (y2.m.at_ != y2.r.at_) = true); exact absurd h (by simp [a3]))
          | (intro (_ : _ = false))
        refine ⟨⟨y2.i + 1, y2.m, y2.r, y2.a, y2.la, y2.lc, y2.ld⟩, ⟨⟨rfl, rfl, rfl⟩, (w64 (n := y2.i + 1) (by omega) (by omega)).symm, ?_⟩, ?_⟩
        · (repeat' (first | rfl | exact True.intro | exact fun _ _ => True.intro | refine And.intro ?_ ?_))
          · exact ⟨by dsimp only; omega, by dsimp only; omega, hy2.m, hy2.r, hy2.u8, hy2.len⟩
          · exact hab
          · ((intro w hw; repeat' (first | exact hw | exact hw.1 | exact hw.2 | exact hw.1.1 | exact hw.1.2 | exact hw.1.1.1 | exact hw.1.1.2 | exact hw.1.1.1.1 | exact hw.1.1.1.2 | exact hw.1.1.1.1.1 | exact hw.1.1.1.1.2 | exact hw.1.1.1.1.1.1 | exact hw.1.1.1.1.1.2 | exact hw.1.1.1.1.1.1.1 | exact hw.1.1.1.1.1.1.2 | exact hw.1.2.1 | exact hw.1.2.2 | exact hw.1.1.2.1 | exact hw.1.1.2.2 | exact hw.1.1.1.2.1 | exact hw.1.1.1.2.2 | exact hw.1.1.1.1.2.1 | exact hw.1.1.1.1.2.2 | exact hw.1.1.1.1.1.2.1 | exact hw.1.1.1.1.1.2.2 | exact hw.2.1 | exact hw.2.2 | refine And.intro ?_ ?_)))
        · dsimp only; rw [← he1, ← he2]; omega
end Go.Proofs.Ytgjoileoekbkoaa
