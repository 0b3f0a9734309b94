/-
  SX, part T: code.
-/
import Derived.Test.YtgjoileoekbkoaaSXY
import Derived.Scope
set_option linter.unusedVariables false
set_option linter.unusedSimpArgs false
namespace Go.SX

variable {C : Ctx} {Γ : Env} {β : Nat → Nat} {st : SState} {a : Act} {w : World} {o : Oper} {K : SState → Prop} {next : Act → World → Prop} {Q : Exit → Act → World → Prop} {r : Option Nat} {n : Nat}

section
variable {P : Program} {F : Fence} {b : Frame} {k : List Item} {cs : List Frame}
theorem stepR_scope {c : Code} : step P (lone (b.atR a (.code (.scope c) :: k)) cs w) = .next (lone (b.atR a (.code c :: .inScope c :: k)) cs w) :=
  step_lone_go (by simp [stepG, stepG.exec, Frame.atR])
theorem stepR_inScope {c : Code} : step P (lone (b.atR a (.inScope c :: k)) cs w) = .next (lone (b.atR a k) cs w) :=
  step_lone_go (by simp [stepG, stepG.exec, Frame.atR])
theorem wpIn_scope {c : Code} (h : c.wpIn F n P (Exit.noGoto Q) a w) : (Code.scope c).wpIn F n P Q a w := by
  intro b k cs hro hb hr
  have h0 : (lone (b.atR a (.code (.scope c) :: k)) cs w).fenced P F := fenced_calm hb hr rfl
  obtain ⟨e, a₁, w₁, hq, harr⟩ := h b (.inScope c :: k) cs hro hb hr
  cases e with
  | normal => exact ⟨.normal, a₁, w₁, hq, .head h0 stepR_scope (StepsIn.trans harr (.one (fenced_calm hb hr rfl) stepR_inScope))⟩
  | exit id =>
    have hx : exitTo id (.inScope c :: k) = exitTo id k := by simp [exitTo]
    exact ⟨.exit id, a₁, w₁, hq, fun k' hk => .head h0 stepR_scope (harr.1 k' (by rw [hx]; exact hk)),
        fun hr' hk => let ⟨k₁, h1, h2⟩ := harr.2 hr' (by rw [hx]; exact hk); ⟨k₁, h1, .head h0 stepR_scope h2⟩⟩
  | goto l => exact hq.elim
  | ret => exact ⟨_, a₁, w₁, hq, .of_steps (.one h0 stepR_scope) harr⟩
  | panic ch => exact ⟨_, a₁, w₁, hq, .of_steps (.one h0 stepR_scope) harr⟩
  | outgrown => exact ⟨_, a₁, w₁, hq, .of_steps (.one h0 stepR_scope) harr⟩
end

theorem sxC_sound : ∀ (c : Code), Sound c := by
  intro c
  induction c with
  | skip => intro Γ C r n hE hR K Q hQ β st a w h hi; exact wpIn_skip (hQ .normal _ _ _ _ h hi)
  | region id ops draw =>
    intro Γ C r n hE hR K Q hQ β st a w h hi
    simp only [sxC] at h
    cases draw with
    | true =>
      simp only at h
      cases hd : Γ.dr id with
      | none => simp only [hd] at h
      | some q =>
        obtain ⟨A, T⟩ := q
        simp only [hd] at h
        cases h1 : statOk ops Γ.N A with
        | false => simp only [h1] at h
        | true =>
          simp only [h1] at h
          cases h2 : dtOk ops A T (List.range ops.size) [] [] with
          | false => simp only [h2] at h
          | true =>
            simp only [h2] at h
            exact sxDraw_region hE h1 h2 (fun β' st' a' w' h' hi' => hQ .normal _ _ _ _ h' hi') h hi
    | false =>
      refine wpIn_region ?_
      rw [List.range_eq_range', ← Array.length_toList]
      exact sxOps_sound hE (fun β' st' a' w' h' hi' => hQ .normal _ _ _ _ h' hi') ops.toList 0 β st a w rfl h hi
  | seq x y ihx ihy =>
    intro Γ C r n hE hR K Q hQ β st a w h hi
    simp only [sxC] at h
    cases hL : Γ.ct (fstReg y) st with
    | none =>
      simp only [hL] at h
      refine wpIn_seq (ihx Γ C r n hE hR _ _ ?_ β st a w h hi)
      intro e β' st' a' w' h' hi'
      cases e with
      | normal => exact ihy Γ C r n hE hR K Q hQ β' st' a' w' h' hi'
      | ret => exact hQ .ret _ _ _ _ h' hi'
      | exit j => exact hQ (.exit j) _ _ _ _ h' hi'
    | some L =>
      simp only [hL] at h
      obtain ⟨h, hcut⟩ := h
      refine wpIn_seq (ihx Γ C r n hE hR _ _ ?_ β st a w h hi)
      intro e β' st' a' w' h' hi'
      cases e with
      | normal =>
        obtain ⟨st2, _, ⟨x, hx⟩, hi1, _⟩ := sealS_sound h' hi'
        obtain ⟨hok, β2, hi2⟩ := entS_sound hE.f hx hi1
        exact ihy Γ C r n hE hR K Q hQ β2 _ a' w' (hcut x hok) hi2
      | ret => exact hQ .ret _ _ _ _ h' hi'
      | exit j => exact hQ (.exit j) _ _ _ _ h' hi'
  | cond c x y ihx ihy =>
    intro Γ C r n hE hR K Q hQ β st a w h hi
    simp only [sxC] at h
    split at h
    · rename_i s
      split at h
      · rename_i hx
        exact wpIn_cond_true (ev_sound hi (x := .tmp s) hx).1 (ihx Γ C r n hE hR K Q hQ β st a w h hi)
      · rename_i hx
        exact wpIn_cond_false (ev_sound hi (x := .tmp s) hx).1 (ihy Γ C r n hE hR K Q hQ β st a w h hi)
      · rename_i p hx
        refine wpIn_cond_split (ev_sound hi (x := .tmp s) hx).1 (fun hp => ?_) (fun hp => ?_)
        · exact ihx Γ C r n hE hR K Q hQ β _ a w (h.1 hp) (hi.retell hx (by simp [SV.den, hp]) ⟨rfl, trivial⟩)
        · exact ihy Γ C r n hE hR K Q hQ β _ a w (h.2 hp) (hi.retell hx (by simp [SV.den, hp]) ⟨rfl, trivial⟩)
      · exact h.elim
    · exact h.elim
  | block id x ih =>
    intro Γ C r n hE hR K Q hQ β st a w h hi
    simp only [sxC] at h
    refine wpIn_block (ih Γ C r n hE hR _ _ ?_ β st a w h hi)
    intro e β' st' a' w' h' hi'
    cases e with
    | normal => exact hQ .normal _ _ _ _ h' hi'
    | ret => exact hQ .ret _ _ _ _ h' hi'
    | exit j =>
      simp only at h'
      simp only [SExit.to, Exit.inBlock]
      cases hb : Nat.beq j id with
      | true =>
        simp only [hb] at h'
        rw [if_pos (Nat.eq_of_beq_eq_true hb)]
        exact hQ .normal _ _ _ _ h' hi'
      | false =>
        simp only [hb] at h'
        rw [if_neg (by intro e; subst e; simp at hb)]
        exact hQ (.exit j) _ _ _ _ h' hi'
  | loop x ih =>
    intro Γ C r n hE hR K Q hQ β st a w h hi
    simp only [sxC] at h
    cases hL : Γ.lp (fstReg x) with
    | none =>
      simp only [hL] at h
      refine wpIn_loop_rel (fun m a w => ∃ (β : Nat → Nat) (st : SState), iterS (fun st K => sxC Γ x st K) m st K ∧ Inv C β st a w) (m := Γ.ur (fstReg x)) ⟨β, st, h, hi⟩ ?_
      rintro m a w ⟨β1, st1, h1, hi1⟩
      cases m with
      | zero => exact h1.elim
      | succ m =>
        simp only [iterS] at h1
        refine ih Γ C r n hE hR _ _ ?_ β1 _ a w h1 hi1
        intro e β' st' a' w' h' hi'
        cases e with
        | normal => exact ⟨m, Nat.lt_succ_self m, β', st', h', hi'⟩
        | ret => exact hQ .ret _ _ _ _ h' hi'
        | exit j => exact hQ (.exit j) _ _ _ _ h' hi'
    | some L =>
      simp only [hL] at h
      obtain ⟨h0, hround⟩ := h
      obtain ⟨st0, _, ⟨x0, h0⟩, hi0', _⟩ := sealS_sound h0 hi
      obtain ⟨hok0, β0, hi0⟩ := entS_sound hE.f h0 hi0'
      refine wpIn_loop_rel (fun m a w => ∃ (x : L.X) (β : Nat → Nat), L.μ x = m ∧ L.ok x ∧ Inv C β { tm := L.tm x, hp := L.hp x, nx := L.nx, fx := fun w => st.fx w ∧ L.fx x w, pe := st.pe } a w)
        (m := L.μ x0) ⟨x0, β0, rfl, hok0, hi0⟩ ?_
      rintro m a w ⟨x1, β1, rfl, hok1, hi1⟩
      refine ih Γ C r n hE hR _ _ ?_ β1 _ a w (hround x1 hok1) hi1
      intro e β' st' a' w' h' hi'
      cases e with
      | normal =>
        obtain ⟨st2, _, ⟨x2, hx2, hlt⟩, hi2', _⟩ := sealS_sound h' hi'
        obtain ⟨hok2, β2, hi2⟩ := entS_sound hE.f hx2 hi2'
        exact ⟨L.μ x2, hlt, x2, β2, rfl, hok2, hi2⟩
      | ret => exact hQ .ret _ _ _ _ h' hi'
      | exit j => exact hQ (.exit j) _ _ _ _ h' hi'
  | rangeFunc g ps assign body iha ihb =>
    intro Γ C r n hE hR K Q hQ β st a w h hi
    simp only [sxC] at h
    split at h
    · rename_i f caps hg
      split at h
      · rename_i I hI
        exact range_sound iha ihb hE hR hQ hg hI h hi
      · exact h.elim
    · exact h.elim
  | exit id => intro Γ C r n hE hR K Q hQ β st a w h hi; exact wpIn_exit (hQ (.exit id) _ _ _ _ h hi)
  | scope x ih =>
    intro Γ C r n hE hR K Q hQ β st a w h hi
    simp only [sxC] at h
    refine wpIn_scope (ih Γ C r n hE hR K _ ?_ β st a w h hi)
    intro e β' st' a' w' h' hi'
    cases e with
    | normal => exact hQ .normal _ _ _ _ h' hi'
    | ret => exact hQ .ret _ _ _ _ h' hi'
    | exit j => exact hQ (.exit j) _ _ _ _ h' hi'
  | label l => intro Γ C r n hE hR K Q hQ β st a w h hi; exact wpIn_label (hQ .normal _ _ _ _ h hi)
  | goto => intro Γ C r n hE hR K Q hQ β st a w h hi; simp only [sxC] at h
  | ret => intro Γ C r n hE hR K Q hQ β st a w h hi; exact wpIn_ret (hQ .ret _ _ _ _ h hi)
  | refuse => intro Γ C r n hE hR K Q hQ β st a w h hi; simp only [sxC] at h

end Go.SX
