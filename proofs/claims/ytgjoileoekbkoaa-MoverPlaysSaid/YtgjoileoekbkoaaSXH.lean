/-
  SX, part H: operations: stores, composites.
-/
import Derived.Test.YtgjoileoekbkoaaSXZ
set_option linter.unusedVariables false
set_option linter.unusedSimpArgs false
namespace Go.SX

variable {C : Ctx} {Γ : Env} {β : Nat → Nat} {st : SState} {a : Act} {w : World} {o : Oper} {K : SState → Prop} {next : Act → World → Prop} {Q : Exit → Act → World → Prop} {r : Option Nat} {n : Nat}

/-- A block of cells is written. -/
theorem store_cells {P : Program} {t : TypeId} {ti : TI} (hok : ti.ok P t) (hi : Inv C β st a w) {id off : Nat} {l l' : List Seg} {x : SV} {c : List Seg} (hl : lk st.hp id = some (.cells l)) (hc : cellsOf x = some c) (hx : gd st.nx x) (hz : lenS c = ti.size)
    (h' : okS l') (hlt : ltS st.nx l' = true) (hb : off + ti.size ≤ (denS β l).length) (he : denS β l' = setR (denS β l) off (denS β c)) :
    ∃ w', (Instr.storeAt t (.pointer (some ⟨β id, off, none⟩)) (x.den β)).run P w = .ok () w' ∧ Inv C β { st with hp := (id, .cells l') :: rm st.hp id } a w' := by
  obtain ⟨hok', ty, fz, hw, hnf⟩ := (hi.hp.blk id _ hl).1
  obtain ⟨g1, _⟩ := cells_den hc β
  have hcok := cells_ok hc hx.2
  have hcl := lenS_den (β := β) hcok
  have hrun := run_storeAt (P := P) hok (o := off) hw hnf (x.den β) (by rw [g1]; simp [hcl, hz]) hb (by rw [g1]; exact hcok.one1 β)
  rw [g1] at hrun
  have hbd : β id < w.heap.size := (Array.getElem?_eq_some_iff.1 hw).1
  refine ⟨_, hrun, hi.upd hl trivial putB_size (fun b hb => putB_other hb) rfl rfl rfl ?_ (by simpa [SB.lt] using hlt)⟩
  refine ⟨h', ty, fz, by rw [putB_same hbd, he], ?_⟩
  rw [he, setR_length (by rw [hcl, hz]; exact hb)]; exact hnf

theorem store_orow {P : Program} {t : TypeId} {ti : TI} (hok : ti.ok P t) (hi : Inv C β st a w) {id off : Nat} {vs xs : List Value} {len cap sz : Nat} {x : SV} {c : List Seg} (hl : lk st.hp id = some (.orow vs len cap sz)) (hc : cellsOf x = some c) (hx : gd st.nx x) (hz : lenS c = ti.size)
    (hxs : valsOf c = some xs) (hb : off + ti.size ≤ vs.length) (hp : 0 < ti.size) :
    ∃ w', (Instr.storeAt t (.pointer (some ⟨β id, off, none⟩)) (x.den β)).run P w = .ok () w' ∧ Inv C β { st with hp := (id, .orow (updL vs off xs) len cap sz) :: rm st.hp id } a w' := by
  obtain ⟨k1, k2, k3⟩ := (hi.hp.blk id _ hl).1
  obtain ⟨g1, _⟩ := cells_den hc β
  have hcok := cells_ok hc hx.2
  have hcl := lenS_den (β := β) hcok
  have hd := valsOf_den hxs β
  rcases k3 with k3 | ⟨rest, ty, fz, k3, hw, hnf⟩
  · exfalso
    have : len = 0 := by omega
    simp [this] at k1
    simp [k1] at hb; omega
  · have hcap : cap ≠ 0 := by
      intro e; simp [e] at k3; have : vs.length = 0 := by simp [k3.1]
      omega
    have hrun := run_storeAt (P := P) hok (o := off) hw (by simpa using hnf) (x.den β) (by rw [g1]; simp [hcl, hz]) (by simp; omega) (by rw [g1]; exact hcok.one1 β)
    rw [g1] at hrun
    have hbd : β id < w.heap.size := (Array.getElem?_eq_some_iff.1 hw).1
    refine ⟨_, hrun, hi.upd hl hcap putB_size (fun b hb => putB_other hb) rfl rfl rfl ?_ rfl⟩
    refine ⟨by rw [updL_length]; exact k1, k2, .inr ⟨rest, ty, fz, by rw [updL_length]; exact k3, ?_, by rw [updL_length]; exact hnf⟩⟩
    rw [putB_same hbd, hd, updL_eq _ _ _ (by rw [← hd, hcl, hz]; exact hb)]
    congr 2
    have hlx : off + xs.length ≤ vs.length := by rw [← hd, hcl, hz]; exact hb
    simp only [setR]
    rw [List.take_append_of_le_length (by omega), List.drop_append_of_le_length hlx]
    simp

theorem setR_get {L new : List Value} {o : Nat} (h : o + new.length ≤ L.length) (k : Nat) : (setR L o new)[k]? = if k < o then L[k]? else if k < o + new.length then new[k - o]? else L[k]? := by
  unfold setR
  have ht : (L.take o).length = o := by simp; omega
  by_cases h1 : k < o
  · rw [if_pos h1, List.append_assoc, List.getElem?_append_left (by omega), List.getElem?_take, if_pos h1]
  · rw [if_neg h1]
    by_cases h2 : k < o + new.length
    · rw [if_pos h2, List.getElem?_append_left (by simp; omega), List.getElem?_append_right (by omega), ht]
    · rw [if_neg h2, List.getElem?_append_right (by simp; omega), List.getElem?_drop]
      congr 1
      simp; omega
theorem setR_nest {L vs xs : List Value} {s j : Nat} (hl : s + vs.length ≤ L.length) (hj : j + xs.length ≤ vs.length) (hv : ∀ k, k < vs.length → L[s + k]? = vs[k]?) : setR L s (setR vs j xs) = setR L (s + j) xs := by
  apply List.ext_getElem?
  intro k
  have hlen := setR_length (L := vs) (o := j) (new := xs) hj
  rw [setR_get (L := L) (new := setR vs j xs) (o := s) (by rw [hlen]; exact hl), setR_get (L := L) (new := xs) (o := s + j) (by omega), hlen]
  by_cases h1 : k < s
  · rw [if_pos h1, if_pos (by omega)]
  · rw [if_neg h1]
    by_cases h2 : k < s + vs.length
    · rw [if_pos h2, setR_get hj]
      by_cases h3 : k < s + j
      · rw [if_pos h3, if_pos (by omega), ← hv _ (by omega), show s + (k - s) = k by omega]
      · rw [if_neg h3, if_neg (by omega)]
        by_cases h4 : k < s + j + xs.length
        · rw [if_pos h4, if_pos (by omega), show k - s - j = k - (s + j) by omega]
        · rw [if_neg h4, if_neg (by omega), ← hv _ (by omega), show s + (k - s) = k by omega]
    · rw [if_neg h2, if_neg (by omega), if_neg (by omega)]

theorem store_many {P : Program} {t : TypeId} {ti : TI} (hok : ti.ok P t) (hi : Inv C β st a w) {id off ix j : Nat} {l c : List Seg} {vs xs : List Value} {x : SV} (hl : lk st.hp id = some (.cells l)) (hc : cellsOf x = some c) (hx : gd st.nx x) (hz : lenS c = ti.size)
    (hm : locM l off = some (j, vs)) (hv : valsOf c = some xs) (hle : j + ix + ti.size ≤ vs.length) :
    ∃ w', (Instr.storeAt t (.pointer (some ⟨β id, off + ix, none⟩)) (x.den β)).run P w = .ok () w' ∧ Inv C β { st with hp := (id, .cells (setM l off (updL vs (j + ix) xs))) :: rm st.hp id } a w' := by
  have hbk := (hi.hp.blk id _ hl).1
  have hlt' : ltS st.nx l = true := by simpa [SB.lt] using (hi.hp.blk id _ hl).2.1
  have hcok := cells_ok hc hx.2
  have hcl := lenS_den (β := β) hcok
  have hd := valsOf_den hv β
  have hxl : xs.length = ti.size := by rw [← hd, hcl, hz]
  have hone : ∀ v ∈ updL vs (j + ix) xs, one1 v = true := by
    rw [updL_eq _ _ _ (by omega)]
    intro v hv'
    simp only [setR, List.mem_append] at hv'
    have hvs : ∀ v ∈ vs, one1 v = true := by
      intro v hv
      obtain ⟨s, _, _, h3, _⟩ := locM_spec β l off j vs hbk.1 hm
      obtain ⟨k, hk, rfl⟩ := List.mem_iff_getElem.1 hv
      refine hbk.1.one1 β _ (List.mem_of_getElem? (i := s + k) ?_)
      rw [h3 k hk, List.getElem?_eq_getElem hk]
    rcases hv' with (hv' | hv') | hv'
    · exact hvs v (List.mem_of_mem_take hv')
    · rw [← hd] at hv'; exact hcok.one1 β v hv'
    · exact hvs v (List.mem_of_mem_drop hv')
  obtain ⟨k1, k2, s, e1, e2, e3, e4⟩ := setM_spec β st.nx l off j vs (updL vs (j + ix) xs) hbk.1 hlt' hm (updL_length _ _ _) hone
  have he : denS β (setM l off (updL vs (j + ix) xs)) = setR (denS β l) (off + ix) (denS β c) := by
    rw [e3, hd, updL_eq _ _ _ (by omega), setR_nest e2 (by omega) e4, e1, show s + (j + ix) = s + j + ix by omega]
  exact store_cells hok hi hl hc hx hz k1 k2 (by omega) he

theorem storeS_sound {P : Program} {t : TypeId} {ti : TI} (hok : ti.ok P t) (hi : Inv C β st a w) {p x : SV} (hx : gd st.nx x) {K : List (Nat × SB) → Prop} (h : storeS ti st.hp p x K) :
    ∃ hp' w', K hp' ∧ (Instr.storeAt t (p.den β) (x.den β)).run P w = .ok () w' ∧ Inv C β { st with hp := hp' } a w' := by
  unfold storeS at h
  cases hc : cellsOf x with
  | none => simp only [hc] at h
  | some c =>
    simp only [hc] at h
    cases hz : Nat.beq (lenS c) ti.size with
    | false => simp only [hz] at h
    | true =>
      have hz' := Nat.eq_of_beq_eq_true hz
      simp only [hz] at h
      have hcok := cells_ok hc hx.2
      have hcl := lenS_den (β := β) hcok
      have hclt := (cells_den hc β).2 _ hx.1
      cases p <;> simp only at h
      case ptr id off =>
        cases hl : lk st.hp id with
        | none => simp only [hl] at h
        | some s =>
          have hlt := (hi.hp.blk id s hl).2.1
          have hbk := (hi.hp.blk id s hl).1
          cases s with
          | cells l =>
            simp only [hl] at h
            have hlt' : ltS st.nx l = true := by simpa [SB.lt] using hlt
            cases hg : setS l off c ti.size with
            | some l' =>
              simp only [hg] at h
              obtain ⟨g1, g2, g3, g4⟩ := setS_spec (β := β) hbk.1 hlt' hcok hclt (by rw [hcl, hz']) hg
              obtain ⟨w', h1, h2⟩ := store_cells hok hi hl hc hx hz' g2 g3 g4 g1
              exact ⟨_, w', h, h1, h2⟩
            | none =>
              simp only [hg] at h
              cases hm : locM l off with
              | none => simp only [hm] at h
              | some q =>
                obtain ⟨j, vs⟩ := q
                simp only [hm] at h
                cases hv : valsOf c with
                | none => simp only [hv] at h
                | some xs =>
                  simp only [hv] at h
                  obtain ⟨hle, h⟩ := h
                  obtain ⟨w', h1, h2⟩ := store_many hok hi (ix := 0) hl hc hx hz' hm hv hle
                  exact ⟨_, w', h, h1, h2⟩
          | orow vs len cap sz =>
            simp only [hl] at h
            cases hv : valsOf c with
            | none => simp only [hv] at h
            | some xs =>
              simp only [hv] at h
              obtain ⟨hle, hp, h⟩ := h
              obtain ⟨w', h1, h2⟩ := store_orow hok hi hl hc hx hz' hv hle hp
              exact ⟨_, w', h, h1, h2⟩
      case ptrx id off ix =>
        cases hl : lk st.hp id with
        | none => simp only [hl] at h
        | some s =>
          cases s with
          | cells l =>
            simp only [hl] at h
            cases hm : locM l off with
            | none => simp only [hm] at h
            | some q =>
              obtain ⟨j, vs⟩ := q
              simp only [hm] at h
              cases hv : valsOf c with
              | none => simp only [hv] at h
              | some xs =>
                simp only [hv] at h
                obtain ⟨hle, h⟩ := h
                obtain ⟨w', h1, h2⟩ := store_many hok hi hl hc hx hz' hm hv hle
                exact ⟨_, w', h, h1, h2⟩
          | orow vs len cap sz =>
            simp only [hl] at h
            cases hv : valsOf c with
            | none => simp only [hv] at h
            | some xs =>
              simp only [hv] at h
              obtain ⟨hle, hp, h⟩ := h
              obtain ⟨w', h1, h2⟩ := store_orow hok hi hl hc hx hz' hv hle hp
              exact ⟨_, w', h, h1, h2⟩

theorem op_store (hn : Γ.N = C.N) (hty : ∀ t ti, Γ.ty t = some ti → TI.ok C.P t ti) (hk : Nxt C K next) (hi : Inv C β st a w) {t : TypeId} {x y : Operand} (ho : o.op = .store t x y) (h : opS Γ o st K) : o.wpIn (FW r) n C.P a w next Q := by
  simp only [opS, ho] at h
  cases ht : Γ.ty t with
  | none => simp only [ht] at h
  | some ti =>
    simp only [ht] at h
    cases hx : ev st.tm x with
    | none => simp only [hx] at h
    | some p =>
      simp only [hx] at h
      cases hy : ev st.tm y with
      | none => simp only [hy] at h
      | some u =>
        simp only [hy] at h
        cases hd : o.dst with
        | some d => simp only [hd] at h
        | none =>
          simp only [hd] at h
          obtain ⟨h1, _⟩ := ev_sound hi hx
          obtain ⟨h2, h3⟩ := ev_sound hi hy
          cases hr : rowP st.hp p with
          | false =>
            simp only [hr] at h
            obtain ⟨hp', w', g1, g2, g3⟩ := storeS_sound (hty t ti ht) hi h3 h
            refine wpIn_skp (by simp [ho]) (w' := w') (by simp [execOp, ho, h1, h2, g2]) (hk β { st with hp := hp' } _ _ g1 ?_)
            rw [hd]; exact g3
          | true =>
            simp only [hr] at h
            obtain ⟨st', f, k1, k2, k3, k4, k5⟩ := sealS_sound h hi
            obtain ⟨hp', w', g1, g2, g3⟩ := storeS_sound (hty t ti ht) k2 (by rw [k3]; exact k5 _ _ h3) k1
            rw [k4, k4] at g2
            refine wpIn_skp (by simp [ho]) (w' := w') (by simp [execOp, ho, h1, h2, g2]) (hk β { st' with hp := hp' } _ _ g1 ?_)
            rw [hd]; exact g3

end Go.SX
