/-
  SX, part X: the operations on slices.
-/
import Derived.Test.YtgjoileoekbkoaaSXW
set_option linter.unusedVariables false
set_option linter.unusedSimpArgs false
namespace Go.SX

variable {C : Ctx} {Γ : Env} {β : Nat → Nat} {st : SState} {a : Act} {w : World} {o : Oper} {K : SState → Prop} {next : Act → World → Prop} {Q : Exit → Act → World → Prop} {r : Option Nat} {n : Nat}
variable {P : Program}

theorem appS_sound (hC : CtxOk C) (hty : ∀ t ti, Γ.ty t = some ti → TI.ok C.P t ti) (hi : Inv C β st a w) {t tx ty : TypeId} {d x : SV} (hd : gd st.nx d) (hx : gd st.nx x) {K : List (Nat × SB) → SV → Prop} (h : appS Γ st.hp st.fx st.nx t tx d x K) :
    ∃ β' hp' y w', K hp' y ∧ gd (st.nx + 1) y ∧ (Builtin.append_ #[t, tx] ty #[d.den β, x.den β]).run C.P w = .ok (y.den β') w' ∧ Inv C β' { st with hp := hp', nx := st.nx + 1 } a w' := by
  unfold appS at h
  cases hst : isSlc Γ.ty t with
  | false => simp only [hst] at h
  | true =>
  simp only [hst] at h
  cases he : elemAt Γ.ty t with
  | none => simp only [he] at h
  | some ei =>
  simp only [he] at h
  cases ht : Γ.ty tx with
  | none => simp only [ht] at h
  | some ti =>
  simp only [ht] at h
  cases hb0 : Nat.blt 0 ei.bytes with
  | false => simp only [hb0] at h
  | true =>
  simp only [hb0] at h
  cases hz0 : Nat.blt 0 ei.size with
  | false => simp only [hz0] at h
  | true =>
  simp only [hz0] at h
  have hb0' := blt_lt hb0
  have hz0' := blt_lt hz0
  have hxk := hty tx ti ht
  -- the destination's type is a slice's or an array's; an array's is no slice
  unfold elemAt at he
  cases htt : Γ.ty t with
  | none => simp only [htt] at he; cases he
  | some tt =>
  simp only [htt] at he
  have hu := (hty t tt htt).und
  cases hk : tt.k <;> simp only [hk] at he hu <;> try (cases he; done)
  case arr m e => simp [isSlc, htt, hk] at hst
  case slice e =>
  have hei := hty e ei he
  have src : ∀ {n : Nat} {news : List Value}, Src C.P ei.size tx (x.den β) n news w → (∀ v ∈ news, one1 v = true) → (n * ei.bytes ≤ 140737488355328 ∧ ∀ c', n ≤ c' → (n = 0 → c' = 0) → K ((st.nx, .orow news n c' ei.size) :: st.hp) (.osl st.nx n c' .nil)) →
      ∃ β' hp' y w', K hp' y ∧ gd (st.nx + 1) y ∧ (Builtin.append_ #[t, tx] ty #[(SV.nils).den β, x.den β]).run C.P w = .ok (y.den β') w' ∧ Inv C β' { st with hp := hp', nx := st.nx + 1 } a w' :=
    fun hs h1 h => app_nil hC hi hu hei hb0' hs h1 h.1 h.2
  split at h
  · -- onto nothing
    split at h
    · rename_i id lo n c
      split at h
      · rename_i l hl
        cases hsx : isSlc Γ.ty tx with
        | false => simp only [hsx] at h
        | true =>
        simp only [hsx] at h
        cases hg : getS l lo (n * ei.size) with
        | none => simp only [hg] at h
        | some rr =>
          simp only [hg] at h
          obtain ⟨⟨bk, ty', fz, b1, b2⟩, b3, _⟩ := hi.hp.blk id _ hl
          obtain ⟨g1, g2, g3, g4⟩ := getS_spec (β := β) bk (by simpa [SB.lt] using b3) hg
          have htx : ∃ e', C.P.underlying tx = some (.slice e') := by
            simp only [isSlc, ht] at hsx
            have hund := hxk.und
            cases hkx : ti.k <;> simp only [hkx] at hsx hund <;> try (cases hsx; done)
            exact ⟨_, hund⟩
          obtain ⟨e', htx⟩ := htx
          have hr := rowAt_block b1 lo (n * ei.size) (by omega)
          rw [← g1] at hr
          have h1 : ∀ v ∈ denS β rr, one1 v = true := okS.one1 g2 β
          cases hv : valsOf rr with
          | some news =>
            simp only [hv] at h
            cases hb : Nat.beq (lenS rr) (n * ei.size) with
            | false => simp only [hb] at h
            | true =>
              simp only [hb] at h
              have hd := valsOf_den hv β
              have hlen : news.length = n * ei.size := by rw [← hd, lenS_den g2, lenS_of_beq hb]
              rw [hd] at hr h1
              exact src (Src.ofRow htx hlen hr h1) h1 h
          | none =>
            simp only [hv] at h
            cases hn0 : Nat.blt 0 n with
            | false => simp only [hn0] at h
            | true =>
              simp only [hn0] at h
              have hn0' := blt_lt hn0
              cases hb : Nat.beq (lenS rr) (n * ei.size) with
              | false => simp only [hb] at h
              | true =>
                simp only [hb] at h
                have hlen : (denS β rr).length = n * ei.size := by rw [lenS_den g2, lenS_of_beq hb]
                have hs : Src C.P ei.size tx ((SV.sub id lo n c).den β) n (denS β rr) w := Src.ofRow htx hlen hr h1
                obtain ⟨c', w', zs, k1, k2, k3, k4, k5⟩ := app_grow (ty := ty) (cap := 0) (len := 0) (vs := []) (base := none) hC hi hu hei hb0' (by simpa using run_firstCells_none w.drew ei.size 0 0 0) (by simp) hs (by simpa using h1) (by omega) (by simpa using h.1)
                simp only [Nat.zero_add] at k1 k2 k4
                have hinv := k5 (.cells (rr ++ [.many ((c' - n) * ei.size) zs])) (fun β' hβ => by
                  refine ⟨(okS_append _ _).2 ⟨g2, ⟨⟨k2, k3⟩, trivial⟩⟩, e, (0, 0), ?_, nf00 _⟩
                  rw [denS_append, denS_congr hβ rr g3]
                  simp [denS, Seg.den]) (by
                  show ltS st.nx (rr ++ [.many ((c' - n) * ei.size) zs]) = true
                  rw [ltS_append, g3]; rfl)
                refine ⟨_, _, _, w', h.2 c' zs k1 k2, ⟨by simp [SV.lt, Nat.blt], trivial⟩, ?_, hinv⟩
                simp only [SV.den, up_same] at k4 ⊢
                exact k4
      · obtain ⟨n', news, k1, k2, k3⟩ := srcS_sound hxk rfl hi hx h
        exact src k2 k3 k1
    · obtain ⟨n', news, k1, k2, k3⟩ := srcS_sound hxk rfl hi hx h
      exact src k2 k3 k1
  · rename_i id m c z
    split at h
    · rename_i vs len cap s hl
      cases hs : Nat.beq s ei.size with
      | false => simp only [hs] at h
      | true =>
        simp only [hs] at h
        have := Nat.eq_of_beq_eq_true hs; subst this
        obtain ⟨rfl, rfl, hv1, h⟩ := h
        obtain ⟨n', news, k1, k2, k3⟩ := srcS_sound hxk rfl hi hx h
        exact app_row hC hi hu hei hb0' hl hv1 k2 k3 k1.1 k1.2
    · exact h.elim
  · exact h.elim

theorem op_append (hC : CtxOk C) (hn : Γ.N = C.N) (hty : ∀ t ti, Γ.ty t = some ti → TI.ok C.P t ti) (hk : Nxt C K next) (hi : Inv C β st a w) {c : Call} (ho : o.op = .call c) (hc : c.callee = .builtin .append) (h : opS Γ o st K) : o.wpIn (FW r) n C.P a w next Q := by
  simp only [opS, ho, hc] at h
  split at h
  · rename_i d x hargs
    split at h
    · rename_i t tx htys
      cases hd : ev st.tm d with
      | none => simp only [hd] at h
      | some sd =>
        simp only [hd] at h
        cases hx : ev st.tm x with
        | none => simp only [hx] at h
        | some sx =>
          simp only [hx] at h
          obtain ⟨d1, d2⟩ := ev_sound hi hd
          obtain ⟨x1, x2⟩ := ev_sound hi hx
          obtain ⟨st1, f, s1, s2, s3, s4, s5⟩ := sealS_sound h hi
          obtain ⟨β', hp', y, w', k1, k2, k3, k4⟩ := appS_sound (ty := o.type) hC hty s2 (d := f sd) (x := f sx) (by rw [s3]; exact s5 _ _ d2) (by rw [s3]; exact s5 _ _ x2) s1
          rw [s4, s4] at k3
          have ea : c.args.map a.eval = #[sd.den β, sx.den β] := by
            apply Array.ext'; rw [Array.toList_map, hargs]; simp [d1, x1]
          have et : c.argTypes = #[t, tx] := by apply Array.ext'; rw [htys]
          refine fin_val hn hk (by simp [ho]) ?_ k1 k4 k2
          have hargs : c.args = #[d, x] := by apply Array.ext'; rw [hargs]
          simp only [execOp, ho, resolve, hc, Sem.run_bind, Sem.run_pure, Result.andThen_ok, invoke, builtin]
          rw [hargs] at ea ⊢
          simp [d1, x1, et, k3]
    · exact h.elim
  · exact h.elim


/-! ### Slice expressions -/
theorem bndS_sound (hi : Inv C β st a w) {len cap : Nat} {lo hi' mx : Option Operand} {K : Nat → Nat → Nat → Prop} (b : Bool) (h : bndS st.tm len cap lo hi' mx K) :
    ∃ l h m, K l h m ∧ l ≤ h ∧ m ≤ cap ∧ (h = len ∨ h ≤ m) ∧ (lo = none → l = 0) ∧ (mx = none → m = cap) ∧ (Instr.sliceBounds b len cap (lo.map a.eval) (hi'.map a.eval) (mx.map a.eval)).run C.P w = .ok (l, h, m) w := by
  have val : ∀ {x : Option Operand} {n : Option Int}, (match x with
      | none => some none
      | some x => match ev st.tm x with
        | some (.v (.int _ n)) => some (some n)
        | _ => none) = some n → (x = none ∧ n = none) ∨ ∃ y k i, x = some y ∧ n = some i ∧ a.eval y = .int k i := by
    intro x n h
    cases x with
    | none => simp at h; exact .inl ⟨rfl, h.symm⟩
    | some y =>
      simp only at h
      split at h
      · rename_i k i he
        cases h
        exact .inr ⟨y, k, i, rfl, rfl, (ev_sound hi he).1⟩
      · cases h
  unfold bndS at h
  split at h
  · exact h.elim
  rename_i m hm
  split at h
  · exact h.elim
  rename_i hh hhm
  split at h
  · exact h.elim
  rename_i l hl
  have nat : ∀ i : Int, 0 ≤ i → ((i.toNat : Nat) : Int) = i := fun i h => Int.toNat_of_nonneg h
  rcases val hm with ⟨rfl, rfl⟩ | ⟨ym, km, im, rfl, rfl, em⟩ <;> rcases val hhm with ⟨rfl, rfl⟩ | ⟨yh, kh, ih, rfl, rfl, eh⟩ <;> rcases val hl with ⟨rfl, rfl⟩ | ⟨yl, kl, il, rfl, rfl, el⟩ <;> simp only at h
  · exact ⟨0, len, cap, h, Nat.zero_le _, Nat.le_refl _, by first | exact .inl rfl | (right; omega), fun _ => rfl, fun _ => rfl, by simp [Instr.sliceBounds]⟩
  · obtain ⟨⟨h1, h2⟩, h⟩ := h
    exact ⟨_, _, _, h, by omega, Nat.le_refl _, by first | exact .inl rfl | (right; omega), by simp, fun _ => rfl, by simp [Instr.sliceBounds, el, run_sliceBound, h1, h2]⟩
  · obtain ⟨⟨h1, h2⟩, h⟩ := h
    exact ⟨_, _, _, h, by omega, Nat.le_refl _, by first | exact .inl rfl | (right; omega), fun _ => rfl, fun _ => rfl, by simp [Instr.sliceBounds, eh, run_sliceBound, h1, h2]⟩
  · obtain ⟨⟨h1, h2, h3⟩, h⟩ := h
    exact ⟨_, _, _, h, by omega, Nat.le_refl _, by first | exact .inl rfl | (right; omega), by simp, fun _ => rfl, by
      simp [Instr.sliceBounds, eh, el, run_sliceBound, h1, h3, (by omega : 0 ≤ ih), nat ih (by omega), h2]⟩
  · obtain ⟨⟨h1, h2, h3⟩, h⟩ := h
    exact ⟨_, _, _, h, by omega, by omega, by right; omega, fun _ => rfl, by simp, by
      simp [Instr.sliceBounds, eh, em, run_sliceBound, h1, h3, (by omega : 0 ≤ im), nat im (by omega), h2]⟩
  · obtain ⟨⟨h1, h2, h3, h4⟩, h⟩ := h
    exact ⟨_, _, _, h, by omega, by omega, by right; omega, by simp, by simp, by
      simp [Instr.sliceBounds, eh, el, em, run_sliceBound, h1, h4, (by omega : 0 ≤ im), (by omega : 0 ≤ ih), nat im (by omega), nat ih (by omega), h2, h3]⟩

theorem sliS_sound (hty : ∀ t ti, Γ.ty t = some ti → TI.ok C.P t ti) (hi : Inv C β st a w) {t : TypeId} {x : SV} (hx : gd st.nx x) {lo hi' mx : Option Operand} {K : SState → SV → Prop} (h : sliS Γ st t x lo hi' mx K) :
    ∃ st' y, K st' y ∧ gd st'.nx y ∧ (Instr.sliceAt t (x.den β) (lo.map a.eval) (hi'.map a.eval) (mx.map a.eval)).run C.P w = .ok (y.den β) w ∧ Inv C β st' a w := by
  unfold sliS at h
  cases ht : Γ.ty t with
  | none => simp only [ht] at h
  | some ti =>
  simp only [ht] at h
  have hu := (hty t ti ht).und
  have dead : ∀ (sz : Nat) (ad : Option Addr), gd (newS st (.orow [] 0 0 sz)).nx (.osl st.nx 0 0 (.src ad)) := fun sz ad => ⟨by simp [SV.lt, newS, Nat.blt], trivial⟩
  cases hk : ti.k <;> simp only [hk] at h hu
  case slice e =>
    cases he : Γ.ty e with
    | none => simp only [he] at h
    | some ei =>
      simp only [he] at h
      have hsz := (hty e ei he).size
      have run : ∀ {ad : Option Addr} {n c l h m : Nat}, (Instr.sliceBounds true n c (lo.map a.eval) (hi'.map a.eval) (mx.map a.eval)).run C.P w = .ok (l, h, m) w →
          (Instr.sliceAt t (.slice ad n c) (lo.map a.eval) (hi'.map a.eval) (mx.map a.eval)).run C.P w = .ok (.slice (if m = l then ad else ad.map (·.add (l * ei.size))) (h - l) (m - l)) w := by
        intro ad n c l h m hb
        simp [Instr.sliceAt, Instr.slice, run_underlying hu, hb, hsz]
      split at h
      · obtain ⟨l, hh, m, h1, h2, h3, h7, h4, h5, h6⟩ := bndS_sound hi true h
        refine ⟨st, _, h1, ⟨rfl, trivial⟩, ?_, hi⟩
        obtain rfl : m = 0 := by omega
        obtain rfl : hh = 0 := by omega
        obtain rfl : l = 0 := by omega
        simpa [SV.den] using run (ad := none) h6
      · rename_i ad n c
        obtain ⟨l, hh, m, h1, h2, h3, h7, h4, h5, h6⟩ := bndS_sound hi true h
        exact ⟨st, _, h1, ⟨rfl, trivial⟩, run h6, hi⟩
      · rename_i id n c z
        have hnone : ∀ ad : Option Addr, ad = (if c = 0 then z.den (β id) else some ⟨β id, 0, none⟩) → ad.isNone = (c == 0 && z.isNil) := by
          rintro ad rfl
          by_cases hc : c = 0
          · subst hc; cases z <;> simp [ZB.den, ZB.isNil]
          · simp [hc]
        have far : ∀ {l hh m : Nat}, l ≤ hh → m ≤ c → (Instr.sliceBounds true n c (lo.map a.eval) (hi'.map a.eval) (mx.map a.eval)).run C.P w = .ok (l, hh, m) w → (hh ≤ m ∧ (m = l → ∀ a : Option Addr, (a.isNone = (c == 0 && z.isNil)) → K (newS st (.orow [] 0 0 ei.size)) (.osl st.nx 0 0 (.src a))) ∧ (m ≠ l → K st (.sub id (l * ei.size) (hh - l) (m - l)))) →
            ∃ st' y, K st' y ∧ gd st'.nx y ∧ (Instr.sliceAt t ((SV.osl id n c z).den β) (lo.map a.eval) (hi'.map a.eval) (mx.map a.eval)).run C.P w = .ok (y.den β) w ∧ Inv C β st' a w := by
          rintro l hh m h2 h3 h6 ⟨g1, g2, g3⟩
          by_cases e : m = l
          · subst e
            refine ⟨_, _, g2 rfl _ (hnone _ rfl), dead _ _, ?_, hi.dead ei.size⟩
            simp only [SV.den]
            rw [run h6]
            obtain rfl : hh = m := by omega
            simp [ZB.den]
          · refine ⟨st, _, g3 e, ⟨hx.1, trivial⟩, ?_, hi⟩
            have hc : c ≠ 0 := by omega
            simp only [SV.den, if_neg hc]
            rw [run h6, if_neg e]
            simp [add_pl]
        split at h
        · split at h
          · obtain ⟨l, hh, m, h1, h2, h3, h7, h4, h5, h6⟩ := bndS_sound hi true h
            obtain rfl := h4 rfl
            obtain rfl := h5 rfl
            refine ⟨st, _, h1, ⟨hx.1, trivial⟩, ?_, hi⟩
            simp only [SV.den]
            rw [run h6]
            by_cases hc : m = 0
            · simp [hc]
            · simp [hc, add_zero']
          · obtain ⟨l, hh, m, h1, h2, h3, h7, h4, h5, h6⟩ := bndS_sound hi true h
            obtain rfl := h4 rfl
            exact far h2 h3 h6 (by simpa using h1)
        · obtain ⟨l, hh, m, h1, h2, h3, h7, h4, h5, h6⟩ := bndS_sound hi true h
          exact far h2 h3 h6 h1
      · rename_i id b n c
        obtain ⟨l, hh, m, ⟨g1, g2, g3⟩, h2, h3, h7, h4, h5, h6⟩ := bndS_sound hi true h
        by_cases e : m = l
        · subst e
          refine ⟨_, _, g2 rfl (some ⟨β id, b, none⟩) rfl, dead _ _, ?_, hi.dead ei.size⟩
          simp only [SV.den]
          rw [run h6]
          obtain rfl : hh = m := by omega
          simp [ZB.den]
        · refine ⟨st, _, g3 e, ⟨hx.1, trivial⟩, ?_, hi⟩
          simp only [SV.den]
          rw [run h6, if_neg e]
          simp [add_pl]
      · exact h.elim
  case str =>
    split at h
    · rename_i s
      split at h
      · obtain ⟨l, hh, m, h1, h2, h3, h7, h4, h5, h6⟩ := bndS_sound hi false h
        refine ⟨st, _, h1, ⟨rfl, trivial⟩, ?_, hi⟩
        simp only [Option.map_none] at h6
        simp [SV.den, Instr.sliceAt, Instr.slice, run_underlying hu, h6]
      · exact h.elim
    · exact h.elim


theorem op_slice (hn : Γ.N = C.N) (hty : ∀ t ti, Γ.ty t = some ti → TI.ok C.P t ti) (hk : NxtE C β w K next) (hi : Inv C β st a w) {t : TypeId} {x : Operand} {lo hi' mx : Option Operand} (ho : o.op = .slice t x lo hi' mx) (h : opS Γ o st K) : Ev C o a w next := by
  simp only [opS, ho] at h
  cases hx : ev st.tm x with
  | none => simp only [hx] at h
  | some s =>
    simp only [hx] at h
    obtain ⟨h1, h2⟩ := ev_sound hi hx
    obtain ⟨st', y, k1, k2, k3, k4⟩ := sliS_sound hty hi h2 h
    obtain ⟨st2, g1, g2⟩ := putS_sound hn k1 k4 k2
    exact ⟨by simp [ho], _, by simp [execOp, ho, h1, k3], hk _ _ g1 g2⟩

theorem zerosS_spec (z : List Seg) (hz : okS z) (hl : ltS 0 z = true) (m : Nat) : ∀ n, okS (zerosS z n) ∧ ltS m (zerosS z n) = true ∧ ∀ β, denS β (zerosS z n) = (List.replicate n (denS β z)).flatten
  | 0 => ⟨trivial, rfl, fun β => by simp [zerosS, denS]⟩
  | n + 1 => by
    obtain ⟨h1, h2, h3⟩ := zerosS_spec z hz hl m n
    refine ⟨(okS_append _ _).2 ⟨hz, h1⟩, ?_, fun β => ?_⟩
    · simp [zerosS, ltS_append, h2, ltS_mono (Nat.zero_le m) z hl]
    · simp [zerosS, denS_append, h3, List.replicate_succ]

theorem rep_get {α : Type} (z : List α) (n : Nat) (j : Nat) (hj : j < n * z.length) : (List.replicate n z).flatten[j]? = z[j % z.length]? := by
  induction n generalizing j with
  | zero => omega
  | succ n ih =>
    rw [List.replicate_succ, List.flatten_cons]
    rcases Nat.lt_or_ge j z.length with h | h
    · rw [List.getElem?_append_left h, Nat.mod_eq_of_lt h]
    · rw [List.getElem?_append_right h, ih (j - z.length) (by rw [Nat.succ_mul] at hj; omega)]
      rw [Nat.mod_eq_sub_mod h]

theorem range_rep (z : Array Value) (n : Nat) (h0 : 0 < z.size) : ((Array.range (n * z.size)).map (z[· % z.size]!)) = ((List.replicate n z.toList).flatten).toArray := by
  apply Array.ext_getElem?
  intro j
  rw [Array.getElem?_map]
  rcases Nat.lt_or_ge j (n * z.size) with h | h
  · have h1 : (Array.range (n * z.size))[j]? = some j := by simp [h]
    rw [h1]
    have := rep_get z.toList n j (by simpa using h)
    simp only [Option.map_some, List.getElem?_toArray]
    rw [this]
    have hm : j % z.size < z.size := Nat.mod_lt _ h0
    rw [getElem!_pos z _ hm]
    simp [hm]
  · have h1 : (Array.range (n * z.size))[j]? = none := by simp [h]
    have h2 : (List.replicate n z.toList).flatten.length = n * z.size := by simp
    rw [h1]
    simp only [Option.map_none, List.getElem?_toArray]
    rw [List.getElem?_eq_none (by rw [h2]; exact h)]

theorem op_buildSlice (hC : CtxOk C) (hn : Γ.N = C.N) (hty : ∀ t ti, Γ.ty t = some ti → TI.ok C.P t ti) (hk : Nxt C K next) (hi : Inv C β st a w) {t : TypeId} {len : Nat} {ps : Array (Nat × Operand)} (ho : o.op = .buildSlice t len ps) (h : opS Γ o st K) : o.wpIn (FW r) n C.P a w next Q := by
  simp only [opS, ho] at h
  cases he : elemAt Γ.ty t with
  | none => simp only [he] at h
  | some ei =>
  simp only [he] at h
  cases ht : Γ.ty t with
  | none => simp only [ht] at h
  | some ti =>
  simp only [ht] at h
  have hu := (hty t ti ht).und
  cases hkd : ti.k <;> simp only [hkd] at h hu
  case slice e =>
  have hei : ei.ok C.P e ∧ Γ.ty e = some ei := by
    simp only [elemAt, ht, hkd] at he
    exact ⟨hty e ei he, he⟩
  obtain ⟨hei, hee⟩ := hei
  cases hp : evP st.tm ps.toList with
  | none => simp only [hp] at h
  | some l =>
  simp only [hp] at h
  obtain ⟨k1, k2⟩ := evP_sound hi hp
  obtain ⟨i, hi1, hi2, hi3, z, hz1, hz2⟩ := hei.inf
  have hzs : z.cells.size = ei.size := by
    have h1 := hei.zln
    have h2 := lenS_den (β := fun i => i) hei.zok
    rw [← hz2] at h2; simpa [h1] using h2
  have hparts : (ps.map (fun (i, x) => (i, a.eval x))).toList = l.map (fun p => (p.1, p.2.den β)) := by rw [← k1]; simp
  cases len with
  | zero =>
    simp only at h
    cases l with
    | cons p q => simp only at h
    | nil =>
      simp only at h
      have hinv := hi.new (o := .cells #[] e) hC (b := .orow [] 0 0 ei.size) (fun β' _ => ⟨by simp, Nat.le_refl _, .inl rfl⟩) rfl
      refine fin_val hn hk (by simp [ho]) (x := .osl st.nx 0 0 .own) ?_ h hinv ⟨by simp [SV.lt, newS, Nat.blt], trivial⟩
      have hps : ps = #[] := by
        have := congrArg List.length hparts
        simp at this; exact this
      simp [execOp, ho, hps, Instr.buildSlice, run_underlying hu, sizeOf, typeInfo, hi1, Instr.fill, newRow, SV.den, ZB.den, up_same, Array.range_zero']
  | succ m =>
    simp only at h
    cases hf : fillS Γ.ty { ti with k := .arr (m + 1) e } l (zerosS ei.zero (m + 1)) with
    | none => simp only [hf] at h
    | some l' =>
    simp only [hf] at h
    cases hbig : Nat.ble ((m + 1) * ei.size) 16777216 with
    | false => simp only [hbig] at h
    | true =>
    simp only [hbig] at h
    cases hz0 : Nat.blt 0 ei.size with
    | false => simp only [hz0] at h
    | true =>
    simp only [hz0] at h
    have hz0' := blt_lt hz0
    obtain ⟨e1, e2, e3⟩ := zerosS_spec ei.zero hei.zok hei.zlt st.nx (m + 1)
    obtain ⟨f1, f2, f3⟩ := fillS_sound (β := β) (n := st.nx) (fun i => some (i * ei.size, ei.size)) (by
      rintro i off size ⟨fi, h1, h2, h3⟩
      rw [hee] at h1; cases h1
      rw [← h2, h3]) hf e1 e2 k2
    have hrange : ((Array.range ((m + 1) * i.size)).map (z.cells[· % z.cells.size]!)) = (denS β (zerosS ei.zero (m + 1))).toArray := by
      rw [hi2, ← hzs, range_rep z.cells (m + 1) (by omega), e3 β, hz2]
      rw [denS_congr (n := 0) (fun i hi => absurd hi (Nat.not_lt_zero i)) ei.zero hei.zlt]
    have hrun := run_buildSlice (P := C.P) w t e (m + 1) (ps.map (fun (i, x) => (i, a.eval x))) _ i z hu hi1 hz1 (by rw [hi2]; have := ble_le hbig; omega) (by rw [hi2]; exact Nat.mul_ne_zero (by omega) (by omega)) (by rw [hrange, hparts, hi2]; exact f3)
    have hinv := hi.new (o := .cells (denS β l').toArray e) hC (b := .cells l') (fun β' hβ => ⟨f1, e, (0, 0), by rw [denS_congr hβ l' f2], nf00 _⟩) f2
    refine fin_val hn hk (by simp [ho]) (x := .sub st.nx 0 (m + 1) (m + 1)) ?_ h hinv ⟨by simp [SV.lt, newS, Nat.blt], trivial⟩
    simp only [execOp, ho, Sem.run_bind, hrun, Result.andThen_ok, Sem.run_pure, SV.den, up_same]

theorem zerosV_eq (z : List Value) : ∀ n, zerosV z n = (List.replicate n z).flatten
  | 0 => by simp [zerosV]
  | n + 1 => by simp [zerosV, zerosV_eq z n, List.replicate_succ]

theorem op_makeSlice (hC : CtxOk C) (hn : Γ.N = C.N) (hty : ∀ t ti, Γ.ty t = some ti → TI.ok C.P t ti) (hk : Nxt C K next) (hi : Inv C β st a w) {t : TypeId} {x y : Operand} (ho : o.op = .makeSlice t x y) (h : opS Γ o st K) : o.wpIn (FW r) n C.P a w next Q := by
  simp only [opS, ho] at h
  cases he : elemAt Γ.ty t with
  | none => simp only [he] at h
  | some ei =>
  simp only [he] at h
  cases ht : Γ.ty t with
  | none => simp only [ht] at h
  | some ti =>
  simp only [ht] at h
  have hu := (hty t ti ht).und
  cases hkd : ti.k <;> simp only [hkd] at h hu
  case slice e =>
  have hei : ei.ok C.P e := by
    simp only [elemAt, ht, hkd] at he
    exact hty e ei he
  split at h
  · rename_i kl l hl
    split at h
    · rename_i kc c hc
      cases hzv : valsOf ei.zero with
      | none => simp only [hzv] at h
      | some zv =>
        simp only [hzv] at h
        obtain ⟨⟨h0, h1, h2, h3⟩, h⟩ := h
        obtain ⟨i, hi1, hi2, hi3, z, hz1, hz2⟩ := hei.inf
        have hzs : z.cells.toList = zv := by rw [hz2]; exact valsOf_den hzv _
        have hzl : z.cells.size = ei.size := by
          have g1 := hei.zln
          have g2 := lenS_den (β := fun i => i) hei.zok
          rw [← hz2] at g2; simpa [g1] using g2
        obtain ⟨l1, _⟩ := ev_sound hi hl
        obtain ⟨c1, _⟩ := ev_sound hi hc
        have hrun := run_make (P := C.P) w t e i z hu hi1 hz1 kl kc l c h0 h1 (by rw [hi3]; exact h2) h3
        have hcells : madeCells z.cells (c.toNat * i.size) = ((List.replicate c.toNat zv).flatten).toArray := by
          rw [hi2, ← hzs]
          rcases Nat.eq_zero_or_pos ei.size with h | h
          · have hz : z.cells = #[] := by apply Array.eq_empty_of_size_eq_zero; omega
            simp [madeCells, h, hz, Array.range_zero']
          · rw [← hzl]
            exact range_rep z.cells c.toNat (by omega)
        rw [hcells] at hrun
        have hsplit : (List.replicate c.toNat zv).flatten = zerosV zv l.toNat ++ zerosV zv (c.toNat - l.toNat) := by
          rw [zerosV_eq, zerosV_eq, ← List.flatten_append, List.replicate_append_replicate]
          congr 2; omega
        have hzvl : zv.length = ei.size := by rw [← hzs]; simpa using hzl
        have hinv := hi.new (o := .cells ((List.replicate c.toNat zv).flatten).toArray e) hC (b := .orow (zerosV zv l.toNat) l.toNat c.toNat ei.size) (fun β' _ => by
          rw [hsplit]
          exact den_orow_new (by rw [zerosV_eq]; simp [hzvl]) (by omega) (by rw [zerosV_eq]; simp [hzvl])) rfl
        refine fin_val hn hk (by simp [ho]) (x := .osl st.nx l.toNat c.toNat .own) ?_ h hinv ⟨by simp [SV.lt, newS, Nat.blt], trivial⟩
        simp only [execOp, ho, Sem.run_bind, l1, c1, SV.den] at hrun ⊢
        rw [hrun]
        simp [up_same, ZB.den]
    · exact h.elim
  · exact h.elim

theorem op_toBytes (hC : CtxOk C) (hn : Γ.N = C.N) (hty : ∀ t ti, Γ.ty t = some ti → TI.ok C.P t ti) (hk : Nxt C K next) (hi : Inv C β st a w) {s d : TypeId} {x : Operand} (ho : o.op = .convert s d x) (hac : acv Γ o = true) (h : opS Γ o st K) : o.wpIn (FW r) n C.P a w next Q := by
  simp only [acv, ho] at hac
  simp only [opS, ho] at h
  cases hs : Γ.ty s with
  | none => simp only [hs] at h
  | some si =>
    simp only [hs] at h
    cases ht : Γ.ty d with
    | none => simp only [ht] at h
    | some ti =>
      simp only [ht] at h
      have hu := (hty d ti ht).und
      have hus := (hty s si hs).und
      cases hkd : ti.k <;> simp only [hkd] at h hu <;> try (simp [isSlc, ht, hkd] at hac; done)
      case slice e =>
        cases hks : si.k <;> simp only [hks] at h hus
        case str =>
          split at h
          · rename_i hb
            split at h
            · rename_i str hx
              obtain ⟨h1, h2⟩ := ev_sound hi hx
              have he := isU8T_ok hty hb
              have hrun := run_bytes_of_string (P := C.P) w s d e str hus hu he
              have hge := grownCap_ge w str.size 0 e
              have hd : Inv C β st a w.drew := hi.drew
              have hinv := hd.new (o := .cells (bytesRow str (grownCap w str.size 0 e)) e ((bytesRow str (grownCap w str.size 0 e)).size, (bytesRow str (grownCap w str.size 0 e)).size + 1)) hC (b := .orow (byteCells str) str.size (grownCap w str.size 0 e) 1) (fun β' _ => by
                refine ⟨by simp [byteCells], hge, .inr ⟨List.replicate (grownCap w str.size 0 e - str.size) (.int .u8 0), e, ((bytesRow str (grownCap w str.size 0 e)).size, (bytesRow str (grownCap w str.size 0 e)).size + 1), ?_, ?_, ?_⟩⟩
                · simp [byteCells]; omega
                · congr 2
                  apply Array.ext'
                  simp [bytesRow, byteCells]
                · intro o ho
                  have : o < (bytesRow str (grownCap w str.size 0 e)).size := by
                    simp [bytesRow, byteCells] at ho ⊢; omega
                  simp; omega) rfl
              refine fin_val hn hk (by simp [ho]) (x := .osl st.nx str.size (grownCap w str.size 0 e) .own) ?_ (h _ hge) hinv ⟨by simp [SV.lt, newS, Nat.blt], trivial⟩
              simp only [execOp, ho, h1, SV.den, Sem.run_bind, hrun, Result.andThen_ok, Sem.run_pure, up_same, ZB.den]
              split <;> rfl
            · exact h.elim
          · exact h.elim

end Go.SX
