/-
  SX, part Y: a range over a function.
-/
import Derived.Test.YtgjoileoekbkoaaSXS
import Derived.RangeFuncRecord
import Derived.RangeFuncIn
import Derived.RangeFuncNested
set_option linter.unusedVariables false
set_option linter.unusedSimpArgs false
namespace Go.SX

variable {C : Ctx} {Γ : Env} {β : Nat → Nat} {st : SState} {a : Act} {w : World} {o : Oper} {K : SState → Prop} {next : Act → World → Prop} {Q : Exit → Act → World → Prop} {r : Option Nat} {n : Nat}

/-- Back from a run under a baseline of its own. -/
theorem HInv.back (hC : CtxOk C) (h : HInv C β st w) {β' : Nat → Nat} {st' : SState} {w' : World} (hp' : HpOk C.X β' st'.hp st'.nx w') (old' : ∀ i s, lk st'.hp i = some s → s.live → trk β st.hp (β' i) ∨ w.heap.size ≤ β' i) (hag : AgreeOff (fun b => trk β st.hp b ∨ b ∈ C.ls) w w')
    (fx' : ∀ w'', AgreeOff (fun b => (C.X b ∨ isDef w' b) ∨ trk β' st'.hp b) w' w'' → st'.fx w'') (hnx : st.nx ≤ st'.nx) (hβ : ∀ i, i < st.nx → β' i = β i) (xs' : ∀ b, C.X b → w'.heap[b]? = xhOf C.ls st'.pe C.xh b) : HInv C β' st' w' where
  siz := rfl
  dfr := ⟨[], rfl, List.nodup_nil, fun D hD => by simp at hD⟩
  tm := fun s x hs => by simp [lk] at hs
  hp := hp'
  old := fun i s hs ls => by
    rcases old' i s hs ls with ⟨j, t, h1, h2, h3⟩ | h1
    · rw [← h3]; exact h.old j t h1 h2
    · exact .inr (Nat.le_trans h.frm.size h1)
  frm := AgreeOff.step h.frm hag (by
    rintro b hb (⟨j, t, h1, h2, rfl⟩ | hm)
    · rcases h.old j t h1 h2 with h3 | h3
      · exact h3
      · exact absurd hb (Nat.not_lt.2 h3)
    · exact (hC.lsx b hm).2 hb)
  fx := fx'
  xs := xs'
  fix := fun i hi => ⟨Nat.lt_of_lt_of_le (h.fix i hi).1 hnx, by rw [hβ i (h.fix i hi).1]; exact (h.fix i hi).2⟩


def Facts (β : Nat → Nat) (nx : Nat) (tm : List (Nat × SV)) (T : Array Value) : Prop := ∀ s x, lk tm s = some x → T[s]? = some (x.den β) ∧ gd nx x

theorem setPs_sound {N nx : Nat} : ∀ (ps : List Tmp) (as : List SV) (tm tm' : List (Nat × SV)) (T : Array Value), setPs N ps as tm = some tm' → T.size = N → Facts β nx tm T → ltL nx as = true → (∀ x ∈ as, okV x) →
    (List.foldl (fun (t : Array Value) (p : Tmp × Value) => t.setIfInBounds p.1 p.2) T (ps.zip (denL β as))).size = N ∧ Facts β nx tm' (List.foldl (fun (t : Array Value) (p : Tmp × Value) => t.setIfInBounds p.1 p.2) T (ps.zip (denL β as))) ∧ ps.length = as.length
  | [], [], tm, tm', T, h, hT, hf, _, _ => by
    simp only [setPs] at h; cases h
    simpa [denL] using ⟨hT, hf⟩
  | [], x :: l, tm, tm', T, h, _, _, _, _ => by simp [setPs] at h
  | p :: r, [], tm, tm', T, h, _, _, _, _ => by simp [setPs] at h
  | p :: r, x :: l, tm, tm', T, h, hT, hf, hl, hok => by
    simp only [setPs] at h
    cases hb : Nat.blt p N with
    | false => simp [hb] at h
    | true =>
      simp only [hb] at h
      have hl' : x.lt nx = true ∧ ltL nx l = true := by simpa [ltL] using hl
      have hgo : setPs N r l ((p, x) :: tm) = some tm' := by
        cases x <;> first | exact h | cases h
      have hx : gd nx x := ⟨hl'.1, hok x (by simp)⟩
      have hp := blt_lt hb
      obtain ⟨g1, g2, g3⟩ := setPs_sound r l ((p, x) :: tm) tm' (T.setIfInBounds p (x.den β)) hgo (by simpa using hT) (fun s y hs => by
        simp only [lk_cons] at hs
        by_cases e : p = s
        · subst e
          rw [if_pos rfl] at hs; cases hs
          exact ⟨by rw [Array.getElem?_setIfInBounds_self_of_lt (by omega)], hx⟩
        · rw [if_neg e] at hs
          obtain ⟨k1, k2⟩ := hf s y hs
          exact ⟨by rw [Array.getElem?_setIfInBounds_ne e]; exact k1, k2⟩) hl'.2 (fun y hy => hok y (by simp [hy]))
      exact ⟨by simpa [denL] using g1, by simpa [denL] using g2, by simp [g3]⟩


theorem HInv.lt (hC : CtxOk C) (h : HInv C β st w) {b : Nat} (hb : C.X b) : b < w.heap.size := by
  have h1 := hC.xsm b hb
  have h2 : w.heap[b]? = xhOf C.ls st.pe C.xh b := h.xs b hb
  rw [← xhOf_some C.ls st.pe, ← h2] at h1
  obtain ⟨o, ho⟩ := Option.isSome_iff_exists.1 h1
  exact (Array.getElem?_eq_some_iff.1 ho).1

/-- What a yield does, for a run under a baseline of its own. -/
theorem YOk.ext (hC : CtxOk C) {l : Nat} {Y : Yd} (hy : YOk C l Y) {C3 : Ctx} (hC3 : CtxOk C3) (hP : C3.P = C.P) (hls : C3.ls = C.ls) (h : HInv C β st w) (hX : ∀ b, C.X b → C3.X b) (hxh : ∀ b, C.X b → C3.xh b = C.xh b) (hw0 : C3.w0 = w)
    (hT : ∀ b, C3.T0 b → trk β st.hp b ∨ b ∈ C.ls ∨ C.w0.heap.size ≤ b) (hF : C.F ≤ C3.F) (hβ : ∀ i, i < C.F → C3.β0 i = C.β0 i)
    (hXd : ∀ b, C3.X b → C.X b ∨ ∃ o : Obj, C3.xh b = some o ∧ (match o with | .cells _ _ _ => false | _ => true) = true) : YOk C3 l Y := by
  intro F β0 β1 st1 w1 as K hF' hβ' hi hlt hok hY
  have hTC : ∀ b, C3.T0 b → C.T0 b ∨ C.w0.heap.size ≤ b := fun b hb => by
    rcases hT b hb with ⟨j, t, h1, h2, h3⟩ | hm | h1
    · rw [← h3]; exact h.old j t h1 h2
    · rcases Nat.lt_or_ge b C.w0.heap.size with h0 | h0
      · exact .inl ((hC.lsx b hm).2 h0)
      · exact .inr h0
    · exact .inr h1
  have hxs : ∀ b, C3.X b → w1.heap[b]? = xhOf C.ls st1.pe C3.xh b := fun b hb => by
    have := hi.xs b hb
    rw [← hls]; exact this
  have hi0 : HInv { C with F := F, β0 := β0 } β1 st1 w1 := {
    siz := rfl
    dfr := ⟨[], rfl, List.nodup_nil, fun D hD => by simp at hD⟩
    tm := fun s x hs => by simp [lk] at hs
    hp := ⟨hi.hp.blk, hi.hp.inj, fun i s hs ls hx => hi.hp.exc i s hs ls (hX _ hx)⟩
    old := fun i s hs ls => by
      rcases hi.old i s hs ls with h1 | h1
      · exact hTC _ h1
      · refine .inr (Nat.le_trans h.frm.size ?_)
        have h1' : C3.w0.heap.size ≤ β1 i := h1
        rw [hw0] at h1'; exact h1'
    frm := by
      have := hi.frm
      have this' : AgreeOff C3.T0 C3.w0 w1 := this
      rw [hw0] at this'
      exact AgreeOff.step h.frm this' (fun b hb hT => (hTC b hT).resolve_right (Nat.not_le.2 hb))
    fx := fun w' hw' => hi.fx w' (hw'.mono (by
      rintro b hb ((hx | hd) | hx)
      · exact .inl (.inl (hX b hx))
      · exact .inl (.inr hd)
      · exact .inr hx))
    xs := fun b hb => by
      show w1.heap[b]? = xhOf C.ls st1.pe C.xh b
      rw [hxs b (hX b hb)]; exact xhOf_off _ _ (hxh b hb)
    fix := hi.fix }
  obtain ⟨f, tmps, asg, bd, y1, y2⟩ := hy F β0 β1 st1 w1 as K (Nat.le_trans hF hF') (fun i hi => by rw [hβ' i (Nat.lt_of_lt_of_le hi hF)]; exact hβ i hi) hi0 hlt hok hY
  refine ⟨f, tmps, asg, bd, by rw [hP]; exact y1, fun r n => ?_⟩
  have y3 := y2 r n
  rw [← hP] at y3
  refine y3.mono ?_
  rintro e w' ⟨β', st', ex, he, hK, hr, hnx, hb', hag, hold⟩
  have hC3' : CtxOk { C3 with F := F, β0 := β0 } := ⟨hC3.xsm, hC3.lsx⟩
  have hlt3 : ∀ b, C3.X b → b < w1.heap.size := fun b hb => HInv.lt (C := { C3 with F := F, β0 := β0 }) hC3' hi hb
  have hsame : ∀ b, C3.X b → ¬ C.X b → w'.heap[b]? = C3.xh b := fun b hb hn => by
    have hnl : b ∉ C.ls := fun hm => hn (hC.lsx b hm).1
    rw [hag.same b (hlt3 b hb) (fun h => h.elim (fun ⟨j, t, k1, k2, k3⟩ => hi.hp.exc j t k1 k2 (k3 ▸ hb)) hnl), hxs b hb]
    exact xhOf_not _ _ hnl
  refine ⟨β', st', ex, he, hK, HInv.back (C := { C3 with F := F, β0 := β0 }) (st' := st') hC3' hi ⟨hr.hp.blk, hr.hp.inj, fun i s hs ls hx => ?_⟩ hold (by rw [show ({ C3 with F := F, β0 := β0 } : Ctx).ls = C.ls from hls]; exact hag) (fun w'' hw'' => hr.fx w'' (hw''.mono ?_)) hnx hb' (fun b hb => ?_), hnx, hb', by rw [hls]; exact hag, hold⟩
  · rcases hold i s hs ls with ⟨j, t, h1, h2, h3⟩ | h1
    · exact hi.hp.exc j t h1 h2 (h3 ▸ hx)
    · exact absurd (hlt3 _ hx) (Nat.not_lt.2 h1)
  · rintro b hb ((hx | hd) | hx)
    · by_cases hc : C.X b
      · exact .inl (.inl hc)
      · rcases hXd b hx with h1 | ⟨o, h1, h2⟩
        · exact absurd h1 hc
        · refine .inl (.inr ⟨o, ?_, h2⟩)
          rw [hsame b hx hc]; exact h1
    · exact .inl (.inr hd)
    · exact .inr hx
  · show w'.heap[b]? = xhOf C3.ls st'.pe C3.xh b
    by_cases hc : C.X b
    · rw [hls, xhOf_off _ _ (hxh b hc)]; exact hr.xs b hc
    · rw [hsame b hb hc, hls, xhOf_not _ _ (fun hm => hc (hC.lsx b hm).1)]


def SExit.to : SExit → Exit
  | .normal => .normal
  | .ret => .ret
  | .exit j => .exit j

/-- Within a round the record of its loop is among what is exempt. -/
def RdOk (C : Ctx) (r : Option Nat) : Prop := ∀ l, r = some l → C.X l ∧ ∃ rec, C.xh l = some (.loop rec)

/-- The executor is right about a code. -/
def Sound (c : Code) : Prop := ∀ (Γ : Env) (C : Ctx) (r : Option Nat) (n : Nat), EnvOk Γ C → RdOk C r → ∀ (K : SExit → SState → Prop) (Q : Exit → Act → World → Prop), (∀ e β' st' a' w', K e st' → Inv C β' st' a' w' → Q e.to a' w') →
  ∀ (β : Nat → Nat) (st : SState) (a : Act) (w : World), sxC Γ c st K → Inv C β st a w → c.wpIn (FW r) n C.P Q a w

/-- The loop's body as a yield. -/
def ydOf (Γ : Env) (ps : List Tmp) (tm : List (Nat × SV)) (assign body : Code) : Yd := fun as st1 K1 => match st1.pe with
  | none :: pe1 => match setPs Γ.N ps as tm with
    | some tm => sxC { Γ with F := st1.nx } assign { st1 with tm := tm, pe := pe1 } (fun e st2 => match e with
      | .normal => sxC { Γ with F := st1.nx } body st2 (fun e st3 => match e with
        | .normal => K1 none { st3 with pe := none :: st3.pe }
        | .ret => K1 (some .ret) { st3 with pe := some .ret :: st3.pe }
        | .exit j => K1 (some (.exit j)) { st3 with pe := some (.exit j) :: st3.pe })
      | _ => False)
    | none => False
  | _ => False

/-- What is done where the function that is ranged over has come back. -/
def rngEnd (K : SExit → SState → Prop) (tm : List (Nat × SV)) (st' : SState) : Prop := match st'.pe with
  | none :: pe1 => K .normal { st' with tm := tm, pe := pe1 }
  | some e :: pe1 => match e with
    | .normal => False
    | .ret => K .ret { st' with tm := tm, pe := pe1 }
    | .exit j => K (.exit j) { st' with tm := tm, pe := pe1 }
  | [] => False

/-- An exempt block gets another content. -/
theorem Inv.reput (hC : CtxOk C) (h : Inv C β st a w) {l : Nat} (hX : C.X l) (hnl : l ∉ C.ls) (hT : C.T0 l) (o' : Obj) {xh : Nat → Option Obj} (hl : xh l = some o') (ho : ∀ b, b ≠ l → xh b = C.xh b) (hd : isDef w l) : Inv { C with xh := xh } β st a (w.putObj l o') := by
  have hlt : l < w.heap.size := hC.lt h hX
  have hoth : ∀ b, b ≠ l → (w.putObj l o').heap[b]? = w.heap[b]? := fun b hb => World.putObj_heap_other hb
  have htrk : ∀ i s, lk st.hp i = some s → s.live → β i ≠ l := fun i s hs ls e => h.hp.exc i s hs ls (e ▸ hX)
  refine { siz := h.siz, dfr := ?_, tm := h.tm, hp := ⟨fun i s hs => ?_, h.hp.inj, h.hp.exc⟩, old := h.old, frm := ?_, fx := fun w' hw' => ?_, xs := fun b hb => ?_, fix := h.fix }
  · obtain ⟨m, h1, h2, h3⟩ := h.dfr
    exact ⟨m, h1, h2, fun D hD => ⟨(h3 D hD).1, by rw [hoth D (fun e => (h3 D hD).1.2 (e ▸ hX))]; exact (h3 D hD).2⟩⟩
  · obtain ⟨h1, h2, h3⟩ := h.hp.blk i s hs
    refine ⟨?_, h2, h3⟩
    cases s with
    | cells l => rw [hoth _ (htrk i _ hs trivial)]; exact h1
    | orow vs len cap sz =>
      rcases Nat.eq_zero_or_pos cap with hc | hc
      · exact ⟨h1.1, h1.2.1, .inl hc⟩
      · rw [hoth _ (htrk i _ hs (show cap ≠ 0 by omega))]; exact h1
  · exact AgreeOff.step h.frm (T1 := fun b => b = l) ⟨by simp, fun b _ hn => hoth b hn, rfl, rfl, rfl⟩ (by rintro b hb rfl; exact hT)
  · refine h.fx w' (AgreeOff.step (T := fun b => (C.X b ∨ isDef w b) ∨ trk β st.hp b) ⟨by simp, fun b _ hn => hoth b (fun e => hn (.inl (.inl (e ▸ hX)))), rfl, rfl, rfl⟩ hw' ?_)
    rintro b hb ((hx | hd') | hx)
    · exact .inl (.inl hx)
    · by_cases e : b = l
      · exact .inl (.inl (e ▸ hX))
      · exact .inl (.inr (hd'.same (hoth b e)))
    · exact .inr hx
  · show _ = xhOf C.ls st.pe xh b
    by_cases e : b = l
    · rw [e, xhOf_not _ _ hnl, hl]; exact World.putObj_heap_same hlt
    · rw [hoth b e, xhOf_off _ _ (ho b e)]; exact h.xs b hb

/-- A round. -/
theorem yok {assign body : Code} (hA : Sound assign) (hB : Sound body) (hE : EnvOk Γ C) {l : Nat} {rec : Loop} {β0 : Nat → Nat} {nx0 : Nat} {tm : List (Nat × SV)} (h : HInv C β st w) (hnx : nx0 = st.nx) (hβ0 : β0 = β) (hf : Facts β0 nx0 tm rec.tmps) (hsz : rec.tmps.size = C.N)
    (hl : C.w0.heap.size ≤ l) (hlX : ¬ C.X l) (hst : rec.state = .ready) (hpe : rec.pending = none) (ha : rec.assign = assign) (hb : rec.body = body) {xh : Nat → Option Obj} (hxl : xh l = some (.loop rec)) (hxo : ∀ b, b ≠ l → xh b = C.xh b) :
    YOk { C with X := fun b => C.X b ∨ b = l, xh := xh, F := nx0, β0 := β0, ls := l :: C.ls } l (ydOf Γ rec.params.toList tm assign body) := by
  intro F β1 β2 st1 w1 as K hF hβ1 hi hlt hok hY
  have hF' : nx0 ≤ F := hF
  have hC : CtxOk C := hE.c
  have hnl : l ∉ C.ls := fun hm => hlX (hC.lsx l hm).1
  have hβ1' : ∀ i, i < nx0 → β1 i = β0 i := hβ1
  have hfix : ∀ i, i < nx0 → i < st1.nx ∧ β2 i = β0 i := fun i hi' => by
    obtain ⟨h1, h2⟩ := hi.fix i (Nat.lt_of_lt_of_le hi' hF')
    exact ⟨h1, by rw [← hβ1' i hi']; exact h2⟩
  have hnx1 : nx0 ≤ st1.nx := by
    rcases Nat.eq_zero_or_pos nx0 with h0 | h0
    · omega
    · have := (hfix (nx0 - 1) (by omega)).1; omega
  unfold ydOf at hY
  split at hY
  case h_2 => exact hY.elim
  rename_i pe1 hpe1
  have hxs1 : ∀ b, b ≠ l → xhOf (l :: C.ls) st1.pe xh b = xhOf C.ls pe1 xh b := fun b hb => by rw [hpe1]; simp only [xhOf, if_neg hb]
  have hxsl : xhOf (l :: C.ls) st1.pe xh l = some (.loop rec) := by rw [hpe1]; simp only [xhOf, if_pos]; rw [hxl]; rfl
  have hrec : w1.heap[l]? = some (.loop rec) := by rw [← hxsl]; exact hi.xs l (.inr rfl)
  have hf2 : Facts β2 st1.nx tm rec.tmps := fun s x hs => by
    obtain ⟨k1, k2⟩ := hf s x hs
    exact ⟨by rw [k1, SV.den_congr (fun i hi' => ((hfix i hi').2).symm) x k2.1], k2.mono hnx1⟩
  cases hps : setPs Γ.N rec.params.toList as tm with
  | none => simp only [hps] at hY
  | some tm' =>
  simp only [hps] at hY
  obtain ⟨g1, g2, g3⟩ := setPs_sound rec.params.toList as tm tm' rec.tmps hps (by rw [hsz, hE.n]) hf2 hlt hok
  have hy := run_yield (P := C.P) (args := (denL β2 as).toArray) hrec (by have := g3; simp [denL_length] at this ⊢; omega)
  refine ⟨_, _, _, _, hy, fun r n => roundIn_of_wpIn trivial ?_⟩
  rw [ha, hb]
  -- the frame's own baseline, here
  have hi0 : HInv C β2 { st1 with pe := pe1 } w1 := {
    siz := rfl
    dfr := ⟨[], rfl, List.nodup_nil, fun D hD => by simp at hD⟩
    tm := fun s x hs => by simp [lk] at hs
    hp := ⟨hi.hp.blk, hi.hp.inj, fun i s hs ls hx => hi.hp.exc i s hs ls (.inl hx)⟩
    old := hi.old
    frm := hi.frm
    fx := fun w' hw' => hi.fx w' (hw'.mono (by
      rintro b hb ((hx | hd) | hx)
      · exact .inl (.inl (.inl hx))
      · exact .inl (.inr hd)
      · exact .inr hx))
    xs := fun b hb => by
      have hne : b ≠ l := fun e => hlX (e ▸ hb)
      have h1 : w1.heap[b]? = xhOf (l :: C.ls) st1.pe xh b := hi.xs b (.inl hb)
      rw [h1, hxs1 b hne]
      exact xhOf_off _ _ (hxo b hne)
    fix := fun i hi' => by
      obtain ⟨k1, k2⟩ := h.fix i hi'
      have k1' : i < nx0 := by rw [hnx]; exact k1
      obtain ⟨k3, k4⟩ := hfix i k1'
      exact ⟨k3, by rw [k4, hβ0]; exact k2⟩ }
  let X2 : Nat → Prop := fun b => C.X b ∨ b = l
  let T3 : Nat → Prop := fun b => trk β2 st1.hp b ∨ b ∈ l :: C.ls
  have mk : ∀ (xh3 : Nat → Option Obj) (rec3 : Loop), xh3 l = some (.loop rec3) → (∀ b, b ≠ l → xh3 b = C.xh b) →
      EnvOk { Γ with F := st1.nx } { P := C.P, X := X2, T0 := T3, w0 := w1, N := C.N, F := st1.nx, β0 := β2, xh := xh3, ls := C.ls } := by
    intro xh3 rec3 e1 e2
    have hc3 : CtxOk { P := C.P, X := X2, T0 := T3, w0 := w1, N := C.N, F := st1.nx, β0 := β2, xh := xh3, ls := C.ls } := ⟨fun b hb => by
      show (xh3 b).isSome = true
      rcases hb with hb | hb
      · rw [e2 b (fun e => hlX (e ▸ hb))]; exact hC.xsm b hb
      · rw [hb, e1]; rfl, fun b hb => ⟨.inl (hC.lsx b hb).1, fun _ => .inr (List.mem_cons_of_mem _ hb)⟩⟩
    exact {
      mo := hE.mo, c := hc3, n := hE.n, f := rfl, ty := hE.ty, eq := hE.eq, fs := hE.fs, it := hE.it
      yd := fun l' Y' h' => (hE.yd l' Y' h').ext hC hc3 rfl rfl hi0 (fun b hb => .inl hb) (fun b hb => e2 b (fun e => hlX (e ▸ hb))) rfl
        (fun b hb => hb.imp id (fun e => by
          rcases List.mem_cons.1 e with e | e
          · exact .inr (by rw [e]; exact hl)
          · exact .inl e)) (by
          show C.F ≤ st1.nx
          rcases Nat.eq_zero_or_pos C.F with h0 | h0
          · omega
          · have h1 : C.F - 1 < st1.nx := (hi0.fix (C.F - 1) (by show C.F - 1 < C.F; omega)).1
            omega) (fun i hi' => (hi0.fix i hi').2)
        (fun b hb => hb.imp id (fun e => ⟨.loop rec3, by show xh3 b = _; rw [e]; exact e1, rfl⟩)) }
  have hfold : (Array.foldl (fun (t : Array Value) (p : Tmp × Value) => t.setIfInBounds p.1 p.2) rec.tmps (rec.params.zip (denL β2 as).toArray)) = List.foldl (fun (t : Array Value) (p : Tmp × Value) => t.setIfInBounds p.1 p.2) rec.tmps (rec.params.toList.zip (denL β2 as)) := by
    rw [← Array.foldl_toList]; simp
  have hinv : Inv { P := C.P, X := X2, T0 := T3, w0 := w1, N := C.N, F := st1.nx, β0 := β2, xh := xh, ls := C.ls } β2 { st1 with tm := tm', pe := pe1 } { tmps := (rec.params.zip (denL β2 as).toArray).foldl (fun tmps (t, a) => tmps.setIfInBounds t a) rec.tmps, defers := [] } w1 := {
    siz := by
      show (Array.foldl (fun (t : Array Value) (p : Tmp × Value) => t.setIfInBounds p.1 p.2) rec.tmps (rec.params.zip (denL β2 as).toArray)).size = C.N
      rw [hfold, g1]; exact hE.n
    dfr := ⟨[], rfl, List.nodup_nil, fun D hD => by simp at hD⟩
    tm := fun s x hs => by
      show (Array.foldl (fun (t : Array Value) (p : Tmp × Value) => t.setIfInBounds p.1 p.2) rec.tmps (rec.params.zip (denL β2 as).toArray))[s]? = _ ∧ _
      rw [hfold]; exact g2 s x hs
    hp := hi.hp
    old := fun i s hs ls => .inl (.inl ⟨i, s, hs, ls, rfl⟩)
    frm := AgreeOff.refl _ _
    fx := hi.fx
    xs := fun b hb => by
      show w1.heap[b]? = xhOf C.ls pe1 xh b
      by_cases e : b = l
      · rw [e, xhOf_not _ _ hnl, hxl]; exact hrec
      · rw [← hxs1 b e]; exact hi.xs b hb
    fix := fun i hi' => ⟨hi', rfl⟩ }
  refine hA { Γ with F := st1.nx } _ (some l) n (mk xh rec hxl hxo) (fun l' e => by cases e; exact ⟨.inr rfl, rec, hxl⟩) _ _ ?_ β2 _ _ w1 hY hinv
  intro e β3 st3 a3 w3 hk3 hi3
  cases e with
  | ret => exact hk3.elim
  | exit j => exact hk3.elim
  | normal =>
    have hrec3 : w3.heap[l]? = some (.loop rec) := by
      have h1 : w3.heap[l]? = xhOf C.ls st3.pe xh l := hi3.xs l (.inr rfl)
      rw [h1, xhOf_not _ _ hnl]; exact hxl
    have hl3 : l < w3.heap.size := (Array.getElem?_eq_some_iff.1 hrec3).1
    refine ⟨_, run_beginRound hrec3 hst, ?_⟩
    let xh3 : Nat → Option Obj := fun b => if b = l then some (.loop { rec with state := .busy }) else C.xh b
    have x3l : xh3 l = some (.loop { rec with state := .busy }) := if_pos rfl
    have x3o : ∀ b, b ≠ l → xh3 b = C.xh b := fun b hb => if_neg hb
    have hE3 := mk xh rec hxl hxo
    have hi4 := hi3.reput hE3.c (l := l) (.inr rfl) hnl (.inr (by simp)) (.loop { rec with state := .busy }) (xh := xh3) x3l (fun b hb => by rw [x3o b hb]; exact (hxo b hb).symm) ⟨_, hrec3, rfl⟩
    have hE4 := mk xh3 _ x3l x3o
    -- the round's end
    have fin : ∀ (ex : Option SExit) (β5 : Nat → Nat) (st5 : SState) (a5 : Act) (w5 : World), K ex { st5 with pe := ex :: st5.pe } → Inv { P := C.P, X := X2, T0 := T3, w0 := w1, N := C.N, F := st1.nx, β0 := β2, xh := xh3, ls := C.ls } β5 st5 a5 w5 →
        ∃ v w', (Instr.endRound l (ex.map SExit.code)).run C.P w5 = .ok v w' ∧ ∃ (β' : Nat → Nat) (st' : SState) (ex' : Option SExit), Ending.returned v = .returned (.bool ex'.isNone) ∧ K ex' st' ∧ HInv { C with X := fun b => C.X b ∨ b = l, xh := xh, F := F, β0 := β1, ls := l :: C.ls } β' st' w' ∧ st1.nx ≤ st'.nx ∧ (∀ i, i < st1.nx → β' i = β2 i) ∧
          AgreeOff (fun b => trk β2 st1.hp b ∨ b ∈ l :: C.ls) w1 w' ∧ ∀ i s, lk st'.hp i = some s → s.live → trk β2 st1.hp (β' i) ∨ w1.heap.size ≤ β' i := by
      intro ex β5 st5 a5 w5 hk5 hi5
      have hrec5 : w5.heap[l]? = some (.loop { rec with state := .busy }) := by
        have h1 : w5.heap[l]? = xhOf C.ls st5.pe xh3 l := hi5.xs l (.inr rfl)
        rw [h1, xhOf_not _ _ hnl]; exact x3l
      obtain ⟨rec6, hr6, hend⟩ : ∃ rec6 : Loop, pendR ex (some (.loop rec)) = some (.loop rec6) ∧ (Instr.endRound l (ex.map SExit.code)).run C.P w5 = .ok (.bool ex.isNone) (w5.putObj l (.loop rec6)) := by
        have hend := run_endRound (P := C.P) (ex.map SExit.code) hrec5
        cases ex with
        | none =>
          refine ⟨rec, rfl, ?_⟩
          have hback : ({ ({ rec with state := .busy } : Loop) with state := if (none : Option Code).isNone then .ready else .done, pending := none } : Loop) = rec := by
            cases rec; simp only at hst hpe; subst hst; subst hpe; rfl
          simp only [Option.map_none] at hend ⊢
          rw [hback] at hend
          exact hend
        | some e => exact ⟨_, rfl, hend⟩
      refine ⟨_, _, hend, ?_⟩
      let xh6 : Nat → Option Obj := fun b => if b = l then some (.loop rec6) else C.xh b
      have x6l : xh6 l = some (.loop rec6) := if_pos rfl
      have x6o : ∀ b, b ≠ l → xh6 b = C.xh b := fun b hb => if_neg hb
      have hi6 := hi5.reput hE4.c (l := l) (.inr rfl) hnl (.inr (by simp)) (.loop rec6) (xh := xh6) x6l (fun b hb => by rw [x6o b hb]; exact (x3o b hb).symm) ⟨_, hrec5, rfl⟩
      have hl5 : l < w5.heap.size := (Array.getElem?_eq_some_iff.1 hrec5).1
      have hw6 : (w5.putObj l (.loop rec6)).heap[l]? = some (.loop rec6) := World.putObj_heap_same hl5
      have hag : AgreeOff (fun b => trk β2 st1.hp b ∨ b ∈ l :: C.ls) w1 (w5.putObj l (.loop rec6)) := hi6.frm
      have hold : ∀ i s, lk st5.hp i = some s → s.live → trk β2 st1.hp (β5 i) ∨ w1.heap.size ≤ β5 i := fun i s hs ls => by
        rcases hi6.old i s hs ls with (h1 | h1) | h1
        · exact .inl h1
        · rcases List.mem_cons.1 h1 with h1 | h1
          · exact absurd (.inr h1) (hi6.hp.exc i s hs ls)
          · exact absurd (.inl (hC.lsx _ h1).1) (hi6.hp.exc i s hs ls)
        · exact .inr h1
      have hnx5 : st1.nx ≤ st5.nx := by
        rcases Nat.eq_zero_or_pos st1.nx with h0 | h0
        · omega
        · have h1 : st1.nx - 1 < st5.nx := (hi6.fix (st1.nx - 1) (by show st1.nx - 1 < st1.nx; omega)).1
          omega
      have hβ5 : ∀ i, i < st1.nx → β5 i = β2 i := fun i hi' => (hi6.fix i hi').2
      have hC7 : CtxOk { C with X := fun b => C.X b ∨ b = l, xh := xh, F := F, β0 := β1, ls := l :: C.ls } := ⟨fun b hb => by
        show (xh b).isSome = true
        rcases hb with hb | hb
        · rw [hxo b (fun e => hlX (e ▸ hb))]; exact hC.xsm b hb
        · rw [hb, hxl]; rfl, fun b hb => by
        rcases List.mem_cons.1 hb with e | e
        · exact ⟨.inr e, fun h => absurd h (Nat.not_lt.2 (e ▸ hl))⟩
        · exact ⟨.inl (hC.lsx b e).1, (hC.lsx b e).2⟩⟩
      refine ⟨β5, { st5 with pe := ex :: st5.pe }, ex, rfl, hk5, HInv.back (st' := { st5 with pe := ex :: st5.pe }) hC7 hi hi6.hp hold hag hi6.fx hnx5 hβ5 (fun b hb => ?_), hnx5, hβ5, hag, hold⟩
      show _ = xhOf (l :: C.ls) (ex :: st5.pe) xh b
      simp only [xhOf]
      by_cases e : b = l
      · rw [if_pos e, e, hw6, hxl, hr6]
      · rw [if_neg e, xhOf_off (xh := xh) (xh' := xh6) _ _ (by rw [x6o b e, hxo b e])]
        exact hi6.xs b hb
    refine hB { Γ with F := st1.nx } _ (some l) n hE4 (fun l' e => by cases e; exact ⟨.inr rfl, _, x3l⟩) _ _ ?_ β3 st3 a3 _ hk3 hi4
    intro e β5 st5 a5 w5 hk5 hi5
    cases e with
    | normal => exact fin none β5 st5 a5 w5 hk5 hi5
    | ret => exact fin (some .ret) β5 st5 a5 w5 hk5 hi5
    | exit j => exact fin (some (.exit j)) β5 st5 a5 w5 hk5 hi5


/-- A new block that is none of ours. -/
theorem HInv.alloc (h : HInv C β st w) (o : Obj) (hC : CtxOk C) : HInv C β st (w.alloc o) where
  siz := rfl
  dfr := ⟨[], rfl, List.nodup_nil, fun D hD => by simp at hD⟩
  tm := fun s x hs => by simp [lk] at hs
  hp := ⟨fun i s hs => by
    obtain ⟨h1, h2, h3⟩ := h.hp.blk i s hs
    refine ⟨?_, h2, h3⟩
    cases s with
    | cells l => rw [heap_alloc_lt w o (SB.den_lt (s := .cells l) h1 trivial)]; exact h1
    | orow vs len cap sz =>
      rcases Nat.eq_zero_or_pos cap with hc | hc
      · exact ⟨h1.1, h1.2.1, .inl hc⟩
      · rw [heap_alloc_lt w o (SB.den_lt (s := .orow vs len cap sz) h1 (show cap ≠ 0 by omega))]; exact h1, h.hp.inj, h.hp.exc⟩
  old := h.old
  frm := h.frm.trans (agree_alloc _ _ _)
  fx := fun w' hw' => h.fx w' (by
    refine AgreeOff.step (agree_alloc _ w o) hw' ?_
    rintro i hi (hx | hx)
    · exact .inl (hx.imp id (fun hd => hd.same (heap_alloc_lt w o hi)))
    · exact .inr hx)
  xs := fun b hb => by rw [heap_alloc_lt w o (HInv.lt hC h hb)]; exact h.xs b hb
  fix := h.fix

theorem range_sound {assign body : Code} (hA : Sound assign) (hB : Sound body) (hE : EnvOk Γ C) (hR : RdOk C r) {g : Operand} {ps : Array Tmp} {K : SExit → SState → Prop} (hQ : ∀ e β' st' a' w', K e st' → Inv C β' st' a' w' → Q e.to a' w')
    {f : FuncId} {caps : List SV} {I : Yd → Nat → List SV → SState → (SState → Prop) → Prop} (hg : ev st.tm g = some (.clo f caps)) (hI : Γ.it f = some I)
    (h : ∀ l : Nat, I (ydOf Γ ps.toList st.tm assign body) l (.v (.func (.yield l) #[] #[]) :: caps) { st with pe := none :: st.pe } (rngEnd K st.tm)) (hi : Inv C β st a w) : (Code.rangeFunc g ps assign body).wpIn (FW r) n C.P Q a w := by
  refine wpIn_rangeFunc (fun fn hfn => ?_)
  obtain ⟨g1, g2⟩ := ev_sound hi hg
  obtain ⟨hit, hent⟩ := hE.it f I hI
  have hC := hE.c
  -- the record is laid
  obtain ⟨l, ms, W1, rec, e0, e1, e2, e3, e4, e5, e6, e7, e8, e9, e10, e11, e12⟩ : ∃ (l : Nat) (ms : List Deferred) (W1 : World) (rec : Loop), AgreeOff (fun _ => False) w W1 ∧ (Instr.enterLoop fn a.tmps ps assign body (FW r).round).run C.P w = .ok (l, ms) W1 ∧ W1.heap[l]? = some (.loop rec) ∧ HInv C β st W1 ∧
      w.heap.size ≤ l ∧ Dfr C.X C.w0.heap.size (ms ++ a.defers) W1 ∧ rec.tmps = a.tmps ∧ rec.params = ps ∧ rec.assign = assign ∧ rec.body = body ∧ rec.state = .ready ∧ rec.pending = none ∧ ¬ C.X l := by
    have hnX : ∀ b, w.heap.size ≤ b → ¬ C.X b := fun b hb hx => absurd (hC.lt hi hx) (Nat.not_lt.2 hb)
    cases r with
    | none =>
      have hh := (hi.h.alloc (.deferred (some [])) hC).alloc (.loop { state := .ready, pending := none, fn, tmps := a.tmps, params := ps, assign, body, defers := w.heap.size }) hC
      have hsz1 : (w.alloc (.deferred (some []))).heap.size = w.heap.size + 1 := by simp
      refine ⟨w.heap.size + 1, [mark w.heap.size], _, { state := .ready, pending := none, fn, tmps := a.tmps, params := ps, assign, body, defers := w.heap.size }, (agree_alloc _ _ _).trans (agree_alloc _ _ _), run_enterLoop_outer fn a.tmps ps assign body, ?_, hh, by omega, ?_, rfl, rfl, rfl, rfl, rfl, rfl, hnX _ (by omega)⟩
      · have := heap_alloc_new (w.alloc (.deferred (some []))) (.loop { state := .ready, pending := none, fn, tmps := a.tmps, params := ps, assign, body, defers := w.heap.size })
        rw [hsz1] at this; exact this
      · have hdf : Dfr C.X C.w0.heap.size a.defers ((w.alloc (.deferred (some []))).alloc (.loop { state := .ready, pending := none, fn, tmps := a.tmps, params := ps, assign, body, defers := w.heap.size })) :=
          (hi.dfr.keep (fun b hb => heap_alloc_lt w _ hb.lt)).keep (fun b hb => heap_alloc_lt _ _ hb.lt)
        obtain ⟨m, h1, h2, h3⟩ := hdf
        obtain ⟨m', h1', h2', h3'⟩ := hi.dfr
        have hmm : m = m' := by
          have hinj : ∀ x y : List Nat, x.map mark = y.map mark → x = y := by
            intro x
            induction x with
            | nil => intro y hy; cases y with
              | nil => rfl
              | cons _ _ => simp at hy
            | cons a x ih => intro y hy; cases y with
              | nil => simp at hy
              | cons b y =>
                simp only [List.map_cons, List.cons.injEq] at hy
                obtain ⟨h, hy⟩ := hy
                simp only [mark, Deferred.mk.injEq, Target.collected.injEq] at h
                rw [h.1, ih y hy]
          exact hinj m m' (by rw [← h1, ← h1'])
        subst hmm
        refine ⟨w.heap.size :: m, by simp [h1, mark], List.nodup_cons.2 ⟨fun hm => ?_, h2⟩, fun D hD => ?_⟩
        · have := (Array.getElem?_eq_some_iff.1 (h3' _ hm).2).1; omega
        · rcases List.mem_cons.1 hD with rfl | hD
          · refine ⟨⟨hi.frm.size, hnX _ (Nat.le_refl _)⟩, ?_⟩
            rw [heap_alloc_lt _ _ (by simp)]
            exact heap_alloc_new w _
          · exact h3 D hD
    | some l0 =>
      obtain ⟨hx, rec0, hrec0⟩ := hR l0 rfl
      obtain ⟨rec0, hr0', hdf0⟩ := xhOf_loop C.ls st.pe hrec0
      have hr0 : w.heap[l0]? = some (.loop rec0) := by rw [hi.xs l0 hx]; exact hr0'
      refine ⟨w.heap.size, [], _, { state := .ready, pending := none, fn, tmps := a.tmps, params := ps, assign, body, defers := rec0.defers }, agree_alloc _ _ _, run_enterLoop_inner hr0 fn a.tmps ps assign body, heap_alloc_new _ _, hi.h.alloc _ hC, Nat.le_refl _, hi.dfr.keep (fun b hb => heap_alloc_lt w _ hb.lt), rfl, rfl, rfl, rfl, rfl, rfl, hnX _ (Nat.le_refl _)⟩
  let xh2 : Nat → Option Obj := fun b => if b = l then some (.loop rec) else C.xh b
  have x2l : xh2 l = some (.loop rec) := if_pos rfl
  have x2o : ∀ b, b ≠ l → xh2 b = C.xh b := fun b hb => if_neg hb
  have hl0 : C.w0.heap.size ≤ l := Nat.le_trans hi.frm.size e4
  have hY := yok (Γ := Γ) hA hB hE (l := l) (rec := rec) (tm := st.tm) e3 rfl rfl (fun s x hs => by rw [e6]; exact hi.tm s x hs) (by rw [e6]; exact hi.siz) hl0 e12 e10 e11 e8 e9 x2l x2o
  rw [e7] at hY
  have hC2 : CtxOk { C with X := fun b => C.X b ∨ b = l, xh := xh2, F := st.nx, β0 := β, ls := l :: C.ls } := ⟨fun b hb => by
    show (xh2 b).isSome = true
    rcases hb with hb | hb
    · rw [x2o b (fun e => e12 (e ▸ hb))]; exact hC.xsm b hb
    · rw [hb, x2l]; rfl, fun b hb => by
    rcases List.mem_cons.1 hb with e | e
    · exact ⟨.inr e, fun h => absurd h (Nat.not_lt.2 (e ▸ hl0))⟩
    · exact ⟨.inl (hC.lsx b e).1, (hC.lsx b e).2⟩⟩
  have hH2 : HInv { C with X := fun b => C.X b ∨ b = l, xh := xh2, F := st.nx, β0 := β, ls := l :: C.ls } β { st with pe := none :: st.pe } W1 := {
    siz := rfl
    dfr := ⟨[], rfl, List.nodup_nil, fun D hD => by simp at hD⟩
    tm := fun s x hs => by simp [lk] at hs
    hp := ⟨e3.hp.blk, e3.hp.inj, fun i s hs ls hx => by
      rcases hx with hx | hx
      · exact e3.hp.exc i s hs ls hx
      · obtain ⟨c, ty, fz, hc⟩ := SB.den_cells (e3.hp.blk i s hs).1 ls
        rw [hx, e2] at hc; cases hc⟩
    old := e3.old
    frm := e3.frm
    fx := fun w' hw' => e3.fx w' (hw'.mono (by
      rintro b hb (((hx | hx) | hd) | hx)
      · exact .inl (.inl hx)
      · exact .inl (.inr ⟨.loop rec, by rw [hx]; exact e2, rfl⟩)
      · exact .inl (.inr hd)
      · exact .inr hx))
    xs := fun b hb => by
      show W1.heap[b]? = xhOf (l :: C.ls) (none :: st.pe) xh2 b
      simp only [xhOf]
      by_cases e : b = l
      · rw [if_pos e, e, x2l]; exact e2
      · rw [if_neg e, xhOf_off _ _ (x2o b e)]; exact e3.xs b (hb.resolve_right e)
    fix := fun i hi' => ⟨hi', rfl⟩ }
  have hcaps : ltL st.nx caps = true := by simpa [SV.lt] using g2.1
  have hcall := hit { C with X := fun b => C.X b ∨ b = l, xh := xh2, F := st.nx, β0 := β, ls := l :: C.ls } l _ rfl hC2 hY β { st with pe := none :: st.pe } W1 _ _ hH2 (by simp [ltL, SV.lt, hcaps]) (fun x hx => by
    rcases List.mem_cons.1 hx with rfl | hx
    · exact trivial
    · exact smplL_ok g2.2 x hx) (h l)
  refine ⟨l, ms, W1, { target := .fn (.func f) (denL β caps).toArray, args := #[.func (.yield l) #[] #[]] }, W1, f, (denL β (.v (.func (.yield l) #[] #[]) :: caps)).toArray, W1, e1, ?_, fun _ _ => trivial, ?_, fun h => by simp [Fence.wide] at h, ?_⟩
  · simp only [resolve, g1, SV.den]
    simp [go_sem, g1, SV.den]
  · simp [invoke, go_sem, hent, denL, SV.den]
  refine (calls_in hcall r (n - 1)).mono ?_
  rintro e w3 ⟨v, β', st', rfl, hK, hr, hnx, hb', hag, hold⟩
  unfold rngEnd at hK
  cases hpe : st'.pe with
  | nil => simp only [hpe] at hK
  | cons ex pe1 =>
  have hxs3 : ∀ b, (C.X b ∨ b = l) → w3.heap[b]? = if b = l then pendR ex (some (.loop rec)) else xhOf C.ls pe1 C.xh b := fun b hb => by
    have h1 : w3.heap[b]? = xhOf (l :: C.ls) st'.pe xh2 b := hr.xs b hb
    rw [h1, hpe]
    simp only [xhOf]
    by_cases e : b = l
    · rw [if_pos e, if_pos e, e, x2l]
    · rw [if_neg e, if_neg e, xhOf_off _ _ (x2o b e)]
  obtain ⟨rec3, hp3, hs3, hpend⟩ : ∃ rec3 : Loop, pendR ex (some (.loop rec)) = some (.loop rec3) ∧ rec3.state ≠ .busy ∧ rec3.pending = ex.map SExit.code := by
    cases ex with
    | none => exact ⟨rec, rfl, by rw [e10]; simp, e11⟩
    | some e => exact ⟨_, rfl, by simp, rfl⟩
  have hrec3 : w3.heap[l]? = some (.loop rec3) := by rw [hxs3 l (.inr rfl), if_pos rfl, hp3]
  refine ⟨ex.map SExit.code, _, by rw [← hpend]; exact run_endLoop hrec3 hs3, ?_⟩
  have hl3 : l < w3.heap.size := (Array.getElem?_eq_some_iff.1 hrec3).1
  have hoth : ∀ b, b ≠ l → (w3.putObj l (.loop { rec3 with state := .exhausted })).heap[b]? = w3.heap[b]? := fun b hb => World.putObj_heap_other hb
  have htrk : ∀ i s, lk st'.hp i = some s → s.live → β' i ≠ l := fun i s hs ls e => hr.hp.exc i s hs ls (.inr e)
  have hfin : HInv C β' { st' with pe := pe1 } (w3.putObj l (.loop { rec3 with state := .exhausted })) := by
    refine HInv.back hC hi.h ⟨fun i s hs => ?_, hr.hp.inj, fun i s hs ls hx => hr.hp.exc i s hs ls (.inl hx)⟩ (fun i s hs ls => (hold i s hs ls).imp id (fun h => Nat.le_trans e0.size h)) ?_ (fun w'' hw'' => hr.fx w'' ?_) hnx hb' (fun b hb => ?_)
    · obtain ⟨h1, h2, h3⟩ := hr.hp.blk i s hs
      refine ⟨?_, h2, h3⟩
      cases s with
      | cells l => rw [hoth _ (htrk i _ hs trivial)]; exact h1
      | orow vs len cap sz =>
        rcases Nat.eq_zero_or_pos cap with hc | hc
        · exact ⟨h1.1, h1.2.1, .inl hc⟩
        · rw [hoth _ (htrk i _ hs (show cap ≠ 0 by omega))]; exact h1
    · refine ⟨by simpa using Nat.le_trans e0.size hag.size, fun b hb hn => ?_, hag.os.trans e0.os, hag.output.trans e0.output, hag.tape.trans e0.tape⟩
      rw [hoth b (by omega), hag.same b (Nat.lt_of_lt_of_le hb e0.size) (fun h => h.elim (fun h => hn (.inl h)) (fun h => (List.mem_cons.1 h).elim (fun h => by omega) (fun h => hn (.inr h))))]
      exact e0.same b hb (fun h => h)
    · refine AgreeOff.step (T := fun b => ((C.X b ∨ b = l) ∨ isDef w3 b) ∨ trk β' st'.hp b) ⟨by simp, fun b _ hn => hoth b (fun e => hn (.inl (.inl (.inr e)))), rfl, rfl, rfl⟩ hw'' ?_
      rintro b hb ((hx | hd) | hx)
      · exact .inl (.inl (.inl hx))
      · by_cases e : b = l
        · exact .inl (.inl (.inr e))
        · exact .inl (.inr (hd.same (hoth b e)))
      · exact .inr hx
    · have hne : b ≠ l := fun e => e12 (e ▸ hb)
      rw [hoth b hne, hxs3 b (.inl hb), if_neg hne]
  have hact : Inv C β' { st' with tm := st.tm, pe := pe1 } { a with defers := ms ++ a.defers } (w3.putObj l (.loop { rec3 with state := .exhausted })) := by
    refine hfin.act (a := { a with defers := ms ++ a.defers }) (N := C.N) hi.siz (fun s x hs => ?_) ?_
    · obtain ⟨t1, t2⟩ := hi.tm s x hs
      exact ⟨by rw [t1, SV.den_congr (fun i hi' => (hb' i hi').symm) x t2.1], t2.mono hnx⟩
    · obtain ⟨m, h1, h2, h3⟩ := e5
      refine ⟨m, h1, h2, fun D hD => ⟨(h3 D hD).1, ?_⟩⟩
      have hDd := (h3 D hD).2
      have hne : D ≠ l := fun e => by rw [e, e2] at hDd; cases hDd
      rw [hoth D hne, hag.same D (Array.getElem?_eq_some_iff.1 hDd).1 (fun h => h.elim (fun ⟨i, s, k1, k2, k3⟩ => by
        obtain ⟨c, ty, fz, hc⟩ := SB.den_cells (e3.hp.blk i s k1).1 k2
        rw [k3, hDd] at hc; cases hc) (fun h => (List.mem_cons.1 h).elim hne (fun h => (h3 D hD).1.2 (hC.lsx D h).1)))]
      exact hDd
  simp only [hpe] at hK
  cases ex with
  | none => exact hQ .normal _ _ _ _ hK hact
  | some e =>
    cases e with
    | normal => exact hK.elim
    | ret => exact wpIn_ret (hQ .ret _ _ _ _ hK hact)
    | exit j => exact wpIn_exit (hQ (.exit j) _ _ _ _ hK hact)

end Go.SX
