/-
  SX, part V: structs that are compared.
-/
import Derived.Test.YtgjoileoekbkoaaSXI
import Derived.Laws.BytesArg
import Derived.Laws.IdiomStrings
set_option linter.unusedVariables false
set_option linter.unusedSimpArgs false
namespace Go.SX

def fOk (P : Program) : Nat → List Field → List CK → Prop
  | _, [], [] => True
  | o, f :: fs, c :: ks => f.name ≠ "_" ∧ f.offset = o ∧ (match c with
      | .int k => P.underlying f.type = some (.int k)
      | .bool => P.underlying f.type = some .bool
      | .str => P.underlying f.type = some .string
      | _ => False) ∧ fOk P (o + 1) fs ks
  | _, _, _ => False
/-- A struct of plain fields. -/
structure EqOk (P : Program) (t : TypeId) (ks : List CK) : Prop where
  fs : ∃ F, P.underlying t = some (.struct F) ∧ fOk P 0 F.toList ks
  held : P.stoodInHeld t = false
  guard : P.eqGuardType P.depth t = false

theorem run_forIn_all {α σ : Type} {P : Program} {w : World} {f : α → σ → Sem (ForInStep σ)} {r0 r1 : σ} {b : α → Bool} : ∀ (l : List α), (∀ x ∈ l, (f x r0).run P w = if b x then .ok (.yield r0) w else .ok (.done r1) w) →
    (forIn l r0 f).run P w = if l.all b then .ok r0 w else .ok r1 w
  | [], _ => by simp [Sem.run_pure]
  | x :: r, h => by
    have hx := h x (by simp)
    have ih := run_forIn_all r (fun y hy => h y (by simp [hy]))
    simp only [List.forIn_cons, Sem.run_bind, hx, List.all_cons]
    by_cases hb : b x = true
    · simp [hb, ih]
    · simp [hb, Sem.run_pure]

theorem eq_struct {P : Program} {t : TypeId} {ks : List CK} (h : EqOk P t ks) (xs ys : List Value) (bs : List Bool) (w : World) (d d1 : Nat) (hd : d1 = d + 1)
    (hb : ∀ (i : Nat) (c : CK), ks[i]? = some c → ∃ x y b, xs[i]? = some x ∧ ys[i]? = some y ∧ bs[i]? = some b ∧ (match c with
      | .int k => ∃ n m, x = .int k n ∧ y = .int k m ∧ b = (n == m)
      | .bool => ∃ n m, x = .bool n ∧ y = .bool m ∧ b = (n == m)
      | .str => ∃ n m, x = .string n ∧ y = .string m ∧ b = (n == m)
      | _ => False)) (hl : bs.length = ks.length) : (Op.equalIn (d1 + 1) t (.agg xs.toArray) (.agg ys.toArray)).run P w = .ok (bs.all id) w := by
  obtain ⟨F, hu, hF⟩ := h.fs
  have key : ∀ (fs : List Field) (ks' : List CK) (o : Nat), fOk P o fs ks' → ks' = ks.drop o → ∀ i f, fs[i]? = some f → ∃ b, bs[o + i]? = some b ∧ (f.name ≠ "_" ∧ f.offset = o + i) ∧
      ∀ w, (do Op.equalIn d1 f.type (← part f.type xs.toArray f.offset) (← part f.type ys.toArray f.offset) : Sem Bool).run P w = .ok b w := by
    intro fs
    induction fs with
    | nil => intro ks' o _ _ i f hi; simp at hi
    | cons g fs ih =>
      intro ks' o hf hk i f hi
      cases ks' with
      | nil => exact hf.elim
      | cons c ks' =>
        obtain ⟨h1, h2, h3, h4⟩ := hf
        cases i with
        | succ i =>
          obtain ⟨b, e1, e2, e3⟩ := ih ks' (o + 1) h4 (by rw [← List.drop_drop, ← hk]; rfl) i f (by simpa using hi)
          exact ⟨b, by rw [← e1]; congr 1; omega, ⟨e2.1, by rw [e2.2]; omega⟩, e3⟩
        | zero =>
          simp at hi; subst hi
          have hc : ks[o]? = some c := by
            have : (ks.drop o)[0]? = some c := by rw [← hk]; rfl
            rw [List.getElem?_drop] at this; simpa using this
          obtain ⟨x, y, b, e1, e2, e3, e4⟩ := hb o c hc
          subst hd
          refine ⟨b, by simpa using e3, ⟨h1, by simpa using h2⟩, fun w => ?_⟩
          cases c <;> simp only at h3 e4
          case int k =>
            obtain ⟨n, m, rfl, rfl, rfl⟩ := e4
            have hag : (isAgg g.type).run P w = .ok false w := by simp [isAgg, run_underlying h3]
            simp [part, hag, h2, e1, e2, Sem.run_bind, Op.equalIn, run_underlying h3, Sem.run_pure, Result.andThen]
          case bool =>
            obtain ⟨n, m, rfl, rfl, rfl⟩ := e4
            have hag : (isAgg g.type).run P w = .ok false w := by simp [isAgg, run_underlying h3]
            simp [part, hag, h2, e1, e2, Sem.run_bind, Op.equalIn, run_underlying h3, Sem.run_pure, Result.andThen]
          case str =>
            obtain ⟨n, m, rfl, rfl, rfl⟩ := e4
            have hag : (isAgg g.type).run P w = .ok false w := by simp [isAgg, run_underlying h3]
            simp [part, hag, h2, e1, e2, Sem.run_bind, Op.equalIn, run_underlying h3, Sem.run_pure, Result.andThen]
  have hlen : ∀ (fs : List Field) (ks' : List CK) (o : Nat), fOk P o fs ks' → fs.length = ks'.length := by
    intro fs
    induction fs with
    | nil => intro ks' o h; cases ks' with
      | nil => rfl
      | cons _ _ => exact h.elim
    | cons f fs ih => intro ks' o h; cases ks' with
      | nil => exact h.elim
      | cons c ks' => simp [ih ks' (o + 1) h.2.2.2]
  have hst : (program : Sem Program).run P w = .ok P w := by simp
  have hfl := hlen _ _ _ hF
  have hk := key F.toList ks 0 hF (by simp)
  clear key hlen hb
  simp only [Op.equalIn, Sem.run_bind, run_underlying hu, Result.andThen_ok, hst, h.held]
  simp only [Bool.false_eq_true, if_false]
  have hmap : F.toList.map (fun f => bs.getD f.offset false) = bs := by
    apply List.ext_getElem?
    intro i
    rw [List.getElem?_map]
    cases hi : F.toList[i]? with
    | none =>
      have : bs.length ≤ i := by rw [hl, ← hfl]; exact List.getElem?_eq_none_iff.1 hi
      simp [List.getElem?_eq_none this]
    | some f =>
      obtain ⟨b, e1, ⟨_, e2⟩, _⟩ := hk i f hi
      rw [Nat.zero_add] at e1 e2
      simp [e2, List.getD_eq_getElem?_getD, e1]
  rw [← Array.forIn_toList, Sem.run_bind, run_forIn_all (b := fun f => bs.getD f.offset false) (r1 := (some false, ()))]
  · have hall : F.toList.all (fun f => bs.getD f.offset false) = bs.all id := by
      conv => rhs; rw [← hmap]
      rw [List.all_map]; rfl
    rw [hall]
    cases bs.all id <;> simp [Sem.run_pure]
  · intro f hf
    obtain ⟨i, hi⟩ := List.getElem?_of_mem hf
    obtain ⟨b, e1, ⟨e0, e2⟩, e3⟩ := hk i f hi
    rw [Nat.zero_add] at e1 e2
    have hb : bs.getD f.offset false = b := by simp [e2, List.getD_eq_getElem?_getD, e1]
    have e4 := e3 w
    simp only [hb, ne_eq, e0, not_false_eq_true, if_true]
    simp only [Sem.run_bind] at e4 ⊢
    cases hp : (part f.type xs.toArray f.offset).run P w with
    | halt _ _ => rw [hp] at e4; cases e4
    | ok x w1 =>
      rw [hp] at e4
      simp only [Result.andThen_ok] at e4 ⊢
      cases hq : (part f.type ys.toArray f.offset).run P w1 with
      | halt _ _ => rw [hq] at e4; cases e4
      | ok y w2 =>
        rw [hq] at e4
        simp only [Result.andThen_ok] at e4 ⊢
        rw [e4]
        cases b <;> simp [Sem.run_pure]

/-! ### In the executor -/
theorem andL_all : ∀ bs : List Bool, andL bs = bs.all id
  | [] => rfl
  | [b] => by simp [andL]
  | b :: c :: r => by
    have := andL_all (c :: r)
    simp only [andL, List.all_cons, id] at this ⊢
    rw [this]
theorem ikN_inj {k k' : IntKind} (h : Nat.beq (ikN k) (ikN k') = true) : k = k' := by
  have := Nat.eq_of_beq_eq_true h
  cases k <;> cases k' <;> first | rfl | (simp [ikN] at this)
theorem eqSegs_sound (β : Nat → Nat) : ∀ {ks : List CK} {l l' : List Seg} {bs : List Bool}, eqSegs ks l l' = some bs → bs.length = ks.length ∧ ∀ (i : Nat) (c : CK), ks[i]? = some c → ∃ x y b, (denS β l)[i]? = some x ∧ (denS β l')[i]? = some y ∧ bs[i]? = some b ∧ (match c with
      | .int k => ∃ n m, x = .int k n ∧ y = .int k m ∧ b = (n == m)
      | .bool => ∃ n m, x = .bool n ∧ y = .bool m ∧ b = (n == m)
      | .str => ∃ n m, x = .string n ∧ y = .string m ∧ b = (n == m)
      | _ => False)
  | [], [], [], bs, h => by simp only [eqSegs] at h; cases h; exact ⟨rfl, fun i c hi => by simp at hi⟩
  | [], _ :: _, _, bs, h => by simp [eqSegs] at h
  | [], [], _ :: _, bs, h => by simp [eqSegs] at h
  | _ :: _, [], _, bs, h => by simp [eqSegs] at h
  | _ :: _, _ :: _, [], bs, h => by simp [eqSegs] at h
  | c :: ks, s :: l, t :: l', bs, h => by
    simp only [eqSegs] at h
    split at h
    · rename_i x
      split at h
      · rename_i y
        cases hb : eqSV c x y with
        | none => simp only [hb] at h; cases h
        | some b =>
          simp only [hb] at h
          cases hr : eqSegs ks l l' with
          | none => simp only [hr] at h; cases h
          | some bs' =>
            simp only [hr] at h; cases h
            obtain ⟨h1, h2⟩ := eqSegs_sound β hr
            refine ⟨by simp [h1], fun i c' hi => ?_⟩
            cases i with
            | succ i =>
              obtain ⟨x', y', b', e1, e2, e3, e4⟩ := h2 i c' (by simpa using hi)
              exact ⟨x', y', b', by simpa [denS, Seg.den] using e1, by simpa [denS, Seg.den] using e2, by simpa using e3, e4⟩
            | zero =>
              simp at hi; subst hi
              refine ⟨x.den β, y.den β, b, by simp [denS, Seg.den], by simp [denS, Seg.den], rfl, ?_⟩
              unfold eqSV at hb
              split at hb
              · rename_i k
                split at hb
                · rename_i k1 n
                  split at hb
                  · rename_i k2 m
                    split at hb
                    · rename_i e1
                      split at hb
                      · rename_i e2
                        cases hb
                        have := ikN_inj e1; subst this
                        have := ikN_inj e2; subst this
                        exact ⟨n, m, rfl, rfl, rfl⟩
                      · cases hb
                    · cases hb
                  · cases hb
                · cases hb
              · cases hp : boolOf x with
                | none => simp only [hp] at hb; cases hb
                | some p =>
                  simp only [hp] at hb
                  cases hq : boolOf y with
                  | none => simp only [hq] at hb; cases hb
                  | some q => simp only [hq] at hb; cases hb; exact ⟨p, q, bool_den hp β, bool_den hq β, rfl⟩
              · split at hb
                · rename_i s1
                  split at hb
                  · rename_i t1; cases hb; exact ⟨s1, t1, rfl, rfl, rfl⟩
                  · cases hb
                · cases hb
              · cases hb
      · cases h
    · cases h

theorem eqAgg_sound {C : Ctx} {Γ : Env} {β : Nat → Nat} (heq : ∀ t ks, Γ.eq t = some ks → EqOk C.P t ks) {t : TypeId} {op : BinOp} {x y : SV} {xo yo : Operand} {K : SV → Prop} (h : eqAgg Γ t op x y K) (w : World) :
    ∃ p : Bool, K (.b p) ∧ (do eqGuard op t xo yo (x.den β) (y.den β); binOp op t (x.den β) (y.den β) : Sem Value).run C.P w = .ok (.bool p) w := by
  unfold eqAgg at h
  cases hk : Γ.eq t with
  | none => simp only [hk] at h
  | some ks =>
    simp only [hk] at h
    split at h
    · rename_i l
      split at h
      · rename_i l'
        cases hs : eqSegs ks l l' with
        | none => simp only [hs] at h
        | some bs =>
          simp only [hs] at h
          obtain ⟨h1, h2⟩ := eqSegs_sound β hs
          have hE := heq t ks hk
          have hrun := eq_struct hE (denS β l) (denS β l') bs w 9998 9999 rfl h2 h1
          have hst : (program : Sem Program).run C.P w = .ok C.P w := by simp
          cases op <;> simp only [eqRes] at h
          case eql =>
            refine ⟨_, h, ?_⟩
            simp only [SV.den, eqGuard, Sem.run_bind, hst, Result.andThen_ok, hE.guard, binOp, Op.equal, Op.maxDepth, hrun, Sem.run_pure, andL_all]
            simp [hrun, hE.guard, Sem.run_pure, Sem.run_bind]
          case neq =>
            refine ⟨_, h, ?_⟩
            simp only [SV.den, eqGuard, Sem.run_bind, hst, Result.andThen_ok, hE.guard, binOp, Op.equal, Op.maxDepth, hrun, Sem.run_pure, andL_all]
            simp [hrun, hE.guard, Sem.run_pure, Sem.run_bind]
      · exact h.elim
    · exact h.elim

/-! ### Conversions -/
theorem strOf_fold : ∀ (ns : List Int) (r : ByteArray), ns.foldl (fun r n => r.push (UInt8.ofNat n.toNat)) r = ⟨r.data ++ ((ns.map (Value.int .u8)).map byteV).toArray⟩
  | [], r => by simp
  | n :: ns, r => by
    simp only [List.foldl_cons]
    rw [strOf_fold ns]
    simp [ByteArray.push, byteV]
theorem u8_nums : ∀ {vs : List Value}, (∀ v ∈ vs, isU8 v) → ∃ ns : List Int, vs = ns.map (Value.int .u8)
  | [], _ => ⟨[], rfl⟩
  | v :: r, h => by
    obtain ⟨n, hn⟩ := h v (by simp)
    obtain ⟨ns, hr⟩ := u8_nums (vs := r) (fun x hx => h x (by simp [hx]))
    exact ⟨n :: ns, by rw [hn, hr]; rfl⟩
theorem run_str {P : Program} {w : World} {src dst e : TypeId} (hs : P.underlying src = some (.slice e)) (he : P.underlying e = some (.int .u8)) (hd : P.underlying dst = some .string)
    {a : Option Addr} {n c : Nat} {vs : List Value} (hn : vs.length = n) (hu : ∀ v ∈ vs, isU8 v) (hr : n = 0 ∨ RowAt w a vs) : (convert src dst (.slice a n c)).run P w = .ok (.string (strOf vs)) w := by
  obtain ⟨ns, rfl⟩ := u8_nums hu
  rw [run_convert_bytes_string w src dst e a n c hs he hd]
  have h0 : n = 0 → ns = [] := fun h => by
    have : ns.length = 0 := by simpa [h] using hn
    exact List.eq_nil_of_length_eq_zero this
  cases a with
  | none =>
    have hz : ns = [] := by
      rcases hr with h | h
      · exact h0 h
      · cases ns with
        | nil => rfl
        | cons m ns => obtain ⟨ad, h1, _⟩ := h 0 (.int .u8 m) rfl; cases h1
    subst hz
    simp [Conv.bytesToString, strOf, Sem.run_pure]
    rfl
  | some ad =>
    have hl : (loadCells ad n).run P w = .ok (ns.map (Value.int .u8)).toArray w := by
      have := run_loadCells_list (P := P) w ad (ns.map (Value.int .u8)) (fun j v hj => by
        rcases hr with h | h
        · rw [h0 h] at hj; simp at hj
        · obtain ⟨ad', h1, h2⟩ := h j v hj
          cases h1; exact h2)
      simpa [← hn] using this
    rw [run_bytesToString w ad n c ns hl, strOf_fold]
    simp [strOf, ByteArray.empty, ByteArray.emptyWithCapacity]
    rfl

variable {C : Ctx} {Γ : Env} {β : Nat → Nat} {st : SState} {a : Act} {w : World} {o : Oper} {K : SState → Prop} {next : Act → World → Prop} {Q : Exit → Act → World → Prop} {r : Option Nat} {n : Nat}

theorem strS_sound (hi : Inv C β st a w) {x : SV} {K : ByteArray → Prop} (h : strS st.hp st.fx x K) : ∃ (vs : List Value) (ad : Option Addr) (n c : Nat), x.den β = .slice ad n c ∧ K (strOf vs) ∧ vs.length = n ∧ (∀ v ∈ vs, isU8 v) ∧ (n = 0 ∨ RowAt w ad vs) := by
  unfold strS at h
  split at h
  · exact ⟨[], none, 0, 0, rfl, h, rfl, by simp, .inl rfl⟩
  · rename_i ad n c
    obtain ⟨vs, h1, h2, h3, h4⟩ := h
    exact ⟨vs, ad, n, c, rfl, h4, h1, h2, .inr (h3 w hi.now)⟩
  · rename_i id n c z
    split at h
    · rename_i vs len cap s hl
      split at h
      · rename_i hs
        have := Nat.eq_of_beq_eq_true hs; subst this
        obtain ⟨⟨rfl, rfl, h3⟩, h4⟩ := h
        have hb := (hi.hp.blk id _ hl).1
        have hlen : vs.length = n := by have := hb.1; omega
        refine ⟨vs, _, n, c, rfl, h4, hlen, h3, ?_⟩
        by_cases hc : c = 0
        · have := hb.2.1; exact .inl (by omega)
        · right
          rw [if_neg hc]
          exact SB.row_at (s := .orow vs n c 1) rfl hb hc
      · exact h.elim
    · exact h.elim
  · rename_i id lo n c
    split at h
    · rename_i vs len cap s hl
      obtain ⟨⟨h1, h2, h3⟩, h4⟩ := h
      obtain ⟨b1, b2, b3 | ⟨rest, ty, fz, b4, b5, b6⟩⟩ := (hi.hp.blk id _ hl).1
      · exact absurd b3 h2
      · refine ⟨(vs.drop lo).take n, _, n, c, rfl, h4, by simp; omega, fun v hv => h3 v (List.mem_of_mem_drop (List.mem_of_mem_take hv)), .inr (fun k x hx => ⟨_, rfl, ?_⟩)⟩
        rw [add_pl, cell_at b5]
        rw [List.getElem?_take] at hx
        split at hx
        · rw [List.getElem?_drop] at hx
          rw [List.getElem?_append_left (List.getElem?_eq_some_iff.1 hx).1]; exact hx
        · cases hx
    · exact h.elim
  · exact h.elim

theorem isU8T_ok {P : Program} {ty : TypeId → Option TI} (hty : ∀ t ti, ty t = some ti → TI.ok P t ti) {e : TypeId} (h : isU8T ty e = true) : P.underlying e = some (.int .u8) := by
  unfold isU8T at h
  cases he : ty e with
  | none => simp only [he] at h; cases h
  | some ei =>
    simp only [he] at h
    have hu := (hty e ei he).und
    cases hk : ei.k <;> simp only [hk] at h hu <;> try (cases h; done)
    rename_i k
    have : k = .u8 := ikN_inj (k' := .u8) h
    rw [this] at hu; exact hu

theorem op_convert (hn : Γ.N = C.N) (hty : ∀ t ti, Γ.ty t = some ti → TI.ok C.P t ti) (hk : NxtE C β w K next) (hi : Inv C β st a w) {s d : TypeId} {x : Operand} (ho : o.op = .convert s d x) (hac : acv Γ o = false) (h : opS Γ o st K) : Ev C o a w next := by
  simp only [acv, ho] at hac
  simp only [opS, ho] at h
  cases hs : Γ.ty s with
  | none => simp only [hs] at h
  | some si =>
    simp only [hs] at h
    cases ht : Γ.ty d with
    | none => simp only [ht] at h
    | some ti =>
      simp only [ht] at h
      obtain ⟨ds, hds⟩ := (hty s si hs).some
      have hu := (hty d ti ht).und
      have hus := (hty s si hs).und
      cases hkd : ti.k <;> simp only [hkd] at h hu
      case int k =>
        split at h
        · rename_i k' m hx
          obtain ⟨h1, h2⟩ := ev_sound hi hx
          refine fin_ev hn hk (by simp [ho]) ?_ h hi ⟨rfl, trivial⟩
          simp [execOp, ho, h1, SV.den, convert, run_underlying hds, run_underlying hu, Conv.intToInt]
        · exact h.elim
      case str =>
        cases hks : si.k <;> simp only [hks] at h hus
        case slice e =>
          split at h
          · rename_i hb
            split at h
            · rename_i y hx
              obtain ⟨h1, h2⟩ := ev_sound hi hx
              obtain ⟨vs, ad, n, c, e1, e2, e3, e4, e5⟩ := strS_sound hi h
              have hrun := run_str (P := C.P) (w := w) (src := s) (dst := d) (c := c) hus (isU8T_ok hty hb) hu e3 e4 e5
              refine fin_ev hn hk (by simp [ho]) (x := .v (.string (strOf vs))) ?_ e2 hi ⟨rfl, trivial⟩
              simp [execOp, ho, h1, e1, hrun, SV.den]
            · exact h.elim
          · exact h.elim
      case slice e => simp [isSlc, ht, hkd] at hac

end Go.SX
