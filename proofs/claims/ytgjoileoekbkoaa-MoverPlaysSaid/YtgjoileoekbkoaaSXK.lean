/-
  SX, part K: operations: composites, lengths, the least and the greatest.
-/
import Derived.Test.YtgjoileoekbkoaaSXJ
set_option linter.unusedVariables false
set_option linter.unusedSimpArgs false
namespace Go.SX

variable {C : Ctx} {Γ : Env} {β : Nat → Nat} {st : SState} {a : Act} {w : World} {o : Oper} {K : SState → Prop} {next : Act → World → Prop} {Q : Exit → Act → World → Prop} {r : Option Nat} {n : Nat}

theorem foldl_set (off : Nat) : ∀ (xs : List Value) (j : Nat) (cs : List Value), (xs.zipIdx j).foldl (fun cs (p : Value × Nat) => cs.setIfInBounds (off + p.2) p.1) cs.toArray = (updL cs (off + j) xs).toArray
  | [], j, cs => by simp [updL]
  | x :: xs, j, cs => by
    simp only [List.zipIdx_cons, List.foldl_cons, List.setIfInBounds_toArray]
    rw [foldl_set off xs (j + 1) (cs.set (off + j) x)]
    simp [updL, Nat.add_assoc]
theorem fill_step (place : Nat → Option (Nat × Nat)) (cs : List Value) (i off size : Nat) (v : Value) (rest : List (Nat × Value)) (hp : place i = some (off, size)) (hv : v.cells.size = size) (hb : off + size ≤ cs.length) :
    Instr.fill place cs.toArray ((i, v) :: rest) = Instr.fill place (setR cs off v.cells.toList).toArray rest := by
  simp only [Instr.fill, hp]
  rw [if_neg (by simp [hv]; omega)]
  congr 1
  have := foldl_set off v.cells.toList 0 cs
  rw [Nat.add_zero, updL_eq _ _ _ (by simp [hv]; omega)] at this
  rw [← this]
  rw [← Array.foldl_toList]
  simp

theorem evP_sound (h : Inv C β st a w) : ∀ {xs : List (Nat × Operand)} {l : List (Nat × SV)}, evP st.tm xs = some l → xs.map (fun p => (p.1, a.eval p.2)) = l.map (fun p => (p.1, p.2.den β)) ∧ ∀ p ∈ l, gd st.nx p.2
  | [], l, he => by simp only [evP] at he; cases he; simp
  | (i, x) :: xs, l, he => by
    simp only [evP] at he
    cases h1 : ev st.tm x with
    | none => simp [h1] at he
    | some y =>
      simp only [h1] at he
      cases h2 : evP st.tm xs with
      | none => simp [h2] at he
      | some l' =>
        simp only [h2] at he; cases he
        obtain ⟨g1, g2⟩ := ev_sound h h1
        obtain ⟨k1, k2⟩ := evP_sound h h2
        refine ⟨by simp [g1, k1], fun p hp => ?_⟩
        rcases List.mem_cons.1 hp with rfl | hp
        · exact g2
        · exact k2 p hp

theorem fillS_sound {ty : TypeId → Option TI} {ti : TI} (place : Nat → Option (Nat × Nat)) (hpl : ∀ i off size, (match ti.k with
      | .struct fs => ∃ ft fi, fs[i]? = some (off, ft) ∧ ty ft = some fi ∧ fi.size = size
      | .arr _ e => ∃ fi, ty e = some fi ∧ fi.size = size ∧ off = i * fi.size
      | _ => False) → place i = some (off, size)) :
    ∀ {ps : List (Nat × SV)} {l l' : List Seg}, fillS ty ti ps l = some l' → okS l → ltS n l = true → (∀ p ∈ ps, gd n p.2) → okS l' ∧ ltS n l' = true ∧ Instr.fill place (denS β l).toArray (ps.map (fun p => (p.1, p.2.den β))) = some (denS β l').toArray
  | [], l, l', h, h1, h2, _ => by simp only [fillS] at h; cases h; exact ⟨h1, h2, by simp [Instr.fill]⟩
  | (i, x) :: ps, l, l', h, h1, h2, h3 => by
    simp only [fillS] at h
    cases hc : cellsOf x with
    | none => simp [hc] at h
    | some c =>
      simp only [hc] at h
      have hgx := h3 (i, x) (by simp)
      have hcok := cells_ok hc hgx.2
      have hclt := (cells_den hc β).2 _ hgx.1
      have hcl := lenS_den (β := β) hcok
      have go : ∀ off size, place i = some (off, size) → lenS c = size → ∀ l1, setS l off c size = some l1 → fillS ty ti ps l1 = some l' → okS l' ∧ ltS n l' = true ∧ Instr.fill place (denS β l).toArray (((i, x) :: ps).map (fun p => (p.1, p.2.den β))) = some (denS β l').toArray := by
        intro off size hp hs l1 hl1 hf
        obtain ⟨g1, g2, g3, g4⟩ := setS_spec (β := β) h1 h2 hcok hclt (by rw [hcl, hs]) hl1
        obtain ⟨k1, k2, k3⟩ := fillS_sound place hpl hf g2 g3 (fun p hp => h3 p (by simp [hp]))
        refine ⟨k1, k2, ?_⟩
        simp only [List.map_cons]
        rw [fill_step place _ i off size _ _ hp (by rw [(cells_den hc β).1]; simp [hcl, hs]) g4, (cells_den hc β).1]
        simp only
        rw [← g1]; exact k3
      cases hk : ti.k <;> simp only [hk] at h <;> try (cases h; done)
      case struct fs =>
        cases hf : fs[i]? with
        | none => simp [hf] at h
        | some q =>
          obtain ⟨off, ft⟩ := q
          simp only [hf] at h
          cases ht : ty ft with
          | none => simp [ht] at h
          | some fi =>
            simp only [ht] at h
            cases hb : Nat.beq (lenS c) fi.size with
            | false => simp [hb] at h
            | true =>
              simp only [hb] at h
              cases hs : setS l off c fi.size with
              | none => simp [hs] at h
              | some l1 =>
                simp only [hs] at h
                exact go off fi.size (hpl i off fi.size (by rw [hk]; exact ⟨ft, fi, hf, ht, rfl⟩)) (Nat.eq_of_beq_eq_true hb) l1 hs h
      case arr m e =>
        cases ht : ty e with
        | none => simp [ht] at h
        | some fi =>
          simp only [ht] at h
          cases hb : Nat.beq (lenS c) fi.size with
          | false => simp [hb] at h
          | true =>
            simp only [hb] at h
            cases hs : setS l (i * fi.size) c fi.size with
            | none => simp [hs] at h
            | some l1 =>
              simp only [hs] at h
              exact go (i * fi.size) fi.size (hpl i _ fi.size (by rw [hk]; exact ⟨fi, ht, rfl, rfl⟩)) (Nat.eq_of_beq_eq_true hb) l1 hs h

theorem mapM_get {α β : Type} (f : α → Option β) : ∀ {l : List α} {m : List β}, l.mapM f = some m → ∀ (i : Nat) (x : α), l[i]? = some x → ∃ y, f x = some y ∧ m[i]? = some y
  | [], m, h, i, x, hx => by simp at hx
  | z :: l, m, h, i, x, hx => by
    simp only [List.mapM_cons, Option.bind_eq_bind, Option.pure_def] at h
    cases hz : f z with
    | none => simp [hz] at h
    | some y =>
      cases hr : l.mapM f with
      | none => simp [hz, hr] at h
      | some m' =>
        simp [hz, hr] at h
        subst h
        cases i with
        | zero => simp at hx; subst hx; exact ⟨y, hz, rfl⟩
        | succ i => simp at hx; simpa using mapM_get f hr i x hx

theorem op_build (hn : Γ.N = C.N) (hty : ∀ t ti, Γ.ty t = some ti → TI.ok C.P t ti) (hk : NxtE C β w K next) (hi : Inv C β st a w) {t : TypeId} {ps : Array (Nat × Operand)} (ho : o.op = .build t ps) (h : opS Γ o st K) : Ev C o a w next := by
  simp only [opS, ho] at h
  cases ht : Γ.ty t with
  | none => simp only [ht] at h
  | some ti =>
    simp only [ht] at h
    cases hp : evP st.tm ps.toList with
    | none => simp only [hp] at h
    | some l =>
      simp only [hp] at h
      cases hf : fillS Γ.ty ti l ti.zero with
      | none => simp only [hf] at h
      | some l' =>
        simp only [hf] at h
        cases hbo : buildOk Γ.ty ti with
        | false => simp only [hbo] at h
        | true =>
        simp only [hbo] at h
        have hok := hty t ti ht
        obtain ⟨k1, k2⟩ := evP_sound hi hp
        obtain ⟨it, i1, i2, _, z, i3, i4⟩ := hok.inf
        have hzβ : z.cells.toList = denS β ti.zero := by rw [i4]; exact denS_congr (n := 0) (fun i hi => absurd hi (Nat.not_lt_zero i)) _ hok.zlt
        have hz' : z.cells = (denS β ti.zero).toArray := by rw [← hzβ]
        have hu := hok.und
        have hsize : ∀ t ti, Γ.ty t = some ti → ∃ i, C.P.info? t = some i ∧ i.size = ti.size := fun t ti h => by obtain ⟨i, h1, h2, _⟩ := (hty t ti h).inf; exact ⟨i, h1, h2⟩
        have fin : ∀ (place : Nat → Option (Nat × Nat)), (∀ i off size, (match ti.k with
            | .struct fs => ∃ ft fi, fs[i]? = some (off, ft) ∧ Γ.ty ft = some fi ∧ fi.size = size
            | .arr _ e => ∃ fi, Γ.ty e = some fi ∧ fi.size = size ∧ off = i * fi.size
            | _ => False) → place i = some (off, size)) → C.P.built t (ps.map (fun (i, x) => (i, a.eval x))).toList = Instr.fill place (denS β ti.zero).toArray (l.map (fun p => (p.1, p.2.den β))) → Ev C o a w next := by
          intro place hpl hb
          obtain ⟨e1, e2, e3⟩ := fillS_sound (β := β) (n := st.nx) place hpl hf hok.zok (ltS_mono (Nat.zero_le _) _ hok.zlt) k2
          rw [e3] at hb
          refine fin_ev hn hk (by simp [ho]) (x := .agg l') ?_ h hi ⟨by simpa [SV.lt] using e2, e1⟩
          simp only [execOp, ho, Sem.run_bind, run_build w t _ _ hb, Result.andThen_ok, Sem.run_pure, SV.den]
        have hparts : (ps.map (fun (i, x) => (i, a.eval x))).toList = l.map (fun p => (p.1, p.2.den β)) := by rw [← k1]; simp
        cases hkd : ti.k <;> simp only [hkd] at hu
        case struct fs =>
          obtain ⟨F, pl, u1, u2, u3⟩ := hu
          refine fin (fun i => pl[i]?) ?_ ?_
          · intro i off size hh
            simp only [hkd] at hh
            obtain ⟨ft, fi, g1, g2, g3⟩ := hh
            rw [← u2, List.getElem?_map] at g1
            cases hF : F.toList[i]? with
            | none => simp [hF] at g1
            | some f =>
              simp [hF] at g1
              obtain ⟨y, y1, y2⟩ := mapM_get _ u3 i f hF
              obtain ⟨i', j1, j2⟩ := hsize ft fi g2
              rw [g1.2, j1] at y1
              simp at y1
              rw [y2, ← y1, g1.1, j2, g3]
          · simp only [Program.built, i1, u1, i3, u3, hz', hparts]
            congr 1
            funext i; simp
        case arr m e =>
          cases he : Γ.ty e with
          | none => simp [buildOk, hkd, he] at hbo
          | some fi =>
            obtain ⟨ie, j1, j2⟩ := hsize e fi he
            refine fin (fun i => some (i * ie.size, ie.size)) (fun i off size hh => ?_) ?_
            · simp only [hkd] at hh
              obtain ⟨fi', g1, g2, g3⟩ := hh
              rw [he] at g1; cases g1
              rw [g3, j2, g2]
            · simp only [Program.built, i1, hu, i3, j1, hz', hparts]
        all_goals simp [buildOk, hkd] at hbo

theorem lenOf_run {P : Program} {x : SV} {m : Nat} {t : TypeId} {ti : TI} (hok : ti.ok P t) (h : lenOfS ti.k x = some m) (β : Nat → Nat) (ts : Array TypeId) (hts : ts[0]? = some t) (tt : TypeId) (w : World) :
    (Builtin.len_ ts tt #[x.den β]).run P w = .ok (.int .i64 (m : Int)) w := by
  have hu := hok.und
  unfold lenOfS at h
  cases hk : ti.k <;> simp only [hk] at h hu <;> try (cases h; done)
  case str =>
    split at h
    · cases h; simp [Builtin.len_, hts, run_underlying hu, goInt, SV.den]
    · cases h
  case slice e =>
    split at h <;> first | (cases h; simp [Builtin.len_, hts, run_underlying hu, goInt, SV.den]; done) | cases h

theorem op_len (hn : Γ.N = C.N) (hty : ∀ t ti, Γ.ty t = some ti → TI.ok C.P t ti) (hk : NxtE C β w K next) (hi : Inv C β st a w) {c : Call} (ho : o.op = .call c) (hc : c.callee = .builtin .len) (h : opS Γ o st K) : Ev C o a w next := by
  simp only [opS, ho, hc] at h
  split at h
  · rename_i x hx
    cases ht : c.argTypes[0]? with
    | none => simp only [ht] at h
    | some t =>
      simp only [ht] at h
      cases hti : Γ.ty t with
      | none => simp only [hti] at h
      | some ti =>
        simp only [hti] at h
        cases he : ev st.tm x with
        | none => simp only [he] at h
        | some s =>
          simp only [he] at h
          cases hl : lenOfS ti.k s with
          | none => simp only [hl] at h
          | some m =>
            simp only [hl] at h
            obtain ⟨h1, h2⟩ := ev_sound hi he
            have hargs : c.args = #[x] := by cases hh : c.args; rw [hh] at hx; simpa using hx
            refine fin_ev hn hk (by simp [ho]) (x := .v (.int .i64 (m : Int))) ?_ h hi ⟨rfl, trivial⟩
            simp only [execOp, ho, resolve, hc, hargs, Sem.run_bind, Sem.run_pure, Result.andThen_ok, invoke, builtin]
            simp [h1, lenOf_run (hty t ti hti) hl β _ ht, SV.den]
  · exact h.elim

theorem args_two {c : Call} {x y : SV} (hi : Inv C β st a w) (h : evL st.tm c.args.toList = some [x, y]) : c.args.map a.eval = #[x.den β, y.den β] := by
  obtain ⟨h1, _⟩ := evL_sound hi h
  have : (c.args.map a.eval).toList = [x.den β, y.den β] := by rw [Array.toList_map, h1]; simp [denL]
  cases hh : c.args.map a.eval; rw [hh] at this; simpa using this

theorem op_minmax (hn : Γ.N = C.N) (hk : NxtE C β w K next) (hi : Inv C β st a w) {c : Call} (ho : o.op = .call c) (hc : c.callee = .builtin .min ∨ c.callee = .builtin .max) (h : opS Γ o st K) : Ev C o a w next := by
  rcases hc with hc | hc <;> simp only [opS, ho, hc] at h <;> split at h <;> try exact h.elim
  · rename_i k x k' y hx
    have hargs := args_two hi hx
    refine fin_ev hn hk (by simp [ho]) ?_ h hi ⟨rfl, trivial⟩
    simp only [execOp, ho, resolve, hc, hargs, Sem.run_bind, Sem.run_pure, Result.andThen_ok, invoke, builtin]
    simp [Builtin.min_, Builtin.min2, SV.den, List.foldlM]
  · rename_i k x k' y hx
    have hargs := args_two hi hx
    refine fin_ev hn hk (by simp [ho]) ?_ h hi ⟨rfl, trivial⟩
    simp only [execOp, ho, resolve, hc, hargs, Sem.run_bind, Sem.run_pure, Result.andThen_ok, invoke, builtin]
    simp [Builtin.max_, Builtin.max2, SV.den, List.foldlM]

end Go.SX
