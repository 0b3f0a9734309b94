/-
  SX, part W: append.
-/
import Derived.Test.YtgjoileoekbkoaaSXU
set_option linter.unusedVariables false
set_option linter.unusedSimpArgs false
namespace Go.SX

variable {C : Ctx} {Γ : Env} {β : Nat → Nat} {st : SState} {a : Act} {w : World} {o : Oper} {K : SState → Prop} {next : Act → World → Prop} {Q : Exit → Act → World → Prop} {r : Option Nat} {n : Nat}
variable {P : Program}

theorem zeroCells_length (z : Array Value) (n : Nat) : (Builtin.zeroCells z n).toList.length = n * z.size := by simp [Builtin.zeroCells]
theorem zeroCells_one {z : Array Value} (hz : ∀ v ∈ z.toList, one1 v = true) (n : Nat) : ∀ v ∈ (Builtin.zeroCells z n).toList, one1 v = true := by
  intro v hv
  simp only [Builtin.zeroCells, Array.toList_map, List.mem_map] at hv
  obtain ⟨i, hi, rfl⟩ := hv
  rcases Nat.eq_zero_or_pos z.size with h0 | h0
  · simp [h0, Array.range_zero'] at hi
  · have : i % z.size < z.size := Nat.mod_lt _ h0
    rw [getElem!_pos z (i % z.size) this]
    exact hz _ (by simp)

/-- What grows is a new row. -/
theorem app_grow (hC : CtxOk C) (hi : Inv C β st a w) {t tx ty e : TypeId} {ei : TI} (ht : C.P.underlying t = some (.slice e)) (he : ei.ok C.P e) (hb0 : 0 < ei.bytes) {base : Option Addr} {len cap : Nat} {vs news : List Value} {n : Nat} {x : Value}
    (hold : (Builtin.firstCells ei.size len (.slice base len cap)).run C.P w.drew = .ok vs.toArray w.drew) (hvl : vs.length = len * ei.size)
    (hs : Src C.P ei.size tx x n news w) (hn1 : ∀ v ∈ vs ++ news, one1 v = true) (hg : cap < len + n) (hb : (len + n) * ei.bytes ≤ 140737488355328) :
    ∃ (c' : Nat) (w' : World) (zs : List Value), len + n ≤ c' ∧ zs.length = (c' - (len + n)) * ei.size ∧ (∀ v ∈ zs, one1 v = true) ∧ (Builtin.append_ #[t, tx] ty #[.slice base len cap, x]).run C.P w = .ok (.slice (some ⟨w.heap.size, 0, none⟩) (len + n) c') w' ∧
      ∀ b : SB, (∀ β', (∀ i, i < st.nx → β' i = β i) → b.den β' (some (.cells (vs ++ news ++ zs).toArray e (0, 0)))) → b.lt st.nx = true → Inv C (up β st.nx w.heap.size) (newS st b) a w' := by
  obtain ⟨i, hi1, hi2, hi3, z, hz1, hz2⟩ := he.inf
  have hzs : z.cells.size = ei.size := by
    have h1 := he.zln
    have h2 := lenS_den (β := fun i => i) he.zok
    rw [← hz2] at h2; simpa [h1] using h2
  have h63 : ((len + n : Nat) : Int) ≤ 9223372036854775807 := by
    have : (len + n) * 1 ≤ (len + n) * ei.bytes := Nat.mul_le_mul_left _ hb0
    omega
  have hfit : Builtin.nextslicecap (len + n) cap * i.bytes ≤ 281474976710656 := by rw [hi3]; exact growslice_fits hg hb
  have hrun := run_append_grow_src (P := C.P) w t tx ty e i z ht hi1 hz1 base len cap vs (by rw [hi2]; exact hold) x n news (by rw [hi2]; exact hs) hg h63 hfit
  refine ⟨grownCap w (len + n) cap e, _, (Builtin.zeroCells z.cells (grownCap w (len + n) cap e - (len + n))).toList, grownCap_ge _ _ _ _, by rw [zeroCells_length, hzs], zeroCells_one (by rw [hz2]; exact okS.one1 he.zok _) _, hrun, fun b hbd hbl => ?_⟩
  have hd : Inv C β st a w.drew := hi.drew
  have := Inv.new (o := .cells ((vs ++ news).toArray ++ Builtin.zeroCells z.cells (grownCap w (len + n) cap e - (len + n))) e) hC hd (b := b) (fun β' hβ => by
    have h := hbd β' hβ
    have e1 : ((vs ++ news ++ (Builtin.zeroCells z.cells (grownCap w (len + n) cap e - (len + n))).toList).toArray) = ((vs ++ news).toArray ++ Builtin.zeroCells z.cells (grownCap w (len + n) cap e - (len + n))) := by
      apply Array.ext'; simp
    rw [e1] at h; exact h) hbl
  exact this

theorem den_orow_new {β' : Nat → Nat} {vs zs : List Value} {len c sz : Nat} {e : TypeId} (hv : vs.length = len * sz) (hl : len ≤ c) (hz : zs.length = (c - len) * sz) : (SB.orow vs len c sz).den β' (some (.cells (vs ++ zs).toArray e (0, 0))) := by
  refine ⟨hv, hl, .inr ⟨zs, e, (0, 0), ?_, rfl, nf00 _⟩⟩
  rw [hv, hz, ← Nat.add_mul]; congr 1; omega

/-- append onto nothing. -/
theorem app_nil (hC : CtxOk C) (hi : Inv C β st a w) {t tx ty e : TypeId} {ei : TI} (ht : C.P.underlying t = some (.slice e)) (he : ei.ok C.P e) (hb0 : 0 < ei.bytes) {n : Nat} {news : List Value} {x : Value}
    (hs : Src C.P ei.size tx x n news w) (h1 : ∀ v ∈ news, one1 v = true) (hb : n * ei.bytes ≤ 140737488355328) {K : List (Nat × SB) → SV → Prop}
    (h : ∀ c', n ≤ c' → (n = 0 → c' = 0) → K ((st.nx, .orow news n c' ei.size) :: st.hp) (.osl st.nx n c' .nil)) :
    ∃ β' hp' y w', K hp' y ∧ gd (st.nx + 1) y ∧ (Builtin.append_ #[t, tx] ty #[.slice none 0 0, x]).run C.P w = .ok (y.den β') w' ∧ Inv C β' { st with hp := hp', nx := st.nx + 1 } a w' := by
  have hgd : ∀ c', gd (st.nx + 1) (.osl st.nx n c' .nil) := fun c' => ⟨by simp [SV.lt, Nat.blt], trivial⟩
  rcases Nat.eq_zero_or_pos n with h0 | h0
  · subst h0
    have hnil : news = [] := List.eq_nil_of_length_eq_zero (by rw [hs.newsLen]; simp)
    subst hnil
    obtain ⟨i, hi1, hi2, _⟩ := he.inf
    refine ⟨β, _, _, w, h 0 (Nat.le_refl _) (fun _ => rfl), hgd 0, ?_, ?_⟩
    · rw [run_append_nothing w t tx ty e i ht hi1 none 0 0 (Nat.le_refl _) x (by rw [hi2]; exact hs)]
      simp [SV.den, ZB.den]
    · exact hi.dead ei.size
  · obtain ⟨c', w', zs, g1, g2, g3, g4, g5⟩ := app_grow (ty := ty) (cap := 0) (len := 0) (vs := []) (base := none) hC hi ht he hb0 (by simpa using run_firstCells_none w.drew ei.size 0 0 0) (by simp) hs (by simpa using h1) (by omega) (by simpa using hb)
    simp only [Nat.zero_add] at g1 g2 g4
    refine ⟨_, _, _, w', h c' g1 (fun e => by omega), hgd c', ?_, g5 (.orow news n c' ei.size) (fun β' _ => ?_) rfl⟩
    · rw [g4]; simp [SV.den, up_same]; omega
    · simpa using den_orow_new (e := e) (β' := β') (hs.newsLen) g1 g2

/-- append onto a row of one's own. -/
theorem app_row (hC : CtxOk C) (hi : Inv C β st a w) {t tx ty e : TypeId} {ei : TI} (ht : C.P.underlying t = some (.slice e)) (he : ei.ok C.P e) (hb0 : 0 < ei.bytes) {id len cap : Nat} {z : ZB} {vs : List Value} {n : Nat} {news : List Value} {x : Value}
    (hl : lk st.hp id = some (.orow vs len cap ei.size)) (hv1 : ∀ v ∈ vs, one1 v = true)
    (hs : Src C.P ei.size tx x n news w) (h1 : ∀ v ∈ news, one1 v = true) (hb : (len + n) * ei.bytes ≤ 140737488355328) {K : List (Nat × SB) → SV → Prop}
    (h : ∀ c', len + n ≤ c' → (len + n ≤ cap → c' = cap) → K ((st.nx, .orow (vs ++ news) (len + n) c' ei.size) :: rm st.hp id) (.osl st.nx (len + n) c' z)) :
    ∃ β' hp' y w', K hp' y ∧ gd (st.nx + 1) y ∧ (Builtin.append_ #[t, tx] ty #[(SV.osl id len cap z).den β, x]).run C.P w = .ok (y.den β') w' ∧ Inv C β' { st with hp := hp', nx := st.nx + 1 } a w' := by
  have hgd : ∀ c', gd (st.nx + 1) (.osl st.nx (len + n) c' z) := fun c' => ⟨by simp [SV.lt, Nat.blt], trivial⟩
  obtain ⟨⟨b1, b2, b3⟩, b4, b5⟩ := hi.hp.blk id _ hl
  obtain ⟨i, hi1, hi2, _⟩ := he.inf
  by_cases hroom : len + n ≤ cap
  · -- there is room
    rcases Nat.eq_zero_or_pos cap with hc | hc
    · subst hc
      obtain rfl : len = 0 := by omega
      obtain rfl : n = 0 := by omega
      have hnil : news = [] := List.eq_nil_of_length_eq_zero (by rw [hs.newsLen]; simp)
      subst hnil
      have hvn : vs = [] := List.eq_nil_of_length_eq_zero (by rw [b1]; simp)
      subst hvn
      refine ⟨_, _, _, w, h 0 (Nat.le_refl _) (fun _ => rfl), hgd 0, ?_, by simpa using hi.move hl⟩
      simp only [SV.den, if_true]
      rw [run_append_nothing w t tx ty e i ht hi1 _ 0 0 (Nat.le_refl _) x (by rw [hi2]; exact hs)]
      simp [up_same]
    · rcases b3 with b3 | ⟨rest, ty', fz, c1, c2, c3⟩
      · omega
      · have hlen : vs.length + news.length ≤ vs.length + rest.length := by
          rw [c1, b1, hs.newsLen, ← Nat.add_mul]; exact Nat.mul_le_mul_right _ hroom
        have hst := run_storeCells (P := C.P) (b := β id) (len * ei.size) news 0 (vs ++ rest) w c2 (by simpa using c3) (by rw [← b1]; simp; omega) h1
        rw [Nat.add_zero, ← b1, updL_eq _ _ _ (by simp; omega)] at hst
        have hset : setR (vs ++ rest) vs.length news = (vs ++ news) ++ rest.drop news.length := by
          simp [setR, List.append_assoc]
        rw [hset] at hst
        have hblk : β id < w.heap.size := (Array.getElem?_eq_some_iff.1 c2).1
        have hupd := hi.upd (s' := .orow (vs ++ news) (len + n) cap ei.size) hl (show cap ≠ 0 by omega) (w' := putB w (β id) (.cells ((vs ++ news) ++ rest.drop news.length).toArray ty' fz)) putB_size (fun b hb => putB_other hb) rfl rfl rfl (by
          rw [putB_same hblk]
          refine ⟨by simp [b1, hs.newsLen, Nat.add_mul], hroom, .inr ⟨_, _, _, ?_, rfl, ?_⟩⟩
          · simp; omega
          · have e2 : (vs ++ news).length + (rest.drop news.length).length = vs.length + rest.length := by simp; omega
            rw [e2]; exact c3) rfl
        have hmv := hupd.move (id := id) (s := .orow (vs ++ news) (len + n) cap ei.size) (by simp [lk_cons])
        have hrm : rm ((id, SB.orow (vs ++ news) (len + n) cap ei.size) :: rm st.hp id) id = rm st.hp id := by
          simp only [rm, Nat.beq_refl]
          have : ∀ l : List (Nat × SB), rm (rm l id) id = rm l id := by
            intro l
            induction l with
            | nil => rfl
            | cons p q ih =>
              obtain ⟨j, s⟩ := p
              simp only [rm]
              cases hj : Nat.beq j id with
              | true => exact ih
              | false => simp only [rm, hj, ih]
          exact this _
        rw [hrm] at hmv
        refine ⟨_, _, _, _, h cap hroom (fun _ => rfl), hgd cap, ?_, hmv⟩
        have hs' : (Builtin.firstCells i.size n x).run C.P w = .ok news.toArray w := by rw [hi2]; exact hs.cells
        have hc0 : cap ≠ 0 := by omega
        simp only [SV.den, if_neg hc0]
        rcases hs.kind with ⟨e', hk⟩ | hk <;> simp [Builtin.append_, run_underlying ht, run_underlying hk, sizeOf, typeInfo, hi1, hi2, hs.len, hroom, hs.cells, add_pl, ← b1, hst, up_same, hc0]
  · -- there is none
    have hold : (Builtin.firstCells ei.size len ((SV.osl id len cap z).den β)).run C.P w.drew = .ok vs.toArray w.drew := by
      simp only [SV.den]
      refine firstCells_at b1 ?_
      rcases b3 with b3 | ⟨rest, ty', fz, c1, c2, c3⟩
      · subst b3
        obtain rfl : len = 0 := by omega
        have hvn : vs = [] := List.eq_nil_of_length_eq_zero (by rw [b1]; simp)
        subst hvn
        exact fun k x hx => by simp at hx
      · have hr := rowAt_block c2 0 vs.length (by simp)
        simp only [List.drop_zero, List.take_left'] at hr
        split
        · have hvn : vs = [] := List.eq_nil_of_length_eq_zero (by rw [b1, show len = 0 by omega]; simp)
          subst hvn
          exact fun k x hx => by simp at hx
        · exact fun k x hx => by
            obtain ⟨ad, h1, h2⟩ := hr k x hx
            exact ⟨ad, h1, by simpa using h2⟩
    obtain ⟨c', w', zs, g1, g2, g3, g4, g5⟩ := app_grow (ty := ty) (x := x) (vs := vs) hC hi ht he hb0 (base := _) (cap := cap) (by simpa only [SV.den] using hold) b1 hs (fun v hv => (List.mem_append.1 hv).elim (hv1 v) (h1 v)) (by omega) hb
    have hd := g5 (.orow (vs ++ news) (len + n) c' ei.size) (fun β' _ => by
      have := den_orow_new (β' := β') (e := e) (vs := vs ++ news) (len := len + n) (sz := ei.size) (by simp [b1, hs.newsLen, Nat.add_mul]) g1 g2
      simpa using this) rfl
    have hdr := hd.drop id
    have hrm : rm (newS st (.orow (vs ++ news) (len + n) c' ei.size)).hp id = (st.nx, .orow (vs ++ news) (len + n) c' ei.size) :: rm st.hp id := by
      simp only [newS, rm]
      have hne : Nat.beq st.nx id = false := by
        cases hb : Nat.beq st.nx id with
        | false => rfl
        | true => have := Nat.eq_of_beq_eq_true hb; omega
      rw [hne]
    rw [hrm] at hdr
    refine ⟨_, _, _, w', h c' g1 (fun h => absurd h hroom), hgd c', ?_, hdr⟩
    simp only [SV.den] at g4 ⊢
    rw [g4]; simp [up_same]; omega

end Go.SX
