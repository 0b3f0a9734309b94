/-
  The law of the mover: for every input it returns true, and the input reads as it did.
-/
import Derived.Test.YtgjoileoekbkoaaP7
import Derived.Test.YtgjoileoekbkoaaRows
import Derived.Test.YtgjoileoekbkoaaSXRd
import Derived.ProofKit
import Derived.SizedLaws
set_option linter.unusedVariables false
namespace Go.Proofs.Ytgjoileoekbkoaa
open Go Go.SX Go.ChangeShapes Go.WideShapes Go.ChangeAt Go.RowKit

theorem Try.own : ownKnob Try.prog.godebug = none := by kernel_rfl
theorem Try.laidOut : laidOutB Try.prog = true := by kernel_rfl
theorem leaf44 : leafs Try.prog 60 44 = some [3, 3, 3, 3, 2, 3, 2, 3, 3, 3, 9, 9, 2, 9, 3, 3, 9, 9, 2, 31, 3, 2, 3, 4, 26, 31, 4, 31, 2, 38, 26] := by kernel_rfl
theorem cells44 : Try.prog.cellsOf 44 = 31 := by kernel_rfl
theorem cells5 : Try.prog.cellsOf 5 = 1 := by kernel_rfl
theorem bytes5 : 1 ≤ Try.prog.bytesOf 5 := of_decide_eq_true (by kernel_rfl)
theorem bytes44 : 1 ≤ Try.prog.bytesOf 44 := of_decide_eq_true (by kernel_rfl)
theorem bytes100 : 1 ≤ Try.prog.bytesOf 100 := of_decide_eq_true (by kernel_rfl)

instance : Inhabited OpD := ⟨⟨0, ⟨0, 0, 0, 0, 0, 0⟩, ⟨0, {}⟩, none, 0, 0, ⟨0, false, 0, 0⟩, none, 0, 0, none, 0, []⟩⟩

/-- A call that lies at a. -/
structure OpAt (W : World) (a : Addr) (o : OpD) : Prop where
  at_ : ∀ k v, o.vals[k]? = some v → W.cell? (a.add k) = some v
  d : RowAt W o.da o.d
  ad : RowAt W o.aa (rowOf W o.aa o.al)
  du : ∀ v ∈ o.d, isU8 v
  dl : o.d.length ≤ 140737488355327
  au : ∀ v ∈ rowOf W o.aa o.al, isU8 v
  al : o.al ≤ 140737488355327

set_option maxHeartbeats 4000000 in
theorem opAt_of {H : Type} {enc : TypeId × Value → H} {W : World} {a : Addr} {fuel : Nat} {cs : List Value} {x : DataW H × List MemPlace} (hc : W.cells? 0 a 31 = some cs) (hx : DataW.trod enc Try.prog W 0 (fun _ => true) true fuel 44 cs = some x) (hw : ∀ q ∈ x.1.weights Try.prog 44, q ≤ reachBytes) : ∃ o, OpAt W a o := by
  obtain ⟨hl, hg⟩ := leafs_trod leaf44 hx hw
  have hr : reachBytes ≤ 140737488355327 := by decide
  obtain ⟨c0, g0, l0⟩ := hg 0 3 rfl
  obtain ⟨n0, rfl⟩ := l0.int Try.underlying3
  obtain ⟨c1, g1, l1⟩ := hg 1 3 rfl
  obtain ⟨n1, rfl⟩ := l1.int Try.underlying3
  obtain ⟨c2, g2, l2⟩ := hg 2 3 rfl
  obtain ⟨n2, rfl⟩ := l2.int Try.underlying3
  obtain ⟨c3, g3, l3⟩ := hg 3 3 rfl
  obtain ⟨n3, rfl⟩ := l3.int Try.underlying3
  obtain ⟨c4, g4, l4⟩ := hg 4 2 rfl
  obtain ⟨n4, rfl⟩ := l4.int Try.underlying2
  obtain ⟨c5, g5, l5⟩ := hg 5 3 rfl
  obtain ⟨n5, rfl⟩ := l5.int Try.underlying3
  obtain ⟨c6, g6, l6⟩ := hg 6 2 rfl
  obtain ⟨n6, rfl⟩ := l6.int Try.underlying2
  obtain ⟨c7, g7, l7⟩ := hg 7 3 rfl
  obtain ⟨n7, rfl⟩ := l7.int Try.underlying3
  obtain ⟨c8, g8, l8⟩ := hg 8 3 rfl
  obtain ⟨n8, rfl⟩ := l8.int Try.underlying3
  obtain ⟨c9, g9, l9⟩ := hg 9 3 rfl
  obtain ⟨n9, rfl⟩ := l9.int Try.underlying3
  obtain ⟨c10, g10, l10⟩ := hg 10 9 rfl
  obtain ⟨n10, rfl⟩ := l10.string Try.underlying9
  obtain ⟨c11, g11, l11⟩ := hg 11 9 rfl
  obtain ⟨n11, rfl⟩ := l11.string Try.underlying9
  obtain ⟨c12, g12, l12⟩ := hg 12 2 rfl
  obtain ⟨n12, rfl⟩ := l12.int Try.underlying2
  obtain ⟨c13, g13, l13⟩ := hg 13 9 rfl
  obtain ⟨n13, rfl⟩ := l13.string Try.underlying9
  obtain ⟨c14, g14, l14⟩ := hg 14 3 rfl
  obtain ⟨n14, rfl⟩ := l14.int Try.underlying3
  obtain ⟨c15, g15, l15⟩ := hg 15 3 rfl
  obtain ⟨n15, rfl⟩ := l15.int Try.underlying3
  obtain ⟨c16, g16, l16⟩ := hg 16 9 rfl
  obtain ⟨n16, rfl⟩ := l16.string Try.underlying9
  obtain ⟨c17, g17, l17⟩ := hg 17 9 rfl
  obtain ⟨n17, rfl⟩ := l17.string Try.underlying9
  obtain ⟨c18, g18, l18⟩ := hg 18 2 rfl
  obtain ⟨n18, rfl⟩ := l18.int Try.underlying2
  obtain ⟨c19, g19, l19⟩ := hg 19 31 rfl
  obtain ⟨n19, rfl⟩ := l19.int Try.underlying31
  obtain ⟨c20, g20, l20⟩ := hg 20 3 rfl
  obtain ⟨n20, rfl⟩ := l20.int Try.underlying3
  obtain ⟨c21, g21, l21⟩ := hg 21 2 rfl
  obtain ⟨n21, rfl⟩ := l21.int Try.underlying2
  obtain ⟨c22, g22, l22⟩ := hg 22 3 rfl
  obtain ⟨n22, rfl⟩ := l22.int Try.underlying3
  obtain ⟨c23, g23, l23⟩ := hg 23 4 rfl
  obtain ⟨n23, rfl⟩ := l23.bool Try.underlying4
  obtain ⟨c24, g24, l24⟩ := hg 24 26 rfl
  obtain ⟨a24, m24, k24, rfl, b24, r24, u24⟩ := l24.bytes Try.underlying26 Try.underlying5 cells5 bytes5
  obtain ⟨c25, g25, l25⟩ := hg 25 31 rfl
  obtain ⟨n25, rfl⟩ := l25.int Try.underlying31
  obtain ⟨c26, g26, l26⟩ := hg 26 4 rfl
  obtain ⟨n26, rfl⟩ := l26.bool Try.underlying4
  obtain ⟨c27, g27, l27⟩ := hg 27 31 rfl
  obtain ⟨n27, rfl⟩ := l27.int Try.underlying31
  obtain ⟨c28, g28, l28⟩ := hg 28 2 rfl
  obtain ⟨n28, rfl⟩ := l28.int Try.underlying2
  obtain ⟨c29, g29, l29⟩ := hg 29 38 rfl
  obtain ⟨a29, m29, k29, rfl, -⟩ := l29.slice Try.underlying38 bytes100
  obtain ⟨c30, g30, l30⟩ := hg 30 26 rfl
  obtain ⟨a30, m30, k30, rfl, b30, r30, u30⟩ := l30.bytes Try.underlying26 Try.underlying5 cells5 bytes5
  refine ⟨⟨n0, ⟨n1, n2, n3, n4, n5, n6⟩, ⟨n7, ⟨n8, n9, n10, n11, n12, n13, n14, n15, n16, n17, n18, n19, n20, n21, n22, n23⟩⟩, a24, m24, k24, ⟨n25, n26, n27, n28⟩, a29, m29, k29, a30, k30, rowOf W a30 m30⟩, ?_, r30, r24, u30, ?_, u24, ?_⟩
  · intro k v hv
    refine cells?_get hc k v ?_
    simp only [OpD.vals, rowOf_length] at hv
    match k, hv with
    | 0, hv => exact g0.trans hv
    | 1, hv => exact g1.trans hv
    | 2, hv => exact g2.trans hv
    | 3, hv => exact g3.trans hv
    | 4, hv => exact g4.trans hv
    | 5, hv => exact g5.trans hv
    | 6, hv => exact g6.trans hv
    | 7, hv => exact g7.trans hv
    | 8, hv => exact g8.trans hv
    | 9, hv => exact g9.trans hv
    | 10, hv => exact g10.trans hv
    | 11, hv => exact g11.trans hv
    | 12, hv => exact g12.trans hv
    | 13, hv => exact g13.trans hv
    | 14, hv => exact g14.trans hv
    | 15, hv => exact g15.trans hv
    | 16, hv => exact g16.trans hv
    | 17, hv => exact g17.trans hv
    | 18, hv => exact g18.trans hv
    | 19, hv => exact g19.trans hv
    | 20, hv => exact g20.trans hv
    | 21, hv => exact g21.trans hv
    | 22, hv => exact g22.trans hv
    | 23, hv => exact g23.trans hv
    | 24, hv => exact g24.trans hv
    | 25, hv => exact g25.trans hv
    | 26, hv => exact g26.trans hv
    | 27, hv => exact g27.trans hv
    | 28, hv => exact g28.trans hv
    | 29, hv => exact g29.trans hv
    | 30, hv => exact g30.trans hv
    | k + 31, hv => simp at hv
  · rw [rowOf_length]; exact Nat.le_trans b30 hr
  · exact Nat.le_trans b24 hr

theorem lawCalls {H : Type} {enc : TypeId × Value → H} {W : World} {v : Value} {d : DataW H} {ps : List MemPlace} (hv : ∃ a len cap, v = .slice a len cap) (h : DataW.Trod enc Try.prog W 0 (fun _ => true) true 22 v d ps) (hsz : ∀ q ∈ d.weights Try.prog 22, q ≤ reachBytes) :
    Calls Try.prog 3 #[v] W fun e W' => e = .returned (.bool true) ∧ Below W.heap.size W W' := by
  obtain ⟨a, len, cap, rfl⟩ := hv
  obtain ⟨fuel, hf⟩ := h
  have hf' : DataW.trod enc Try.prog W 0 (fun _ => true) true fuel 22 [.slice a len cap] = some (d, ps) := by simpa [Value.cells] using hf
  obtain ⟨a', l', cp', e1, -, e3, e4⟩ := LeafAt.slice Try.underlying22 bytes44 ⟨fuel, (d, ps), hf', hsz⟩
  cases e1
  have key : ∀ i, i < len → ∃ o, ∃ p, a = some p ∧ OpAt W (p.add (i * 31)) o := by
    intro i hi
    obtain ⟨p, fuel, cs, x, q1, q2, q3, q4⟩ := e4 i hi
    rw [cells44] at q2
    obtain ⟨o, ho⟩ := opAt_of q2 q3 q4
    exact ⟨o, p, q1, ho⟩
  obtain ⟨F, hF⟩ := Deep.choose_lt key
  have hget : ∀ (i : Nat) (o : OpD), ((List.range len).map F)[i]? = some o → i < len ∧ o = F i := by
    intro i o h
    simp only [List.getElem?_map, Option.map_eq_some_iff] at h
    obtain ⟨j, h1, h2⟩ := h
    obtain ⟨h3, h4⟩ := List.getElem?_eq_some_iff.1 h1
    simp at h3 h4
    subst h4
    exact ⟨h3, h2.symm⟩
  let x : LX := ⟨a, cap, (List.range len).map F, fun o => rowOf W o.aa o.al⟩
  have hok : x.ok := by
    intro o ho
    obtain ⟨i, hi⟩ := List.getElem?_of_mem ho
    obtain ⟨h1, rfl⟩ := hget i o hi
    obtain ⟨p, -, hp⟩ := hF i h1
    exact ⟨hp.du, hp.dl, hp.au, rowOf_length _ _ _, hp.al⟩
  have hin : ∀ w', AgreeOff (fun b => ((fun _ => False) b ∨ isDef W b) ∨ trk (fun i => i) (lawS.hp x) b) W w' → x.in w' := by
    intro w' hA i o ho
    have hT : ∀ b, (((fun _ => False) b ∨ isDef W b) ∨ trk (fun i => i) (lawS.hp x) b) → isDef W b := by
      rintro b ((h | h) | ⟨i, s, h, -⟩)
      · exact h.elim
      · exact h
      · simp [lawS, lk] at h
    obtain ⟨h1, rfl⟩ := hget i o ho
    obtain ⟨p, hp0, hp⟩ := hF i h1
    refine ⟨fun k v hv => ?_, hp.d.agree hA hT, hp.ad.agree hA hT⟩
    refine ⟨p.add (i * 31), by show a.map _ = _; rw [hp0]; rfl, cell?_agree hA hT (hp.at_ k v hv)⟩
  have hargs : #[Value.slice a len cap] = (denL (fun i => i) (lawS.args x)).toArray := by
    simp [lawS, denL, SV.den, x]
  rw [hargs]
  refine (K3 (fun _ => False) (fun i => i) W x hok rfl rfl ?_ ?_ (fun b h => h.elim) hin).mono fun e W' hq => ?_
  · intro y hy
    simp only [lawS, List.mem_singleton] at hy
    subst hy
    trivial
  · exact ⟨fun i s h => by simp [lawS, lk] at h, fun i j s t h => by simp [lawS, lk] at h, fun i s h => by simp [lawS, lk] at h⟩
  · obtain ⟨o, ho, y, β', hqp, -, he, -, -, -, hA, -⟩ := hq
    simp only [lawS] at ho
    obtain rfl := List.mem_singleton.1 ho
    have hy : y = true := hqp
    subst hy
    refine ⟨he, hA.os, hA.tape, hA.output, hA.size, fun k hk => hA.same k hk ?_⟩
    rintro ⟨i, s, h, -⟩
    simp [lawS, lk] at h

set_option maxRecDepth 100000 in
theorem f_lifted (os : Os) (started : os.Started) (H : Type) (enc : TypeId × Value → H) :
    ReturnsInHanded {} Try.checked os 3 .any (Rows.moverPlaysSpec.pre6 enc Try.prog Try.f3 Rows.moverPlaysRow.domain false) (Rows.moverPlaysSpec.post enc Try.prog Try.f3 false true false false) := by
  refine returnsInHanded_of_change_sized (C := Try.checked) Try.own started (by kernel_rfl) Try.func3
    (ChangeSpec.witness6 (enc := enc) (C := Try.checked) false ⟨#[], #[.slice none 0 0], []⟩ 8 (by kernel_rfl) (by kernel_rfl) (by kernel_rfl) (by kernel_rfl)) ?_
  intro W base args ds gs before hval0 hW hcnd hsz0 _
  have hval : ∀ (j : Nat) t v, Try.f3.params[j]? = some t → args[j]? = some v → Value.okWide Try.prog W .any base t v := hval0
  have hsz : (DataW.weightsEach Try.prog (Try.f3.params.toList ++ Rows.moverPlaysSpec.plain.varTypes Try.prog) (ds ++ gs)).all (· ≤ reachBytes) = true := hsz0
  have hW' := hW
  obtain ⟨p, q, hA0, hV, rfl, hfz, hnd⟩ := hW
  have hA : DataW.TrodAll enc Try.prog W 0 (fun _ => true) true Try.f3.params.toList args.toList ds p := hA0
  rw [Try.params3] at hA hval hsz
  obtain ⟨v0, d0, rfl, rfl, h0⟩ := trodAll_one hA
  obtain ⟨rfl, rfl⟩ := trodVars_none hV
  have hlt : ∀ y ∈ p, y.block < W.heap.size := fun y hy => hW'.lt y (by simpa using hy)
  have hv := okWide_slice Try.underlying22 (hval 0 22 v0 rfl rfl)
  have hw0 : ∀ q ∈ d0.weights Try.prog 22, q ≤ reachBytes := fun q hq => by
    have := List.all_eq_true.1 hsz q (DataW.weights_mem_each (j := 0) (t := 22) rfl rfl q hq)
    simpa using this
  refine (lawCalls hv h0 hw0).mono fun e W' ⟨he, hb⟩ => ?_
  subst he
  exact ⟨_, rfl, _, _, _, [], p, [], hW', trodAll_mk1 (shut_bool Try.underlying4 true), trodAll_mk1 (Below.trod Try.laidOut (by kernel_rfl) (of_decide_eq_true (by kernel_rfl)) h0 hb hlt), rfl, hb.frame _, fun h => by cases h⟩

theorem moverPlays_holds : Rows.MoverPlaysSaid :=
  OpenClaim.holds_of_wide 3 Try.f3 rfl rfl rfl rfl rfl rfl rfl ⟨rfl, rfl, rfl, rfl, rfl⟩ rfl rfl rfl rfl rfl (by kernel_rfl) Try.func3 (by kernel_rfl)
    (of_decide_eq_true (by kernel_rfl)) (by unfold Func.isWrapper; first | (rw [if_pos (by decide +kernel)]; kernel_rfl) | (rw [if_neg (by decide +kernel)]; exact ⟨rfl, rfl⟩))
    (fun os started H enc _ => f_lifted os started H enc)

end Go.Proofs.Ytgjoileoekbkoaa
