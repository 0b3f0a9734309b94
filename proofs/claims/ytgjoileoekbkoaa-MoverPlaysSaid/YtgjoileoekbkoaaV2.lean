/-
  What is left of the contracts when the executor has run; written by vcg.py.
-/
import Derived.Test.YtgjoileoekbkoaaM0
set_option linter.unusedVariables false
set_option maxRecDepth 100000
namespace Go.Proofs.Ytgjoileoekbkoaa
open Go Go.SX
theorem asksS_vc : goalS Γ5 c5 asksS r5
 = (
 ∀ (x : Mo × Mv),
 Mo.ok x.fst →
 (false = true → (∃ (y : Mo), y.n = x.fst.n ∧ (List.length y.d.vs = List.length x.fst.d.vs ∧ y.d.c = x.fst.d.c) ∧ y.d.z = x.fst.d.z ∧ y.at_ = x.fst.at_
 ∧ (y.d.vs = x.fst.d.vs ∧ List.length y.d.vs = List.length x.fst.d.vs ∧ y.d.c = x.fst.d.c ∧ (1 : Nat) = (1 : Nat)) ∧ ((Mo.ab y = Ab.know (Mo.ab x.fst) x.snd
 ∧ Ab.ok (Mo.ab y) ∧ List.length y.d.vs ≤ y.d.c) ∧ Ab.ask (Mo.ab y) x.snd = none) ∧ ∀ (w : World), True → True) ∨ ∃ (y1 : Mo × Ak × Sl × Nat × Nat × List Value), False)
 ∧
 (false = false →
 ∀ (l : Nat),
 (true = true →
 ∃ (x2 : Mo × Mv),
 x2.snd.slot = x.snd.slot ∧
 x2.snd.frm = x.snd.frm ∧
 x2.snd.to = x.snd.to ∧
 x2.snd.ep = x.snd.ep ∧
 x2.snd.ph = x.snd.ph ∧
 x2.snd.n = x.snd.n ∧
 x2.fst.n = x.fst.n ∧
 (List.length x2.fst.d.vs = List.length x.fst.d.vs ∧ x2.fst.d.c = x.fst.d.c) ∧
 x2.fst.d.z = x.fst.d.z ∧
 x2.fst.at_ = x.fst.at_ ∧
 (x2.fst.d.vs = x.fst.d.vs ∧ List.length x2.fst.d.vs = List.length x.fst.d.vs ∧ x2.fst.d.c = x.fst.d.c ∧ (1 : Nat) = (1 : Nat)) ∧
 (Ab.ok (Mo.ab x2.fst) ∧ List.length x2.fst.d.vs ≤ x2.fst.d.c) ∧
 (∀ (w3 : World), True → True) ∧
 ∀ (y4 : Mo),
 Mo.ab y4 = Ab.know (Mo.ab x2.fst) x2.snd ∧ Mo.ok y4 →
 ∃ (x5 : Mo × Mv),
 x5.snd.slot = x.snd.slot ∧
 x5.snd.frm = x.snd.frm ∧
 x5.snd.to = x.snd.to ∧
 x5.snd.ep = x.snd.ep ∧
 x5.snd.ph = x.snd.ph ∧
 x5.snd.n = x.snd.n ∧
 x5.fst.n = y4.n ∧
 (List.length x5.fst.d.vs = List.length y4.d.vs ∧ x5.fst.d.c = y4.d.c) ∧
 x5.fst.d.z = y4.d.z ∧
 x5.fst.at_ = y4.at_ ∧
 (x5.fst.d.vs = y4.d.vs ∧ List.length x5.fst.d.vs = List.length y4.d.vs ∧ x5.fst.d.c = y4.d.c ∧ (1 : Nat) = (1 : Nat)) ∧
 (Ab.ok (Mo.ab x5.fst) ∧ List.length x5.fst.d.vs ≤ x5.fst.d.c) ∧
 (∀ (w6 : World), True ∧ True → True) ∧
 ∀ (y7 : Ak × Sl × Bool),
 (match Ab.ask (Mo.ab x5.fst) x5.snd with
 | none => y7.snd.snd = false
 | some q => (y7.snd.snd = true ∧ y7.fst = q.fst ∧ y7.snd.fst.vs = q.snd) ∧ List.length y7.snd.fst.vs ≤ y7.snd.fst.c) →
 (y7.snd.snd = true → l = l ∧ (200 : Nat) ≤ (140737488355328 : Nat) ∧ ∀ (c : Nat) (zs : List Value), (1 : Nat) ≤ c → List.length zs = (c - (1 : Nat)) *
 (18 : Nat) → (∃ (y8 : Mo), False) ∨ ∃ (y9 : Mo × Ak × Sl × Nat × Nat × List Value), ((0 : Nat) = (0 : Nat) ∧ (1 : Nat) = (1 : Nat) ∧ y9.snd.snd.snd.fst = c)
 ∧ y9.fst.n = x5.fst.n ∧ (List.length y9.fst.d.vs = List.length x5.fst.d.vs ∧ y9.fst.d.c = x5.fst.d.c) ∧ y9.fst.d.z = x5.fst.d.z ∧ y9.fst.at_ = x5.fst.at_
 ∧ (y9.fst.d.vs = x5.fst.d.vs ∧ List.length y9.fst.d.vs = List.length x5.fst.d.vs ∧ y9.fst.d.c = x5.fst.d.c ∧ (1 : Nat) = (1 : Nat)) ∧ y9.snd.fst.g = y7.fst.g
 ∧ y9.snd.fst.c.kind = y7.fst.c.kind ∧ y9.snd.fst.c.ok = y7.fst.c.ok ∧ y9.snd.fst.c.ofr = y7.fst.c.ofr ∧ y9.snd.fst.c.oto = y7.fst.c.oto ∧ y9.snd.fst.c.oam = y7.fst.c.oam
 ∧ y9.snd.fst.c.okey = y7.fst.c.okey ∧ y9.snd.fst.c.osl = y7.fst.c.osl ∧ y9.snd.fst.c.osh = y7.fst.c.osh ∧ y9.snd.fst.c.id = y7.fst.c.id ∧ y9.snd.fst.c.name = y7.fst.c.name
 ∧ y9.snd.fst.c.n = y7.fst.c.n ∧ y9.snd.fst.c.why = y7.fst.c.why ∧ y9.snd.fst.c.slot = y7.fst.c.slot ∧ y9.snd.fst.c.ep = y7.fst.c.ep ∧ y9.snd.fst.c.at_ = y7.fst.c.at_
 ∧ y9.snd.fst.c.last = y7.fst.c.last ∧ (List.length y9.snd.snd.fst.vs = List.length y7.snd.fst.vs ∧ y9.snd.snd.fst.c = y7.snd.fst.c) ∧ y9.snd.snd.fst.z = y7.snd.fst.z
 ∧ (y9.snd.snd.snd.snd.fst = (c - (1 : Nat)) * (18 : Nat) ∧ y9.snd.snd.snd.snd.snd = zs) ∧ (y9.snd.snd.fst.vs = y7.snd.fst.vs ∧ List.length y9.snd.snd.fst.vs = List.length y7.snd.fst.vs
 ∧ y9.snd.snd.fst.c = y7.snd.fst.c ∧ (1 : Nat) = (1 : Nat)) ∧ ((Mo.ab y9.fst = Ab.know (Mo.ab x.fst) x.snd ∧ Ab.ok (Mo.ab y9.fst) ∧ List.length y9.fst.d.vs ≤ y9.fst.d.c)
 ∧ Ab.ask (Mo.ab y9.fst) x.snd = some (y9.snd.fst, y9.snd.snd.fst.vs) ∧ List.length y9.snd.snd.fst.vs ≤ y9.snd.snd.fst.c) ∧ ∀ (w10 : World), (True ∧ True)
 ∧ True → True) ∧ (y7.snd.snd = false → (∃ (y11 : Mo), y11.n = x5.fst.n ∧ (List.length y11.d.vs = List.length x5.fst.d.vs ∧ y11.d.c = x5.fst.d.c) ∧ y11.d.z = x5.fst.d.z
 ∧ y11.at_ = x5.fst.at_ ∧ (y11.d.vs = x5.fst.d.vs ∧ List.length y11.d.vs = List.length x5.fst.d.vs ∧ y11.d.c = x5.fst.d.c ∧ (1 : Nat) = (1 : Nat)) ∧ ((Mo.ab y11 = Ab.know
 (Mo.ab x.fst) x.snd ∧ Ab.ok (Mo.ab y11) ∧ List.length y11.d.vs ≤ y11.d.c) ∧ Ab.ask (Mo.ab y11) x.snd = none) ∧ ∀ (w12 : World), (True ∧ True) ∧ True → True) ∨
 ∃ (y13 : Mo × Ak × Sl × Nat × Nat × List Value), False)) ∧
 (true = false → (∃ (y14 : Mo), y14.n = x.fst.n ∧ (List.length y14.d.vs = List.length x.fst.d.vs ∧ y14.d.c = x.fst.d.c) ∧ y14.d.z = x.fst.d.z ∧ y14.at_ = x.fst.at_
 ∧ (y14.d.vs = x.fst.d.vs ∧ List.length y14.d.vs = List.length x.fst.d.vs ∧ y14.d.c = x.fst.d.c ∧ (1 : Nat) = (1 : Nat)) ∧ ((Mo.ab y14 = Ab.know (Mo.ab x.fst) x.snd
 ∧ Ab.ok (Mo.ab y14) ∧ List.length y14.d.vs ≤ y14.d.c) ∧ Ab.ask (Mo.ab y14) x.snd = none) ∧ ∀ (w15 : World), True → True) ∨ ∃ (y16 : Mo × Ak × Sl × Nat × Nat × List Value), False))) := by kernel_rfl
theorem toldS_vc : goalS Γ12 c12 toldS r12
 = (
 ∀ (x : TX), Mo.ok x.m ∧ (∀ (v : Value), v ∈ x.rd.vs → isU8 v) ∧ List.length x.rd.vs ≤ (140737488355328 : Nat) ∧ List.length x.ad.vs ≤ (140737488355328 : Nat)
 → (false = true → ∃ (y : Mo × Bool), (bif y.snd then (2 : Int) else (0 : Int)) = (0 : Int) ∧ (0 : Int) = (0 : Int) ∧ (0 : Int) = (0 : Int) ∧ (bif y.snd then x.x.n else
 (0 : Int)) = (0 : Int) ∧ (bif y.snd then x.x.ph else (0 : Int)) = (0 : Int) ∧ y.snd = false ∧ y.fst.n = x.m.n ∧ (List.length y.fst.d.vs = List.length x.m.d.vs
 ∧ y.fst.d.c = x.m.d.c) ∧ y.fst.d.z = x.m.d.z ∧ y.fst.at_ = x.m.at_ ∧ (y.fst.d.vs = x.m.d.vs ∧ List.length y.fst.d.vs = List.length x.m.d.vs ∧ y.fst.d.c = x.m.d.c
 ∧ (1 : Nat) = (1 : Nat)) ∧ (x.ad.vs = x.ad.vs ∧ List.length x.ad.vs = List.length x.ad.vs ∧ x.ad.c = x.ad.c ∧ (1 : Nat) = (1 : Nat)) ∧ (x.rd.vs = x.rd.vs
 ∧ List.length x.rd.vs = List.length x.rd.vs ∧ x.rd.c = x.rd.c ∧ (1 : Nat) = (1 : Nat)) ∧ ((Mo.ab y.fst, y.snd) = Ab.told (Mo.ab x.m) x.x x.a (List.length x.ad.vs) x.r.why x.rd.vs
 ∧ Ab.ok (Mo.ab y.fst) ∧ List.length y.fst.d.vs ≤ y.fst.d.c) ∧ ∀ (w : World), True → True) ∧ (false = false → ∃ (x1 : Mo × Mv), x1.snd.slot = x.x.slot ∧ x1.snd.frm = x.x.frm
 ∧ x1.snd.to = x.x.to ∧ x1.snd.ep = x.x.ep ∧ x1.snd.ph = x.x.ph ∧ x1.snd.n = x.x.n ∧ x1.fst.n = x.m.n ∧ (List.length x1.fst.d.vs = List.length x.m.d.vs
 ∧ x1.fst.d.c = x.m.d.c) ∧ x1.fst.d.z = x.m.d.z ∧ x1.fst.at_ = x.m.at_ ∧ (x1.fst.d.vs = x.m.d.vs ∧ List.length x1.fst.d.vs = List.length x.m.d.vs ∧ x1.fst.d.c = x.m.d.c
 ∧ (1 : Nat) = (1 : Nat)) ∧ (Ab.ok (Mo.ab x1.fst) ∧ List.length x1.fst.d.vs ≤ x1.fst.d.c) ∧ (∀ (w2 : World), True → True) ∧ ∀ (y3 : Mo), Mo.ab y3 = Ab.know
 (Mo.ab x1.fst) x1.snd ∧ Mo.ok y3 → ((x.a.c.kind == (9 : Int)) = true → ((x.a.g != x.x.to) = false → ((x.a.c.slot != x.x.slot) = false → ((x.a.c.ep != x.x.ep) = false
 → ∃ (x4 : TX), x4.x.slot = x.x.slot ∧ x4.x.frm = x.x.frm ∧ x4.x.to = x.x.to ∧ x4.x.ep = x.x.ep ∧ x4.x.ph = x.x.ph ∧ x4.x.n = x.x.n ∧ x4.a.c.kind = x.a.c.kind
 ∧ x4.a.c.ok = x.a.c.ok ∧ x4.a.c.ofr = x.a.c.ofr ∧ x4.a.c.oto = x.a.c.oto ∧ x4.a.c.oam = x.a.c.oam ∧ x4.a.c.okey = x.a.c.okey ∧ x4.a.c.osl = x.a.c.osl ∧ x4.a.c.osh = x.a.c.osh
 ∧ x4.a.c.id = x.a.c.id ∧ x4.a.c.name = x.a.c.name ∧ x4.a.c.n = x.a.c.n ∧ x4.a.c.why = x.a.c.why ∧ x4.a.c.slot = x.a.c.slot ∧ x4.a.c.ep = x.a.c.ep ∧ x4.a.c.at_ = x.a.c.at_
 ∧ x4.a.c.last = x.a.c.last ∧ (List.length x4.ad.vs = List.length x.ad.vs ∧ x4.ad.c = x.ad.c) ∧ x4.ad.z = x.ad.z ∧ x4.r.why = x.r.why ∧ x4.r.wait = x.r.wait
 ∧ x4.r.rwhy = x.r.rwhy ∧ x4.r.ram = x.r.ram ∧ (List.length x4.rd.vs = List.length x.rd.vs ∧ x4.rd.c = x.rd.c) ∧ x4.rd.z = x.rd.z ∧ x4.m.n = y3.n ∧ (List.length x4.m.d.vs = List.length y3.d.vs
 ∧ x4.m.d.c = y3.d.c) ∧ x4.m.d.z = y3.d.z ∧ x4.m.at_ = y3.at_ ∧ (x4.m.d.vs = y3.d.vs ∧ List.length x4.m.d.vs = List.length y3.d.vs ∧ x4.m.d.c = y3.d.c ∧
 (1 : Nat) = (1 : Nat)) ∧ (x4.ad.vs = x.ad.vs ∧ List.length x4.ad.vs = List.length x.ad.vs ∧ x4.ad.c = x.ad.c ∧ (1 : Nat) = (1 : Nat)) ∧ (x4.rd.vs = x.rd.vs
 ∧ List.length x4.rd.vs = List.length x.rd.vs ∧ x4.rd.c = x.rd.c ∧ (1 : Nat) = (1 : Nat)) ∧ ((Ab.ok (Mo.ab x4.m) ∧ List.length x4.m.d.vs ≤ x4.m.d.c) ∧ (∀
 (v : Value), v ∈ x4.rd.vs → ∃ (n : Int), v = Value.int IntKind.u8 n) ∧ List.length x4.rd.vs ≤ (140737488355328 : Nat) ∧ List.length x4.ad.vs ≤ (140737488355328 : Nat))
 ∧ (∀ (w5 : World), True ∧ True → True) ∧ ∀ (y6 : Mo × Bool), (Mo.ab y6.fst, y6.snd) = Ab.hear (Mo.ab x4.m) x4.x x4.a.c (List.length x4.ad.vs) x4.r.why x4.rd.vs
 ∧ Mo.ok y6.fst → ((!y6.snd) = true → ∃ (y7 : Mo × Bool), (bif y7.snd then (2 : Int) else (0 : Int)) = (0 : Int) ∧ (0 : Int) = (0 : Int) ∧ (0 : Int) = (0 : Int)
 ∧ (bif y7.snd then x.x.n else (0 : Int)) = (0 : Int) ∧ (bif y7.snd then x.x.ph else (0 : Int)) = (0 : Int) ∧ y7.snd = false ∧ y7.fst.n = y6.fst.n ∧ (List.length y7.fst.d.vs = List.length y6.fst.d.vs
 ∧ y7.fst.d.c = y6.fst.d.c) ∧ y7.fst.d.z = y6.fst.d.z ∧ y7.fst.at_ = y6.fst.at_ ∧ (y7.fst.d.vs = y6.fst.d.vs ∧ List.length y7.fst.d.vs = List.length y6.fst.d.vs
 ∧ y7.fst.d.c = y6.fst.d.c ∧ (1 : Nat) = (1 : Nat)) ∧ (x.ad.vs = x4.ad.vs ∧ List.length x.ad.vs = List.length x4.ad.vs ∧ x.ad.c = x4.ad.c ∧ (1 : Nat) =
 (1 : Nat)) ∧ (x.rd.vs = x4.rd.vs ∧ List.length x.rd.vs = List.length x4.rd.vs ∧ x.rd.c = x4.rd.c ∧ (1 : Nat) = (1 : Nat)) ∧ ((Mo.ab y7.fst, y7.snd) = Ab.told
 (Mo.ab x.m) x.x x.a (List.length x.ad.vs) x.r.why x.rd.vs ∧ Ab.ok (Mo.ab y7.fst) ∧ List.length y7.fst.d.vs ≤ y7.fst.d.c) ∧ ∀ (w8 : World), (True ∧ True)
 ∧ True → True) ∧ ((!y6.snd) = false → ∃ (y9 : Mo × Bool), (bif y9.snd then (2 : Int) else (0 : Int)) = (2 : Int) ∧ (0 : Int) = (0 : Int) ∧ (0 : Int) =
 (0 : Int) ∧ (bif y9.snd then x.x.n else (0 : Int)) = x.x.n ∧ (bif y9.snd then x.x.ph else (0 : Int)) = x.x.ph ∧ y9.snd = true ∧ y9.fst.n = y6.fst.n ∧ (List.length y9.fst.d.vs = List.length y6.fst.d.vs
 ∧ y9.fst.d.c = y6.fst.d.c) ∧ y9.fst.d.z = y6.fst.d.z ∧ y9.fst.at_ = y6.fst.at_ ∧ (y9.fst.d.vs = y6.fst.d.vs ∧ List.length y9.fst.d.vs = List.length y6.fst.d.vs
 ∧ y9.fst.d.c = y6.fst.d.c ∧ (1 : Nat) = (1 : Nat)) ∧ (x.ad.vs = x4.ad.vs ∧ List.length x.ad.vs = List.length x4.ad.vs ∧ x.ad.c = x4.ad.c ∧ (1 : Nat) =
 (1 : Nat)) ∧ (x.rd.vs = x4.rd.vs ∧ List.length x.rd.vs = List.length x4.rd.vs ∧ x.rd.c = x4.rd.c ∧ (1 : Nat) = (1 : Nat)) ∧ ((Mo.ab y9.fst, y9.snd) = Ab.told
 (Mo.ab x.m) x.x x.a (List.length x.ad.vs) x.r.why x.rd.vs ∧ Ab.ok (Mo.ab y9.fst) ∧ List.length y9.fst.d.vs ≤ y9.fst.d.c) ∧ ∀ (w10 : World), (True ∧ True)
 ∧ True → True)) ∧ ((x.a.c.ep != x.x.ep) = true → ∃ (y11 : Mo × Bool), (bif y11.snd then (2 : Int) else (0 : Int)) = (0 : Int) ∧ (0 : Int) = (0 : Int) ∧
 (0 : Int) = (0 : Int) ∧ (bif y11.snd then x.x.n else (0 : Int)) = (0 : Int) ∧ (bif y11.snd then x.x.ph else (0 : Int)) = (0 : Int) ∧ y11.snd = false ∧ y11.fst.n = y3.n
 ∧ (List.length y11.fst.d.vs = List.length y3.d.vs ∧ y11.fst.d.c = y3.d.c) ∧ y11.fst.d.z = y3.d.z ∧ y11.fst.at_ = y3.at_ ∧ (y11.fst.d.vs = y3.d.vs ∧ List.length y11.fst.d.vs = List.length y3.d.vs
 ∧ y11.fst.d.c = y3.d.c ∧ (1 : Nat) = (1 : Nat)) ∧ (x.ad.vs = x.ad.vs ∧ List.length x.ad.vs = List.length x.ad.vs ∧ x.ad.c = x.ad.c ∧ (1 : Nat) = (1 : Nat))
 ∧ (x.rd.vs = x.rd.vs ∧ List.length x.rd.vs = List.length x.rd.vs ∧ x.rd.c = x.rd.c ∧ (1 : Nat) = (1 : Nat)) ∧ ((Mo.ab y11.fst, y11.snd) = Ab.told (Mo.ab x.m) x.x x.a
 (List.length x.ad.vs) x.r.why x.rd.vs ∧ Ab.ok (Mo.ab y11.fst) ∧ List.length y11.fst.d.vs ≤ y11.fst.d.c) ∧ ∀ (w12 : World), True ∧ True → True)) ∧ ((x.a.c.slot != x.x.slot) = true
 → ∃ (y13 : Mo × Bool), (bif y13.snd then (2 : Int) else (0 : Int)) = (0 : Int) ∧ (0 : Int) = (0 : Int) ∧ (0 : Int) = (0 : Int) ∧ (bif y13.snd then x.x.n else
 (0 : Int)) = (0 : Int) ∧ (bif y13.snd then x.x.ph else (0 : Int)) = (0 : Int) ∧ y13.snd = false ∧ y13.fst.n = y3.n ∧ (List.length y13.fst.d.vs = List.length y3.d.vs
 ∧ y13.fst.d.c = y3.d.c) ∧ y13.fst.d.z = y3.d.z ∧ y13.fst.at_ = y3.at_ ∧ (y13.fst.d.vs = y3.d.vs ∧ List.length y13.fst.d.vs = List.length y3.d.vs ∧ y13.fst.d.c = y3.d.c
 ∧ (1 : Nat) = (1 : Nat)) ∧ (x.ad.vs = x.ad.vs ∧ List.length x.ad.vs = List.length x.ad.vs ∧ x.ad.c = x.ad.c ∧ (1 : Nat) = (1 : Nat)) ∧ (x.rd.vs = x.rd.vs
 ∧ List.length x.rd.vs = List.length x.rd.vs ∧ x.rd.c = x.rd.c ∧ (1 : Nat) = (1 : Nat)) ∧ ((Mo.ab y13.fst, y13.snd) = Ab.told (Mo.ab x.m) x.x x.a (List.length x.ad.vs) x.r.why x.rd.vs
 ∧ Ab.ok (Mo.ab y13.fst) ∧ List.length y13.fst.d.vs ≤ y13.fst.d.c) ∧ ∀ (w14 : World), True ∧ True → True)) ∧ ((x.a.g != x.x.to) = true → ∃ (y15 : Mo × Bool),
 (bif y15.snd then (2 : Int) else (0 : Int)) = (0 : Int) ∧ (0 : Int) = (0 : Int) ∧ (0 : Int) = (0 : Int) ∧ (bif y15.snd then x.x.n else (0 : Int)) = (0 : Int)
 ∧ (bif y15.snd then x.x.ph else (0 : Int)) = (0 : Int) ∧ y15.snd = false ∧ y15.fst.n = y3.n ∧ (List.length y15.fst.d.vs = List.length y3.d.vs ∧ y15.fst.d.c = y3.d.c)
 ∧ y15.fst.d.z = y3.d.z ∧ y15.fst.at_ = y3.at_ ∧ (y15.fst.d.vs = y3.d.vs ∧ List.length y15.fst.d.vs = List.length y3.d.vs ∧ y15.fst.d.c = y3.d.c ∧ (1 : Nat) =
 (1 : Nat)) ∧ (x.ad.vs = x.ad.vs ∧ List.length x.ad.vs = List.length x.ad.vs ∧ x.ad.c = x.ad.c ∧ (1 : Nat) = (1 : Nat)) ∧ (x.rd.vs = x.rd.vs ∧ List.length x.rd.vs = List.length x.rd.vs
 ∧ x.rd.c = x.rd.c ∧ (1 : Nat) = (1 : Nat)) ∧ ((Mo.ab y15.fst, y15.snd) = Ab.told (Mo.ab x.m) x.x x.a (List.length x.ad.vs) x.r.why x.rd.vs ∧ Ab.ok (Mo.ab y15.fst)
 ∧ List.length y15.fst.d.vs ≤ y15.fst.d.c) ∧ ∀ (w16 : World), True ∧ True → True)) ∧ ((x.a.c.kind == (9 : Int)) = false → ((x.a.g != x.x.frm) = false →
 ((x.a.c.slot != x.x.slot) = false → ((x.a.c.ep != x.x.ep) = false → ∃ (x17 : TX), x17.x.slot = x.x.slot ∧ x17.x.frm = x.x.frm ∧ x17.x.to = x.x.to ∧ x17.x.ep = x.x.ep
 ∧ x17.x.ph = x.x.ph ∧ x17.x.n = x.x.n ∧ x17.a.c.kind = x.a.c.kind ∧ x17.a.c.ok = x.a.c.ok ∧ x17.a.c.ofr = x.a.c.ofr ∧ x17.a.c.oto = x.a.c.oto ∧ x17.a.c.oam = x.a.c.oam
 ∧ x17.a.c.okey = x.a.c.okey ∧ x17.a.c.osl = x.a.c.osl ∧ x17.a.c.osh = x.a.c.osh ∧ x17.a.c.id = x.a.c.id ∧ x17.a.c.name = x.a.c.name ∧ x17.a.c.n = x.a.c.n
 ∧ x17.a.c.why = x.a.c.why ∧ x17.a.c.slot = x.a.c.slot ∧ x17.a.c.ep = x.a.c.ep ∧ x17.a.c.at_ = x.a.c.at_ ∧ x17.a.c.last = x.a.c.last ∧ (List.length x17.ad.vs = List.length x.ad.vs
 ∧ x17.ad.c = x.ad.c) ∧ x17.ad.z = x.ad.z ∧ x17.r.why = x.r.why ∧ x17.r.wait = x.r.wait ∧ x17.r.rwhy = x.r.rwhy ∧ x17.r.ram = x.r.ram ∧ (List.length x17.rd.vs = List.length x.rd.vs
 ∧ x17.rd.c = x.rd.c) ∧ x17.rd.z = x.rd.z ∧ x17.m.n = y3.n ∧ (List.length x17.m.d.vs = List.length y3.d.vs ∧ x17.m.d.c = y3.d.c) ∧ x17.m.d.z = y3.d.z ∧ x17.m.at_ = y3.at_
 ∧ (x17.m.d.vs = y3.d.vs ∧ List.length x17.m.d.vs = List.length y3.d.vs ∧ x17.m.d.c = y3.d.c ∧ (1 : Nat) = (1 : Nat)) ∧ (x17.ad.vs = x.ad.vs ∧ List.length x17.ad.vs = List.length x.ad.vs
 ∧ x17.ad.c = x.ad.c ∧ (1 : Nat) = (1 : Nat)) ∧ (x17.rd.vs = x.rd.vs ∧ List.length x17.rd.vs = List.length x.rd.vs ∧ x17.rd.c = x.rd.c ∧ (1 : Nat) = (1 : Nat))
 ∧ ((Ab.ok (Mo.ab x17.m) ∧ List.length x17.m.d.vs ≤ x17.m.d.c) ∧ (∀ (v18 : Value), v18 ∈ x17.rd.vs → ∃ (n19 : Int), v18 = Value.int IntKind.u8 n19) ∧ List.length x17.rd.vs ≤
 (140737488355328 : Nat) ∧ List.length x17.ad.vs ≤ (140737488355328 : Nat)) ∧ (∀ (w20 : World), True ∧ True → True) ∧ ∀ (y21 : Mo × Bool), (Mo.ab y21.fst, y21.snd) = Ab.hear
 (Mo.ab x17.m) x17.x x17.a.c (List.length x17.ad.vs) x17.r.why x17.rd.vs ∧ Mo.ok y21.fst → ((!y21.snd) = true → ∃ (y22 : Mo × Bool), (bif y22.snd then (2 : Int) else
 (0 : Int)) = (0 : Int) ∧ (0 : Int) = (0 : Int) ∧ (0 : Int) = (0 : Int) ∧ (bif y22.snd then x.x.n else (0 : Int)) = (0 : Int) ∧ (bif y22.snd then x.x.ph else
 (0 : Int)) = (0 : Int) ∧ y22.snd = false ∧ y22.fst.n = y21.fst.n ∧ (List.length y22.fst.d.vs = List.length y21.fst.d.vs ∧ y22.fst.d.c = y21.fst.d.c) ∧ y22.fst.d.z = y21.fst.d.z
 ∧ y22.fst.at_ = y21.fst.at_ ∧ (y22.fst.d.vs = y21.fst.d.vs ∧ List.length y22.fst.d.vs = List.length y21.fst.d.vs ∧ y22.fst.d.c = y21.fst.d.c ∧ (1 : Nat) =
 (1 : Nat)) ∧ (x.ad.vs = x17.ad.vs ∧ List.length x.ad.vs = List.length x17.ad.vs ∧ x.ad.c = x17.ad.c ∧ (1 : Nat) = (1 : Nat)) ∧ (x.rd.vs = x17.rd.vs ∧ List.length x.rd.vs = List.length x17.rd.vs
 ∧ x.rd.c = x17.rd.c ∧ (1 : Nat) = (1 : Nat)) ∧ ((Mo.ab y22.fst, y22.snd) = Ab.told (Mo.ab x.m) x.x x.a (List.length x.ad.vs) x.r.why x.rd.vs ∧ Ab.ok (Mo.ab y22.fst)
 ∧ List.length y22.fst.d.vs ≤ y22.fst.d.c) ∧ ∀ (w23 : World), (True ∧ True) ∧ True → True) ∧ ((!y21.snd) = false → ∃ (y24 : Mo × Bool), (bif y24.snd then
 (2 : Int) else (0 : Int)) = (2 : Int) ∧ (0 : Int) = (0 : Int) ∧ (0 : Int) = (0 : Int) ∧ (bif y24.snd then x.x.n else (0 : Int)) = x.x.n ∧ (bif y24.snd then x.x.ph else
 (0 : Int)) = x.x.ph ∧ y24.snd = true ∧ y24.fst.n = y21.fst.n ∧ (List.length y24.fst.d.vs = List.length y21.fst.d.vs ∧ y24.fst.d.c = y21.fst.d.c) ∧ y24.fst.d.z = y21.fst.d.z
 ∧ y24.fst.at_ = y21.fst.at_ ∧ (y24.fst.d.vs = y21.fst.d.vs ∧ List.length y24.fst.d.vs = List.length y21.fst.d.vs ∧ y24.fst.d.c = y21.fst.d.c ∧ (1 : Nat) =
 (1 : Nat)) ∧ (x.ad.vs = x17.ad.vs ∧ List.length x.ad.vs = List.length x17.ad.vs ∧ x.ad.c = x17.ad.c ∧ (1 : Nat) = (1 : Nat)) ∧ (x.rd.vs = x17.rd.vs ∧ List.length x.rd.vs = List.length x17.rd.vs
 ∧ x.rd.c = x17.rd.c ∧ (1 : Nat) = (1 : Nat)) ∧ ((Mo.ab y24.fst, y24.snd) = Ab.told (Mo.ab x.m) x.x x.a (List.length x.ad.vs) x.r.why x.rd.vs ∧ Ab.ok (Mo.ab y24.fst)
 ∧ List.length y24.fst.d.vs ≤ y24.fst.d.c) ∧ ∀ (w25 : World), (True ∧ True) ∧ True → True)) ∧ ((x.a.c.ep != x.x.ep) = true → ∃ (y26 : Mo × Bool), (bif y26.snd then
 (2 : Int) else (0 : Int)) = (0 : Int) ∧ (0 : Int) = (0 : Int) ∧ (0 : Int) = (0 : Int) ∧ (bif y26.snd then x.x.n else (0 : Int)) = (0 : Int) ∧ (bif y26.snd then x.x.ph else
 (0 : Int)) = (0 : Int) ∧ y26.snd = false ∧ y26.fst.n = y3.n ∧ (List.length y26.fst.d.vs = List.length y3.d.vs ∧ y26.fst.d.c = y3.d.c) ∧ y26.fst.d.z = y3.d.z
 ∧ y26.fst.at_ = y3.at_ ∧ (y26.fst.d.vs = y3.d.vs ∧ List.length y26.fst.d.vs = List.length y3.d.vs ∧ y26.fst.d.c = y3.d.c ∧ (1 : Nat) = (1 : Nat)) ∧ (x.ad.vs = x.ad.vs
 ∧ List.length x.ad.vs = List.length x.ad.vs ∧ x.ad.c = x.ad.c ∧ (1 : Nat) = (1 : Nat)) ∧ (x.rd.vs = x.rd.vs ∧ List.length x.rd.vs = List.length x.rd.vs
 ∧ x.rd.c = x.rd.c ∧ (1 : Nat) = (1 : Nat)) ∧ ((Mo.ab y26.fst, y26.snd) = Ab.told (Mo.ab x.m) x.x x.a (List.length x.ad.vs) x.r.why x.rd.vs ∧ Ab.ok (Mo.ab y26.fst)
 ∧ List.length y26.fst.d.vs ≤ y26.fst.d.c) ∧ ∀ (w27 : World), True ∧ True → True)) ∧ ((x.a.c.slot != x.x.slot) = true → ∃ (y28 : Mo × Bool), (bif y28.snd then
 (2 : Int) else (0 : Int)) = (0 : Int) ∧ (0 : Int) = (0 : Int) ∧ (0 : Int) = (0 : Int) ∧ (bif y28.snd then x.x.n else (0 : Int)) = (0 : Int) ∧ (bif y28.snd then x.x.ph else
 (0 : Int)) = (0 : Int) ∧ y28.snd = false ∧ y28.fst.n = y3.n ∧ (List.length y28.fst.d.vs = List.length y3.d.vs ∧ y28.fst.d.c = y3.d.c) ∧ y28.fst.d.z = y3.d.z
 ∧ y28.fst.at_ = y3.at_ ∧ (y28.fst.d.vs = y3.d.vs ∧ List.length y28.fst.d.vs = List.length y3.d.vs ∧ y28.fst.d.c = y3.d.c ∧ (1 : Nat) = (1 : Nat)) ∧ (x.ad.vs = x.ad.vs
 ∧ List.length x.ad.vs = List.length x.ad.vs ∧ x.ad.c = x.ad.c ∧ (1 : Nat) = (1 : Nat)) ∧ (x.rd.vs = x.rd.vs ∧ List.length x.rd.vs = List.length x.rd.vs
 ∧ x.rd.c = x.rd.c ∧ (1 : Nat) = (1 : Nat)) ∧ ((Mo.ab y28.fst, y28.snd) = Ab.told (Mo.ab x.m) x.x x.a (List.length x.ad.vs) x.r.why x.rd.vs ∧ Ab.ok (Mo.ab y28.fst)
 ∧ List.length y28.fst.d.vs ≤ y28.fst.d.c) ∧ ∀ (w29 : World), True ∧ True → True)) ∧ ((x.a.g != x.x.frm) = true → ∃ (y30 : Mo × Bool), (bif y30.snd then
 (2 : Int) else (0 : Int)) = (0 : Int) ∧ (0 : Int) = (0 : Int) ∧ (0 : Int) = (0 : Int) ∧ (bif y30.snd then x.x.n else (0 : Int)) = (0 : Int) ∧ (bif y30.snd then x.x.ph else
 (0 : Int)) = (0 : Int) ∧ y30.snd = false ∧ y30.fst.n = y3.n ∧ (List.length y30.fst.d.vs = List.length y3.d.vs ∧ y30.fst.d.c = y3.d.c) ∧ y30.fst.d.z = y3.d.z
 ∧ y30.fst.at_ = y3.at_ ∧ (y30.fst.d.vs = y3.d.vs ∧ List.length y30.fst.d.vs = List.length y3.d.vs ∧ y30.fst.d.c = y3.d.c ∧ (1 : Nat) = (1 : Nat)) ∧ (x.ad.vs = x.ad.vs
 ∧ List.length x.ad.vs = List.length x.ad.vs ∧ x.ad.c = x.ad.c ∧ (1 : Nat) = (1 : Nat)) ∧ (x.rd.vs = x.rd.vs ∧ List.length x.rd.vs = List.length x.rd.vs
 ∧ x.rd.c = x.rd.c ∧ (1 : Nat) = (1 : Nat)) ∧ ((Mo.ab y30.fst, y30.snd) = Ab.told (Mo.ab x.m) x.x x.a (List.length x.ad.vs) x.r.why x.rd.vs ∧ Ab.ok (Mo.ab y30.fst)
 ∧ List.length y30.fst.d.vs ≤ y30.fst.d.c) ∧ ∀ (w31 : World), True ∧ True → True)))) := by kernel_rfl
theorem rasksS_vc : goalS Γ7 c7 rasksS r7
 = (
 ∀ (x : Rm × Mv), Rm.ok x.fst → ∃ (x1 : Rm × Mv), x1.snd.slot = x.snd.slot ∧ x1.snd.frm = x.snd.frm ∧ x1.snd.to = x.snd.to ∧ x1.snd.ep = x.snd.ep ∧ x1.snd.ph = x.snd.ph
 ∧ x1.snd.n = x.snd.n ∧ x1.fst.n = x.fst.n ∧ x1.fst.has = x.fst.has ∧ (List.length x1.fst.d.vs = List.length x.fst.d.vs ∧ x1.fst.d.c = x.fst.d.c) ∧ x1.fst.d.z = x.fst.d.z
 ∧ x1.fst.at_ = x.fst.at_ ∧ (x1.fst.d.vs = x.fst.d.vs ∧ List.length x1.fst.d.vs = List.length x.fst.d.vs ∧ x1.fst.d.c = x.fst.d.c ∧ (1 : Nat) = (1 : Nat))
 ∧ (Ab.ok (Rm.ab x1.fst) ∧ List.length x1.fst.d.vs ≤ x1.fst.d.c) ∧ (∀ (w : World), True → True) ∧ ∀ (y : Rm), Rm.ab y = Ab.know (Rm.ab x1.fst) x1.snd ∧ Rm.ok y
 → (decide (x.snd.ph < (1 : Int)) = false → (decide (x.snd.ph > (3 : Int)) = true → (∃ (y2 : Rm), y2.n = y.n ∧ y2.has = y.has ∧ (List.length y2.d.vs = List.length y.d.vs
 ∧ y2.d.c = y.d.c) ∧ y2.d.z = y.d.z ∧ y2.at_ = y.at_ ∧ (y2.d.vs = y.d.vs ∧ List.length y2.d.vs = List.length y.d.vs ∧ y2.d.c = y.d.c ∧ (1 : Nat) = (1 : Nat))
 ∧ ((Rm.ab y2 = Ab.know (Rm.ab x.fst) x.snd ∧ Ab.ok (Rm.ab y2) ∧ List.length y2.d.vs ≤ y2.d.c) ∧ Ab.ask (Rm.ab y2) x.snd = none) ∧ ∀ (w3 : World), True
 ∧ True → True) ∨ ∃ (y4 : Rm × Ak × Sl), False) ∧ (decide (x.snd.ph > (3 : Int)) = false → ((x.snd.ph == (3 : Int)) = true → (∃ (y5 : Rm), False) ∨ ∃ (y6 : Rm × Ak × Sl),
 ((0 : Nat) = (0 : Nat) ∧ (1 : Nat) = (1 : Nat) ∧ (1 : Nat) = (1 : Nat)) ∧ y6.fst.n = y.n ∧ y6.fst.has = y.has ∧ (List.length y6.fst.d.vs = List.length y.d.vs
 ∧ y6.fst.d.c = y.d.c) ∧ y6.fst.d.z = y.d.z ∧ y6.fst.at_ = y.at_ ∧ (y6.fst.d.vs = y.d.vs ∧ List.length y6.fst.d.vs = List.length y.d.vs ∧ y6.fst.d.c = y.d.c
 ∧ (1 : Nat) = (1 : Nat)) ∧ y6.snd.fst.g = x.snd.frm ∧ y6.snd.fst.c.kind = (10 : Int) ∧ y6.snd.fst.c.ok = (0 : Int) ∧ y6.snd.fst.c.ofr = ByteArray.empty
 ∧ y6.snd.fst.c.oto = ByteArray.empty ∧ y6.snd.fst.c.oam = (0 : Int) ∧ y6.snd.fst.c.okey = ByteArray.empty ∧ y6.snd.fst.c.osl = (0 : Int) ∧ y6.snd.fst.c.osh =
 (0 : Int) ∧ y6.snd.fst.c.id = ByteArray.empty ∧ y6.snd.fst.c.name = ByteArray.empty ∧ y6.snd.fst.c.n = (0 : Int) ∧ y6.snd.fst.c.why = (0 : Int) ∧ y6.snd.fst.c.slot = x.snd.slot
 ∧ y6.snd.fst.c.ep = x.snd.ep ∧ y6.snd.fst.c.at_ = (0 : Int) ∧ y6.snd.fst.c.last = false ∧ (y6.snd.snd.z = ZB.nil ∧ List.length y6.snd.snd.vs = (0 : Nat)
 ∧ y6.snd.snd.c = (0 : Nat)) ∧ (y6.snd.snd.vs = [] ∧ List.length y6.snd.snd.vs = (0 : Nat) ∧ y6.snd.snd.c = (0 : Nat)) ∧ ((Rm.ab y6.fst = Ab.know (Rm.ab x.fst) x.snd
 ∧ Ab.ok (Rm.ab y6.fst) ∧ List.length y6.fst.d.vs ≤ y6.fst.d.c) ∧ Ab.ask (Rm.ab y6.fst) x.snd = some (y6.snd.fst, y6.snd.snd.vs)) ∧ ∀ (w7 : World), True
 ∧ True → True) ∧ ((x.snd.ph == (3 : Int)) = false → ((x.snd.ph == (2 : Int)) = true → (y.has = true → (decide (IntKind.wrap IntKind.i64 (y.at_ + (1000 : Int)) >
 (↑(List.length y.d.vs) : Int)) = true → ((0 : Int) ≤ y.at_ ∧ y.at_ ≤ (↑(List.length y.d.vs) : Int) ∧ (↑(List.length y.d.vs) : Int) ≤ (↑y.d.c : Int)) ∧ Int.toNat
 (↑(List.length y.d.vs) : Int) ≤ y.d.c ∧ (y.d.c = Int.toNat y.at_ → ∀ (a : Option Addr), Option.isNone a = (y.d.c == (0 : Nat) && ZB.isNil y.d.z) → (∃ (news : List Value), news = List.take
 (0 : Nat) [] ∧ (0 : Nat) ≤ (0 : Nat) ∧ (0 : Nat) = (0 : Nat) ∧ (∀ (v : Value), v ∈ news → one1 v = true) ∧ (0 : Nat) ≤ (140737488355328 : Nat) ∧ ∀ (c : Nat),
 (0 : Nat) ≤ c → ((0 : Nat) = (0 : Nat) → c = (0 : Nat)) → True ∧ (True ∧ ((∃ (y8 : Rm), False) ∨ ∃ (y9 : Rm × Ak × Sl), ((0 : Nat) = (0 : Nat) ∧ (1 : Nat) =
 (1 : Nat) ∧ (1 : Nat) = (1 : Nat)) ∧ y9.fst.n = y.n ∧ y9.fst.has = y.has ∧ (List.length y9.fst.d.vs = List.length y.d.vs ∧ y9.fst.d.c = y.d.c) ∧ y9.fst.d.z = y.d.z
 ∧ y9.fst.at_ = y.at_ ∧ (y9.fst.d.vs = y.d.vs ∧ List.length y9.fst.d.vs = List.length y.d.vs ∧ y9.fst.d.c = y.d.c ∧ (1 : Nat) = (1 : Nat)) ∧ y9.snd.fst.g = x.snd.to
 ∧ y9.snd.fst.c.kind = (9 : Int) ∧ y9.snd.fst.c.ok = (0 : Int) ∧ y9.snd.fst.c.ofr = ByteArray.empty ∧ y9.snd.fst.c.oto = ByteArray.empty ∧ y9.snd.fst.c.oam =
 (0 : Int) ∧ y9.snd.fst.c.okey = ByteArray.empty ∧ y9.snd.fst.c.osl = (0 : Int) ∧ y9.snd.fst.c.osh = (0 : Int) ∧ y9.snd.fst.c.id = ByteArray.empty ∧ y9.snd.fst.c.name = ByteArray.empty
 ∧ y9.snd.fst.c.n = (0 : Int) ∧ y9.snd.fst.c.why = (0 : Int) ∧ y9.snd.fst.c.slot = x.snd.slot ∧ y9.snd.fst.c.ep = x.snd.ep ∧ y9.snd.fst.c.at_ = y.at_ ∧ y9.snd.fst.c.last =
 ((↑(List.length y.d.vs) : Int) == (↑(List.length y.d.vs) : Int)) ∧ (List.length y9.snd.snd.vs = (0 : Nat) ∧ y9.snd.snd.c = c) ∧ y9.snd.snd.z = ZB.nil ∧
 (y9.snd.snd.vs = news ∧ List.length y9.snd.snd.vs = (0 : Nat) ∧ y9.snd.snd.c = c ∧ (1 : Nat) = (1 : Nat)) ∧ ((Rm.ab y9.fst = Ab.know (Rm.ab x.fst) x.snd
 ∧ Ab.ok (Rm.ab y9.fst) ∧ List.length y9.fst.d.vs ≤ y9.fst.d.c) ∧ Ab.ask (Rm.ab y9.fst) x.snd = some (y9.snd.fst, y9.snd.snd.vs)) ∧ ∀ (w10 : World), True
 ∧ True → True)) ∧ True) ∧ True) ∧ (y.d.c ≠ Int.toNat y.at_ → (∃ (news11 : List Value), news11 = List.take ((Int.toNat (↑(List.length y.d.vs) : Int) - Int.toNat y.at_) *
 (1 : Nat)) (List.drop (Int.toNat y.at_ * (1 : Nat)) y.d.vs) ∧ Int.toNat y.at_ * (1 : Nat) + (Int.toNat (↑(List.length y.d.vs) : Int) - Int.toNat y.at_) *
 (1 : Nat) ≤ List.length y.d.vs ∧ (y.d.c = (0 : Nat) → False) ∧ (∀ (v12 : Value), v12 ∈ news11 → one1 v12 = true) ∧ (Int.toNat (↑(List.length y.d.vs) : Int) - Int.toNat y.at_) *
 (1 : Nat) ≤ (140737488355328 : Nat) ∧ ∀ (c13 : Nat), Int.toNat (↑(List.length y.d.vs) : Int) - Int.toNat y.at_ ≤ c13 → (Int.toNat (↑(List.length y.d.vs) : Int) - Int.toNat y.at_ =
 (0 : Nat) → c13 = (0 : Nat)) → True ∧ (True ∧ ((∃ (y14 : Rm), False) ∨ ∃ (y15 : Rm × Ak × Sl), ((0 : Nat) = (0 : Nat) ∧ (1 : Nat) = (1 : Nat) ∧ (1 : Nat) =
 (1 : Nat)) ∧ y15.fst.n = y.n ∧ y15.fst.has = y.has ∧ (List.length y15.fst.d.vs = List.length y.d.vs ∧ y15.fst.d.c = y.d.c) ∧ y15.fst.d.z = y.d.z ∧ y15.fst.at_ = y.at_
 ∧ (y15.fst.d.vs = y.d.vs ∧ List.length y15.fst.d.vs = List.length y.d.vs ∧ y15.fst.d.c = y.d.c ∧ (1 : Nat) = (1 : Nat)) ∧ y15.snd.fst.g = x.snd.to ∧ y15.snd.fst.c.kind =
 (9 : Int) ∧ y15.snd.fst.c.ok = (0 : Int) ∧ y15.snd.fst.c.ofr = ByteArray.empty ∧ y15.snd.fst.c.oto = ByteArray.empty ∧ y15.snd.fst.c.oam = (0 : Int) ∧ y15.snd.fst.c.okey = ByteArray.empty
 ∧ y15.snd.fst.c.osl = (0 : Int) ∧ y15.snd.fst.c.osh = (0 : Int) ∧ y15.snd.fst.c.id = ByteArray.empty ∧ y15.snd.fst.c.name = ByteArray.empty ∧ y15.snd.fst.c.n =
 (0 : Int) ∧ y15.snd.fst.c.why = (0 : Int) ∧ y15.snd.fst.c.slot = x.snd.slot ∧ y15.snd.fst.c.ep = x.snd.ep ∧ y15.snd.fst.c.at_ = y.at_ ∧ y15.snd.fst.c.last =
 ((↑(List.length y.d.vs) : Int) == (↑(List.length y.d.vs) : Int)) ∧ (List.length y15.snd.snd.vs = Int.toNat (↑(List.length y.d.vs) : Int) - Int.toNat y.at_
 ∧ y15.snd.snd.c = c13) ∧ y15.snd.snd.z = ZB.nil ∧ (y15.snd.snd.vs = news11 ∧ List.length y15.snd.snd.vs = Int.toNat (↑(List.length y.d.vs) : Int) - Int.toNat y.at_
 ∧ y15.snd.snd.c = c13 ∧ (1 : Nat) = (1 : Nat)) ∧ ((Rm.ab y15.fst = Ab.know (Rm.ab x.fst) x.snd ∧ Ab.ok (Rm.ab y15.fst) ∧ List.length y15.fst.d.vs ≤ y15.fst.d.c)
 ∧ Ab.ask (Rm.ab y15.fst) x.snd = some (y15.snd.fst, y15.snd.snd.vs)) ∧ ∀ (w16 : World), True ∧ True → True)) ∧ True) ∧ True)) ∧ (decide (IntKind.wrap IntKind.i64
 (y.at_ + (1000 : Int)) > (↑(List.length y.d.vs) : Int)) = false → ((0 : Int) ≤ y.at_ ∧ y.at_ ≤ IntKind.wrap IntKind.i64 (y.at_ + (1000 : Int)) ∧ IntKind.wrap IntKind.i64
 (y.at_ + (1000 : Int)) ≤ (↑y.d.c : Int)) ∧ Int.toNat (IntKind.wrap IntKind.i64 (y.at_ + (1000 : Int))) ≤ y.d.c ∧ (y.d.c = Int.toNat y.at_ → ∀ (a17 : Option Addr), Option.isNone a17 =
 (y.d.c == (0 : Nat) && ZB.isNil y.d.z) → (∃ (news18 : List Value), news18 = List.take (0 : Nat) [] ∧ (0 : Nat) ≤ (0 : Nat) ∧ (0 : Nat) = (0 : Nat) ∧ (∀
 (v19 : Value), v19 ∈ news18 → one1 v19 = true) ∧ (0 : Nat) ≤ (140737488355328 : Nat) ∧ ∀ (c20 : Nat), (0 : Nat) ≤ c20 → ((0 : Nat) = (0 : Nat) → c20 =
 (0 : Nat)) → True ∧ (True ∧ ((∃ (y21 : Rm), False) ∨ ∃ (y22 : Rm × Ak × Sl), ((0 : Nat) = (0 : Nat) ∧ (1 : Nat) = (1 : Nat) ∧ (1 : Nat) = (1 : Nat)) ∧ y22.fst.n = y.n
 ∧ y22.fst.has = y.has ∧ (List.length y22.fst.d.vs = List.length y.d.vs ∧ y22.fst.d.c = y.d.c) ∧ y22.fst.d.z = y.d.z ∧ y22.fst.at_ = y.at_ ∧ (y22.fst.d.vs = y.d.vs
 ∧ List.length y22.fst.d.vs = List.length y.d.vs ∧ y22.fst.d.c = y.d.c ∧ (1 : Nat) = (1 : Nat)) ∧ y22.snd.fst.g = x.snd.to ∧ y22.snd.fst.c.kind = (9 : Int)
 ∧ y22.snd.fst.c.ok = (0 : Int) ∧ y22.snd.fst.c.ofr = ByteArray.empty ∧ y22.snd.fst.c.oto = ByteArray.empty ∧ y22.snd.fst.c.oam = (0 : Int) ∧ y22.snd.fst.c.okey = ByteArray.empty
 ∧ y22.snd.fst.c.osl = (0 : Int) ∧ y22.snd.fst.c.osh = (0 : Int) ∧ y22.snd.fst.c.id = ByteArray.empty ∧ y22.snd.fst.c.name = ByteArray.empty ∧ y22.snd.fst.c.n =
 (0 : Int) ∧ y22.snd.fst.c.why = (0 : Int) ∧ y22.snd.fst.c.slot = x.snd.slot ∧ y22.snd.fst.c.ep = x.snd.ep ∧ y22.snd.fst.c.at_ = y.at_ ∧ y22.snd.fst.c.last =
 (IntKind.wrap IntKind.i64 (y.at_ + (1000 : Int)) == (↑(List.length y.d.vs) : Int)) ∧ (List.length y22.snd.snd.vs = (0 : Nat) ∧ y22.snd.snd.c = c20) ∧ y22.snd.snd.z = ZB.nil
 ∧ (y22.snd.snd.vs = news18 ∧ List.length y22.snd.snd.vs = (0 : Nat) ∧ y22.snd.snd.c = c20 ∧ (1 : Nat) = (1 : Nat)) ∧ ((Rm.ab y22.fst = Ab.know (Rm.ab x.fst) x.snd
 ∧ Ab.ok (Rm.ab y22.fst) ∧ List.length y22.fst.d.vs ≤ y22.fst.d.c) ∧ Ab.ask (Rm.ab y22.fst) x.snd = some (y22.snd.fst, y22.snd.snd.vs)) ∧ ∀ (w23 : World), True
 ∧ True → True)) ∧ True) ∧ True) ∧ (y.d.c ≠ Int.toNat y.at_ → (∃ (news24 : List Value), news24 = List.take ((Int.toNat (IntKind.wrap IntKind.i64 (y.at_ +
 (1000 : Int))) - Int.toNat y.at_) * (1 : Nat)) (List.drop (Int.toNat y.at_ * (1 : Nat)) y.d.vs) ∧ Int.toNat y.at_ * (1 : Nat) + (Int.toNat (IntKind.wrap IntKind.i64
 (y.at_ + (1000 : Int))) - Int.toNat y.at_) * (1 : Nat) ≤ List.length y.d.vs ∧ (y.d.c = (0 : Nat) → False) ∧ (∀ (v25 : Value), v25 ∈ news24 → one1 v25 = true)
 ∧ (Int.toNat (IntKind.wrap IntKind.i64 (y.at_ + (1000 : Int))) - Int.toNat y.at_) * (1 : Nat) ≤ (140737488355328 : Nat) ∧ ∀ (c26 : Nat), Int.toNat (IntKind.wrap IntKind.i64
 (y.at_ + (1000 : Int))) - Int.toNat y.at_ ≤ c26 → (Int.toNat (IntKind.wrap IntKind.i64 (y.at_ + (1000 : Int))) - Int.toNat y.at_ = (0 : Nat) → c26 = (0 : Nat))
 → True ∧ (True ∧ ((∃ (y27 : Rm), False) ∨ ∃ (y28 : Rm × Ak × Sl), ((0 : Nat) = (0 : Nat) ∧ (1 : Nat) = (1 : Nat) ∧ (1 : Nat) = (1 : Nat)) ∧ y28.fst.n = y.n
 ∧ y28.fst.has = y.has ∧ (List.length y28.fst.d.vs = List.length y.d.vs ∧ y28.fst.d.c = y.d.c) ∧ y28.fst.d.z = y.d.z ∧ y28.fst.at_ = y.at_ ∧ (y28.fst.d.vs = y.d.vs
 ∧ List.length y28.fst.d.vs = List.length y.d.vs ∧ y28.fst.d.c = y.d.c ∧ (1 : Nat) = (1 : Nat)) ∧ y28.snd.fst.g = x.snd.to ∧ y28.snd.fst.c.kind = (9 : Int)
 ∧ y28.snd.fst.c.ok = (0 : Int) ∧ y28.snd.fst.c.ofr = ByteArray.empty ∧ y28.snd.fst.c.oto = ByteArray.empty ∧ y28.snd.fst.c.oam = (0 : Int) ∧ y28.snd.fst.c.okey = ByteArray.empty
 ∧ y28.snd.fst.c.osl = (0 : Int) ∧ y28.snd.fst.c.osh = (0 : Int) ∧ y28.snd.fst.c.id = ByteArray.empty ∧ y28.snd.fst.c.name = ByteArray.empty ∧ y28.snd.fst.c.n =
 (0 : Int) ∧ y28.snd.fst.c.why = (0 : Int) ∧ y28.snd.fst.c.slot = x.snd.slot ∧ y28.snd.fst.c.ep = x.snd.ep ∧ y28.snd.fst.c.at_ = y.at_ ∧ y28.snd.fst.c.last =
 (IntKind.wrap IntKind.i64 (y.at_ + (1000 : Int)) == (↑(List.length y.d.vs) : Int)) ∧ (List.length y28.snd.snd.vs = Int.toNat (IntKind.wrap IntKind.i64
 (y.at_ + (1000 : Int))) - Int.toNat y.at_ ∧ y28.snd.snd.c = c26) ∧ y28.snd.snd.z = ZB.nil ∧ (y28.snd.snd.vs = news24 ∧ List.length y28.snd.snd.vs = Int.toNat
 (IntKind.wrap IntKind.i64 (y.at_ + (1000 : Int))) - Int.toNat y.at_ ∧ y28.snd.snd.c = c26 ∧ (1 : Nat) = (1 : Nat)) ∧ ((Rm.ab y28.fst = Ab.know (Rm.ab x.fst) x.snd
 ∧ Ab.ok (Rm.ab y28.fst) ∧ List.length y28.fst.d.vs ≤ y28.fst.d.c) ∧ Ab.ask (Rm.ab y28.fst) x.snd = some (y28.snd.fst, y28.snd.snd.vs)) ∧ ∀ (w29 : World), True
 ∧ True → True)) ∧ True) ∧ True))) ∧ (y.has = false → (∃ (y30 : Rm), False) ∨ ∃ (y31 : Rm × Ak × Sl), ((0 : Nat) = (0 : Nat) ∧ (1 : Nat) = (1 : Nat) ∧ (1 : Nat) =
 (1 : Nat)) ∧ y31.fst.n = y.n ∧ y31.fst.has = y.has ∧ (List.length y31.fst.d.vs = List.length y.d.vs ∧ y31.fst.d.c = y.d.c) ∧ y31.fst.d.z = y.d.z ∧ y31.fst.at_ = y.at_
 ∧ (y31.fst.d.vs = y.d.vs ∧ List.length y31.fst.d.vs = List.length y.d.vs ∧ y31.fst.d.c = y.d.c ∧ (1 : Nat) = (1 : Nat)) ∧ y31.snd.fst.g = x.snd.frm ∧ y31.snd.fst.c.kind =
 (8 : Int) ∧ y31.snd.fst.c.ok = (0 : Int) ∧ y31.snd.fst.c.ofr = ByteArray.empty ∧ y31.snd.fst.c.oto = ByteArray.empty ∧ y31.snd.fst.c.oam = (0 : Int) ∧ y31.snd.fst.c.okey = ByteArray.empty
 ∧ y31.snd.fst.c.osl = (0 : Int) ∧ y31.snd.fst.c.osh = (0 : Int) ∧ y31.snd.fst.c.id = ByteArray.empty ∧ y31.snd.fst.c.name = ByteArray.empty ∧ y31.snd.fst.c.n =
 (0 : Int) ∧ y31.snd.fst.c.why = (0 : Int) ∧ y31.snd.fst.c.slot = x.snd.slot ∧ y31.snd.fst.c.ep = x.snd.ep ∧ y31.snd.fst.c.at_ = (0 : Int) ∧ y31.snd.fst.c.last = false
 ∧ (y31.snd.snd.z = ZB.nil ∧ List.length y31.snd.snd.vs = (0 : Nat) ∧ y31.snd.snd.c = (0 : Nat)) ∧ (y31.snd.snd.vs = [] ∧ List.length y31.snd.snd.vs = (0 : Nat)
 ∧ y31.snd.snd.c = (0 : Nat)) ∧ ((Rm.ab y31.fst = Ab.know (Rm.ab x.fst) x.snd ∧ Ab.ok (Rm.ab y31.fst) ∧ List.length y31.fst.d.vs ≤ y31.fst.d.c) ∧ Ab.ask
 (Rm.ab y31.fst) x.snd = some (y31.snd.fst, y31.snd.snd.vs)) ∧ ∀ (w32 : World), True ∧ True → True)) ∧ ((x.snd.ph == (2 : Int)) = false → (∃ (y33 : Rm), False) ∨
 ∃ (y34 : Rm × Ak × Sl), ((0 : Nat) = (0 : Nat) ∧ (1 : Nat) = (1 : Nat) ∧ (1 : Nat) = (1 : Nat)) ∧ y34.fst.n = y.n ∧ y34.fst.has = y.has ∧ (List.length y34.fst.d.vs = List.length y.d.vs
 ∧ y34.fst.d.c = y.d.c) ∧ y34.fst.d.z = y.d.z ∧ y34.fst.at_ = y.at_ ∧ (y34.fst.d.vs = y.d.vs ∧ List.length y34.fst.d.vs = List.length y.d.vs ∧ y34.fst.d.c = y.d.c
 ∧ (1 : Nat) = (1 : Nat)) ∧ y34.snd.fst.g = x.snd.frm ∧ y34.snd.fst.c.kind = (8 : Int) ∧ y34.snd.fst.c.ok = (0 : Int) ∧ y34.snd.fst.c.ofr = ByteArray.empty
 ∧ y34.snd.fst.c.oto = ByteArray.empty ∧ y34.snd.fst.c.oam = (0 : Int) ∧ y34.snd.fst.c.okey = ByteArray.empty ∧ y34.snd.fst.c.osl = (0 : Int) ∧ y34.snd.fst.c.osh =
 (0 : Int) ∧ y34.snd.fst.c.id = ByteArray.empty ∧ y34.snd.fst.c.name = ByteArray.empty ∧ y34.snd.fst.c.n = (0 : Int) ∧ y34.snd.fst.c.why = (0 : Int) ∧ y34.snd.fst.c.slot = x.snd.slot
 ∧ y34.snd.fst.c.ep = x.snd.ep ∧ y34.snd.fst.c.at_ = (0 : Int) ∧ y34.snd.fst.c.last = false ∧ (y34.snd.snd.z = ZB.nil ∧ List.length y34.snd.snd.vs = (0 : Nat)
 ∧ y34.snd.snd.c = (0 : Nat)) ∧ (y34.snd.snd.vs = [] ∧ List.length y34.snd.snd.vs = (0 : Nat) ∧ y34.snd.snd.c = (0 : Nat)) ∧ ((Rm.ab y34.fst = Ab.know (Rm.ab x.fst) x.snd
 ∧ Ab.ok (Rm.ab y34.fst) ∧ List.length y34.fst.d.vs ≤ y34.fst.d.c) ∧ Ab.ask (Rm.ab y34.fst) x.snd = some (y34.snd.fst, y34.snd.snd.vs)) ∧ ∀ (w35 : World), True
 ∧ True → True)))) ∧ (decide (x.snd.ph < (1 : Int)) = true → (∃ (y36 : Rm), y36.n = y.n ∧ y36.has = y.has ∧ (List.length y36.d.vs = List.length y.d.vs ∧ y36.d.c = y.d.c)
 ∧ y36.d.z = y.d.z ∧ y36.at_ = y.at_ ∧ (y36.d.vs = y.d.vs ∧ List.length y36.d.vs = List.length y.d.vs ∧ y36.d.c = y.d.c ∧ (1 : Nat) = (1 : Nat)) ∧ ((Rm.ab y36 = Ab.know
 (Rm.ab x.fst) x.snd ∧ Ab.ok (Rm.ab y36) ∧ List.length y36.d.vs ≤ y36.d.c) ∧ Ab.ask (Rm.ab y36) x.snd = none) ∧ ∀ (w37 : World), True ∧ True → True) ∨ ∃
 (y38 : Rm × Ak × Sl), False)) := by kernel_rfl
theorem spoilS_vc : goalS Γ10 c10 spoilS r10
 = (
 ∀ (x : Sl), List.length x.vs + (1 : Nat) ≤ (140737488355328 : Nat) ∧ (∀ (v : Value), v ∈ x.vs → isU8 v) ∧ List.length x.vs ≤ x.c → (∃ (x1 : Int × Sl),
 (List.length x1.snd.vs = List.length x.vs ∧ x1.snd.c = x.c) ∧ x1.snd.z = x.z ∧ x1.fst = (0 : Int) ∧ (x1.snd.vs = x.vs ∧ List.length x1.snd.vs = List.length x.vs
 ∧ x1.snd.c = x.c ∧ (1 : Nat) = (1 : Nat)) ∧ ((0 : Int) ≤ x1.fst ∧ x1.fst ≤ (↑(List.length x1.snd.vs) : Int) ∧ List.length x1.snd.vs + (1 : Nat) ≤ (140737488355328 : Nat)
 ∧ (∀ (v : Value), v ∈ x1.snd.vs → ∃ (n : Int), v = Value.int IntKind.u8 n) ∧ List.length x1.snd.vs ≤ x1.snd.c) ∧ ∀ (w : World), True → True ∧ True) ∧ ∀
 (x2 : Int × Sl), (0 : Int) ≤ x2.fst ∧ x2.fst ≤ (↑(List.length x2.snd.vs) : Int) ∧ List.length x2.snd.vs + (1 : Nat) ≤ (140737488355328 : Nat) ∧ (∀ (v : Value), v ∈ x2.snd.vs
 → isU8 v) ∧ List.length x2.snd.vs ≤ x2.snd.c → (decide (x2.fst < (↑(List.length x2.snd.vs) : Int)) = true → ((0 : Int) ≤ x2.fst ∧ x2.fst < (↑(List.length x2.snd.vs) : Int)
 ∧ (x2.snd.c = (0 : Nat) → False)) ∧ (0 : Nat) + Int.toNat x2.fst * (1 : Nat) + (1 : Nat) ≤ List.length x2.snd.vs ∧ (0 : Nat) < (1 : Nat) ∧ ∃ (x3 : Int × Sl),
 ((List.length x3.snd.vs = List.length x2.snd.vs ∧ x3.snd.c = x2.snd.c) ∧ x3.snd.z = x2.snd.z ∧ x3.fst = IntKind.wrap IntKind.i64 (x2.fst + (1 : Int)) ∧
 (x3.snd.vs = updL x2.snd.vs ((0 : Nat) + Int.toNat x2.fst * (1 : Nat)) [Value.int IntKind.u8 (90 : Int)] ∧ List.length x3.snd.vs = List.length x2.snd.vs
 ∧ x3.snd.c = x2.snd.c ∧ (1 : Nat) = (1 : Nat)) ∧ ((0 : Int) ≤ x3.fst ∧ x3.fst ≤ (↑(List.length x3.snd.vs) : Int) ∧ List.length x3.snd.vs + (1 : Nat) ≤
 (140737488355328 : Nat) ∧ (∀ (v4 : Value), v4 ∈ x3.snd.vs → ∃ (n5 : Int), v4 = Value.int IntKind.u8 n5) ∧ List.length x3.snd.vs ≤ x3.snd.c) ∧ ∀ (w6 : World), True
 ∧ True → True ∧ True) ∧ List.length x3.snd.vs - Int.toNat x3.fst < List.length x2.snd.vs - Int.toNat x2.fst) ∧ (decide (x2.fst < (↑(List.length x2.snd.vs) : Int)) = false
 → List.length x2.snd.vs = List.length x2.snd.vs ∧ x2.snd.c = x2.snd.c ∧ (∀ (v7 : Value), v7 ∈ x2.snd.vs → one1 v7 = true) ∧ (List.length x2.snd.vs + (1 : Nat)) *
 (1 : Nat) ≤ (140737488355328 : Nat) ∧ ∀ (c : Nat), List.length x2.snd.vs + (1 : Nat) ≤ c → (List.length x2.snd.vs + (1 : Nat) ≤ x2.snd.c → c = x2.snd.c)
 → ((0 : Int) ≤ IntKind.wrap IntKind.i64 ((↑(List.length x2.snd.vs + (1 : Nat)) : Int) - (1 : Int)) ∧ IntKind.wrap IntKind.i64 ((↑(List.length x2.snd.vs +
 (1 : Nat)) : Int) - (1 : Int)) < (↑(List.length x2.snd.vs + (1 : Nat)) : Int) ∧ (c = (0 : Nat) → False)) ∧ (0 : Nat) + Int.toNat (IntKind.wrap IntKind.i64
 ((↑(List.length x2.snd.vs + (1 : Nat)) : Int) - (1 : Int))) * (1 : Nat) + (1 : Nat) ≤ List.length (x2.snd.vs ++ [Value.int IntKind.u8 (91 : Int)]) ∧ (0 : Nat) <
 (1 : Nat) ∧ ∃ (y : Unit), True ∧ ∀ (w8 : World), True ∧ True → True)) := by kernel_rfl

end Go.Proofs.Ytgjoileoekbkoaa
