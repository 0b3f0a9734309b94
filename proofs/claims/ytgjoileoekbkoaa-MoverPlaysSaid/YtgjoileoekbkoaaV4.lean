/-
  What is left of the contracts when the executor has run; written by vcg.py.
-/
import Derived.Test.YtgjoileoekbkoaaM0
set_option linter.unusedVariables false
set_option maxRecDepth 100000
namespace Go.Proofs.Ytgjoileoekbkoaa
open Go Go.SX
theorem knownS_vc : goalS Γ18 c18 knownS r18
 = (
 ∀ (x : Unit), True → (false = true → ∃ (y : Bool), y = false ∧ y = true ∧ ∀ (w : World), True → True) ∧ (false = false → ∃ (x1 : Mo × Mv), x1.snd.slot =
 (3 : Int) ∧ x1.snd.frm = (1 : Int) ∧ x1.snd.to = (2 : Int) ∧ x1.snd.ep = (1 : Int) ∧ x1.snd.ph = (1 : Int) ∧ x1.snd.n = (1 : Int) ∧ x1.fst.n = (0 : Int)
 ∧ (x1.fst.d.z = ZB.nil ∧ List.length x1.fst.d.vs = (0 : Nat) ∧ x1.fst.d.c = (0 : Nat)) ∧ x1.fst.at_ = (0 : Int) ∧ (x1.fst.d.vs = [] ∧ List.length x1.fst.d.vs =
 (0 : Nat) ∧ x1.fst.d.c = (0 : Nat)) ∧ (Ab.ok (Mo.ab x1.fst) ∧ List.length x1.fst.d.vs ≤ x1.fst.d.c) ∧ (∀ (w2 : World), True → True) ∧ (∀ (y3 : Mo), (Mo.ab y3 = Ab.know
 (Mo.ab x1.fst) x1.snd ∧ Mo.ok y3) ∧ Ab.ask (Mo.ab y3) x1.snd = none → (((↑(0 : Nat) : Int) != (1 : Int)) = false → False) ∧ (((↑(0 : Nat) : Int) != (1 : Int)) = true
 → ∃ (y4 : Bool), y4 = false ∧ y4 = true ∧ ∀ (w5 : World), True ∧ True → True)) ∧ ∀ (y6 : Mo × Ak × Sl × Nat × Nat × List Value), (Mo.ab y6.fst = Ab.know
 (Mo.ab x1.fst) x1.snd ∧ Mo.ok y6.fst) ∧ Ab.ask (Mo.ab y6.fst) x1.snd = some (y6.snd.fst, y6.snd.snd.fst.vs) ∧ List.length y6.snd.snd.fst.vs ≤ y6.snd.snd.fst.c
 → (((↑(1 : Nat) : Int) != (1 : Int)) = false → ((0 : Int) ≤ (0 : Int) ∧ (0 : Int) < (↑(1 : Nat) : Int)) ∧ ((0 : Int) = (↑(0 : Nat) : Int) → ((y6.snd.fst.g !=
 (1 : Int)) = false → ((0 : Int) ≤ (0 : Int) ∧ (0 : Int) < (↑(1 : Nat) : Int)) ∧ ((0 : Int) = (↑(0 : Nat) : Int) → ((y6.snd.fst.c.kind != (8 : Int)) = true
 → ∃ (y7 : Bool), y7 = false ∧ y7 = true ∧ ∀ (w8 : World), True ∧ True → True) ∧ ((y6.snd.fst.c.kind != (8 : Int)) = false → ((0 : Int) ≤ (0 : Int) ∧ (0 : Int) <
 (↑(1 : Nat) : Int)) ∧ ((0 : Int) = (↑(0 : Nat) : Int) → (((0 : Int) ≤ (1500 : Int) ∧ (1500 : Int) ≤ (1500 : Int) ∧ (↑(1 : Nat) : Int) * (1500 : Int) ≤
 (281474976710656 : Int) ∧ (1500 : Int) ≤ (9223372036854775807 : Int)) ∧ (True ∧ ((3 : Int) = (3 : Int) ∧ (1 : Int) = (1 : Int) ∧ (2 : Int) = (2 : Int)
 ∧ (1 : Int) = (1 : Int) ∧ (1 : Int) = (1 : Int) ∧ (1 : Int) = (1 : Int) ∧ True) ∧ ((0 : Nat) = (0 : Nat) ∧ (1 : Nat) = (1 : Nat) ∧ y6.snd.snd.snd.fst = y6.snd.snd.snd.fst)
 ∧ (((0 : Int) ≤ (0 : Int) ∧ (0 : Int) < (↑(1 : Nat) : Int)) ∧ ((0 : Int) = (↑(0 : Nat) : Int) → True) ∧ True) ∧ (y6.snd.fst.g = y6.snd.fst.g ∧ y6.snd.fst.c.kind = y6.snd.fst.c.kind
 ∧ y6.snd.fst.c.ok = y6.snd.fst.c.ok ∧ y6.snd.fst.c.ofr = y6.snd.fst.c.ofr ∧ y6.snd.fst.c.oto = y6.snd.fst.c.oto ∧ y6.snd.fst.c.oam = y6.snd.fst.c.oam ∧ y6.snd.fst.c.okey = y6.snd.fst.c.okey
 ∧ y6.snd.fst.c.osl = y6.snd.fst.c.osl ∧ y6.snd.fst.c.osh = y6.snd.fst.c.osh ∧ y6.snd.fst.c.id = y6.snd.fst.c.id ∧ y6.snd.fst.c.name = y6.snd.fst.c.name
 ∧ y6.snd.fst.c.n = y6.snd.fst.c.n ∧ y6.snd.fst.c.why = y6.snd.fst.c.why ∧ y6.snd.fst.c.slot = y6.snd.fst.c.slot ∧ y6.snd.fst.c.ep = y6.snd.fst.c.ep ∧ y6.snd.fst.c.at_ = y6.snd.fst.c.at_
 ∧ y6.snd.fst.c.last = y6.snd.fst.c.last ∧ (List.length y6.snd.snd.fst.vs = List.length y6.snd.snd.fst.vs ∧ y6.snd.snd.fst.c = y6.snd.snd.fst.c ∧ y6.snd.snd.fst.z = y6.snd.snd.fst.z)
 ∧ True) ∧ True) ∧ (∃ (x9 : TX), x9.x.slot = (3 : Int) ∧ x9.x.frm = (1 : Int) ∧ x9.x.to = (2 : Int) ∧ x9.x.ep = (1 : Int) ∧ x9.x.ph = (1 : Int) ∧ x9.x.n =
 (1 : Int) ∧ x9.a.g = y6.snd.fst.g ∧ x9.a.c.kind = y6.snd.fst.c.kind ∧ x9.a.c.ok = y6.snd.fst.c.ok ∧ x9.a.c.ofr = y6.snd.fst.c.ofr ∧ x9.a.c.oto = y6.snd.fst.c.oto
 ∧ x9.a.c.oam = y6.snd.fst.c.oam ∧ x9.a.c.okey = y6.snd.fst.c.okey ∧ x9.a.c.osl = y6.snd.fst.c.osl ∧ x9.a.c.osh = y6.snd.fst.c.osh ∧ x9.a.c.id = y6.snd.fst.c.id
 ∧ x9.a.c.name = y6.snd.fst.c.name ∧ x9.a.c.n = y6.snd.fst.c.n ∧ x9.a.c.why = y6.snd.fst.c.why ∧ x9.a.c.slot = y6.snd.fst.c.slot ∧ x9.a.c.ep = y6.snd.fst.c.ep
 ∧ x9.a.c.at_ = y6.snd.fst.c.at_ ∧ x9.a.c.last = y6.snd.fst.c.last ∧ (List.length x9.ad.vs = List.length y6.snd.snd.fst.vs ∧ x9.ad.c = y6.snd.snd.fst.c)
 ∧ x9.ad.z = y6.snd.snd.fst.z ∧ x9.r.why = (0 : Int) ∧ x9.r.wait = false ∧ x9.r.rwhy = (0 : Int) ∧ x9.r.ram = (0 : Int) ∧ (List.length x9.rd.vs = Int.toNat
 (1500 : Int) ∧ x9.rd.c = Int.toNat (1500 : Int)) ∧ x9.rd.z = ZB.own ∧ x9.m.n = y6.fst.n ∧ (List.length x9.m.d.vs = List.length y6.fst.d.vs ∧ x9.m.d.c = y6.fst.d.c)
 ∧ x9.m.d.z = y6.fst.d.z ∧ x9.m.at_ = y6.fst.at_ ∧ (x9.m.d.vs = y6.fst.d.vs ∧ List.length x9.m.d.vs = List.length y6.fst.d.vs ∧ x9.m.d.c = y6.fst.d.c ∧
 (1 : Nat) = (1 : Nat)) ∧ (x9.ad.vs = y6.snd.snd.fst.vs ∧ List.length x9.ad.vs = List.length y6.snd.snd.fst.vs ∧ x9.ad.c = y6.snd.snd.fst.c ∧ (1 : Nat) =
 (1 : Nat)) ∧ (x9.rd.vs = zerosV [Value.int IntKind.u8 (0 : Int)] (Int.toNat (1500 : Int)) ∧ List.length x9.rd.vs = Int.toNat (1500 : Int) ∧ x9.rd.c = Int.toNat
 (1500 : Int) ∧ (1 : Nat) = (1 : Nat)) ∧ ((Ab.ok (Mo.ab x9.m) ∧ List.length x9.m.d.vs ≤ x9.m.d.c) ∧ (∀ (v : Value), v ∈ x9.rd.vs → ∃ (n : Int), v = Value.int IntKind.u8 n)
 ∧ List.length x9.rd.vs ≤ (140737488355328 : Nat) ∧ List.length x9.ad.vs ≤ (140737488355328 : Nat)) ∧ (∀ (w10 : World), True ∧ True → True) ∧ ∀ (y11 : Mo × Bool),
 (Mo.ab y11.fst, y11.snd) = Ab.told (Mo.ab x9.m) x9.x x9.a (List.length x9.ad.vs) x9.r.why x9.rd.vs ∧ Mo.ok y11.fst → True ∧ ((True ∧ ((3 : Int) = (3 : Int)
 ∧ (1 : Int) = (1 : Int) ∧ (2 : Int) = (2 : Int) ∧ (1 : Int) = (1 : Int) ∧ (1 : Int) = (1 : Int) ∧ (1 : Int) = (1 : Int) ∧ True) ∧ ((0 : Nat) = (0 : Nat)
 ∧ (1 : Nat) = (1 : Nat) ∧ y6.snd.snd.snd.fst = y6.snd.snd.snd.fst) ∧ (((0 : Int) ≤ (0 : Int) ∧ (0 : Int) < (↑(1 : Nat) : Int)) ∧ ((0 : Int) = (↑(0 : Nat) : Int)
 → True) ∧ True) ∧ (y6.snd.fst.g = y6.snd.fst.g ∧ y6.snd.fst.c.kind = y6.snd.fst.c.kind ∧ y6.snd.fst.c.ok = y6.snd.fst.c.ok ∧ y6.snd.fst.c.ofr = y6.snd.fst.c.ofr
 ∧ y6.snd.fst.c.oto = y6.snd.fst.c.oto ∧ y6.snd.fst.c.oam = y6.snd.fst.c.oam ∧ y6.snd.fst.c.okey = y6.snd.fst.c.okey ∧ y6.snd.fst.c.osl = y6.snd.fst.c.osl
 ∧ y6.snd.fst.c.osh = y6.snd.fst.c.osh ∧ y6.snd.fst.c.id = y6.snd.fst.c.id ∧ y6.snd.fst.c.name = y6.snd.fst.c.name ∧ y6.snd.fst.c.n = y6.snd.fst.c.n ∧ y6.snd.fst.c.why = y6.snd.fst.c.why
 ∧ y6.snd.fst.c.slot = y6.snd.fst.c.slot ∧ y6.snd.fst.c.ep = y6.snd.fst.c.ep ∧ y6.snd.fst.c.at_ = y6.snd.fst.c.at_ ∧ y6.snd.fst.c.last = y6.snd.fst.c.last
 ∧ (List.length y6.snd.snd.fst.vs = List.length y6.snd.snd.fst.vs ∧ y6.snd.snd.fst.c = y6.snd.snd.fst.c ∧ y6.snd.snd.fst.z = y6.snd.snd.fst.z) ∧ True) ∧
 ((0 : Int) = (0 : Int) ∧ false = false ∧ (0 : Int) = (0 : Int) ∧ (0 : Int) = (0 : Int) ∧ True ∧ (Int.toNat (1500 : Int) = Int.toNat (1500 : Int) ∧ Int.toNat
 (1500 : Int) = Int.toNat (1500 : Int) ∧ ZB.own = ZB.own) ∧ True) ∧ ((((bif y11.snd then (2 : Int) else (0 : Int)) = bif y11.snd then (2 : Int) else (0 : Int))
 ∧ (0 : Int) = (0 : Int) ∧ (0 : Int) = (0 : Int) ∧ ((bif y11.snd then x9.x.n else (0 : Int)) = bif y11.snd then x9.x.n else (0 : Int)) ∧ ((bif y11.snd then x9.x.ph else
 (0 : Int)) = bif y11.snd then x9.x.ph else (0 : Int)) ∧ True) ∧ y11.snd = y11.snd ∧ True) ∧ (((bif y11.snd then (2 : Int) else (0 : Int)) = bif y11.snd then
 (2 : Int) else (0 : Int)) ∧ (0 : Int) = (0 : Int) ∧ (0 : Int) = (0 : Int) ∧ ((bif y11.snd then x9.x.n else (0 : Int)) = bif y11.snd then x9.x.n else (0 : Int))
 ∧ ((bif y11.snd then x9.x.ph else (0 : Int)) = bif y11.snd then x9.x.ph else (0 : Int)) ∧ True) ∧ y11.snd = y11.snd ∧ True) ∧ ((y11.snd = y11.snd ∧ True)
 ∧ ∃ (x12 : Mo × Mv), x12.snd.slot = (3 : Int) ∧ x12.snd.frm = (1 : Int) ∧ x12.snd.to = (2 : Int) ∧ x12.snd.ep = (1 : Int) ∧ x12.snd.ph = (2 : Int) ∧ x12.snd.n =
 (1 : Int) ∧ x12.fst.n = y11.fst.n ∧ (List.length x12.fst.d.vs = List.length y11.fst.d.vs ∧ x12.fst.d.c = y11.fst.d.c) ∧ x12.fst.d.z = y11.fst.d.z ∧ x12.fst.at_ = y11.fst.at_
 ∧ (x12.fst.d.vs = y11.fst.d.vs ∧ List.length x12.fst.d.vs = List.length y11.fst.d.vs ∧ x12.fst.d.c = y11.fst.d.c ∧ (1 : Nat) = (1 : Nat)) ∧ (Ab.ok (Mo.ab x12.fst)
 ∧ List.length x12.fst.d.vs ≤ x12.fst.d.c) ∧ (∀ (w13 : World), (True ∧ True) ∧ True → True) ∧ (∀ (y14 : Mo), (Mo.ab y14 = Ab.know (Mo.ab x12.fst) x12.snd
 ∧ Mo.ok y14) ∧ Ab.ask (Mo.ab y14) x12.snd = none → (((↑(0 : Nat) : Int) != (1 : Int)) = false → False) ∧ (((↑(0 : Nat) : Int) != (1 : Int)) = true → ∃
 (y15 : Bool), y15 = false ∧ y15 = true ∧ ∀ (w16 : World), ((True ∧ True) ∧ True) ∧ True → True)) ∧ ∀ (y17 : Mo × Ak × Sl × Nat × Nat × List Value), (Mo.ab y17.fst = Ab.know
 (Mo.ab x12.fst) x12.snd ∧ Mo.ok y17.fst) ∧ Ab.ask (Mo.ab y17.fst) x12.snd = some (y17.snd.fst, y17.snd.snd.fst.vs) ∧ List.length y17.snd.snd.fst.vs ≤ y17.snd.snd.fst.c
 → (((↑(1 : Nat) : Int) != (1 : Int)) = false → ((0 : Int) ≤ (0 : Int) ∧ (0 : Int) < (↑(1 : Nat) : Int)) ∧ ((0 : Int) = (↑(0 : Nat) : Int) → ((y17.snd.fst.g !=
 (2 : Int)) = false → ((0 : Int) ≤ (0 : Int) ∧ (0 : Int) < (↑(1 : Nat) : Int)) ∧ ((0 : Int) = (↑(0 : Nat) : Int) → (((↑(List.length y17.snd.snd.fst.vs) : Int) !=
 (1000 : Int)) = false → ((0 : Int) ≤ (0 : Int) ∧ (0 : Int) < (↑(1 : Nat) : Int)) ∧ ((0 : Int) = (↑(0 : Nat) : Int) → (y17.snd.fst.c.last = true → ∃ (y18 : Bool), y18 = false
 ∧ y18 = true ∧ ∀ (w19 : World), ((True ∧ True) ∧ True) ∧ True → True) ∧ (y17.snd.fst.c.last = false → ((0 : Int) ≤ (0 : Int) ∧ (0 : Int) < (↑(1 : Nat) : Int))
 ∧ ((0 : Int) = (↑(0 : Nat) : Int) → (∃ (x20 : TX), x20.x.slot = (3 : Int) ∧ x20.x.frm = (1 : Int) ∧ x20.x.to = (2 : Int) ∧ x20.x.ep = (1 : Int) ∧ x20.x.ph =
 (2 : Int) ∧ x20.x.n = (1 : Int) ∧ x20.a.g = y17.snd.fst.g ∧ x20.a.c.kind = y17.snd.fst.c.kind ∧ x20.a.c.ok = y17.snd.fst.c.ok ∧ x20.a.c.ofr = y17.snd.fst.c.ofr
 ∧ x20.a.c.oto = y17.snd.fst.c.oto ∧ x20.a.c.oam = y17.snd.fst.c.oam ∧ x20.a.c.okey = y17.snd.fst.c.okey ∧ x20.a.c.osl = y17.snd.fst.c.osl ∧ x20.a.c.osh = y17.snd.fst.c.osh
 ∧ x20.a.c.id = y17.snd.fst.c.id ∧ x20.a.c.name = y17.snd.fst.c.name ∧ x20.a.c.n = y17.snd.fst.c.n ∧ x20.a.c.why = y17.snd.fst.c.why ∧ x20.a.c.slot = y17.snd.fst.c.slot
 ∧ x20.a.c.ep = y17.snd.fst.c.ep ∧ x20.a.c.at_ = y17.snd.fst.c.at_ ∧ x20.a.c.last = y17.snd.fst.c.last ∧ (List.length x20.ad.vs = List.length y17.snd.snd.fst.vs
 ∧ x20.ad.c = y17.snd.snd.fst.c) ∧ x20.ad.z = y17.snd.snd.fst.z ∧ x20.r.why = (0 : Int) ∧ x20.r.wait = false ∧ x20.r.rwhy = (0 : Int) ∧ x20.r.ram = (0 : Int)
 ∧ (x20.rd.z = ZB.nil ∧ List.length x20.rd.vs = (0 : Nat) ∧ x20.rd.c = (0 : Nat)) ∧ x20.m.n = y17.fst.n ∧ (List.length x20.m.d.vs = List.length y17.fst.d.vs
 ∧ x20.m.d.c = y17.fst.d.c) ∧ x20.m.d.z = y17.fst.d.z ∧ x20.m.at_ = y17.fst.at_ ∧ (x20.m.d.vs = y17.fst.d.vs ∧ List.length x20.m.d.vs = List.length y17.fst.d.vs
 ∧ x20.m.d.c = y17.fst.d.c ∧ (1 : Nat) = (1 : Nat)) ∧ (x20.ad.vs = y17.snd.snd.fst.vs ∧ List.length x20.ad.vs = List.length y17.snd.snd.fst.vs ∧ x20.ad.c = y17.snd.snd.fst.c
 ∧ (1 : Nat) = (1 : Nat)) ∧ (x20.rd.vs = [] ∧ List.length x20.rd.vs = (0 : Nat) ∧ x20.rd.c = (0 : Nat)) ∧ ((Ab.ok (Mo.ab x20.m) ∧ List.length x20.m.d.vs ≤ x20.m.d.c)
 ∧ (∀ (v21 : Value), v21 ∈ x20.rd.vs → ∃ (n22 : Int), v21 = Value.int IntKind.u8 n22) ∧ List.length x20.rd.vs ≤ (140737488355328 : Nat) ∧ List.length x20.ad.vs ≤
 (140737488355328 : Nat)) ∧ (∀ (w23 : World), ((True ∧ True) ∧ True) ∧ True → True) ∧ ∀ (y24 : Mo × Bool), (Mo.ab y24.fst, y24.snd) = Ab.told (Mo.ab x20.m) x20.x x20.a
 (List.length x20.ad.vs) x20.r.why x20.rd.vs ∧ Mo.ok y24.fst → True ∧ ∃ (x25 : Mo × Mv), x25.snd.slot = (3 : Int) ∧ x25.snd.frm = (1 : Int) ∧ x25.snd.to =
 (2 : Int) ∧ x25.snd.ep = (1 : Int) ∧ x25.snd.ph = (2 : Int) ∧ x25.snd.n = (1 : Int) ∧ x25.fst.n = y24.fst.n ∧ (List.length x25.fst.d.vs = List.length y24.fst.d.vs
 ∧ x25.fst.d.c = y24.fst.d.c) ∧ x25.fst.d.z = y24.fst.d.z ∧ x25.fst.at_ = y24.fst.at_ ∧ (x25.fst.d.vs = y24.fst.d.vs ∧ List.length x25.fst.d.vs = List.length y24.fst.d.vs
 ∧ x25.fst.d.c = y24.fst.d.c ∧ (1 : Nat) = (1 : Nat)) ∧ (Ab.ok (Mo.ab x25.fst) ∧ List.length x25.fst.d.vs ≤ x25.fst.d.c) ∧ (∀ (w26 : World), (((True ∧ True)
 ∧ True) ∧ True) ∧ True → True) ∧ (∀ (y27 : Mo), (Mo.ab y27 = Ab.know (Mo.ab x25.fst) x25.snd ∧ Mo.ok y27) ∧ Ab.ask (Mo.ab y27) x25.snd = none → (y11.snd = true
 → (((bif y11.snd then (2 : Int) else (0 : Int)) == (2 : Int)) = true → (((bif y11.snd then x9.x.ph else (0 : Int)) == (1 : Int)) = true → (((↑(0 : Nat) : Int) ==
 (1 : Int)) = true → False) ∧ (((↑(0 : Nat) : Int) == (1 : Int)) = false → ∃ (y28 : Bool), y28 = false ∧ y28 = true ∧ ∀ (w29 : World), ((((True ∧ True)
 ∧ True) ∧ True) ∧ True) ∧ True → True)) ∧ (((bif y11.snd then x9.x.ph else (0 : Int)) == (1 : Int)) = false → ∃ (y30 : Bool), y30 = false ∧ y30 = true
 ∧ ∀ (w31 : World), ((((True ∧ True) ∧ True) ∧ True) ∧ True) ∧ True → True)) ∧ (((bif y11.snd then (2 : Int) else (0 : Int)) == (2 : Int)) = false → ∃ (y32 : Bool), y32 = false
 ∧ y32 = true ∧ ∀ (w33 : World), ((((True ∧ True) ∧ True) ∧ True) ∧ True) ∧ True → True)) ∧ (y11.snd = false → ∃ (y34 : Bool), y34 = false ∧ y34 = true
 ∧ ∀ (w35 : World), ((((True ∧ True) ∧ True) ∧ True) ∧ True) ∧ True → True)) ∧ ∀ (y36 : Mo × Ak × Sl × Nat × Nat × List Value), (Mo.ab y36.fst = Ab.know
 (Mo.ab x25.fst) x25.snd ∧ Mo.ok y36.fst) ∧ Ab.ask (Mo.ab y36.fst) x25.snd = some (y36.snd.fst, y36.snd.snd.fst.vs) ∧ List.length y36.snd.snd.fst.vs ≤ y36.snd.snd.fst.c
 → (y11.snd = true → (((bif y11.snd then (2 : Int) else (0 : Int)) == (2 : Int)) = true → (((bif y11.snd then x9.x.ph else (0 : Int)) == (1 : Int)) = true
 → (((↑(1 : Nat) : Int) == (1 : Int)) = true → ((0 : Int) ≤ (0 : Int) ∧ (0 : Int) < (↑(1 : Nat) : Int)) ∧ ((0 : Int) = (↑(0 : Nat) : Int) → ((y36.snd.fst.c.at_ ==
 (1000 : Int)) = true → ((0 : Int) ≤ (0 : Int) ∧ (0 : Int) < (↑(1 : Nat) : Int)) ∧ ((0 : Int) = (↑(0 : Nat) : Int) → (y36.snd.fst.c.last = true → ∃ (x37 : Mo), x37.n = y36.fst.n
 ∧ (List.length x37.d.vs = List.length y36.fst.d.vs ∧ x37.d.c = y36.fst.d.c) ∧ x37.d.z = y36.fst.d.z ∧ x37.at_ = y36.fst.at_ ∧ (x37.d.vs = y36.fst.d.vs
 ∧ List.length x37.d.vs = List.length y36.fst.d.vs ∧ x37.d.c = y36.fst.d.c ∧ (1 : Nat) = (1 : Nat)) ∧ True ∧ (∀ (w38 : World), ((((True ∧ True) ∧ True)
 ∧ True) ∧ True) ∧ True → True) ∧ ∀ (y39 : Int), (y39 = if Sl.has x37.d = true then (↑(List.length x37.d.vs) : Int) else (-1 : Int)) → ((y39 == (1500 : Int)) = true
 → (false = true → ∃ (y40 : Bool), y40 = ((0 : Int) == (1000 : Int)) ∧ y40 = true ∧ ∀ (w41 : World), (((((True ∧ True) ∧ True) ∧ True) ∧ True) ∧ True) ∧ True
 → True) ∧ (false = false → ∃ (y42 : Bool), y42 = (x37.at_ == (1000 : Int)) ∧ y42 = true ∧ ∀ (w43 : World), (((((True ∧ True) ∧ True) ∧ True) ∧ True) ∧ True)
 ∧ True → True)) ∧ ((y39 == (1500 : Int)) = false → ∃ (y44 : Bool), y44 = false ∧ y44 = true ∧ ∀ (w45 : World), (((((True ∧ True) ∧ True) ∧ True) ∧ True)
 ∧ True) ∧ True → True)) ∧ (y36.snd.fst.c.last = false → ∃ (y46 : Bool), y46 = false ∧ y46 = true ∧ ∀ (w47 : World), ((((True ∧ True) ∧ True) ∧ True) ∧ True)
 ∧ True → True)) ∧ True) ∧ ((y36.snd.fst.c.at_ == (1000 : Int)) = false → ∃ (y48 : Bool), y48 = false ∧ y48 = true ∧ ∀ (w49 : World), ((((True ∧ True) ∧ True)
 ∧ True) ∧ True) ∧ True → True)) ∧ True) ∧ (((↑(1 : Nat) : Int) == (1 : Int)) = false → ∃ (y50 : Bool), y50 = false ∧ y50 = true ∧ ∀ (w51 : World), ((((True
 ∧ True) ∧ True) ∧ True) ∧ True) ∧ True → True)) ∧ (((bif y11.snd then x9.x.ph else (0 : Int)) == (1 : Int)) = false → ∃ (y52 : Bool), y52 = false ∧ y52 = true
 ∧ ∀ (w53 : World), ((((True ∧ True) ∧ True) ∧ True) ∧ True) ∧ True → True)) ∧ (((bif y11.snd then (2 : Int) else (0 : Int)) == (2 : Int)) = false → ∃ (y54 : Bool), y54 = false
 ∧ y54 = true ∧ ∀ (w55 : World), ((((True ∧ True) ∧ True) ∧ True) ∧ True) ∧ True → True)) ∧ (y11.snd = false → ∃ (y56 : Bool), y56 = false ∧ y56 = true
 ∧ ∀ (w57 : World), ((((True ∧ True) ∧ True) ∧ True) ∧ True) ∧ True → True)) ∧ True) ∧ True)) ∧ True) ∧ (((↑(List.length y17.snd.snd.fst.vs) : Int) != (1000 : Int)) = true
 → ∃ (y58 : Bool), y58 = false ∧ y58 = true ∧ ∀ (w59 : World), ((True ∧ True) ∧ True) ∧ True → True)) ∧ True) ∧ ((y17.snd.fst.g != (2 : Int)) = true → ∃
 (y60 : Bool), y60 = false ∧ y60 = true ∧ ∀ (w61 : World), ((True ∧ True) ∧ True) ∧ True → True)) ∧ True) ∧ (((↑(1 : Nat) : Int) != (1 : Int)) = true →
 ∃ (y62 : Bool), y62 = false ∧ y62 = true ∧ ∀ (w63 : World), ((True ∧ True) ∧ True) ∧ True → True)) ∧ True) ∧ True) ∧ ((True ∧ ((3 : Int) = (3 : Int) ∧
 (1 : Int) = (1 : Int) ∧ (2 : Int) = (2 : Int) ∧ (1 : Int) = (1 : Int) ∧ (1 : Int) = (1 : Int) ∧ (1 : Int) = (1 : Int) ∧ True) ∧ ((0 : Nat) = (0 : Nat)
 ∧ (1 : Nat) = (1 : Nat) ∧ y6.snd.snd.snd.fst = y6.snd.snd.snd.fst) ∧ (((0 : Int) ≤ (0 : Int) ∧ (0 : Int) < (↑(1 : Nat) : Int)) ∧ ((0 : Int) = (↑(0 : Nat) : Int)
 → True) ∧ True) ∧ (y6.snd.fst.g = y6.snd.fst.g ∧ y6.snd.fst.c.kind = y6.snd.fst.c.kind ∧ y6.snd.fst.c.ok = y6.snd.fst.c.ok ∧ y6.snd.fst.c.ofr = y6.snd.fst.c.ofr
 ∧ y6.snd.fst.c.oto = y6.snd.fst.c.oto ∧ y6.snd.fst.c.oam = y6.snd.fst.c.oam ∧ y6.snd.fst.c.okey = y6.snd.fst.c.okey ∧ y6.snd.fst.c.osl = y6.snd.fst.c.osl
 ∧ y6.snd.fst.c.osh = y6.snd.fst.c.osh ∧ y6.snd.fst.c.id = y6.snd.fst.c.id ∧ y6.snd.fst.c.name = y6.snd.fst.c.name ∧ y6.snd.fst.c.n = y6.snd.fst.c.n ∧ y6.snd.fst.c.why = y6.snd.fst.c.why
 ∧ y6.snd.fst.c.slot = y6.snd.fst.c.slot ∧ y6.snd.fst.c.ep = y6.snd.fst.c.ep ∧ y6.snd.fst.c.at_ = y6.snd.fst.c.at_ ∧ y6.snd.fst.c.last = y6.snd.fst.c.last
 ∧ (List.length y6.snd.snd.fst.vs = List.length y6.snd.snd.fst.vs ∧ y6.snd.snd.fst.c = y6.snd.snd.fst.c ∧ y6.snd.snd.fst.z = y6.snd.snd.fst.z) ∧ True) ∧
 ((0 : Int) = (0 : Int) ∧ false = false ∧ (0 : Int) = (0 : Int) ∧ (0 : Int) = (0 : Int) ∧ True ∧ (Int.toNat (1500 : Int) = Int.toNat (1500 : Int) ∧ Int.toNat
 (1500 : Int) = Int.toNat (1500 : Int) ∧ ZB.own = ZB.own) ∧ True) ∧ True) ∧ (∃ (x64 : TX), x64.x.slot = (3 : Int) ∧ x64.x.frm = (1 : Int) ∧ x64.x.to = (2 : Int)
 ∧ x64.x.ep = (1 : Int) ∧ x64.x.ph = (1 : Int) ∧ x64.x.n = (1 : Int) ∧ x64.a.g = y6.snd.fst.g ∧ x64.a.c.kind = y6.snd.fst.c.kind ∧ x64.a.c.ok = y6.snd.fst.c.ok
 ∧ x64.a.c.ofr = y6.snd.fst.c.ofr ∧ x64.a.c.oto = y6.snd.fst.c.oto ∧ x64.a.c.oam = y6.snd.fst.c.oam ∧ x64.a.c.okey = y6.snd.fst.c.okey ∧ x64.a.c.osl = y6.snd.fst.c.osl
 ∧ x64.a.c.osh = y6.snd.fst.c.osh ∧ x64.a.c.id = y6.snd.fst.c.id ∧ x64.a.c.name = y6.snd.fst.c.name ∧ x64.a.c.n = y6.snd.fst.c.n ∧ x64.a.c.why = y6.snd.fst.c.why
 ∧ x64.a.c.slot = y6.snd.fst.c.slot ∧ x64.a.c.ep = y6.snd.fst.c.ep ∧ x64.a.c.at_ = y6.snd.fst.c.at_ ∧ x64.a.c.last = y6.snd.fst.c.last ∧ (List.length x64.ad.vs = List.length y6.snd.snd.fst.vs
 ∧ x64.ad.c = y6.snd.snd.fst.c) ∧ x64.ad.z = y6.snd.snd.fst.z ∧ x64.r.why = (0 : Int) ∧ x64.r.wait = false ∧ x64.r.rwhy = (0 : Int) ∧ x64.r.ram = (0 : Int)
 ∧ (List.length x64.rd.vs = Int.toNat (1500 : Int) ∧ x64.rd.c = Int.toNat (1500 : Int)) ∧ x64.rd.z = ZB.own ∧ x64.m.n = y6.fst.n ∧ (List.length x64.m.d.vs = List.length y6.fst.d.vs
 ∧ x64.m.d.c = y6.fst.d.c) ∧ x64.m.d.z = y6.fst.d.z ∧ x64.m.at_ = y6.fst.at_ ∧ (x64.m.d.vs = y6.fst.d.vs ∧ List.length x64.m.d.vs = List.length y6.fst.d.vs
 ∧ x64.m.d.c = y6.fst.d.c ∧ (1 : Nat) = (1 : Nat)) ∧ (x64.ad.vs = y6.snd.snd.fst.vs ∧ List.length x64.ad.vs = List.length y6.snd.snd.fst.vs ∧ x64.ad.c = y6.snd.snd.fst.c
 ∧ (1 : Nat) = (1 : Nat)) ∧ (x64.rd.vs = zerosV [Value.int IntKind.u8 (0 : Int)] (Int.toNat (1500 : Int)) ∧ List.length x64.rd.vs = Int.toNat (1500 : Int)
 ∧ x64.rd.c = Int.toNat (1500 : Int) ∧ (1 : Nat) = (1 : Nat)) ∧ ((Ab.ok (Mo.ab x64.m) ∧ List.length x64.m.d.vs ≤ x64.m.d.c) ∧ (∀ (v65 : Value), v65 ∈ x64.rd.vs
 → ∃ (n66 : Int), v65 = Value.int IntKind.u8 n66) ∧ List.length x64.rd.vs ≤ (140737488355328 : Nat) ∧ List.length x64.ad.vs ≤ (140737488355328 : Nat)) ∧
 (∀ (w67 : World), True ∧ True → True) ∧ ∀ (y68 : Mo × Bool), (Mo.ab y68.fst, y68.snd) = Ab.told (Mo.ab x64.m) x64.x x64.a (List.length x64.ad.vs) x64.r.why x64.rd.vs
 ∧ Mo.ok y68.fst → True ∧ ((y68.snd = y68.snd ∧ True) ∧ ∃ (x69 : Mo × Mv), x69.snd.slot = (3 : Int) ∧ x69.snd.frm = (1 : Int) ∧ x69.snd.to = (2 : Int) ∧ x69.snd.ep =
 (1 : Int) ∧ x69.snd.ph = (2 : Int) ∧ x69.snd.n = (1 : Int) ∧ x69.fst.n = y68.fst.n ∧ (List.length x69.fst.d.vs = List.length y68.fst.d.vs ∧ x69.fst.d.c = y68.fst.d.c)
 ∧ x69.fst.d.z = y68.fst.d.z ∧ x69.fst.at_ = y68.fst.at_ ∧ (x69.fst.d.vs = y68.fst.d.vs ∧ List.length x69.fst.d.vs = List.length y68.fst.d.vs ∧ x69.fst.d.c = y68.fst.d.c
 ∧ (1 : Nat) = (1 : Nat)) ∧ (Ab.ok (Mo.ab x69.fst) ∧ List.length x69.fst.d.vs ≤ x69.fst.d.c) ∧ (∀ (w70 : World), (True ∧ True) ∧ True → True) ∧ (∀ (y71 : Mo),
 (Mo.ab y71 = Ab.know (Mo.ab x69.fst) x69.snd ∧ Mo.ok y71) ∧ Ab.ask (Mo.ab y71) x69.snd = none → (((↑(0 : Nat) : Int) != (1 : Int)) = false → False) ∧ (((↑(0 : Nat) : Int) !=
 (1 : Int)) = true → ∃ (y72 : Bool), y72 = false ∧ y72 = true ∧ ∀ (w73 : World), ((True ∧ True) ∧ True) ∧ True → True)) ∧ ∀ (y74 : Mo × Ak × Sl × Nat × Nat × List Value),
 (Mo.ab y74.fst = Ab.know (Mo.ab x69.fst) x69.snd ∧ Mo.ok y74.fst) ∧ Ab.ask (Mo.ab y74.fst) x69.snd = some (y74.snd.fst, y74.snd.snd.fst.vs) ∧ List.length y74.snd.snd.fst.vs ≤ y74.snd.snd.fst.c
 → (((↑(1 : Nat) : Int) != (1 : Int)) = false → ((0 : Int) ≤ (0 : Int) ∧ (0 : Int) < (↑(1 : Nat) : Int)) ∧ ((0 : Int) = (↑(0 : Nat) : Int) → ((y74.snd.fst.g !=
 (2 : Int)) = false → ((0 : Int) ≤ (0 : Int) ∧ (0 : Int) < (↑(1 : Nat) : Int)) ∧ ((0 : Int) = (↑(0 : Nat) : Int) → (((↑(List.length y74.snd.snd.fst.vs) : Int) !=
 (1000 : Int)) = false → ((0 : Int) ≤ (0 : Int) ∧ (0 : Int) < (↑(1 : Nat) : Int)) ∧ ((0 : Int) = (↑(0 : Nat) : Int) → (y74.snd.fst.c.last = true → ∃ (y75 : Bool), y75 = false
 ∧ y75 = true ∧ ∀ (w76 : World), ((True ∧ True) ∧ True) ∧ True → True) ∧ (y74.snd.fst.c.last = false → ((0 : Int) ≤ (0 : Int) ∧ (0 : Int) < (↑(1 : Nat) : Int))
 ∧ ((0 : Int) = (↑(0 : Nat) : Int) → (∃ (x77 : TX), x77.x.slot = (3 : Int) ∧ x77.x.frm = (1 : Int) ∧ x77.x.to = (2 : Int) ∧ x77.x.ep = (1 : Int) ∧ x77.x.ph =
 (2 : Int) ∧ x77.x.n = (1 : Int) ∧ x77.a.g = y74.snd.fst.g ∧ x77.a.c.kind = y74.snd.fst.c.kind ∧ x77.a.c.ok = y74.snd.fst.c.ok ∧ x77.a.c.ofr = y74.snd.fst.c.ofr
 ∧ x77.a.c.oto = y74.snd.fst.c.oto ∧ x77.a.c.oam = y74.snd.fst.c.oam ∧ x77.a.c.okey = y74.snd.fst.c.okey ∧ x77.a.c.osl = y74.snd.fst.c.osl ∧ x77.a.c.osh = y74.snd.fst.c.osh
 ∧ x77.a.c.id = y74.snd.fst.c.id ∧ x77.a.c.name = y74.snd.fst.c.name ∧ x77.a.c.n = y74.snd.fst.c.n ∧ x77.a.c.why = y74.snd.fst.c.why ∧ x77.a.c.slot = y74.snd.fst.c.slot
 ∧ x77.a.c.ep = y74.snd.fst.c.ep ∧ x77.a.c.at_ = y74.snd.fst.c.at_ ∧ x77.a.c.last = y74.snd.fst.c.last ∧ (List.length x77.ad.vs = List.length y74.snd.snd.fst.vs
 ∧ x77.ad.c = y74.snd.snd.fst.c) ∧ x77.ad.z = y74.snd.snd.fst.z ∧ x77.r.why = (0 : Int) ∧ x77.r.wait = false ∧ x77.r.rwhy = (0 : Int) ∧ x77.r.ram = (0 : Int)
 ∧ (x77.rd.z = ZB.nil ∧ List.length x77.rd.vs = (0 : Nat) ∧ x77.rd.c = (0 : Nat)) ∧ x77.m.n = y74.fst.n ∧ (List.length x77.m.d.vs = List.length y74.fst.d.vs
 ∧ x77.m.d.c = y74.fst.d.c) ∧ x77.m.d.z = y74.fst.d.z ∧ x77.m.at_ = y74.fst.at_ ∧ (x77.m.d.vs = y74.fst.d.vs ∧ List.length x77.m.d.vs = List.length y74.fst.d.vs
 ∧ x77.m.d.c = y74.fst.d.c ∧ (1 : Nat) = (1 : Nat)) ∧ (x77.ad.vs = y74.snd.snd.fst.vs ∧ List.length x77.ad.vs = List.length y74.snd.snd.fst.vs ∧ x77.ad.c = y74.snd.snd.fst.c
 ∧ (1 : Nat) = (1 : Nat)) ∧ (x77.rd.vs = [] ∧ List.length x77.rd.vs = (0 : Nat) ∧ x77.rd.c = (0 : Nat)) ∧ ((Ab.ok (Mo.ab x77.m) ∧ List.length x77.m.d.vs ≤ x77.m.d.c)
 ∧ (∀ (v78 : Value), v78 ∈ x77.rd.vs → ∃ (n79 : Int), v78 = Value.int IntKind.u8 n79) ∧ List.length x77.rd.vs ≤ (140737488355328 : Nat) ∧ List.length x77.ad.vs ≤
 (140737488355328 : Nat)) ∧ (∀ (w80 : World), ((True ∧ True) ∧ True) ∧ True → True) ∧ ∀ (y81 : Mo × Bool), (Mo.ab y81.fst, y81.snd) = Ab.told (Mo.ab x77.m) x77.x x77.a
 (List.length x77.ad.vs) x77.r.why x77.rd.vs ∧ Mo.ok y81.fst → True ∧ ∃ (x82 : Mo × Mv), x82.snd.slot = (3 : Int) ∧ x82.snd.frm = (1 : Int) ∧ x82.snd.to =
 (2 : Int) ∧ x82.snd.ep = (1 : Int) ∧ x82.snd.ph = (2 : Int) ∧ x82.snd.n = (1 : Int) ∧ x82.fst.n = y81.fst.n ∧ (List.length x82.fst.d.vs = List.length y81.fst.d.vs
 ∧ x82.fst.d.c = y81.fst.d.c) ∧ x82.fst.d.z = y81.fst.d.z ∧ x82.fst.at_ = y81.fst.at_ ∧ (x82.fst.d.vs = y81.fst.d.vs ∧ List.length x82.fst.d.vs = List.length y81.fst.d.vs
 ∧ x82.fst.d.c = y81.fst.d.c ∧ (1 : Nat) = (1 : Nat)) ∧ (Ab.ok (Mo.ab x82.fst) ∧ List.length x82.fst.d.vs ≤ x82.fst.d.c) ∧ (∀ (w83 : World), (((True ∧ True)
 ∧ True) ∧ True) ∧ True → True) ∧ (∀ (y84 : Mo), (Mo.ab y84 = Ab.know (Mo.ab x82.fst) x82.snd ∧ Mo.ok y84) ∧ Ab.ask (Mo.ab y84) x82.snd = none → (y68.snd = true
 → (((bif y68.snd then (2 : Int) else (0 : Int)) == (2 : Int)) = true → (((bif y68.snd then x64.x.ph else (0 : Int)) == (1 : Int)) = true → (((↑(0 : Nat) : Int) ==
 (1 : Int)) = true → False) ∧ (((↑(0 : Nat) : Int) == (1 : Int)) = false → ∃ (y85 : Bool), y85 = false ∧ y85 = true ∧ ∀ (w86 : World), ((((True ∧ True)
 ∧ True) ∧ True) ∧ True) ∧ True → True)) ∧ (((bif y68.snd then x64.x.ph else (0 : Int)) == (1 : Int)) = false → ∃ (y87 : Bool), y87 = false ∧ y87 = true
 ∧ ∀ (w88 : World), ((((True ∧ True) ∧ True) ∧ True) ∧ True) ∧ True → True)) ∧ (((bif y68.snd then (2 : Int) else (0 : Int)) == (2 : Int)) = false → ∃ (y89 : Bool), y89 = false
 ∧ y89 = true ∧ ∀ (w90 : World), ((((True ∧ True) ∧ True) ∧ True) ∧ True) ∧ True → True)) ∧ (y68.snd = false → ∃ (y91 : Bool), y91 = false ∧ y91 = true
 ∧ ∀ (w92 : World), ((((True ∧ True) ∧ True) ∧ True) ∧ True) ∧ True → True)) ∧ ∀ (y93 : Mo × Ak × Sl × Nat × Nat × List Value), (Mo.ab y93.fst = Ab.know
 (Mo.ab x82.fst) x82.snd ∧ Mo.ok y93.fst) ∧ Ab.ask (Mo.ab y93.fst) x82.snd = some (y93.snd.fst, y93.snd.snd.fst.vs) ∧ List.length y93.snd.snd.fst.vs ≤ y93.snd.snd.fst.c
 → (y68.snd = true → (((bif y68.snd then (2 : Int) else (0 : Int)) == (2 : Int)) = true → (((bif y68.snd then x64.x.ph else (0 : Int)) == (1 : Int)) = true
 → (((↑(1 : Nat) : Int) == (1 : Int)) = true → ((0 : Int) ≤ (0 : Int) ∧ (0 : Int) < (↑(1 : Nat) : Int)) ∧ ((0 : Int) = (↑(0 : Nat) : Int) → ((y93.snd.fst.c.at_ ==
 (1000 : Int)) = true → ((0 : Int) ≤ (0 : Int) ∧ (0 : Int) < (↑(1 : Nat) : Int)) ∧ ((0 : Int) = (↑(0 : Nat) : Int) → (y93.snd.fst.c.last = true → ∃ (x94 : Mo), x94.n = y93.fst.n
 ∧ (List.length x94.d.vs = List.length y93.fst.d.vs ∧ x94.d.c = y93.fst.d.c) ∧ x94.d.z = y93.fst.d.z ∧ x94.at_ = y93.fst.at_ ∧ (x94.d.vs = y93.fst.d.vs
 ∧ List.length x94.d.vs = List.length y93.fst.d.vs ∧ x94.d.c = y93.fst.d.c ∧ (1 : Nat) = (1 : Nat)) ∧ True ∧ (∀ (w95 : World), ((((True ∧ True) ∧ True)
 ∧ True) ∧ True) ∧ True → True) ∧ ∀ (y96 : Int), (y96 = if Sl.has x94.d = true then (↑(List.length x94.d.vs) : Int) else (-1 : Int)) → ((y96 == (1500 : Int)) = true
 → (false = true → ∃ (y97 : Bool), y97 = ((0 : Int) == (1000 : Int)) ∧ y97 = true ∧ ∀ (w98 : World), (((((True ∧ True) ∧ True) ∧ True) ∧ True) ∧ True) ∧ True
 → True) ∧ (false = false → ∃ (y99 : Bool), y99 = (x94.at_ == (1000 : Int)) ∧ y99 = true ∧ ∀ (w100 : World), (((((True ∧ True) ∧ True) ∧ True) ∧ True) ∧ True)
 ∧ True → True)) ∧ ((y96 == (1500 : Int)) = false → ∃ (y101 : Bool), y101 = false ∧ y101 = true ∧ ∀ (w102 : World), (((((True ∧ True) ∧ True) ∧ True) ∧ True)
 ∧ True) ∧ True → True)) ∧ (y93.snd.fst.c.last = false → ∃ (y103 : Bool), y103 = false ∧ y103 = true ∧ ∀ (w104 : World), ((((True ∧ True) ∧ True) ∧ True)
 ∧ True) ∧ True → True)) ∧ True) ∧ ((y93.snd.fst.c.at_ == (1000 : Int)) = false → ∃ (y105 : Bool), y105 = false ∧ y105 = true ∧ ∀ (w106 : World), ((((True
 ∧ True) ∧ True) ∧ True) ∧ True) ∧ True → True)) ∧ True) ∧ (((↑(1 : Nat) : Int) == (1 : Int)) = false → ∃ (y107 : Bool), y107 = false ∧ y107 = true ∧ ∀
 (w108 : World), ((((True ∧ True) ∧ True) ∧ True) ∧ True) ∧ True → True)) ∧ (((bif y68.snd then x64.x.ph else (0 : Int)) == (1 : Int)) = false → ∃ (y109 : Bool), y109 = false
 ∧ y109 = true ∧ ∀ (w110 : World), ((((True ∧ True) ∧ True) ∧ True) ∧ True) ∧ True → True)) ∧ (((bif y68.snd then (2 : Int) else (0 : Int)) == (2 : Int)) = false
 → ∃ (y111 : Bool), y111 = false ∧ y111 = true ∧ ∀ (w112 : World), ((((True ∧ True) ∧ True) ∧ True) ∧ True) ∧ True → True)) ∧ (y68.snd = false → ∃ (y113 : Bool), y113 = false
 ∧ y113 = true ∧ ∀ (w114 : World), ((((True ∧ True) ∧ True) ∧ True) ∧ True) ∧ True → True)) ∧ True) ∧ True)) ∧ True) ∧ (((↑(List.length y74.snd.snd.fst.vs) : Int) !=
 (1000 : Int)) = true → ∃ (y115 : Bool), y115 = false ∧ y115 = true ∧ ∀ (w116 : World), ((True ∧ True) ∧ True) ∧ True → True)) ∧ True) ∧ ((y74.snd.fst.g !=
 (2 : Int)) = true → ∃ (y117 : Bool), y117 = false ∧ y117 = true ∧ ∀ (w118 : World), ((True ∧ True) ∧ True) ∧ True → True)) ∧ True) ∧ (((↑(1 : Nat) : Int) !=
 (1 : Int)) = true → ∃ (y119 : Bool), y119 = false ∧ y119 = true ∧ ∀ (w120 : World), ((True ∧ True) ∧ True) ∧ True → True)) ∧ True) ∧ True) ∧ True) ∧ ((True
 ∧ ((3 : Int) = (3 : Int) ∧ (1 : Int) = (1 : Int) ∧ (2 : Int) = (2 : Int) ∧ (1 : Int) = (1 : Int) ∧ (1 : Int) = (1 : Int) ∧ (1 : Int) = (1 : Int) ∧ True)
 ∧ ((0 : Nat) = (0 : Nat) ∧ (1 : Nat) = (1 : Nat) ∧ y6.snd.snd.snd.fst = y6.snd.snd.snd.fst) ∧ (((0 : Int) ≤ (0 : Int) ∧ (0 : Int) < (↑(1 : Nat) : Int))
 ∧ ((0 : Int) = (↑(0 : Nat) : Int) → True) ∧ True) ∧ (y6.snd.fst.g = y6.snd.fst.g ∧ y6.snd.fst.c.kind = y6.snd.fst.c.kind ∧ y6.snd.fst.c.ok = y6.snd.fst.c.ok
 ∧ y6.snd.fst.c.ofr = y6.snd.fst.c.ofr ∧ y6.snd.fst.c.oto = y6.snd.fst.c.oto ∧ y6.snd.fst.c.oam = y6.snd.fst.c.oam ∧ y6.snd.fst.c.okey = y6.snd.fst.c.okey
 ∧ y6.snd.fst.c.osl = y6.snd.fst.c.osl ∧ y6.snd.fst.c.osh = y6.snd.fst.c.osh ∧ y6.snd.fst.c.id = y6.snd.fst.c.id ∧ y6.snd.fst.c.name = y6.snd.fst.c.name
 ∧ y6.snd.fst.c.n = y6.snd.fst.c.n ∧ y6.snd.fst.c.why = y6.snd.fst.c.why ∧ y6.snd.fst.c.slot = y6.snd.fst.c.slot ∧ y6.snd.fst.c.ep = y6.snd.fst.c.ep ∧ y6.snd.fst.c.at_ = y6.snd.fst.c.at_
 ∧ y6.snd.fst.c.last = y6.snd.fst.c.last ∧ (List.length y6.snd.snd.fst.vs = List.length y6.snd.snd.fst.vs ∧ y6.snd.snd.fst.c = y6.snd.snd.fst.c ∧ y6.snd.snd.fst.z = y6.snd.snd.fst.z)
 ∧ True) ∧ True) ∧ (((0 : Int) ≤ (1500 : Int) ∧ (1500 : Int) ≤ (1500 : Int) ∧ (↑(1 : Nat) : Int) * (1500 : Int) ≤ (281474976710656 : Int) ∧ (1500 : Int) ≤
 (9223372036854775807 : Int)) ∧ (True ∧ ((3 : Int) = (3 : Int) ∧ (1 : Int) = (1 : Int) ∧ (2 : Int) = (2 : Int) ∧ (1 : Int) = (1 : Int) ∧ (1 : Int) = (1 : Int)
 ∧ (1 : Int) = (1 : Int) ∧ True) ∧ ((0 : Nat) = (0 : Nat) ∧ (1 : Nat) = (1 : Nat) ∧ y6.snd.snd.snd.fst = y6.snd.snd.snd.fst) ∧ (((0 : Int) ≤ (0 : Int) ∧
 (0 : Int) < (↑(1 : Nat) : Int)) ∧ ((0 : Int) = (↑(0 : Nat) : Int) → True) ∧ True) ∧ (y6.snd.fst.g = y6.snd.fst.g ∧ y6.snd.fst.c.kind = y6.snd.fst.c.kind
 ∧ y6.snd.fst.c.ok = y6.snd.fst.c.ok ∧ y6.snd.fst.c.ofr = y6.snd.fst.c.ofr ∧ y6.snd.fst.c.oto = y6.snd.fst.c.oto ∧ y6.snd.fst.c.oam = y6.snd.fst.c.oam ∧ y6.snd.fst.c.okey = y6.snd.fst.c.okey
 ∧ y6.snd.fst.c.osl = y6.snd.fst.c.osl ∧ y6.snd.fst.c.osh = y6.snd.fst.c.osh ∧ y6.snd.fst.c.id = y6.snd.fst.c.id ∧ y6.snd.fst.c.name = y6.snd.fst.c.name
 ∧ y6.snd.fst.c.n = y6.snd.fst.c.n ∧ y6.snd.fst.c.why = y6.snd.fst.c.why ∧ y6.snd.fst.c.slot = y6.snd.fst.c.slot ∧ y6.snd.fst.c.ep = y6.snd.fst.c.ep ∧ y6.snd.fst.c.at_ = y6.snd.fst.c.at_
 ∧ y6.snd.fst.c.last = y6.snd.fst.c.last ∧ (List.length y6.snd.snd.fst.vs = List.length y6.snd.snd.fst.vs ∧ y6.snd.snd.fst.c = y6.snd.snd.fst.c ∧ y6.snd.snd.fst.z = y6.snd.snd.fst.z)
 ∧ True) ∧ True) ∧ (∃ (x121 : TX), x121.x.slot = (3 : Int) ∧ x121.x.frm = (1 : Int) ∧ x121.x.to = (2 : Int) ∧ x121.x.ep = (1 : Int) ∧ x121.x.ph = (1 : Int)
 ∧ x121.x.n = (1 : Int) ∧ x121.a.g = y6.snd.fst.g ∧ x121.a.c.kind = y6.snd.fst.c.kind ∧ x121.a.c.ok = y6.snd.fst.c.ok ∧ x121.a.c.ofr = y6.snd.fst.c.ofr
 ∧ x121.a.c.oto = y6.snd.fst.c.oto ∧ x121.a.c.oam = y6.snd.fst.c.oam ∧ x121.a.c.okey = y6.snd.fst.c.okey ∧ x121.a.c.osl = y6.snd.fst.c.osl ∧ x121.a.c.osh = y6.snd.fst.c.osh
 ∧ x121.a.c.id = y6.snd.fst.c.id ∧ x121.a.c.name = y6.snd.fst.c.name ∧ x121.a.c.n = y6.snd.fst.c.n ∧ x121.a.c.why = y6.snd.fst.c.why ∧ x121.a.c.slot = y6.snd.fst.c.slot
 ∧ x121.a.c.ep = y6.snd.fst.c.ep ∧ x121.a.c.at_ = y6.snd.fst.c.at_ ∧ x121.a.c.last = y6.snd.fst.c.last ∧ (List.length x121.ad.vs = List.length y6.snd.snd.fst.vs
 ∧ x121.ad.c = y6.snd.snd.fst.c) ∧ x121.ad.z = y6.snd.snd.fst.z ∧ x121.r.why = (0 : Int) ∧ x121.r.wait = false ∧ x121.r.rwhy = (0 : Int) ∧ x121.r.ram =
 (0 : Int) ∧ (List.length x121.rd.vs = Int.toNat (1500 : Int) ∧ x121.rd.c = Int.toNat (1500 : Int)) ∧ x121.rd.z = ZB.own ∧ x121.m.n = y6.fst.n ∧ (List.length x121.m.d.vs = List.length y6.fst.d.vs
 ∧ x121.m.d.c = y6.fst.d.c) ∧ x121.m.d.z = y6.fst.d.z ∧ x121.m.at_ = y6.fst.at_ ∧ (x121.m.d.vs = y6.fst.d.vs ∧ List.length x121.m.d.vs = List.length y6.fst.d.vs
 ∧ x121.m.d.c = y6.fst.d.c ∧ (1 : Nat) = (1 : Nat)) ∧ (x121.ad.vs = y6.snd.snd.fst.vs ∧ List.length x121.ad.vs = List.length y6.snd.snd.fst.vs ∧ x121.ad.c = y6.snd.snd.fst.c
 ∧ (1 : Nat) = (1 : Nat)) ∧ (x121.rd.vs = zerosV [Value.int IntKind.u8 (0 : Int)] (Int.toNat (1500 : Int)) ∧ List.length x121.rd.vs = Int.toNat (1500 : Int)
 ∧ x121.rd.c = Int.toNat (1500 : Int) ∧ (1 : Nat) = (1 : Nat)) ∧ ((Ab.ok (Mo.ab x121.m) ∧ List.length x121.m.d.vs ≤ x121.m.d.c) ∧ (∀ (v122 : Value), v122 ∈ x121.rd.vs
 → ∃ (n123 : Int), v122 = Value.int IntKind.u8 n123) ∧ List.length x121.rd.vs ≤ (140737488355328 : Nat) ∧ List.length x121.ad.vs ≤ (140737488355328 : Nat))
 ∧ (∀ (w124 : World), True ∧ True → True) ∧ ∀ (y125 : Mo × Bool), (Mo.ab y125.fst, y125.snd) = Ab.told (Mo.ab x121.m) x121.x x121.a (List.length x121.ad.vs) x121.r.why x121.rd.vs
 ∧ Mo.ok y125.fst → True ∧ ((y125.snd = y125.snd ∧ True) ∧ ∃ (x126 : Mo × Mv), x126.snd.slot = (3 : Int) ∧ x126.snd.frm = (1 : Int) ∧ x126.snd.to = (2 : Int)
 ∧ x126.snd.ep = (1 : Int) ∧ x126.snd.ph = (2 : Int) ∧ x126.snd.n = (1 : Int) ∧ x126.fst.n = y125.fst.n ∧ (List.length x126.fst.d.vs = List.length y125.fst.d.vs
 ∧ x126.fst.d.c = y125.fst.d.c) ∧ x126.fst.d.z = y125.fst.d.z ∧ x126.fst.at_ = y125.fst.at_ ∧ (x126.fst.d.vs = y125.fst.d.vs ∧ List.length x126.fst.d.vs = List.length y125.fst.d.vs
 ∧ x126.fst.d.c = y125.fst.d.c ∧ (1 : Nat) = (1 : Nat)) ∧ (Ab.ok (Mo.ab x126.fst) ∧ List.length x126.fst.d.vs ≤ x126.fst.d.c) ∧ (∀ (w127 : World), (True
 ∧ True) ∧ True → True) ∧ (∀ (y128 : Mo), (Mo.ab y128 = Ab.know (Mo.ab x126.fst) x126.snd ∧ Mo.ok y128) ∧ Ab.ask (Mo.ab y128) x126.snd = none → (((↑(0 : Nat) : Int) !=
 (1 : Int)) = false → False) ∧ (((↑(0 : Nat) : Int) != (1 : Int)) = true → ∃ (y129 : Bool), y129 = false ∧ y129 = true ∧ ∀ (w130 : World), ((True ∧ True)
 ∧ True) ∧ True → True)) ∧ ∀ (y131 : Mo × Ak × Sl × Nat × Nat × List Value), (Mo.ab y131.fst = Ab.know (Mo.ab x126.fst) x126.snd ∧ Mo.ok y131.fst) ∧ Ab.ask
 (Mo.ab y131.fst) x126.snd = some (y131.snd.fst, y131.snd.snd.fst.vs) ∧ List.length y131.snd.snd.fst.vs ≤ y131.snd.snd.fst.c → (((↑(1 : Nat) : Int) != (1 : Int)) = false
 → ((0 : Int) ≤ (0 : Int) ∧ (0 : Int) < (↑(1 : Nat) : Int)) ∧ ((0 : Int) = (↑(0 : Nat) : Int) → ((y131.snd.fst.g != (2 : Int)) = false → ((0 : Int) ≤ (0 : Int)
 ∧ (0 : Int) < (↑(1 : Nat) : Int)) ∧ ((0 : Int) = (↑(0 : Nat) : Int) → (((↑(List.length y131.snd.snd.fst.vs) : Int) != (1000 : Int)) = false → ((0 : Int) ≤
 (0 : Int) ∧ (0 : Int) < (↑(1 : Nat) : Int)) ∧ ((0 : Int) = (↑(0 : Nat) : Int) → (y131.snd.fst.c.last = true → ∃ (y132 : Bool), y132 = false ∧ y132 = true
 ∧ ∀ (w133 : World), ((True ∧ True) ∧ True) ∧ True → True) ∧ (y131.snd.fst.c.last = false → ((0 : Int) ≤ (0 : Int) ∧ (0 : Int) < (↑(1 : Nat) : Int)) ∧ ((0 : Int) =
 (↑(0 : Nat) : Int) → (∃ (x134 : TX), x134.x.slot = (3 : Int) ∧ x134.x.frm = (1 : Int) ∧ x134.x.to = (2 : Int) ∧ x134.x.ep = (1 : Int) ∧ x134.x.ph = (2 : Int)
 ∧ x134.x.n = (1 : Int) ∧ x134.a.g = y131.snd.fst.g ∧ x134.a.c.kind = y131.snd.fst.c.kind ∧ x134.a.c.ok = y131.snd.fst.c.ok ∧ x134.a.c.ofr = y131.snd.fst.c.ofr
 ∧ x134.a.c.oto = y131.snd.fst.c.oto ∧ x134.a.c.oam = y131.snd.fst.c.oam ∧ x134.a.c.okey = y131.snd.fst.c.okey ∧ x134.a.c.osl = y131.snd.fst.c.osl ∧ x134.a.c.osh = y131.snd.fst.c.osh
 ∧ x134.a.c.id = y131.snd.fst.c.id ∧ x134.a.c.name = y131.snd.fst.c.name ∧ x134.a.c.n = y131.snd.fst.c.n ∧ x134.a.c.why = y131.snd.fst.c.why ∧ x134.a.c.slot = y131.snd.fst.c.slot
 ∧ x134.a.c.ep = y131.snd.fst.c.ep ∧ x134.a.c.at_ = y131.snd.fst.c.at_ ∧ x134.a.c.last = y131.snd.fst.c.last ∧ (List.length x134.ad.vs = List.length y131.snd.snd.fst.vs
 ∧ x134.ad.c = y131.snd.snd.fst.c) ∧ x134.ad.z = y131.snd.snd.fst.z ∧ x134.r.why = (0 : Int) ∧ x134.r.wait = false ∧ x134.r.rwhy = (0 : Int) ∧ x134.r.ram =
 (0 : Int) ∧ (x134.rd.z = ZB.nil ∧ List.length x134.rd.vs = (0 : Nat) ∧ x134.rd.c = (0 : Nat)) ∧ x134.m.n = y131.fst.n ∧ (List.length x134.m.d.vs = List.length y131.fst.d.vs
 ∧ x134.m.d.c = y131.fst.d.c) ∧ x134.m.d.z = y131.fst.d.z ∧ x134.m.at_ = y131.fst.at_ ∧ (x134.m.d.vs = y131.fst.d.vs ∧ List.length x134.m.d.vs = List.length y131.fst.d.vs
 ∧ x134.m.d.c = y131.fst.d.c ∧ (1 : Nat) = (1 : Nat)) ∧ (x134.ad.vs = y131.snd.snd.fst.vs ∧ List.length x134.ad.vs = List.length y131.snd.snd.fst.vs ∧ x134.ad.c = y131.snd.snd.fst.c
 ∧ (1 : Nat) = (1 : Nat)) ∧ (x134.rd.vs = [] ∧ List.length x134.rd.vs = (0 : Nat) ∧ x134.rd.c = (0 : Nat)) ∧ ((Ab.ok (Mo.ab x134.m) ∧ List.length x134.m.d.vs ≤ x134.m.d.c)
 ∧ (∀ (v135 : Value), v135 ∈ x134.rd.vs → ∃ (n136 : Int), v135 = Value.int IntKind.u8 n136) ∧ List.length x134.rd.vs ≤ (140737488355328 : Nat) ∧ List.length x134.ad.vs ≤
 (140737488355328 : Nat)) ∧ (∀ (w137 : World), ((True ∧ True) ∧ True) ∧ True → True) ∧ ∀ (y138 : Mo × Bool), (Mo.ab y138.fst, y138.snd) = Ab.told (Mo.ab x134.m) x134.x x134.a
 (List.length x134.ad.vs) x134.r.why x134.rd.vs ∧ Mo.ok y138.fst → True ∧ ∃ (x139 : Mo × Mv), x139.snd.slot = (3 : Int) ∧ x139.snd.frm = (1 : Int) ∧ x139.snd.to =
 (2 : Int) ∧ x139.snd.ep = (1 : Int) ∧ x139.snd.ph = (2 : Int) ∧ x139.snd.n = (1 : Int) ∧ x139.fst.n = y138.fst.n ∧ (List.length x139.fst.d.vs = List.length y138.fst.d.vs
 ∧ x139.fst.d.c = y138.fst.d.c) ∧ x139.fst.d.z = y138.fst.d.z ∧ x139.fst.at_ = y138.fst.at_ ∧ (x139.fst.d.vs = y138.fst.d.vs ∧ List.length x139.fst.d.vs = List.length y138.fst.d.vs
 ∧ x139.fst.d.c = y138.fst.d.c ∧ (1 : Nat) = (1 : Nat)) ∧ (Ab.ok (Mo.ab x139.fst) ∧ List.length x139.fst.d.vs ≤ x139.fst.d.c) ∧ (∀ (w140 : World), (((True
 ∧ True) ∧ True) ∧ True) ∧ True → True) ∧ (∀ (y141 : Mo), (Mo.ab y141 = Ab.know (Mo.ab x139.fst) x139.snd ∧ Mo.ok y141) ∧ Ab.ask (Mo.ab y141) x139.snd = none
 → (y125.snd = true → (((bif y125.snd then (2 : Int) else (0 : Int)) == (2 : Int)) = true → (((bif y125.snd then x121.x.ph else (0 : Int)) == (1 : Int)) = true
 → (((↑(0 : Nat) : Int) == (1 : Int)) = true → False) ∧ (((↑(0 : Nat) : Int) == (1 : Int)) = false → ∃ (y142 : Bool), y142 = false ∧ y142 = true ∧ ∀ (w143 : World),
 ((((True ∧ True) ∧ True) ∧ True) ∧ True) ∧ True → True)) ∧ (((bif y125.snd then x121.x.ph else (0 : Int)) == (1 : Int)) = false → ∃ (y144 : Bool), y144 = false
 ∧ y144 = true ∧ ∀ (w145 : World), ((((True ∧ True) ∧ True) ∧ True) ∧ True) ∧ True → True)) ∧ (((bif y125.snd then (2 : Int) else (0 : Int)) == (2 : Int)) = false
 → ∃ (y146 : Bool), y146 = false ∧ y146 = true ∧ ∀ (w147 : World), ((((True ∧ True) ∧ True) ∧ True) ∧ True) ∧ True → True)) ∧ (y125.snd = false → ∃ (y148 : Bool), y148 = false
 ∧ y148 = true ∧ ∀ (w149 : World), ((((True ∧ True) ∧ True) ∧ True) ∧ True) ∧ True → True)) ∧ ∀ (y150 : Mo × Ak × Sl × Nat × Nat × List Value), (Mo.ab y150.fst = Ab.know
 (Mo.ab x139.fst) x139.snd ∧ Mo.ok y150.fst) ∧ Ab.ask (Mo.ab y150.fst) x139.snd = some (y150.snd.fst, y150.snd.snd.fst.vs) ∧ List.length y150.snd.snd.fst.vs ≤ y150.snd.snd.fst.c
 → (y125.snd = true → (((bif y125.snd then (2 : Int) else (0 : Int)) == (2 : Int)) = true → (((bif y125.snd then x121.x.ph else (0 : Int)) == (1 : Int)) = true
 → (((↑(1 : Nat) : Int) == (1 : Int)) = true → ((0 : Int) ≤ (0 : Int) ∧ (0 : Int) < (↑(1 : Nat) : Int)) ∧ ((0 : Int) = (↑(0 : Nat) : Int) → ((y150.snd.fst.c.at_ ==
 (1000 : Int)) = true → ((0 : Int) ≤ (0 : Int) ∧ (0 : Int) < (↑(1 : Nat) : Int)) ∧ ((0 : Int) = (↑(0 : Nat) : Int) → (y150.snd.fst.c.last = true → ∃ (x151 : Mo), x151.n = y150.fst.n
 ∧ (List.length x151.d.vs = List.length y150.fst.d.vs ∧ x151.d.c = y150.fst.d.c) ∧ x151.d.z = y150.fst.d.z ∧ x151.at_ = y150.fst.at_ ∧ (x151.d.vs = y150.fst.d.vs
 ∧ List.length x151.d.vs = List.length y150.fst.d.vs ∧ x151.d.c = y150.fst.d.c ∧ (1 : Nat) = (1 : Nat)) ∧ True ∧ (∀ (w152 : World), ((((True ∧ True) ∧ True)
 ∧ True) ∧ True) ∧ True → True) ∧ ∀ (y153 : Int), (y153 = if Sl.has x151.d = true then (↑(List.length x151.d.vs) : Int) else (-1 : Int)) → ((y153 == (1500 : Int)) = true
 → (false = true → ∃ (y154 : Bool), y154 = ((0 : Int) == (1000 : Int)) ∧ y154 = true ∧ ∀ (w155 : World), (((((True ∧ True) ∧ True) ∧ True) ∧ True) ∧ True)
 ∧ True → True) ∧ (false = false → ∃ (y156 : Bool), y156 = (x151.at_ == (1000 : Int)) ∧ y156 = true ∧ ∀ (w157 : World), (((((True ∧ True) ∧ True) ∧ True)
 ∧ True) ∧ True) ∧ True → True)) ∧ ((y153 == (1500 : Int)) = false → ∃ (y158 : Bool), y158 = false ∧ y158 = true ∧ ∀ (w159 : World), (((((True ∧ True) ∧ True)
 ∧ True) ∧ True) ∧ True) ∧ True → True)) ∧ (y150.snd.fst.c.last = false → ∃ (y160 : Bool), y160 = false ∧ y160 = true ∧ ∀ (w161 : World), ((((True ∧ True)
 ∧ True) ∧ True) ∧ True) ∧ True → True)) ∧ True) ∧ ((y150.snd.fst.c.at_ == (1000 : Int)) = false → ∃ (y162 : Bool), y162 = false ∧ y162 = true ∧ ∀ (w163 : World),
 ((((True ∧ True) ∧ True) ∧ True) ∧ True) ∧ True → True)) ∧ True) ∧ (((↑(1 : Nat) : Int) == (1 : Int)) = false → ∃ (y164 : Bool), y164 = false ∧ y164 = true
 ∧ ∀ (w165 : World), ((((True ∧ True) ∧ True) ∧ True) ∧ True) ∧ True → True)) ∧ (((bif y125.snd then x121.x.ph else (0 : Int)) == (1 : Int)) = false → ∃
 (y166 : Bool), y166 = false ∧ y166 = true ∧ ∀ (w167 : World), ((((True ∧ True) ∧ True) ∧ True) ∧ True) ∧ True → True)) ∧ (((bif y125.snd then (2 : Int) else
 (0 : Int)) == (2 : Int)) = false → ∃ (y168 : Bool), y168 = false ∧ y168 = true ∧ ∀ (w169 : World), ((((True ∧ True) ∧ True) ∧ True) ∧ True) ∧ True → True))
 ∧ (y125.snd = false → ∃ (y170 : Bool), y170 = false ∧ y170 = true ∧ ∀ (w171 : World), ((((True ∧ True) ∧ True) ∧ True) ∧ True) ∧ True → True)) ∧ True)
 ∧ True)) ∧ True) ∧ (((↑(List.length y131.snd.snd.fst.vs) : Int) != (1000 : Int)) = true → ∃ (y172 : Bool), y172 = false ∧ y172 = true ∧ ∀ (w173 : World),
 ((True ∧ True) ∧ True) ∧ True → True)) ∧ True) ∧ ((y131.snd.fst.g != (2 : Int)) = true → ∃ (y174 : Bool), y174 = false ∧ y174 = true ∧ ∀ (w175 : World),
 ((True ∧ True) ∧ True) ∧ True → True)) ∧ True) ∧ (((↑(1 : Nat) : Int) != (1 : Int)) = true → ∃ (y176 : Bool), y176 = false ∧ y176 = true ∧ ∀ (w177 : World),
 ((True ∧ True) ∧ True) ∧ True → True)) ∧ True) ∧ True) ∧ True) ∧ True) ∧ True)) ∧ True) ∧ ((y6.snd.fst.g != (1 : Int)) = true → ∃ (y178 : Bool), y178 = false
 ∧ y178 = true ∧ ∀ (w179 : World), True ∧ True → True)) ∧ True) ∧ (((↑(1 : Nat) : Int) != (1 : Int)) = true → ∃ (y180 : Bool), y180 = false ∧ y180 = true
 ∧ ∀ (w181 : World), True ∧ True → True))) := by kernel_rfl

end Go.Proofs.Ytgjoileoekbkoaa
