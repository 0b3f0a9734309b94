/-
  What is left of the contracts when the executor has run; written by vcg.py.
-/
import Derived.Test.YtgjoileoekbkoaaM0
set_option linter.unusedVariables false
set_option maxRecDepth 100000
namespace Go.Proofs.Ytgjoileoekbkoaa
open Go Go.SX
theorem knowS_vc : goalS Γ22 c22 knowS r22
 = (
 ∀ (x : Mo × Mv), Mo.ok x.fst → ((x.fst.n != x.snd.n) = false → ((x.snd.ph == (0 : Int)) = true → ∃ (y : Mo), y.n = x.snd.n ∧ (y.d.z = ZB.nil ∧ List.length y.d.vs =
 (0 : Nat) ∧ y.d.c = (0 : Nat)) ∧ y.at_ = (0 : Int) ∧ (y.d.vs = [] ∧ List.length y.d.vs = (0 : Nat) ∧ y.d.c = (0 : Nat)) ∧ (Mo.ab y = Ab.know (Mo.ab x.fst) x.snd
 ∧ Ab.ok (Mo.ab y) ∧ List.length y.d.vs ≤ y.d.c) ∧ ∀ (w : World), True → True) ∧ ((x.snd.ph == (0 : Int)) = false → ∃ (y1 : Mo), y1.n = x.fst.n ∧ (List.length y1.d.vs = List.length x.fst.d.vs
 ∧ y1.d.c = x.fst.d.c) ∧ y1.d.z = x.fst.d.z ∧ y1.at_ = x.fst.at_ ∧ (y1.d.vs = x.fst.d.vs ∧ List.length y1.d.vs = List.length x.fst.d.vs ∧ y1.d.c = x.fst.d.c
 ∧ (1 : Nat) = (1 : Nat)) ∧ (Mo.ab y1 = Ab.know (Mo.ab x.fst) x.snd ∧ Ab.ok (Mo.ab y1) ∧ List.length y1.d.vs ≤ y1.d.c) ∧ ∀ (w2 : World), True → True)) ∧
 ((x.fst.n != x.snd.n) = true → ∃ (y3 : Mo), y3.n = x.snd.n ∧ (y3.d.z = ZB.nil ∧ List.length y3.d.vs = (0 : Nat) ∧ y3.d.c = (0 : Nat)) ∧ y3.at_ = (0 : Int)
 ∧ (y3.d.vs = [] ∧ List.length y3.d.vs = (0 : Nat) ∧ y3.d.c = (0 : Nat)) ∧ (Mo.ab y3 = Ab.know (Mo.ab x.fst) x.snd ∧ Ab.ok (Mo.ab y3) ∧ List.length y3.d.vs ≤ y3.d.c)
 ∧ ∀ (w4 : World), True → True)) := by kernel_rfl
theorem nextS_vc : goalS Γ26 c26 nextS r26
 = (
 ∀ (x : Mo × Mv),
 Mo.ok x.fst →
 ((x.snd.ph == (3 : Int)) = true →
 ∃ (y : Ak × Sl × Bool),
 y.fst.g = x.snd.frm ∧
 y.fst.c.kind = (10 : Int) ∧
 y.fst.c.ok = (0 : Int) ∧
 y.fst.c.ofr = ByteArray.empty ∧
 y.fst.c.oto = ByteArray.empty ∧
 y.fst.c.oam = (0 : Int) ∧
 y.fst.c.okey = ByteArray.empty ∧
 y.fst.c.osl = (0 : Int) ∧
 y.fst.c.osh = (0 : Int) ∧
 y.fst.c.id = ByteArray.empty ∧
 y.fst.c.name = ByteArray.empty ∧
 y.fst.c.n = (0 : Int) ∧
 y.fst.c.why = (0 : Int) ∧
 y.fst.c.slot = x.snd.slot ∧
 y.fst.c.ep = x.snd.ep ∧
 y.fst.c.at_ = (0 : Int) ∧
 y.fst.c.last = false ∧
 (y.snd.fst.z = ZB.nil ∧ List.length y.snd.fst.vs = (0 : Nat) ∧ y.snd.fst.c = (0 : Nat)) ∧
 y.snd.snd = true ∧
 x.fst.n = x.fst.n ∧
 (List.length x.fst.d.vs = List.length x.fst.d.vs ∧ x.fst.d.c = x.fst.d.c) ∧
 x.fst.d.z = x.fst.d.z ∧
 x.fst.at_ = x.fst.at_ ∧
 (x.fst.d.vs = x.fst.d.vs ∧ List.length x.fst.d.vs = List.length x.fst.d.vs ∧ x.fst.d.c = x.fst.d.c ∧ (1 : Nat) = (1 : Nat)) ∧
 (y.snd.fst.vs = [] ∧ List.length y.snd.fst.vs = (0 : Nat) ∧ y.snd.fst.c = (0 : Nat)) ∧
 (match Ab.ask (Mo.ab x.fst) x.snd with
 | none => y.snd.snd = false
 | some q => (y.snd.snd = true ∧ y.fst = q.fst ∧ y.snd.fst.vs = q.snd) ∧ List.length y.snd.fst.vs ≤ y.snd.fst.c) ∧
 ∀ (w : World), True → True) ∧
 ((x.snd.ph == (3 : Int)) = false →
 ((x.snd.ph == (2 : Int)) = true →
 ((!(x.fst.d.c == (0 : Nat) && ZB.isNil x.fst.d.z)) = true →
 ((True ∧ True ∧ True ∧ x.fst.at_ = x.fst.at_ ∧ True) ∧
 ((True ∧ True ∧ True ∧ x.fst.at_ = x.fst.at_ ∧ True) ∧
 (True ∧
 ((0 : Int) ≤ x.fst.at_ ∧ (x.fst.at_ ≤ if (↑(List.length x.fst.d.vs) : Int) < IntKind.wrap IntKind.i64 (x.fst.at_ + (1000 : Int)) then (↑(List.length x.fst.d.vs) : Int) else IntKind.wrap IntKind.i64
 (x.fst.at_ + (1000 : Int))) ∧ (if (↑(List.length x.fst.d.vs) : Int) < IntKind.wrap IntKind.i64 (x.fst.at_ + (1000 : Int)) then (↑(List.length x.fst.d.vs) : Int) else IntKind.wrap IntKind.i64
 (x.fst.at_ + (1000 : Int))) ≤ (↑x.fst.d.c : Int)) ∧
 Int.toNat (if (↑(List.length x.fst.d.vs) : Int) < IntKind.wrap IntKind.i64 (x.fst.at_ + (1000 : Int)) then (↑(List.length x.fst.d.vs) : Int) else IntKind.wrap IntKind.i64 (x.fst.at_ + (1000 : Int))) ≤ x.fst.d.c ∧
 (x.fst.d.c = Int.toNat x.fst.at_ →
 ∀ (a : Option Addr),
 Option.isNone a = (x.fst.d.c == (0 : Nat) && ZB.isNil x.fst.d.z) →
 ((((0 : Nat) == (0 : Nat) && ZB.isNil (ZB.src a)) = true →
 (((if (↑(List.length x.fst.d.vs) : Int) < IntKind.wrap IntKind.i64 (x.fst.at_ + (1000 : Int)) then (↑(List.length x.fst.d.vs) : Int) else IntKind.wrap IntKind.i64
 (x.fst.at_ + (1000 : Int))) = if (↑(List.length x.fst.d.vs) : Int) < IntKind.wrap IntKind.i64 (x.fst.at_ + (1000 : Int)) then (↑(List.length x.fst.d.vs) : Int) else IntKind.wrap IntKind.i64
 (x.fst.at_ + (1000 : Int))) ∧ True ∧ True ∧ True ∧ (List.length x.fst.d.vs = List.length x.fst.d.vs ∧ x.fst.d.c = x.fst.d.c ∧ x.fst.d.z = x.fst.d.z) ∧
 (↑(List.length x.fst.d.vs) : Int) = (↑(List.length x.fst.d.vs) : Int) ∧ ((if (↑(List.length x.fst.d.vs) : Int) < IntKind.wrap IntKind.i64 (x.fst.at_ +
 (1000 : Int)) then (↑(List.length x.fst.d.vs) : Int) else IntKind.wrap IntKind.i64 (x.fst.at_ + (1000 : Int))) == (↑(List.length x.fst.d.vs) : Int)) =
 ((if (↑(List.length x.fst.d.vs) : Int) < IntKind.wrap IntKind.i64 (x.fst.at_ + (1000 : Int)) then (↑(List.length x.fst.d.vs) : Int) else IntKind.wrap IntKind.i64
 (x.fst.at_ + (1000 : Int))) == (↑(List.length x.fst.d.vs) : Int)) ∧ True) ∧
 ((((if (↑(List.length x.fst.d.vs) : Int) < IntKind.wrap IntKind.i64 (x.fst.at_ + (1000 : Int)) then (↑(List.length x.fst.d.vs) : Int) else IntKind.wrap IntKind.i64
 (x.fst.at_ + (1000 : Int))) = if (↑(List.length x.fst.d.vs) : Int) < IntKind.wrap IntKind.i64 (x.fst.at_ + (1000 : Int)) then (↑(List.length x.fst.d.vs) : Int) else IntKind.wrap IntKind.i64
 (x.fst.at_ + (1000 : Int))) ∧ True ∧ True ∧ True ∧ (List.length x.fst.d.vs = List.length x.fst.d.vs ∧ x.fst.d.c = x.fst.d.c ∧ x.fst.d.z = x.fst.d.z) ∧
 (↑(List.length x.fst.d.vs) : Int) = (↑(List.length x.fst.d.vs) : Int) ∧ ((if (↑(List.length x.fst.d.vs) : Int) < IntKind.wrap IntKind.i64 (x.fst.at_ +
 (1000 : Int)) then (↑(List.length x.fst.d.vs) : Int) else IntKind.wrap IntKind.i64 (x.fst.at_ + (1000 : Int))) == (↑(List.length x.fst.d.vs) : Int)) =
 ((if (↑(List.length x.fst.d.vs) : Int) < IntKind.wrap IntKind.i64 (x.fst.at_ + (1000 : Int)) then (↑(List.length x.fst.d.vs) : Int) else IntKind.wrap IntKind.i64
 (x.fst.at_ + (1000 : Int))) == (↑(List.length x.fst.d.vs) : Int)) ∧ True) ∧
 (True ∧
 ∃ (y1 : Ak × Sl × Bool),
 y1.fst.g = x.snd.to ∧
 y1.fst.c.kind = (9 : Int) ∧
 y1.fst.c.ok = (0 : Int) ∧
 y1.fst.c.ofr = ByteArray.empty ∧
 y1.fst.c.oto = ByteArray.empty ∧
 y1.fst.c.oam = (0 : Int) ∧
 y1.fst.c.okey = ByteArray.empty ∧
 y1.fst.c.osl = (0 : Int) ∧
 y1.fst.c.osh = (0 : Int) ∧
 y1.fst.c.id = ByteArray.empty ∧
 y1.fst.c.name = ByteArray.empty ∧
 y1.fst.c.n = (0 : Int) ∧
 y1.fst.c.why = (0 : Int) ∧
 y1.fst.c.slot = x.snd.slot ∧
 y1.fst.c.ep = x.snd.ep ∧
 y1.fst.c.at_ = x.fst.at_ ∧
 y1.fst.c.last = ((if (↑(List.length x.fst.d.vs) : Int) < IntKind.wrap IntKind.i64 (x.fst.at_ + (1000 : Int)) then (↑(List.length x.fst.d.vs) : Int) else IntKind.wrap IntKind.i64 (x.fst.at_ + (1000 : Int))) == (↑(List.length x.fst.d.vs) : Int)) ∧
 (y1.snd.fst.z = ZB.nil ∧ List.length y1.snd.fst.vs = (0 : Nat) ∧ y1.snd.fst.c = (0 : Nat)) ∧
 y1.snd.snd = true ∧
 x.fst.n = x.fst.n ∧
 (List.length x.fst.d.vs = List.length x.fst.d.vs ∧ x.fst.d.c = x.fst.d.c) ∧
 x.fst.d.z = x.fst.d.z ∧
 x.fst.at_ = x.fst.at_ ∧
 (x.fst.d.vs = x.fst.d.vs ∧ List.length x.fst.d.vs = List.length x.fst.d.vs ∧ x.fst.d.c = x.fst.d.c ∧ (1 : Nat) = (1 : Nat)) ∧
 (y1.snd.fst.vs = [] ∧ List.length y1.snd.fst.vs = (0 : Nat) ∧ y1.snd.fst.c = (0 : Nat)) ∧
 (match Ab.ask (Mo.ab x.fst) x.snd with
 | none => y1.snd.snd = false
 | some q => (y1.snd.snd = true ∧ y1.fst = q.fst ∧ y1.snd.fst.vs = q.snd) ∧ List.length y1.snd.fst.vs ≤ y1.snd.fst.c) ∧
 ∀ (w2 : World), True → True) ∧
 True) ∧
 True) ∧
 (((0 : Nat) == (0 : Nat) && ZB.isNil (ZB.src a)) = false →
 (0 : Nat) = (0 : Nat) ∧
 (0 : Nat) = (0 : Nat) ∧
 (∀ (v : Value), v ∈ [] → one1 v = true) ∧
 ∃ (news : List Value),
 news = List.take (0 : Nat) [] ∧
 (0 : Nat) ≤ (0 : Nat) ∧
 (0 : Nat) = (0 : Nat) ∧
 (∀ (v3 : Value), v3 ∈ news → one1 v3 = true) ∧
 (0 : Nat) ≤ (140737488355328 : Nat) ∧
 ∀ (c : Nat),
 (0 : Nat) ≤ c →
 ((0 : Nat) ≤ (0 : Nat) → c = (0 : Nat)) →
 (((if (↑(List.length x.fst.d.vs) : Int) < IntKind.wrap IntKind.i64 (x.fst.at_ + (1000 : Int)) then (↑(List.length x.fst.d.vs) : Int) else IntKind.wrap IntKind.i64
 (x.fst.at_ + (1000 : Int))) = if (↑(List.length x.fst.d.vs) : Int) < IntKind.wrap IntKind.i64 (x.fst.at_ + (1000 : Int)) then (↑(List.length x.fst.d.vs) : Int) else IntKind.wrap IntKind.i64
 (x.fst.at_ + (1000 : Int))) ∧ True ∧ True ∧ True ∧ (List.length x.fst.d.vs = List.length x.fst.d.vs ∧ x.fst.d.c = x.fst.d.c ∧ x.fst.d.z = x.fst.d.z) ∧
 (↑(List.length x.fst.d.vs) : Int) = (↑(List.length x.fst.d.vs) : Int) ∧ ((if (↑(List.length x.fst.d.vs) : Int) < IntKind.wrap IntKind.i64 (x.fst.at_ +
 (1000 : Int)) then (↑(List.length x.fst.d.vs) : Int) else IntKind.wrap IntKind.i64 (x.fst.at_ + (1000 : Int))) == (↑(List.length x.fst.d.vs) : Int)) =
 ((if (↑(List.length x.fst.d.vs) : Int) < IntKind.wrap IntKind.i64 (x.fst.at_ + (1000 : Int)) then (↑(List.length x.fst.d.vs) : Int) else IntKind.wrap IntKind.i64
 (x.fst.at_ + (1000 : Int))) == (↑(List.length x.fst.d.vs) : Int)) ∧ True) ∧
 ((((if (↑(List.length x.fst.d.vs) : Int) < IntKind.wrap IntKind.i64 (x.fst.at_ + (1000 : Int)) then (↑(List.length x.fst.d.vs) : Int) else IntKind.wrap IntKind.i64
 (x.fst.at_ + (1000 : Int))) = if (↑(List.length x.fst.d.vs) : Int) < IntKind.wrap IntKind.i64 (x.fst.at_ + (1000 : Int)) then (↑(List.length x.fst.d.vs) : Int) else IntKind.wrap IntKind.i64
 (x.fst.at_ + (1000 : Int))) ∧ True ∧ True ∧ True ∧ (List.length x.fst.d.vs = List.length x.fst.d.vs ∧ x.fst.d.c = x.fst.d.c ∧ x.fst.d.z = x.fst.d.z) ∧
 (↑(List.length x.fst.d.vs) : Int) = (↑(List.length x.fst.d.vs) : Int) ∧ ((if (↑(List.length x.fst.d.vs) : Int) < IntKind.wrap IntKind.i64 (x.fst.at_ +
 (1000 : Int)) then (↑(List.length x.fst.d.vs) : Int) else IntKind.wrap IntKind.i64 (x.fst.at_ + (1000 : Int))) == (↑(List.length x.fst.d.vs) : Int)) =
 ((if (↑(List.length x.fst.d.vs) : Int) < IntKind.wrap IntKind.i64 (x.fst.at_ + (1000 : Int)) then (↑(List.length x.fst.d.vs) : Int) else IntKind.wrap IntKind.i64
 (x.fst.at_ + (1000 : Int))) == (↑(List.length x.fst.d.vs) : Int)) ∧ True) ∧
 (True ∧
 ∃ (y4 : Ak × Sl × Bool),
 y4.fst.g = x.snd.to ∧
 y4.fst.c.kind = (9 : Int) ∧
 y4.fst.c.ok = (0 : Int) ∧
 y4.fst.c.ofr = ByteArray.empty ∧
 y4.fst.c.oto = ByteArray.empty ∧
 y4.fst.c.oam = (0 : Int) ∧
 y4.fst.c.okey = ByteArray.empty ∧
 y4.fst.c.osl = (0 : Int) ∧
 y4.fst.c.osh = (0 : Int) ∧
 y4.fst.c.id = ByteArray.empty ∧
 y4.fst.c.name = ByteArray.empty ∧
 y4.fst.c.n = (0 : Int) ∧
 y4.fst.c.why = (0 : Int) ∧
 y4.fst.c.slot = x.snd.slot ∧
 y4.fst.c.ep = x.snd.ep ∧
 y4.fst.c.at_ = x.fst.at_ ∧
 y4.fst.c.last = ((if (↑(List.length x.fst.d.vs) : Int) < IntKind.wrap IntKind.i64 (x.fst.at_ + (1000 : Int)) then (↑(List.length x.fst.d.vs) : Int) else IntKind.wrap IntKind.i64 (x.fst.at_ + (1000 : Int))) == (↑(List.length x.fst.d.vs) : Int)) ∧
 (List.length y4.snd.fst.vs = (0 : Nat) ∧ y4.snd.fst.c = c) ∧
 y4.snd.fst.z = ZB.own ∧
 y4.snd.snd = true ∧
 x.fst.n = x.fst.n ∧
 (List.length x.fst.d.vs = List.length x.fst.d.vs ∧ x.fst.d.c = x.fst.d.c) ∧
 x.fst.d.z = x.fst.d.z ∧
 x.fst.at_ = x.fst.at_ ∧
 (x.fst.d.vs = x.fst.d.vs ∧ List.length x.fst.d.vs = List.length x.fst.d.vs ∧ x.fst.d.c = x.fst.d.c ∧ (1 : Nat) = (1 : Nat)) ∧
 (y4.snd.fst.vs = [] ++ news ∧ List.length y4.snd.fst.vs = (0 : Nat) ∧ y4.snd.fst.c = c ∧ (1 : Nat) = (1 : Nat)) ∧
 (match Ab.ask (Mo.ab x.fst) x.snd with
 | none => y4.snd.snd = false
 | some q => (y4.snd.snd = true ∧ y4.fst = q.fst ∧ y4.snd.fst.vs = q.snd) ∧ List.length y4.snd.fst.vs ≤ y4.snd.fst.c) ∧
 ∀ (w5 : World), True → True) ∧
 True) ∧
 True)) ∧
 True) ∧
 (x.fst.d.c ≠ Int.toNat x.fst.at_ →
 ((false = true →
 (((if (↑(List.length x.fst.d.vs) : Int) < IntKind.wrap IntKind.i64 (x.fst.at_ + (1000 : Int)) then (↑(List.length x.fst.d.vs) : Int) else IntKind.wrap IntKind.i64
 (x.fst.at_ + (1000 : Int))) = if (↑(List.length x.fst.d.vs) : Int) < IntKind.wrap IntKind.i64 (x.fst.at_ + (1000 : Int)) then (↑(List.length x.fst.d.vs) : Int) else IntKind.wrap IntKind.i64
 (x.fst.at_ + (1000 : Int))) ∧ True ∧ True ∧ True ∧ (List.length x.fst.d.vs = List.length x.fst.d.vs ∧ x.fst.d.c = x.fst.d.c ∧ x.fst.d.z = x.fst.d.z) ∧
 (↑(List.length x.fst.d.vs) : Int) = (↑(List.length x.fst.d.vs) : Int) ∧ ((if (↑(List.length x.fst.d.vs) : Int) < IntKind.wrap IntKind.i64 (x.fst.at_ +
 (1000 : Int)) then (↑(List.length x.fst.d.vs) : Int) else IntKind.wrap IntKind.i64 (x.fst.at_ + (1000 : Int))) == (↑(List.length x.fst.d.vs) : Int)) =
 ((if (↑(List.length x.fst.d.vs) : Int) < IntKind.wrap IntKind.i64 (x.fst.at_ + (1000 : Int)) then (↑(List.length x.fst.d.vs) : Int) else IntKind.wrap IntKind.i64
 (x.fst.at_ + (1000 : Int))) == (↑(List.length x.fst.d.vs) : Int)) ∧ True) ∧
 ((((if (↑(List.length x.fst.d.vs) : Int) < IntKind.wrap IntKind.i64 (x.fst.at_ + (1000 : Int)) then (↑(List.length x.fst.d.vs) : Int) else IntKind.wrap IntKind.i64
 (x.fst.at_ + (1000 : Int))) = if (↑(List.length x.fst.d.vs) : Int) < IntKind.wrap IntKind.i64 (x.fst.at_ + (1000 : Int)) then (↑(List.length x.fst.d.vs) : Int) else IntKind.wrap IntKind.i64
 (x.fst.at_ + (1000 : Int))) ∧ True ∧ True ∧ True ∧ (List.length x.fst.d.vs = List.length x.fst.d.vs ∧ x.fst.d.c = x.fst.d.c ∧ x.fst.d.z = x.fst.d.z) ∧
 (↑(List.length x.fst.d.vs) : Int) = (↑(List.length x.fst.d.vs) : Int) ∧ ((if (↑(List.length x.fst.d.vs) : Int) < IntKind.wrap IntKind.i64 (x.fst.at_ +
 (1000 : Int)) then (↑(List.length x.fst.d.vs) : Int) else IntKind.wrap IntKind.i64 (x.fst.at_ + (1000 : Int))) == (↑(List.length x.fst.d.vs) : Int)) =
 ((if (↑(List.length x.fst.d.vs) : Int) < IntKind.wrap IntKind.i64 (x.fst.at_ + (1000 : Int)) then (↑(List.length x.fst.d.vs) : Int) else IntKind.wrap IntKind.i64
 (x.fst.at_ + (1000 : Int))) == (↑(List.length x.fst.d.vs) : Int)) ∧ True) ∧
 (True ∧
 ∃ (y6 : Ak × Sl × Bool),
 y6.fst.g = x.snd.to ∧
 y6.fst.c.kind = (9 : Int) ∧
 y6.fst.c.ok = (0 : Int) ∧
 y6.fst.c.ofr = ByteArray.empty ∧
 y6.fst.c.oto = ByteArray.empty ∧
 y6.fst.c.oam = (0 : Int) ∧
 y6.fst.c.okey = ByteArray.empty ∧
 y6.fst.c.osl = (0 : Int) ∧
 y6.fst.c.osh = (0 : Int) ∧
 y6.fst.c.id = ByteArray.empty ∧
 y6.fst.c.name = ByteArray.empty ∧
 y6.fst.c.n = (0 : Int) ∧
 y6.fst.c.why = (0 : Int) ∧
 y6.fst.c.slot = x.snd.slot ∧
 y6.fst.c.ep = x.snd.ep ∧
 y6.fst.c.at_ = x.fst.at_ ∧
 y6.fst.c.last = ((if (↑(List.length x.fst.d.vs) : Int) < IntKind.wrap IntKind.i64 (x.fst.at_ + (1000 : Int)) then (↑(List.length x.fst.d.vs) : Int) else IntKind.wrap IntKind.i64 (x.fst.at_ + (1000 : Int))) == (↑(List.length x.fst.d.vs) : Int)) ∧
 (y6.snd.fst.z = ZB.nil ∧ List.length y6.snd.fst.vs = (0 : Nat) ∧ y6.snd.fst.c = (0 : Nat)) ∧
 y6.snd.snd = true ∧
 x.fst.n = x.fst.n ∧
 (List.length x.fst.d.vs = List.length x.fst.d.vs ∧ x.fst.d.c = x.fst.d.c) ∧
 x.fst.d.z = x.fst.d.z ∧
 x.fst.at_ = x.fst.at_ ∧
 (x.fst.d.vs = x.fst.d.vs ∧ List.length x.fst.d.vs = List.length x.fst.d.vs ∧ x.fst.d.c = x.fst.d.c ∧ (1 : Nat) = (1 : Nat)) ∧
 (y6.snd.fst.vs = [] ∧ List.length y6.snd.fst.vs = (0 : Nat) ∧ y6.snd.fst.c = (0 : Nat)) ∧
 (match Ab.ask (Mo.ab x.fst) x.snd with
 | none => y6.snd.snd = false
 | some q => (y6.snd.snd = true ∧ y6.fst = q.fst ∧ y6.snd.fst.vs = q.snd) ∧ List.length y6.snd.fst.vs ≤ y6.snd.fst.c) ∧
 ∀ (w7 : World), True → True) ∧
 True) ∧
 True) ∧
 (false = false →
 (0 : Nat) = (0 : Nat) ∧
 (0 : Nat) = (0 : Nat) ∧
 (∀ (v8 : Value), v8 ∈ [] → one1 v8 = true) ∧
 ∃ (news9 : List Value),
 news9 = List.take ((Int.toNat (if (↑(List.length x.fst.d.vs) : Int) < IntKind.wrap IntKind.i64 (x.fst.at_ + (1000 : Int)) then (↑(List.length x.fst.d.vs) : Int) else IntKind.wrap IntKind.i64
 (x.fst.at_ + (1000 : Int))) - Int.toNat x.fst.at_) * (1 : Nat)) (List.drop (Int.toNat x.fst.at_ * (1 : Nat)) x.fst.d.vs) ∧
 Int.toNat x.fst.at_ * (1 : Nat) + (Int.toNat (if (↑(List.length x.fst.d.vs) : Int) < IntKind.wrap IntKind.i64 (x.fst.at_ + (1000 : Int)) then (↑(List.length x.fst.d.vs) : Int) else IntKind.wrap IntKind.i64
 (x.fst.at_ + (1000 : Int))) - Int.toNat x.fst.at_) * (1 : Nat) ≤ List.length x.fst.d.vs ∧
 (x.fst.d.c = (0 : Nat) → False) ∧
 (∀ (v10 : Value), v10 ∈ news9 → one1 v10 = true) ∧
 ((0 : Nat) + (Int.toNat (if (↑(List.length x.fst.d.vs) : Int) < IntKind.wrap IntKind.i64 (x.fst.at_ + (1000 : Int)) then (↑(List.length x.fst.d.vs) : Int) else IntKind.wrap IntKind.i64
 (x.fst.at_ + (1000 : Int))) - Int.toNat x.fst.at_)) * (1 : Nat) ≤ (140737488355328 : Nat) ∧
 ∀ (c11 : Nat),
 (0 : Nat) + (Int.toNat (if (↑(List.length x.fst.d.vs) : Int) < IntKind.wrap IntKind.i64 (x.fst.at_ + (1000 : Int)) then (↑(List.length x.fst.d.vs) : Int) else IntKind.wrap IntKind.i64 (x.fst.at_ + (1000 : Int))) - Int.toNat x.fst.at_) ≤ c11 →
 ((0 : Nat) + (Int.toNat (if (↑(List.length x.fst.d.vs) : Int) < IntKind.wrap IntKind.i64 (x.fst.at_ + (1000 : Int)) then (↑(List.length x.fst.d.vs) : Int) else IntKind.wrap IntKind.i64
 (x.fst.at_ + (1000 : Int))) - Int.toNat x.fst.at_) ≤ (0 : Nat) → c11 = (0 : Nat)) →
 (((if (↑(List.length x.fst.d.vs) : Int) < IntKind.wrap IntKind.i64 (x.fst.at_ + (1000 : Int)) then (↑(List.length x.fst.d.vs) : Int) else IntKind.wrap IntKind.i64
 (x.fst.at_ + (1000 : Int))) = if (↑(List.length x.fst.d.vs) : Int) < IntKind.wrap IntKind.i64 (x.fst.at_ + (1000 : Int)) then (↑(List.length x.fst.d.vs) : Int) else IntKind.wrap IntKind.i64
 (x.fst.at_ + (1000 : Int))) ∧ True ∧ True ∧ True ∧ (List.length x.fst.d.vs = List.length x.fst.d.vs ∧ x.fst.d.c = x.fst.d.c ∧ x.fst.d.z = x.fst.d.z) ∧
 (↑(List.length x.fst.d.vs) : Int) = (↑(List.length x.fst.d.vs) : Int) ∧ ((if (↑(List.length x.fst.d.vs) : Int) < IntKind.wrap IntKind.i64 (x.fst.at_ +
 (1000 : Int)) then (↑(List.length x.fst.d.vs) : Int) else IntKind.wrap IntKind.i64 (x.fst.at_ + (1000 : Int))) == (↑(List.length x.fst.d.vs) : Int)) =
 ((if (↑(List.length x.fst.d.vs) : Int) < IntKind.wrap IntKind.i64 (x.fst.at_ + (1000 : Int)) then (↑(List.length x.fst.d.vs) : Int) else IntKind.wrap IntKind.i64
 (x.fst.at_ + (1000 : Int))) == (↑(List.length x.fst.d.vs) : Int)) ∧ True) ∧
 ((((if (↑(List.length x.fst.d.vs) : Int) < IntKind.wrap IntKind.i64 (x.fst.at_ + (1000 : Int)) then (↑(List.length x.fst.d.vs) : Int) else IntKind.wrap IntKind.i64
 (x.fst.at_ + (1000 : Int))) = if (↑(List.length x.fst.d.vs) : Int) < IntKind.wrap IntKind.i64 (x.fst.at_ + (1000 : Int)) then (↑(List.length x.fst.d.vs) : Int) else IntKind.wrap IntKind.i64
 (x.fst.at_ + (1000 : Int))) ∧ True ∧ True ∧ True ∧ (List.length x.fst.d.vs = List.length x.fst.d.vs ∧ x.fst.d.c = x.fst.d.c ∧ x.fst.d.z = x.fst.d.z) ∧
 (↑(List.length x.fst.d.vs) : Int) = (↑(List.length x.fst.d.vs) : Int) ∧ ((if (↑(List.length x.fst.d.vs) : Int) < IntKind.wrap IntKind.i64 (x.fst.at_ +
 (1000 : Int)) then (↑(List.length x.fst.d.vs) : Int) else IntKind.wrap IntKind.i64 (x.fst.at_ + (1000 : Int))) == (↑(List.length x.fst.d.vs) : Int)) =
 ((if (↑(List.length x.fst.d.vs) : Int) < IntKind.wrap IntKind.i64 (x.fst.at_ + (1000 : Int)) then (↑(List.length x.fst.d.vs) : Int) else IntKind.wrap IntKind.i64
 (x.fst.at_ + (1000 : Int))) == (↑(List.length x.fst.d.vs) : Int)) ∧ True) ∧
 (True ∧
 ∃ (y12 : Ak × Sl × Bool),
 y12.fst.g = x.snd.to ∧
 y12.fst.c.kind = (9 : Int) ∧
 y12.fst.c.ok = (0 : Int) ∧
 y12.fst.c.ofr = ByteArray.empty ∧
 y12.fst.c.oto = ByteArray.empty ∧
 y12.fst.c.oam = (0 : Int) ∧
 y12.fst.c.okey = ByteArray.empty ∧
 y12.fst.c.osl = (0 : Int) ∧
 y12.fst.c.osh = (0 : Int) ∧
 y12.fst.c.id = ByteArray.empty ∧
 y12.fst.c.name = ByteArray.empty ∧
 y12.fst.c.n = (0 : Int) ∧
 y12.fst.c.why = (0 : Int) ∧
 y12.fst.c.slot = x.snd.slot ∧
 y12.fst.c.ep = x.snd.ep ∧
 y12.fst.c.at_ = x.fst.at_ ∧
 y12.fst.c.last = ((if (↑(List.length x.fst.d.vs) : Int) < IntKind.wrap IntKind.i64 (x.fst.at_ + (1000 : Int)) then (↑(List.length x.fst.d.vs) : Int) else IntKind.wrap IntKind.i64 (x.fst.at_ + (1000 : Int))) == (↑(List.length x.fst.d.vs) : Int)) ∧
 (List.length y12.snd.fst.vs = (0 : Nat) + (Int.toNat (if (↑(List.length x.fst.d.vs) : Int) < IntKind.wrap IntKind.i64 (x.fst.at_ + (1000 : Int)) then
 (↑(List.length x.fst.d.vs) : Int) else IntKind.wrap IntKind.i64 (x.fst.at_ + (1000 : Int))) - Int.toNat x.fst.at_) ∧ y12.snd.fst.c = c11) ∧
 y12.snd.fst.z = ZB.own ∧
 y12.snd.snd = true ∧
 x.fst.n = x.fst.n ∧
 (List.length x.fst.d.vs = List.length x.fst.d.vs ∧ x.fst.d.c = x.fst.d.c) ∧
 x.fst.d.z = x.fst.d.z ∧
 x.fst.at_ = x.fst.at_ ∧
 (x.fst.d.vs = x.fst.d.vs ∧ List.length x.fst.d.vs = List.length x.fst.d.vs ∧ x.fst.d.c = x.fst.d.c ∧ (1 : Nat) = (1 : Nat)) ∧
 (y12.snd.fst.vs = [] ++ news9 ∧ List.length y12.snd.fst.vs = (0 : Nat) + (Int.toNat (if (↑(List.length x.fst.d.vs) : Int) < IntKind.wrap IntKind.i64 (x.fst.at_ +
 (1000 : Int)) then (↑(List.length x.fst.d.vs) : Int) else IntKind.wrap IntKind.i64 (x.fst.at_ + (1000 : Int))) - Int.toNat x.fst.at_) ∧ y12.snd.fst.c = c11
 ∧ (1 : Nat) = (1 : Nat)) ∧
 (match Ab.ask (Mo.ab x.fst) x.snd with
 | none => y12.snd.snd = false
 | some q => (y12.snd.snd = true ∧ y12.fst = q.fst ∧ y12.snd.fst.vs = q.snd) ∧ List.length y12.snd.fst.vs ≤ y12.snd.fst.c) ∧
 ∀ (w13 : World), True → True) ∧
 True) ∧
 True)) ∧
 True)) ∧
 True) ∧
 True) ∧
 True) ∧
 ((!(x.fst.d.c == (0 : Nat) && ZB.isNil x.fst.d.z)) = false →
 ((x.snd.ph == (1 : Int)) = false →
 ((x.snd.ph == (2 : Int)) = true →
 ∃ (y14 : Ak × Sl × Bool),
 y14.fst.g = x.snd.frm ∧
 y14.fst.c.kind = (8 : Int) ∧
 y14.fst.c.ok = (0 : Int) ∧
 y14.fst.c.ofr = ByteArray.empty ∧
 y14.fst.c.oto = ByteArray.empty ∧
 y14.fst.c.oam = (0 : Int) ∧
 y14.fst.c.okey = ByteArray.empty ∧
 y14.fst.c.osl = (0 : Int) ∧
 y14.fst.c.osh = (0 : Int) ∧
 y14.fst.c.id = ByteArray.empty ∧
 y14.fst.c.name = ByteArray.empty ∧
 y14.fst.c.n = (0 : Int) ∧
 y14.fst.c.why = (0 : Int) ∧
 y14.fst.c.slot = x.snd.slot ∧
 y14.fst.c.ep = x.snd.ep ∧
 y14.fst.c.at_ = (0 : Int) ∧
 y14.fst.c.last = false ∧
 (y14.snd.fst.z = ZB.nil ∧ List.length y14.snd.fst.vs = (0 : Nat) ∧ y14.snd.fst.c = (0 : Nat)) ∧
 y14.snd.snd = true ∧
 x.fst.n = x.fst.n ∧
 (List.length x.fst.d.vs = List.length x.fst.d.vs ∧ x.fst.d.c = x.fst.d.c) ∧
 x.fst.d.z = x.fst.d.z ∧
 x.fst.at_ = x.fst.at_ ∧
 (x.fst.d.vs = x.fst.d.vs ∧ List.length x.fst.d.vs = List.length x.fst.d.vs ∧ x.fst.d.c = x.fst.d.c ∧ (1 : Nat) = (1 : Nat)) ∧
 (y14.snd.fst.vs = [] ∧ List.length y14.snd.fst.vs = (0 : Nat) ∧ y14.snd.fst.c = (0 : Nat)) ∧
 (match Ab.ask (Mo.ab x.fst) x.snd with
 | none => y14.snd.snd = false
 | some q => (y14.snd.snd = true ∧ y14.fst = q.fst ∧ y14.snd.fst.vs = q.snd) ∧ List.length y14.snd.fst.vs ≤ y14.snd.fst.c) ∧
 ∀ (w15 : World), True → True) ∧
 ((x.snd.ph == (2 : Int)) = false →
 ∃ (y16 : Ak × Sl × Bool),
 y16.fst.g = x.snd.frm ∧
 y16.fst.c.kind = (0 : Int) ∧
 y16.fst.c.ok = (0 : Int) ∧
 y16.fst.c.ofr = ByteArray.empty ∧
 y16.fst.c.oto = ByteArray.empty ∧
 y16.fst.c.oam = (0 : Int) ∧
 y16.fst.c.okey = ByteArray.empty ∧
 y16.fst.c.osl = (0 : Int) ∧
 y16.fst.c.osh = (0 : Int) ∧
 y16.fst.c.id = ByteArray.empty ∧
 y16.fst.c.name = ByteArray.empty ∧
 y16.fst.c.n = (0 : Int) ∧
 y16.fst.c.why = (0 : Int) ∧
 y16.fst.c.slot = x.snd.slot ∧
 y16.fst.c.ep = x.snd.ep ∧
 y16.fst.c.at_ = (0 : Int) ∧
 y16.fst.c.last = false ∧
 (y16.snd.fst.z = ZB.nil ∧ List.length y16.snd.fst.vs = (0 : Nat) ∧ y16.snd.fst.c = (0 : Nat)) ∧
 y16.snd.snd = false ∧
 x.fst.n = x.fst.n ∧
 (List.length x.fst.d.vs = List.length x.fst.d.vs ∧ x.fst.d.c = x.fst.d.c) ∧
 x.fst.d.z = x.fst.d.z ∧
 x.fst.at_ = x.fst.at_ ∧
 (x.fst.d.vs = x.fst.d.vs ∧ List.length x.fst.d.vs = List.length x.fst.d.vs ∧ x.fst.d.c = x.fst.d.c ∧ (1 : Nat) = (1 : Nat)) ∧
 (y16.snd.fst.vs = [] ∧ List.length y16.snd.fst.vs = (0 : Nat) ∧ y16.snd.fst.c = (0 : Nat)) ∧
 (match Ab.ask (Mo.ab x.fst) x.snd with
 | none => y16.snd.snd = false
 | some q => (y16.snd.snd = true ∧ y16.fst = q.fst ∧ y16.snd.fst.vs = q.snd) ∧ List.length y16.snd.fst.vs ≤ y16.snd.fst.c) ∧
 ∀ (w17 : World), True → True)) ∧
 ((x.snd.ph == (1 : Int)) = true →
 ∃ (y18 : Ak × Sl × Bool),
 y18.fst.g = x.snd.frm ∧
 y18.fst.c.kind = (8 : Int) ∧
 y18.fst.c.ok = (0 : Int) ∧
 y18.fst.c.ofr = ByteArray.empty ∧
 y18.fst.c.oto = ByteArray.empty ∧
 y18.fst.c.oam = (0 : Int) ∧
 y18.fst.c.okey = ByteArray.empty ∧
 y18.fst.c.osl = (0 : Int) ∧
 y18.fst.c.osh = (0 : Int) ∧
 y18.fst.c.id = ByteArray.empty ∧
 y18.fst.c.name = ByteArray.empty ∧
 y18.fst.c.n = (0 : Int) ∧
 y18.fst.c.why = (0 : Int) ∧
 y18.fst.c.slot = x.snd.slot ∧
 y18.fst.c.ep = x.snd.ep ∧
 y18.fst.c.at_ = (0 : Int) ∧
 y18.fst.c.last = false ∧
 (y18.snd.fst.z = ZB.nil ∧ List.length y18.snd.fst.vs = (0 : Nat) ∧ y18.snd.fst.c = (0 : Nat)) ∧
 y18.snd.snd = true ∧
 x.fst.n = x.fst.n ∧
 (List.length x.fst.d.vs = List.length x.fst.d.vs ∧ x.fst.d.c = x.fst.d.c) ∧
 x.fst.d.z = x.fst.d.z ∧
 x.fst.at_ = x.fst.at_ ∧
 (x.fst.d.vs = x.fst.d.vs ∧ List.length x.fst.d.vs = List.length x.fst.d.vs ∧ x.fst.d.c = x.fst.d.c ∧ (1 : Nat) = (1 : Nat)) ∧
 (y18.snd.fst.vs = [] ∧ List.length y18.snd.fst.vs = (0 : Nat) ∧ y18.snd.fst.c = (0 : Nat)) ∧
 (match Ab.ask (Mo.ab x.fst) x.snd with
 | none => y18.snd.snd = false
 | some q => (y18.snd.snd = true ∧ y18.fst = q.fst ∧ y18.snd.fst.vs = q.snd) ∧ List.length y18.snd.fst.vs ≤ y18.snd.fst.c) ∧
 ∀ (w19 : World), True → True))) ∧
 ((x.snd.ph == (2 : Int)) = false →
 ((x.snd.ph == (1 : Int)) = false →
 ((x.snd.ph == (2 : Int)) = true →
 ∃ (y20 : Ak × Sl × Bool),
 y20.fst.g = x.snd.frm ∧
 y20.fst.c.kind = (8 : Int) ∧
 y20.fst.c.ok = (0 : Int) ∧
 y20.fst.c.ofr = ByteArray.empty ∧
 y20.fst.c.oto = ByteArray.empty ∧
 y20.fst.c.oam = (0 : Int) ∧
 y20.fst.c.okey = ByteArray.empty ∧
 y20.fst.c.osl = (0 : Int) ∧
 y20.fst.c.osh = (0 : Int) ∧
 y20.fst.c.id = ByteArray.empty ∧
 y20.fst.c.name = ByteArray.empty ∧
 y20.fst.c.n = (0 : Int) ∧
 y20.fst.c.why = (0 : Int) ∧
 y20.fst.c.slot = x.snd.slot ∧
 y20.fst.c.ep = x.snd.ep ∧
 y20.fst.c.at_ = (0 : Int) ∧
 y20.fst.c.last = false ∧
 (y20.snd.fst.z = ZB.nil ∧ List.length y20.snd.fst.vs = (0 : Nat) ∧ y20.snd.fst.c = (0 : Nat)) ∧
 y20.snd.snd = true ∧
 x.fst.n = x.fst.n ∧
 (List.length x.fst.d.vs = List.length x.fst.d.vs ∧ x.fst.d.c = x.fst.d.c) ∧
 x.fst.d.z = x.fst.d.z ∧
 x.fst.at_ = x.fst.at_ ∧
 (x.fst.d.vs = x.fst.d.vs ∧ List.length x.fst.d.vs = List.length x.fst.d.vs ∧ x.fst.d.c = x.fst.d.c ∧ (1 : Nat) = (1 : Nat)) ∧
 (y20.snd.fst.vs = [] ∧ List.length y20.snd.fst.vs = (0 : Nat) ∧ y20.snd.fst.c = (0 : Nat)) ∧
 (match Ab.ask (Mo.ab x.fst) x.snd with
 | none => y20.snd.snd = false
 | some q => (y20.snd.snd = true ∧ y20.fst = q.fst ∧ y20.snd.fst.vs = q.snd) ∧ List.length y20.snd.fst.vs ≤ y20.snd.fst.c) ∧
 ∀ (w21 : World), True → True) ∧
 ((x.snd.ph == (2 : Int)) = false →
 ∃ (y22 : Ak × Sl × Bool),
 y22.fst.g = x.snd.frm ∧
 y22.fst.c.kind = (0 : Int) ∧
 y22.fst.c.ok = (0 : Int) ∧
 y22.fst.c.ofr = ByteArray.empty ∧
 y22.fst.c.oto = ByteArray.empty ∧
 y22.fst.c.oam = (0 : Int) ∧
 y22.fst.c.okey = ByteArray.empty ∧
 y22.fst.c.osl = (0 : Int) ∧
 y22.fst.c.osh = (0 : Int) ∧
 y22.fst.c.id = ByteArray.empty ∧
 y22.fst.c.name = ByteArray.empty ∧
 y22.fst.c.n = (0 : Int) ∧
 y22.fst.c.why = (0 : Int) ∧
 y22.fst.c.slot = x.snd.slot ∧
 y22.fst.c.ep = x.snd.ep ∧
 y22.fst.c.at_ = (0 : Int) ∧
 y22.fst.c.last = false ∧
 (y22.snd.fst.z = ZB.nil ∧ List.length y22.snd.fst.vs = (0 : Nat) ∧ y22.snd.fst.c = (0 : Nat)) ∧
 y22.snd.snd = false ∧
 x.fst.n = x.fst.n ∧
 (List.length x.fst.d.vs = List.length x.fst.d.vs ∧ x.fst.d.c = x.fst.d.c) ∧
 x.fst.d.z = x.fst.d.z ∧
 x.fst.at_ = x.fst.at_ ∧
 (x.fst.d.vs = x.fst.d.vs ∧ List.length x.fst.d.vs = List.length x.fst.d.vs ∧ x.fst.d.c = x.fst.d.c ∧ (1 : Nat) = (1 : Nat)) ∧
 (y22.snd.fst.vs = [] ∧ List.length y22.snd.fst.vs = (0 : Nat) ∧ y22.snd.fst.c = (0 : Nat)) ∧
 (match Ab.ask (Mo.ab x.fst) x.snd with
 | none => y22.snd.snd = false
 | some q => (y22.snd.snd = true ∧ y22.fst = q.fst ∧ y22.snd.fst.vs = q.snd) ∧ List.length y22.snd.fst.vs ≤ y22.snd.fst.c) ∧
 ∀ (w23 : World), True → True)) ∧
 ((x.snd.ph == (1 : Int)) = true →
 ∃ (y24 : Ak × Sl × Bool),
 y24.fst.g = x.snd.frm ∧
 y24.fst.c.kind = (8 : Int) ∧
 y24.fst.c.ok = (0 : Int) ∧
 y24.fst.c.ofr = ByteArray.empty ∧
 y24.fst.c.oto = ByteArray.empty ∧
 y24.fst.c.oam = (0 : Int) ∧
 y24.fst.c.okey = ByteArray.empty ∧
 y24.fst.c.osl = (0 : Int) ∧
 y24.fst.c.osh = (0 : Int) ∧
 y24.fst.c.id = ByteArray.empty ∧
 y24.fst.c.name = ByteArray.empty ∧
 y24.fst.c.n = (0 : Int) ∧
 y24.fst.c.why = (0 : Int) ∧
 y24.fst.c.slot = x.snd.slot ∧
 y24.fst.c.ep = x.snd.ep ∧
 y24.fst.c.at_ = (0 : Int) ∧
 y24.fst.c.last = false ∧
 (y24.snd.fst.z = ZB.nil ∧ List.length y24.snd.fst.vs = (0 : Nat) ∧ y24.snd.fst.c = (0 : Nat)) ∧
 y24.snd.snd = true ∧
 x.fst.n = x.fst.n ∧
 (List.length x.fst.d.vs = List.length x.fst.d.vs ∧ x.fst.d.c = x.fst.d.c) ∧
 x.fst.d.z = x.fst.d.z ∧
 x.fst.at_ = x.fst.at_ ∧
 (x.fst.d.vs = x.fst.d.vs ∧ List.length x.fst.d.vs = List.length x.fst.d.vs ∧ x.fst.d.c = x.fst.d.c ∧ (1 : Nat) = (1 : Nat)) ∧
 (y24.snd.fst.vs = [] ∧ List.length y24.snd.fst.vs = (0 : Nat) ∧ y24.snd.fst.c = (0 : Nat)) ∧
 (match Ab.ask (Mo.ab x.fst) x.snd with
 | none => y24.snd.snd = false
 | some q => (y24.snd.snd = true ∧ y24.fst = q.fst ∧ y24.snd.fst.vs = q.snd) ∧ List.length y24.snd.fst.vs ≤ y24.snd.fst.c) ∧
 ∀ (w25 : World), True → True)))) := by kernel_rfl
theorem rknowS_vc : goalS Γ20 c20 rknowS r20
 = (
 ∀ (x : Rm × Mv), Rm.ok x.fst → ((x.fst.n != x.snd.n) = false → ((x.snd.ph == (0 : Int)) = true → ∃ (y : Rm), y.n = x.snd.n ∧ y.has = false ∧ (y.d.z = ZB.nil
 ∧ List.length y.d.vs = (0 : Nat) ∧ y.d.c = (0 : Nat)) ∧ y.at_ = (0 : Int) ∧ (y.d.vs = [] ∧ List.length y.d.vs = (0 : Nat) ∧ y.d.c = (0 : Nat)) ∧ (Rm.ab y = Ab.know
 (Rm.ab x.fst) x.snd ∧ Ab.ok (Rm.ab y) ∧ List.length y.d.vs ≤ y.d.c) ∧ ∀ (w : World), True → True) ∧ ((x.snd.ph == (0 : Int)) = false → ∃ (y1 : Rm), y1.n = x.fst.n
 ∧ y1.has = x.fst.has ∧ (List.length y1.d.vs = List.length x.fst.d.vs ∧ y1.d.c = x.fst.d.c) ∧ y1.d.z = x.fst.d.z ∧ y1.at_ = x.fst.at_ ∧ (y1.d.vs = x.fst.d.vs
 ∧ List.length y1.d.vs = List.length x.fst.d.vs ∧ y1.d.c = x.fst.d.c ∧ (1 : Nat) = (1 : Nat)) ∧ (Rm.ab y1 = Ab.know (Rm.ab x.fst) x.snd ∧ Ab.ok (Rm.ab y1)
 ∧ List.length y1.d.vs ≤ y1.d.c) ∧ ∀ (w2 : World), True → True)) ∧ ((x.fst.n != x.snd.n) = true → ∃ (y3 : Rm), y3.n = x.snd.n ∧ y3.has = false ∧ (y3.d.z = ZB.nil
 ∧ List.length y3.d.vs = (0 : Nat) ∧ y3.d.c = (0 : Nat)) ∧ y3.at_ = (0 : Int) ∧ (y3.d.vs = [] ∧ List.length y3.d.vs = (0 : Nat) ∧ y3.d.c = (0 : Nat)) ∧
 (Rm.ab y3 = Ab.know (Rm.ab x.fst) x.snd ∧ Ab.ok (Rm.ab y3) ∧ List.length y3.d.vs ≤ y3.d.c) ∧ ∀ (w4 : World), True → True)) := by kernel_rfl
theorem hearS_vc : goalS Γ23 c23 hearS r23
 = (
 ∀ (x : TX), Mo.ok x.m ∧ (∀ (v : Value), v ∈ x.rd.vs → isU8 v) ∧ List.length x.rd.vs ≤ (140737488355328 : Nat) ∧ List.length x.ad.vs ≤ (140737488355328 : Nat)
 → ((x.a.c.kind == (8 : Int)) = true → ((!x.r.why == (0 : Int)) = false → ((x.x.ph != (1 : Int)) = true → ((x.x.ph != (2 : Int)) = true → ∃ (y : Mo × Bool), y.snd = false
 ∧ y.fst.n = x.m.n ∧ (List.length y.fst.d.vs = List.length x.m.d.vs ∧ y.fst.d.c = x.m.d.c) ∧ y.fst.d.z = x.m.d.z ∧ y.fst.at_ = x.m.at_ ∧ (y.fst.d.vs = x.m.d.vs
 ∧ List.length y.fst.d.vs = List.length x.m.d.vs ∧ y.fst.d.c = x.m.d.c ∧ (1 : Nat) = (1 : Nat)) ∧ (x.ad.vs = x.ad.vs ∧ List.length x.ad.vs = List.length x.ad.vs
 ∧ x.ad.c = x.ad.c ∧ (1 : Nat) = (1 : Nat)) ∧ (x.rd.vs = x.rd.vs ∧ List.length x.rd.vs = List.length x.rd.vs ∧ x.rd.c = x.rd.c ∧ (1 : Nat) = (1 : Nat))
 ∧ ((Mo.ab y.fst, y.snd) = Ab.hear (Mo.ab x.m) x.x x.a.c (List.length x.ad.vs) x.r.why x.rd.vs ∧ Ab.ok (Mo.ab y.fst) ∧ List.length y.fst.d.vs ≤ y.fst.d.c)
 ∧ ∀ (w : World), True → True) ∧ ((x.x.ph != (2 : Int)) = false → (0 : Nat) = (0 : Nat) ∧ (0 : Nat) = (0 : Nat) ∧ (∀ (v : Value), v ∈ [] → one1 v = true)
 ∧ ∃ (news : List Value), news = List.take (List.length x.rd.vs * (1 : Nat)) x.rd.vs ∧ List.length x.rd.vs ≤ List.length x.rd.vs ∧ x.rd.c = x.rd.c ∧ (∀
 (v1 : Value), v1 ∈ news → one1 v1 = true) ∧ ((0 : Nat) + List.length x.rd.vs) * (1 : Nat) ≤ (140737488355328 : Nat) ∧ ∀ (c : Nat), (0 : Nat) + List.length x.rd.vs ≤ c
 → ((0 : Nat) + List.length x.rd.vs ≤ (0 : Nat) → c = (0 : Nat)) → (decide (x.m.at_ > (↑((0 : Nat) + List.length x.rd.vs) : Int)) = true → ∃ (y2 : Mo × Bool), y2.snd =
 (x.x.ph == (1 : Int)) ∧ y2.fst.n = x.m.n ∧ (List.length y2.fst.d.vs = (0 : Nat) + List.length x.rd.vs ∧ y2.fst.d.c = c) ∧ y2.fst.d.z = ZB.own ∧ y2.fst.at_ =
 (0 : Int) ∧ (y2.fst.d.vs = [] ++ news ∧ List.length y2.fst.d.vs = (0 : Nat) + List.length x.rd.vs ∧ y2.fst.d.c = c ∧ (1 : Nat) = (1 : Nat)) ∧ (x.ad.vs = x.ad.vs
 ∧ List.length x.ad.vs = List.length x.ad.vs ∧ x.ad.c = x.ad.c ∧ (1 : Nat) = (1 : Nat)) ∧ (x.rd.vs = x.rd.vs ∧ List.length x.rd.vs = List.length x.rd.vs
 ∧ x.rd.c = x.rd.c ∧ (1 : Nat) = (1 : Nat)) ∧ ((Mo.ab y2.fst, y2.snd) = Ab.hear (Mo.ab x.m) x.x x.a.c (List.length x.ad.vs) x.r.why x.rd.vs ∧ Ab.ok (Mo.ab y2.fst)
 ∧ List.length y2.fst.d.vs ≤ y2.fst.d.c) ∧ ∀ (w3 : World), True → True) ∧ (decide (x.m.at_ > (↑((0 : Nat) + List.length x.rd.vs) : Int)) = false → ∃ (y4 : Mo × Bool), y4.snd =
 (x.x.ph == (1 : Int)) ∧ y4.fst.n = x.m.n ∧ (List.length y4.fst.d.vs = (0 : Nat) + List.length x.rd.vs ∧ y4.fst.d.c = c) ∧ y4.fst.d.z = ZB.own ∧ y4.fst.at_ = x.m.at_
 ∧ (y4.fst.d.vs = [] ++ news ∧ List.length y4.fst.d.vs = (0 : Nat) + List.length x.rd.vs ∧ y4.fst.d.c = c ∧ (1 : Nat) = (1 : Nat)) ∧ (x.ad.vs = x.ad.vs
 ∧ List.length x.ad.vs = List.length x.ad.vs ∧ x.ad.c = x.ad.c ∧ (1 : Nat) = (1 : Nat)) ∧ (x.rd.vs = x.rd.vs ∧ List.length x.rd.vs = List.length x.rd.vs
 ∧ x.rd.c = x.rd.c ∧ (1 : Nat) = (1 : Nat)) ∧ ((Mo.ab y4.fst, y4.snd) = Ab.hear (Mo.ab x.m) x.x x.a.c (List.length x.ad.vs) x.r.why x.rd.vs ∧ Ab.ok (Mo.ab y4.fst)
 ∧ List.length y4.fst.d.vs ≤ y4.fst.d.c) ∧ ∀ (w5 : World), True → True))) ∧ ((x.x.ph != (1 : Int)) = false → (0 : Nat) = (0 : Nat) ∧ (0 : Nat) = (0 : Nat)
 ∧ (∀ (v6 : Value), v6 ∈ [] → one1 v6 = true) ∧ ∃ (news7 : List Value), news7 = List.take (List.length x.rd.vs * (1 : Nat)) x.rd.vs ∧ List.length x.rd.vs ≤ List.length x.rd.vs
 ∧ x.rd.c = x.rd.c ∧ (∀ (v8 : Value), v8 ∈ news7 → one1 v8 = true) ∧ ((0 : Nat) + List.length x.rd.vs) * (1 : Nat) ≤ (140737488355328 : Nat) ∧ ∀ (c9 : Nat),
 (0 : Nat) + List.length x.rd.vs ≤ c9 → ((0 : Nat) + List.length x.rd.vs ≤ (0 : Nat) → c9 = (0 : Nat)) → (decide (x.m.at_ > (↑((0 : Nat) + List.length x.rd.vs) : Int)) = true
 → ∃ (y10 : Mo × Bool), y10.snd = (x.x.ph == (1 : Int)) ∧ y10.fst.n = x.m.n ∧ (List.length y10.fst.d.vs = (0 : Nat) + List.length x.rd.vs ∧ y10.fst.d.c = c9)
 ∧ y10.fst.d.z = ZB.own ∧ y10.fst.at_ = (0 : Int) ∧ (y10.fst.d.vs = [] ++ news7 ∧ List.length y10.fst.d.vs = (0 : Nat) + List.length x.rd.vs ∧ y10.fst.d.c = c9
 ∧ (1 : Nat) = (1 : Nat)) ∧ (x.ad.vs = x.ad.vs ∧ List.length x.ad.vs = List.length x.ad.vs ∧ x.ad.c = x.ad.c ∧ (1 : Nat) = (1 : Nat)) ∧ (x.rd.vs = x.rd.vs
 ∧ List.length x.rd.vs = List.length x.rd.vs ∧ x.rd.c = x.rd.c ∧ (1 : Nat) = (1 : Nat)) ∧ ((Mo.ab y10.fst, y10.snd) = Ab.hear (Mo.ab x.m) x.x x.a.c (List.length x.ad.vs) x.r.why x.rd.vs
 ∧ Ab.ok (Mo.ab y10.fst) ∧ List.length y10.fst.d.vs ≤ y10.fst.d.c) ∧ ∀ (w11 : World), True → True) ∧ (decide (x.m.at_ > (↑((0 : Nat) + List.length x.rd.vs) : Int)) = false
 → ∃ (y12 : Mo × Bool), y12.snd = (x.x.ph == (1 : Int)) ∧ y12.fst.n = x.m.n ∧ (List.length y12.fst.d.vs = (0 : Nat) + List.length x.rd.vs ∧ y12.fst.d.c = c9)
 ∧ y12.fst.d.z = ZB.own ∧ y12.fst.at_ = x.m.at_ ∧ (y12.fst.d.vs = [] ++ news7 ∧ List.length y12.fst.d.vs = (0 : Nat) + List.length x.rd.vs ∧ y12.fst.d.c = c9
 ∧ (1 : Nat) = (1 : Nat)) ∧ (x.ad.vs = x.ad.vs ∧ List.length x.ad.vs = List.length x.ad.vs ∧ x.ad.c = x.ad.c ∧ (1 : Nat) = (1 : Nat)) ∧ (x.rd.vs = x.rd.vs
 ∧ List.length x.rd.vs = List.length x.rd.vs ∧ x.rd.c = x.rd.c ∧ (1 : Nat) = (1 : Nat)) ∧ ((Mo.ab y12.fst, y12.snd) = Ab.hear (Mo.ab x.m) x.x x.a.c (List.length x.ad.vs) x.r.why x.rd.vs
 ∧ Ab.ok (Mo.ab y12.fst) ∧ List.length y12.fst.d.vs ≤ y12.fst.d.c) ∧ ∀ (w13 : World), True → True))) ∧ ((!x.r.why == (0 : Int)) = true → ∃ (y14 : Mo × Bool), y14.snd = false
 ∧ y14.fst.n = x.m.n ∧ (List.length y14.fst.d.vs = List.length x.m.d.vs ∧ y14.fst.d.c = x.m.d.c) ∧ y14.fst.d.z = x.m.d.z ∧ y14.fst.at_ = x.m.at_ ∧ (y14.fst.d.vs = x.m.d.vs
 ∧ List.length y14.fst.d.vs = List.length x.m.d.vs ∧ y14.fst.d.c = x.m.d.c ∧ (1 : Nat) = (1 : Nat)) ∧ (x.ad.vs = x.ad.vs ∧ List.length x.ad.vs = List.length x.ad.vs
 ∧ x.ad.c = x.ad.c ∧ (1 : Nat) = (1 : Nat)) ∧ (x.rd.vs = x.rd.vs ∧ List.length x.rd.vs = List.length x.rd.vs ∧ x.rd.c = x.rd.c ∧ (1 : Nat) = (1 : Nat))
 ∧ ((Mo.ab y14.fst, y14.snd) = Ab.hear (Mo.ab x.m) x.x x.a.c (List.length x.ad.vs) x.r.why x.rd.vs ∧ Ab.ok (Mo.ab y14.fst) ∧ List.length y14.fst.d.vs ≤ y14.fst.d.c)
 ∧ ∀ (w15 : World), True → True)) ∧ ((x.a.c.kind == (8 : Int)) = false → ((x.a.c.kind == (9 : Int)) = true → ((x.x.ph != (2 : Int)) = false → ((x.m.d.c ==
 (0 : Nat) && ZB.isNil x.m.d.z) = false → ((x.a.c.at_ != x.m.at_) = true → ∃ (y16 : Mo × Bool), y16.snd = false ∧ y16.fst.n = x.m.n ∧ (List.length y16.fst.d.vs = List.length x.m.d.vs
 ∧ y16.fst.d.c = x.m.d.c) ∧ y16.fst.d.z = x.m.d.z ∧ y16.fst.at_ = x.m.at_ ∧ (y16.fst.d.vs = x.m.d.vs ∧ List.length y16.fst.d.vs = List.length x.m.d.vs ∧ y16.fst.d.c = x.m.d.c
 ∧ (1 : Nat) = (1 : Nat)) ∧ (x.ad.vs = x.ad.vs ∧ List.length x.ad.vs = List.length x.ad.vs ∧ x.ad.c = x.ad.c ∧ (1 : Nat) = (1 : Nat)) ∧ (x.rd.vs = x.rd.vs
 ∧ List.length x.rd.vs = List.length x.rd.vs ∧ x.rd.c = x.rd.c ∧ (1 : Nat) = (1 : Nat)) ∧ ((Mo.ab y16.fst, y16.snd) = Ab.hear (Mo.ab x.m) x.x x.a.c (List.length x.ad.vs) x.r.why x.rd.vs
 ∧ Ab.ok (Mo.ab y16.fst) ∧ List.length y16.fst.d.vs ≤ y16.fst.d.c) ∧ ∀ (w17 : World), True → True) ∧ ((x.a.c.at_ != x.m.at_) = false → ((x.r.why == (0 : Int)) = true
 → (True ∧ ((x.r.why == (0 : Int)) = true → ∃ (y18 : Mo × Bool), y18.snd = x.a.c.last ∧ y18.fst.n = x.m.n ∧ (List.length y18.fst.d.vs = List.length x.m.d.vs
 ∧ y18.fst.d.c = x.m.d.c) ∧ y18.fst.d.z = x.m.d.z ∧ (y18.fst.at_ = if (↑(List.length x.m.d.vs) : Int) < IntKind.wrap IntKind.i64 (x.m.at_ + (↑(List.length x.ad.vs) : Int)) then
 (↑(List.length x.m.d.vs) : Int) else IntKind.wrap IntKind.i64 (x.m.at_ + (↑(List.length x.ad.vs) : Int))) ∧ (y18.fst.d.vs = x.m.d.vs ∧ List.length y18.fst.d.vs = List.length x.m.d.vs
 ∧ y18.fst.d.c = x.m.d.c ∧ (1 : Nat) = (1 : Nat)) ∧ (x.ad.vs = x.ad.vs ∧ List.length x.ad.vs = List.length x.ad.vs ∧ x.ad.c = x.ad.c ∧ (1 : Nat) = (1 : Nat))
 ∧ (x.rd.vs = x.rd.vs ∧ List.length x.rd.vs = List.length x.rd.vs ∧ x.rd.c = x.rd.c ∧ (1 : Nat) = (1 : Nat)) ∧ ((Mo.ab y18.fst, y18.snd) = Ab.hear (Mo.ab x.m) x.x x.a.c
 (List.length x.ad.vs) x.r.why x.rd.vs ∧ Ab.ok (Mo.ab y18.fst) ∧ List.length y18.fst.d.vs ≤ y18.fst.d.c) ∧ ∀ (w19 : World), True → True) ∧ ((x.r.why ==
 (0 : Int)) = false → ∃ (y20 : Mo × Bool), y20.snd = false ∧ y20.fst.n = x.m.n ∧ (List.length y20.fst.d.vs = List.length x.m.d.vs ∧ y20.fst.d.c = x.m.d.c)
 ∧ y20.fst.d.z = x.m.d.z ∧ (y20.fst.at_ = if (↑(List.length x.m.d.vs) : Int) < IntKind.wrap IntKind.i64 (x.m.at_ + (↑(List.length x.ad.vs) : Int)) then
 (↑(List.length x.m.d.vs) : Int) else IntKind.wrap IntKind.i64 (x.m.at_ + (↑(List.length x.ad.vs) : Int))) ∧ (y20.fst.d.vs = x.m.d.vs ∧ List.length y20.fst.d.vs = List.length x.m.d.vs
 ∧ y20.fst.d.c = x.m.d.c ∧ (1 : Nat) = (1 : Nat)) ∧ (x.ad.vs = x.ad.vs ∧ List.length x.ad.vs = List.length x.ad.vs ∧ x.ad.c = x.ad.c ∧ (1 : Nat) = (1 : Nat))
 ∧ (x.rd.vs = x.rd.vs ∧ List.length x.rd.vs = List.length x.rd.vs ∧ x.rd.c = x.rd.c ∧ (1 : Nat) = (1 : Nat)) ∧ ((Mo.ab y20.fst, y20.snd) = Ab.hear (Mo.ab x.m) x.x x.a.c
 (List.length x.ad.vs) x.r.why x.rd.vs ∧ Ab.ok (Mo.ab y20.fst) ∧ List.length y20.fst.d.vs ≤ y20.fst.d.c) ∧ ∀ (w21 : World), True → True)) ∧ True) ∧ ((x.r.why ==
 (0 : Int)) = false → ((x.r.why == (5 : Int)) = true → ((x.r.why == (0 : Int)) = true → ∃ (y22 : Mo × Bool), y22.snd = x.a.c.last ∧ y22.fst.n = x.m.n ∧
 (List.length y22.fst.d.vs = List.length x.m.d.vs ∧ y22.fst.d.c = x.m.d.c) ∧ y22.fst.d.z = x.m.d.z ∧ y22.fst.at_ = (0 : Int) ∧ (y22.fst.d.vs = x.m.d.vs
 ∧ List.length y22.fst.d.vs = List.length x.m.d.vs ∧ y22.fst.d.c = x.m.d.c ∧ (1 : Nat) = (1 : Nat)) ∧ (x.ad.vs = x.ad.vs ∧ List.length x.ad.vs = List.length x.ad.vs
 ∧ x.ad.c = x.ad.c ∧ (1 : Nat) = (1 : Nat)) ∧ (x.rd.vs = x.rd.vs ∧ List.length x.rd.vs = List.length x.rd.vs ∧ x.rd.c = x.rd.c ∧ (1 : Nat) = (1 : Nat))
 ∧ ((Mo.ab y22.fst, y22.snd) = Ab.hear (Mo.ab x.m) x.x x.a.c (List.length x.ad.vs) x.r.why x.rd.vs ∧ Ab.ok (Mo.ab y22.fst) ∧ List.length y22.fst.d.vs ≤ y22.fst.d.c)
 ∧ ∀ (w23 : World), True → True) ∧ ((x.r.why == (0 : Int)) = false → ∃ (y24 : Mo × Bool), y24.snd = false ∧ y24.fst.n = x.m.n ∧ (List.length y24.fst.d.vs = List.length x.m.d.vs
 ∧ y24.fst.d.c = x.m.d.c) ∧ y24.fst.d.z = x.m.d.z ∧ y24.fst.at_ = (0 : Int) ∧ (y24.fst.d.vs = x.m.d.vs ∧ List.length y24.fst.d.vs = List.length x.m.d.vs
 ∧ y24.fst.d.c = x.m.d.c ∧ (1 : Nat) = (1 : Nat)) ∧ (x.ad.vs = x.ad.vs ∧ List.length x.ad.vs = List.length x.ad.vs ∧ x.ad.c = x.ad.c ∧ (1 : Nat) = (1 : Nat))
 ∧ (x.rd.vs = x.rd.vs ∧ List.length x.rd.vs = List.length x.rd.vs ∧ x.rd.c = x.rd.c ∧ (1 : Nat) = (1 : Nat)) ∧ ((Mo.ab y24.fst, y24.snd) = Ab.hear (Mo.ab x.m) x.x x.a.c
 (List.length x.ad.vs) x.r.why x.rd.vs ∧ Ab.ok (Mo.ab y24.fst) ∧ List.length y24.fst.d.vs ≤ y24.fst.d.c) ∧ ∀ (w25 : World), True → True)) ∧ ((x.r.why ==
 (5 : Int)) = false → ((x.r.why == (3 : Int)) = true → ((x.r.why == (0 : Int)) = true → ∃ (y26 : Mo × Bool), y26.snd = x.a.c.last ∧ y26.fst.n = x.m.n ∧
 (List.length y26.fst.d.vs = List.length x.m.d.vs ∧ y26.fst.d.c = x.m.d.c) ∧ y26.fst.d.z = x.m.d.z ∧ y26.fst.at_ = (0 : Int) ∧ (y26.fst.d.vs = x.m.d.vs
 ∧ List.length y26.fst.d.vs = List.length x.m.d.vs ∧ y26.fst.d.c = x.m.d.c ∧ (1 : Nat) = (1 : Nat)) ∧ (x.ad.vs = x.ad.vs ∧ List.length x.ad.vs = List.length x.ad.vs
 ∧ x.ad.c = x.ad.c ∧ (1 : Nat) = (1 : Nat)) ∧ (x.rd.vs = x.rd.vs ∧ List.length x.rd.vs = List.length x.rd.vs ∧ x.rd.c = x.rd.c ∧ (1 : Nat) = (1 : Nat))
 ∧ ((Mo.ab y26.fst, y26.snd) = Ab.hear (Mo.ab x.m) x.x x.a.c (List.length x.ad.vs) x.r.why x.rd.vs ∧ Ab.ok (Mo.ab y26.fst) ∧ List.length y26.fst.d.vs ≤ y26.fst.d.c)
 ∧ ∀ (w27 : World), True → True) ∧ ((x.r.why == (0 : Int)) = false → ∃ (y28 : Mo × Bool), y28.snd = false ∧ y28.fst.n = x.m.n ∧ (List.length y28.fst.d.vs = List.length x.m.d.vs
 ∧ y28.fst.d.c = x.m.d.c) ∧ y28.fst.d.z = x.m.d.z ∧ y28.fst.at_ = (0 : Int) ∧ (y28.fst.d.vs = x.m.d.vs ∧ List.length y28.fst.d.vs = List.length x.m.d.vs
 ∧ y28.fst.d.c = x.m.d.c ∧ (1 : Nat) = (1 : Nat)) ∧ (x.ad.vs = x.ad.vs ∧ List.length x.ad.vs = List.length x.ad.vs ∧ x.ad.c = x.ad.c ∧ (1 : Nat) = (1 : Nat))
 ∧ (x.rd.vs = x.rd.vs ∧ List.length x.rd.vs = List.length x.rd.vs ∧ x.rd.c = x.rd.c ∧ (1 : Nat) = (1 : Nat)) ∧ ((Mo.ab y28.fst, y28.snd) = Ab.hear (Mo.ab x.m) x.x x.a.c
 (List.length x.ad.vs) x.r.why x.rd.vs ∧ Ab.ok (Mo.ab y28.fst) ∧ List.length y28.fst.d.vs ≤ y28.fst.d.c) ∧ ∀ (w29 : World), True → True)) ∧ ((x.r.why ==
 (3 : Int)) = false → ((x.r.why == (0 : Int)) = true → ∃ (y30 : Mo × Bool), y30.snd = x.a.c.last ∧ y30.fst.n = x.m.n ∧ (List.length y30.fst.d.vs = List.length x.m.d.vs
 ∧ y30.fst.d.c = x.m.d.c) ∧ y30.fst.d.z = x.m.d.z ∧ y30.fst.at_ = x.m.at_ ∧ (y30.fst.d.vs = x.m.d.vs ∧ List.length y30.fst.d.vs = List.length x.m.d.vs ∧ y30.fst.d.c = x.m.d.c
 ∧ (1 : Nat) = (1 : Nat)) ∧ (x.ad.vs = x.ad.vs ∧ List.length x.ad.vs = List.length x.ad.vs ∧ x.ad.c = x.ad.c ∧ (1 : Nat) = (1 : Nat)) ∧ (x.rd.vs = x.rd.vs
 ∧ List.length x.rd.vs = List.length x.rd.vs ∧ x.rd.c = x.rd.c ∧ (1 : Nat) = (1 : Nat)) ∧ ((Mo.ab y30.fst, y30.snd) = Ab.hear (Mo.ab x.m) x.x x.a.c (List.length x.ad.vs) x.r.why x.rd.vs
 ∧ Ab.ok (Mo.ab y30.fst) ∧ List.length y30.fst.d.vs ≤ y30.fst.d.c) ∧ ∀ (w31 : World), True → True) ∧ ((x.r.why == (0 : Int)) = false → ∃ (y32 : Mo × Bool), y32.snd = false
 ∧ y32.fst.n = x.m.n ∧ (List.length y32.fst.d.vs = List.length x.m.d.vs ∧ y32.fst.d.c = x.m.d.c) ∧ y32.fst.d.z = x.m.d.z ∧ y32.fst.at_ = x.m.at_ ∧ (y32.fst.d.vs = x.m.d.vs
 ∧ List.length y32.fst.d.vs = List.length x.m.d.vs ∧ y32.fst.d.c = x.m.d.c ∧ (1 : Nat) = (1 : Nat)) ∧ (x.ad.vs = x.ad.vs ∧ List.length x.ad.vs = List.length x.ad.vs
 ∧ x.ad.c = x.ad.c ∧ (1 : Nat) = (1 : Nat)) ∧ (x.rd.vs = x.rd.vs ∧ List.length x.rd.vs = List.length x.rd.vs ∧ x.rd.c = x.rd.c ∧ (1 : Nat) = (1 : Nat))
 ∧ ((Mo.ab y32.fst, y32.snd) = Ab.hear (Mo.ab x.m) x.x x.a.c (List.length x.ad.vs) x.r.why x.rd.vs ∧ Ab.ok (Mo.ab y32.fst) ∧ List.length y32.fst.d.vs ≤ y32.fst.d.c)
 ∧ ∀ (w33 : World), True → True)))))) ∧ ((x.m.d.c == (0 : Nat) && ZB.isNil x.m.d.z) = true → ∃ (y34 : Mo × Bool), y34.snd = false ∧ y34.fst.n = x.m.n ∧
 (List.length y34.fst.d.vs = List.length x.m.d.vs ∧ y34.fst.d.c = x.m.d.c) ∧ y34.fst.d.z = x.m.d.z ∧ y34.fst.at_ = x.m.at_ ∧ (y34.fst.d.vs = x.m.d.vs ∧ List.length y34.fst.d.vs = List.length x.m.d.vs
 ∧ y34.fst.d.c = x.m.d.c ∧ (1 : Nat) = (1 : Nat)) ∧ (x.ad.vs = x.ad.vs ∧ List.length x.ad.vs = List.length x.ad.vs ∧ x.ad.c = x.ad.c ∧ (1 : Nat) = (1 : Nat))
 ∧ (x.rd.vs = x.rd.vs ∧ List.length x.rd.vs = List.length x.rd.vs ∧ x.rd.c = x.rd.c ∧ (1 : Nat) = (1 : Nat)) ∧ ((Mo.ab y34.fst, y34.snd) = Ab.hear (Mo.ab x.m) x.x x.a.c
 (List.length x.ad.vs) x.r.why x.rd.vs ∧ Ab.ok (Mo.ab y34.fst) ∧ List.length y34.fst.d.vs ≤ y34.fst.d.c) ∧ ∀ (w35 : World), True → True)) ∧ ((x.x.ph !=
 (2 : Int)) = true → ∃ (y36 : Mo × Bool), y36.snd = false ∧ y36.fst.n = x.m.n ∧ (List.length y36.fst.d.vs = List.length x.m.d.vs ∧ y36.fst.d.c = x.m.d.c)
 ∧ y36.fst.d.z = x.m.d.z ∧ y36.fst.at_ = x.m.at_ ∧ (y36.fst.d.vs = x.m.d.vs ∧ List.length y36.fst.d.vs = List.length x.m.d.vs ∧ y36.fst.d.c = x.m.d.c ∧
 (1 : Nat) = (1 : Nat)) ∧ (x.ad.vs = x.ad.vs ∧ List.length x.ad.vs = List.length x.ad.vs ∧ x.ad.c = x.ad.c ∧ (1 : Nat) = (1 : Nat)) ∧ (x.rd.vs = x.rd.vs
 ∧ List.length x.rd.vs = List.length x.rd.vs ∧ x.rd.c = x.rd.c ∧ (1 : Nat) = (1 : Nat)) ∧ ((Mo.ab y36.fst, y36.snd) = Ab.hear (Mo.ab x.m) x.x x.a.c (List.length x.ad.vs) x.r.why x.rd.vs
 ∧ Ab.ok (Mo.ab y36.fst) ∧ List.length y36.fst.d.vs ≤ y36.fst.d.c) ∧ ∀ (w37 : World), True → True)) ∧ ((x.a.c.kind == (9 : Int)) = false → ((x.a.c.kind ==
 (10 : Int)) = true → ((x.r.why == (0 : Int)) = true → ∃ (y38 : Mo × Bool), y38.snd = (x.x.ph == (3 : Int)) ∧ y38.fst.n = x.m.n ∧ (List.length y38.fst.d.vs = List.length x.m.d.vs
 ∧ y38.fst.d.c = x.m.d.c) ∧ y38.fst.d.z = x.m.d.z ∧ y38.fst.at_ = x.m.at_ ∧ (y38.fst.d.vs = x.m.d.vs ∧ List.length y38.fst.d.vs = List.length x.m.d.vs ∧ y38.fst.d.c = x.m.d.c
 ∧ (1 : Nat) = (1 : Nat)) ∧ (x.ad.vs = x.ad.vs ∧ List.length x.ad.vs = List.length x.ad.vs ∧ x.ad.c = x.ad.c ∧ (1 : Nat) = (1 : Nat)) ∧ (x.rd.vs = x.rd.vs
 ∧ List.length x.rd.vs = List.length x.rd.vs ∧ x.rd.c = x.rd.c ∧ (1 : Nat) = (1 : Nat)) ∧ ((Mo.ab y38.fst, y38.snd) = Ab.hear (Mo.ab x.m) x.x x.a.c (List.length x.ad.vs) x.r.why x.rd.vs
 ∧ Ab.ok (Mo.ab y38.fst) ∧ List.length y38.fst.d.vs ≤ y38.fst.d.c) ∧ ∀ (w39 : World), True → True) ∧ ((x.r.why == (0 : Int)) = false → ∃ (y40 : Mo × Bool), y40.snd = false
 ∧ y40.fst.n = x.m.n ∧ (List.length y40.fst.d.vs = List.length x.m.d.vs ∧ y40.fst.d.c = x.m.d.c) ∧ y40.fst.d.z = x.m.d.z ∧ y40.fst.at_ = x.m.at_ ∧ (y40.fst.d.vs = x.m.d.vs
 ∧ List.length y40.fst.d.vs = List.length x.m.d.vs ∧ y40.fst.d.c = x.m.d.c ∧ (1 : Nat) = (1 : Nat)) ∧ (x.ad.vs = x.ad.vs ∧ List.length x.ad.vs = List.length x.ad.vs
 ∧ x.ad.c = x.ad.c ∧ (1 : Nat) = (1 : Nat)) ∧ (x.rd.vs = x.rd.vs ∧ List.length x.rd.vs = List.length x.rd.vs ∧ x.rd.c = x.rd.c ∧ (1 : Nat) = (1 : Nat))
 ∧ ((Mo.ab y40.fst, y40.snd) = Ab.hear (Mo.ab x.m) x.x x.a.c (List.length x.ad.vs) x.r.why x.rd.vs ∧ Ab.ok (Mo.ab y40.fst) ∧ List.length y40.fst.d.vs ≤ y40.fst.d.c)
 ∧ ∀ (w41 : World), True → True)) ∧ ((x.a.c.kind == (10 : Int)) = false → ∃ (y42 : Mo × Bool), y42.snd = false ∧ y42.fst.n = x.m.n ∧ (List.length y42.fst.d.vs = List.length x.m.d.vs
 ∧ y42.fst.d.c = x.m.d.c) ∧ y42.fst.d.z = x.m.d.z ∧ y42.fst.at_ = x.m.at_ ∧ (y42.fst.d.vs = x.m.d.vs ∧ List.length y42.fst.d.vs = List.length x.m.d.vs ∧ y42.fst.d.c = x.m.d.c
 ∧ (1 : Nat) = (1 : Nat)) ∧ (x.ad.vs = x.ad.vs ∧ List.length x.ad.vs = List.length x.ad.vs ∧ x.ad.c = x.ad.c ∧ (1 : Nat) = (1 : Nat)) ∧ (x.rd.vs = x.rd.vs
 ∧ List.length x.rd.vs = List.length x.rd.vs ∧ x.rd.c = x.rd.c ∧ (1 : Nat) = (1 : Nat)) ∧ ((Mo.ab y42.fst, y42.snd) = Ab.hear (Mo.ab x.m) x.x x.a.c (List.length x.ad.vs) x.r.why x.rd.vs
 ∧ Ab.ok (Mo.ab y42.fst) ∧ List.length y42.fst.d.vs ≤ y42.fst.d.c) ∧ ∀ (w43 : World), True → True)))) := by kernel_rfl
theorem hasS_vc : goalS Γ15 c15 hasS r15
 = (
 ∀ (x : Mo), True → (false = true → ∃ (y : Int), y = (0 : Int) ∧ x.n = x.n ∧ (List.length x.d.vs = List.length x.d.vs ∧ x.d.c = x.d.c) ∧ x.d.z = x.d.z
 ∧ x.at_ = x.at_ ∧ (x.d.vs = x.d.vs ∧ List.length x.d.vs = List.length x.d.vs ∧ x.d.c = x.d.c ∧ (1 : Nat) = (1 : Nat)) ∧ (y = if Sl.has x.d = true then
 (↑(List.length x.d.vs) : Int) else (-1 : Int)) ∧ ∀ (w : World), True → True) ∧ (false = false → ((x.d.c == (0 : Nat) && ZB.isNil x.d.z) = true → ∃ (y1 : Int), y1 =
 (-1 : Int) ∧ x.n = x.n ∧ (List.length x.d.vs = List.length x.d.vs ∧ x.d.c = x.d.c) ∧ x.d.z = x.d.z ∧ x.at_ = x.at_ ∧ (x.d.vs = x.d.vs ∧ List.length x.d.vs = List.length x.d.vs
 ∧ x.d.c = x.d.c ∧ (1 : Nat) = (1 : Nat)) ∧ (y1 = if Sl.has x.d = true then (↑(List.length x.d.vs) : Int) else (-1 : Int)) ∧ ∀ (w2 : World), True → True)
 ∧ ((x.d.c == (0 : Nat) && ZB.isNil x.d.z) = false → ∃ (y3 : Int), y3 = (↑(List.length x.d.vs) : Int) ∧ x.n = x.n ∧ (List.length x.d.vs = List.length x.d.vs
 ∧ x.d.c = x.d.c) ∧ x.d.z = x.d.z ∧ x.at_ = x.at_ ∧ (x.d.vs = x.d.vs ∧ List.length x.d.vs = List.length x.d.vs ∧ x.d.c = x.d.c ∧ (1 : Nat) = (1 : Nat))
 ∧ (y3 = if Sl.has x.d = true then (↑(List.length x.d.vs) : Int) else (-1 : Int)) ∧ ∀ (w4 : World), True → True))) := by kernel_rfl
theorem rcountS_vc : goalS Γ16 c16 rcountS r16
 = (
 ∀ (x : Rm), True → ((!x.has) = true → ∃ (y : Int), y = (-1 : Int) ∧ x.n = x.n ∧ x.has = x.has ∧ (List.length x.d.vs = List.length x.d.vs ∧ x.d.c = x.d.c)
 ∧ x.d.z = x.d.z ∧ x.at_ = x.at_ ∧ (x.d.vs = x.d.vs ∧ List.length x.d.vs = List.length x.d.vs ∧ x.d.c = x.d.c ∧ (1 : Nat) = (1 : Nat)) ∧ (y = if x.has = true then
 (↑(List.length x.d.vs) : Int) else (-1 : Int)) ∧ ∀ (w : World), True → True) ∧ ((!x.has) = false → ∃ (y1 : Int), y1 = (↑(List.length x.d.vs) : Int) ∧ x.n = x.n
 ∧ x.has = x.has ∧ (List.length x.d.vs = List.length x.d.vs ∧ x.d.c = x.d.c) ∧ x.d.z = x.d.z ∧ x.at_ = x.at_ ∧ (x.d.vs = x.d.vs ∧ List.length x.d.vs = List.length x.d.vs
 ∧ x.d.c = x.d.c ∧ (1 : Nat) = (1 : Nat)) ∧ (y1 = if x.has = true then (↑(List.length x.d.vs) : Int) else (-1 : Int)) ∧ ∀ (w2 : World), True → True)) := by kernel_rfl
theorem sameS_vc : goalS Γ8 c8 sameS r8
 = (
 ∀ (x : Ak × Ak × Sl × Sl), (x.fst = x.snd.fst ∧ x.snd.snd.fst.vs = x.snd.snd.snd.vs ∧ ∀ (v : Value), v ∈ x.snd.snd.fst.vs → isU8 v) → ((x.fst.g == x.snd.fst.g) = true
 → ((x.fst.c.kind == x.snd.fst.c.kind) = true → (andL [x.fst.c.ok == x.snd.fst.c.ok, x.fst.c.ofr == x.snd.fst.c.ofr, x.fst.c.oto == x.snd.fst.c.oto, x.fst.c.oam == x.snd.fst.c.oam, x.fst.c.okey == x.snd.fst.c.okey, x.fst.c.osl == x.snd.fst.c.osl, x.fst.c.osh == x.snd.fst.c.osh] = true
 → ((ByteArray.toList x.fst.c.id == ByteArray.toList x.snd.fst.c.id) = true → ((ByteArray.toList x.fst.c.name == ByteArray.toList x.snd.fst.c.name) = true
 → ((x.fst.c.n == x.snd.fst.c.n) = true → ((x.fst.c.why == x.snd.fst.c.why) = true → ((x.fst.c.slot == x.snd.fst.c.slot) = true → ((x.fst.c.ep == x.snd.fst.c.ep) = true
 → ((x.fst.c.at_ == x.snd.fst.c.at_) = true → ((x.fst.c.last == x.snd.fst.c.last) = true → (List.length x.snd.snd.fst.vs = List.length x.snd.snd.fst.vs
 ∧ x.snd.snd.fst.c = x.snd.snd.fst.c ∧ ∀ (v : Value), v ∈ x.snd.snd.fst.vs → ∃ (n : Int), v = Value.int IntKind.u8 n) ∧ (List.length x.snd.snd.snd.vs = List.length x.snd.snd.snd.vs
 ∧ x.snd.snd.snd.c = x.snd.snd.snd.c ∧ ∀ (v1 : Value), v1 ∈ x.snd.snd.snd.vs → ∃ (n2 : Int), v1 = Value.int IntKind.u8 n2) ∧ ∃ (y : Bool), y = (ByteArray.toList
 (strOf x.snd.snd.fst.vs) == ByteArray.toList (strOf x.snd.snd.snd.vs)) ∧ (x.snd.snd.fst.vs = x.snd.snd.fst.vs ∧ List.length x.snd.snd.fst.vs = List.length x.snd.snd.fst.vs
 ∧ x.snd.snd.fst.c = x.snd.snd.fst.c ∧ (1 : Nat) = (1 : Nat)) ∧ (x.snd.snd.snd.vs = x.snd.snd.snd.vs ∧ List.length x.snd.snd.snd.vs = List.length x.snd.snd.snd.vs
 ∧ x.snd.snd.snd.c = x.snd.snd.snd.c ∧ (1 : Nat) = (1 : Nat)) ∧ y = true ∧ ∀ (w : World), True → True) ∧ ((x.fst.c.last == x.snd.fst.c.last) = false → ∃
 (y3 : Bool), y3 = false ∧ (x.snd.snd.fst.vs = x.snd.snd.fst.vs ∧ List.length x.snd.snd.fst.vs = List.length x.snd.snd.fst.vs ∧ x.snd.snd.fst.c = x.snd.snd.fst.c
 ∧ (1 : Nat) = (1 : Nat)) ∧ (x.snd.snd.snd.vs = x.snd.snd.snd.vs ∧ List.length x.snd.snd.snd.vs = List.length x.snd.snd.snd.vs ∧ x.snd.snd.snd.c = x.snd.snd.snd.c
 ∧ (1 : Nat) = (1 : Nat)) ∧ y3 = true ∧ ∀ (w4 : World), True → True)) ∧ ((x.fst.c.at_ == x.snd.fst.c.at_) = false → ∃ (y5 : Bool), y5 = false ∧ (x.snd.snd.fst.vs = x.snd.snd.fst.vs
 ∧ List.length x.snd.snd.fst.vs = List.length x.snd.snd.fst.vs ∧ x.snd.snd.fst.c = x.snd.snd.fst.c ∧ (1 : Nat) = (1 : Nat)) ∧ (x.snd.snd.snd.vs = x.snd.snd.snd.vs
 ∧ List.length x.snd.snd.snd.vs = List.length x.snd.snd.snd.vs ∧ x.snd.snd.snd.c = x.snd.snd.snd.c ∧ (1 : Nat) = (1 : Nat)) ∧ y5 = true ∧ ∀ (w6 : World), True
 → True)) ∧ ((x.fst.c.ep == x.snd.fst.c.ep) = false → ∃ (y7 : Bool), y7 = false ∧ (x.snd.snd.fst.vs = x.snd.snd.fst.vs ∧ List.length x.snd.snd.fst.vs = List.length x.snd.snd.fst.vs
 ∧ x.snd.snd.fst.c = x.snd.snd.fst.c ∧ (1 : Nat) = (1 : Nat)) ∧ (x.snd.snd.snd.vs = x.snd.snd.snd.vs ∧ List.length x.snd.snd.snd.vs = List.length x.snd.snd.snd.vs
 ∧ x.snd.snd.snd.c = x.snd.snd.snd.c ∧ (1 : Nat) = (1 : Nat)) ∧ y7 = true ∧ ∀ (w8 : World), True → True)) ∧ ((x.fst.c.slot == x.snd.fst.c.slot) = false
 → ∃ (y9 : Bool), y9 = false ∧ (x.snd.snd.fst.vs = x.snd.snd.fst.vs ∧ List.length x.snd.snd.fst.vs = List.length x.snd.snd.fst.vs ∧ x.snd.snd.fst.c = x.snd.snd.fst.c
 ∧ (1 : Nat) = (1 : Nat)) ∧ (x.snd.snd.snd.vs = x.snd.snd.snd.vs ∧ List.length x.snd.snd.snd.vs = List.length x.snd.snd.snd.vs ∧ x.snd.snd.snd.c = x.snd.snd.snd.c
 ∧ (1 : Nat) = (1 : Nat)) ∧ y9 = true ∧ ∀ (w10 : World), True → True)) ∧ ((x.fst.c.why == x.snd.fst.c.why) = false → ∃ (y11 : Bool), y11 = false ∧ (x.snd.snd.fst.vs = x.snd.snd.fst.vs
 ∧ List.length x.snd.snd.fst.vs = List.length x.snd.snd.fst.vs ∧ x.snd.snd.fst.c = x.snd.snd.fst.c ∧ (1 : Nat) = (1 : Nat)) ∧ (x.snd.snd.snd.vs = x.snd.snd.snd.vs
 ∧ List.length x.snd.snd.snd.vs = List.length x.snd.snd.snd.vs ∧ x.snd.snd.snd.c = x.snd.snd.snd.c ∧ (1 : Nat) = (1 : Nat)) ∧ y11 = true ∧ ∀ (w12 : World), True
 → True)) ∧ ((x.fst.c.n == x.snd.fst.c.n) = false → ∃ (y13 : Bool), y13 = false ∧ (x.snd.snd.fst.vs = x.snd.snd.fst.vs ∧ List.length x.snd.snd.fst.vs = List.length x.snd.snd.fst.vs
 ∧ x.snd.snd.fst.c = x.snd.snd.fst.c ∧ (1 : Nat) = (1 : Nat)) ∧ (x.snd.snd.snd.vs = x.snd.snd.snd.vs ∧ List.length x.snd.snd.snd.vs = List.length x.snd.snd.snd.vs
 ∧ x.snd.snd.snd.c = x.snd.snd.snd.c ∧ (1 : Nat) = (1 : Nat)) ∧ y13 = true ∧ ∀ (w14 : World), True → True)) ∧ ((ByteArray.toList x.fst.c.name == ByteArray.toList x.snd.fst.c.name) = false
 → ∃ (y15 : Bool), y15 = false ∧ (x.snd.snd.fst.vs = x.snd.snd.fst.vs ∧ List.length x.snd.snd.fst.vs = List.length x.snd.snd.fst.vs ∧ x.snd.snd.fst.c = x.snd.snd.fst.c
 ∧ (1 : Nat) = (1 : Nat)) ∧ (x.snd.snd.snd.vs = x.snd.snd.snd.vs ∧ List.length x.snd.snd.snd.vs = List.length x.snd.snd.snd.vs ∧ x.snd.snd.snd.c = x.snd.snd.snd.c
 ∧ (1 : Nat) = (1 : Nat)) ∧ y15 = true ∧ ∀ (w16 : World), True → True)) ∧ ((ByteArray.toList x.fst.c.id == ByteArray.toList x.snd.fst.c.id) = false → ∃
 (y17 : Bool), y17 = false ∧ (x.snd.snd.fst.vs = x.snd.snd.fst.vs ∧ List.length x.snd.snd.fst.vs = List.length x.snd.snd.fst.vs ∧ x.snd.snd.fst.c = x.snd.snd.fst.c
 ∧ (1 : Nat) = (1 : Nat)) ∧ (x.snd.snd.snd.vs = x.snd.snd.snd.vs ∧ List.length x.snd.snd.snd.vs = List.length x.snd.snd.snd.vs ∧ x.snd.snd.snd.c = x.snd.snd.snd.c
 ∧ (1 : Nat) = (1 : Nat)) ∧ y17 = true ∧ ∀ (w18 : World), True → True)) ∧ (andL [x.fst.c.ok == x.snd.fst.c.ok, x.fst.c.ofr == x.snd.fst.c.ofr, x.fst.c.oto == x.snd.fst.c.oto, x.fst.c.oam == x.snd.fst.c.oam, x.fst.c.okey == x.snd.fst.c.okey, x.fst.c.osl == x.snd.fst.c.osl, x.fst.c.osh == x.snd.fst.c.osh] = false
 → ∃ (y19 : Bool), y19 = false ∧ (x.snd.snd.fst.vs = x.snd.snd.fst.vs ∧ List.length x.snd.snd.fst.vs = List.length x.snd.snd.fst.vs ∧ x.snd.snd.fst.c = x.snd.snd.fst.c
 ∧ (1 : Nat) = (1 : Nat)) ∧ (x.snd.snd.snd.vs = x.snd.snd.snd.vs ∧ List.length x.snd.snd.snd.vs = List.length x.snd.snd.snd.vs ∧ x.snd.snd.snd.c = x.snd.snd.snd.c
 ∧ (1 : Nat) = (1 : Nat)) ∧ y19 = true ∧ ∀ (w20 : World), True → True)) ∧ ((x.fst.c.kind == x.snd.fst.c.kind) = false → ∃ (y21 : Bool), y21 = false ∧ (x.snd.snd.fst.vs = x.snd.snd.fst.vs
 ∧ List.length x.snd.snd.fst.vs = List.length x.snd.snd.fst.vs ∧ x.snd.snd.fst.c = x.snd.snd.fst.c ∧ (1 : Nat) = (1 : Nat)) ∧ (x.snd.snd.snd.vs = x.snd.snd.snd.vs
 ∧ List.length x.snd.snd.snd.vs = List.length x.snd.snd.snd.vs ∧ x.snd.snd.snd.c = x.snd.snd.snd.c ∧ (1 : Nat) = (1 : Nat)) ∧ y21 = true ∧ ∀ (w22 : World), True
 → True)) ∧ ((x.fst.g == x.snd.fst.g) = false → ∃ (y23 : Bool), y23 = false ∧ (x.snd.snd.fst.vs = x.snd.snd.fst.vs ∧ List.length x.snd.snd.fst.vs = List.length x.snd.snd.fst.vs
 ∧ x.snd.snd.fst.c = x.snd.snd.fst.c ∧ (1 : Nat) = (1 : Nat)) ∧ (x.snd.snd.snd.vs = x.snd.snd.snd.vs ∧ List.length x.snd.snd.snd.vs = List.length x.snd.snd.snd.vs
 ∧ x.snd.snd.snd.c = x.snd.snd.snd.c ∧ (1 : Nat) = (1 : Nat)) ∧ y23 = true ∧ ∀ (w24 : World), True → True)) := by kernel_rfl

end Go.Proofs.Ytgjoileoekbkoaa
