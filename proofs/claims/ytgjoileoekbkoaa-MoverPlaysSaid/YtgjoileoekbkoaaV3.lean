/-
  What is left of the contracts when the executor has run; written by vcg.py.
-/
import Derived.Test.YtgjoileoekbkoaaM0
set_option linter.unusedVariables false
set_option maxRecDepth 100000
namespace Go.Proofs.Ytgjoileoekbkoaa
open Go Go.SX
theorem rtoldT_vc : goalX c14 rtoldT r14 Γ14
 = (
 ∀ (x : RY),
 Rm.ok x.m ∧ (∀ (v : Value), v ∈ x.d → isU8 v) ∧ List.length x.d ≤ (140737488355328 : Nat) ∧ x.al ≤ (140737488355328 : Nat) →
 ∃ (x1 : Rm × Mv),
 x1.snd.slot = x.x.slot ∧
 x1.snd.frm = x.x.frm ∧
 x1.snd.to = x.x.to ∧
 x1.snd.ep = x.x.ep ∧
 x1.snd.ph = x.x.ph ∧
 x1.snd.n = x.x.n ∧
 x1.fst.n = x.m.n ∧
 x1.fst.has = x.m.has ∧
 (List.length x1.fst.d.vs = List.length x.m.d.vs ∧ x1.fst.d.c = x.m.d.c) ∧
 x1.fst.d.z = x.m.d.z ∧
 x1.fst.at_ = x.m.at_ ∧
 (x1.fst.d.vs = x.m.d.vs ∧ List.length x1.fst.d.vs = List.length x.m.d.vs ∧ x1.fst.d.c = x.m.d.c ∧ (1 : Nat) = (1 : Nat)) ∧
 (Ab.ok (Rm.ab x1.fst) ∧ List.length x1.fst.d.vs ≤ x1.fst.d.c) ∧
 (∀ (w : World), RowAt w x.da x.d → True) ∧
 ∀ (y : Rm),
 Rm.ab y = Ab.know (Rm.ab x1.fst) x1.snd ∧ Rm.ok y →
 ((x.a.c.kind == (9 : Int)) = true → ((x.a.g != x.x.to) = false → ((x.a.c.slot != x.x.slot) = false → ((x.a.c.ep != x.x.ep) = true → ∃ (y2 : Rm × Bool),
 (bif y2.snd then (2 : Int) else (0 : Int)) = (0 : Int) ∧ (0 : Int) = (0 : Int) ∧ (0 : Int) = (0 : Int) ∧ (bif y2.snd then x.x.n else (0 : Int)) = (0 : Int)
 ∧ (bif y2.snd then x.x.ph else (0 : Int)) = (0 : Int) ∧ y2.snd = false ∧ y2.fst.n = y.n ∧ y2.fst.has = y.has ∧ (List.length y2.fst.d.vs = List.length y.d.vs
 ∧ y2.fst.d.c = y.d.c) ∧ y2.fst.d.z = y.d.z ∧ y2.fst.at_ = y.at_ ∧ (y2.fst.d.vs = y.d.vs ∧ List.length y2.fst.d.vs = List.length y.d.vs ∧ y2.fst.d.c = y.d.c
 ∧ (1 : Nat) = (1 : Nat)) ∧ ((Rm.ab y2.fst, y2.snd) = Ab.told (Rm.ab x.m) x.x x.a x.al x.r.why x.d ∧ Ab.ok (Rm.ab y2.fst) ∧ List.length y2.fst.d.vs ≤ y2.fst.d.c)
 ∧ ∀ (w3 : World), RowAt w3 x.da x.d ∧ True → True) ∧ ((x.a.c.ep != x.x.ep) = false → ((((x.a.c.kind == (8 : Int)) = true → ((x.x.ph == (1 : Int)) = false
 → ((x.x.ph == (2 : Int)) = true → ∃ (x4 : Rm × Bool), x4.snd = (x.r.why == (0 : Int)) ∧ x4.fst.n = y.n ∧ x4.fst.has = y.has ∧ (List.length x4.fst.d.vs = List.length y.d.vs
 ∧ x4.fst.d.c = y.d.c) ∧ x4.fst.d.z = y.d.z ∧ x4.fst.at_ = y.at_ ∧ (x4.fst.d.vs = y.d.vs ∧ List.length x4.fst.d.vs = List.length y.d.vs ∧ x4.fst.d.c = y.d.c
 ∧ (1 : Nat) = (1 : Nat)) ∧ x.x.slot = x.x.slot ∧ x.x.frm = x.x.frm ∧ x.x.to = x.x.to ∧ x.x.ep = x.x.ep ∧ x.x.ph = x.x.ph ∧ x.x.n = x.x.n ∧ x.a.g = x.a.g
 ∧ x.a.c.kind = x.a.c.kind ∧ x.a.c.ok = x.a.c.ok ∧ x.a.c.ofr = x.a.c.ofr ∧ x.a.c.oto = x.a.c.oto ∧ x.a.c.oam = x.a.c.oam ∧ x.a.c.okey = x.a.c.okey ∧ x.a.c.osl = x.a.c.osl
 ∧ x.a.c.osh = x.a.c.osh ∧ x.a.c.id = x.a.c.id ∧ x.a.c.name = x.a.c.name ∧ x.a.c.n = x.a.c.n ∧ x.a.c.why = x.a.c.why ∧ x.a.c.slot = x.a.c.slot ∧ x.a.c.ep = x.a.c.ep
 ∧ x.a.c.at_ = x.a.c.at_ ∧ x.a.c.last = x.a.c.last ∧ (x.aa = x.aa ∧ x.al = x.al ∧ x.ac = x.ac) ∧ x.r.why = x.r.why ∧ x.r.wait = x.r.wait ∧ x.r.rwhy = x.r.rwhy
 ∧ x.r.ram = x.r.ram ∧ (x.ra = x.ra ∧ x.rn = x.rn ∧ x.rc = x.rc) ∧ (x.da = x.da ∧ List.length x.d = List.length x.d ∧ x.dc = x.dc) ∧ (0 : Int) = (0 : Int)
 ∧ (0 : Int) = (0 : Int) ∧ (0 : Int) = (0 : Int) ∧ (0 : Int) = (0 : Int) ∧ (0 : Int) = (0 : Int) ∧ x.a.c.kind = x.a.c.kind ∧ x.a.c.ok = x.a.c.ok ∧ x.a.c.ofr = x.a.c.ofr
 ∧ x.a.c.oto = x.a.c.oto ∧ x.a.c.oam = x.a.c.oam ∧ x.a.c.okey = x.a.c.okey ∧ x.a.c.osl = x.a.c.osl ∧ x.a.c.osh = x.a.c.osh ∧ x.a.c.id = x.a.c.id ∧ x.a.c.name = x.a.c.name
 ∧ x.a.c.n = x.a.c.n ∧ x.a.c.why = x.a.c.why ∧ x.a.c.slot = x.a.c.slot ∧ x.a.c.ep = x.a.c.ep ∧ x.a.c.at_ = x.a.c.at_ ∧ x.a.c.last = x.a.c.last ∧ (x.aa = x.aa
 ∧ x.al = x.al ∧ x.ac = x.ac) ∧ ((Rm.ab x4.fst = Ab.know (Rm.ab x.m) x.x ∧ Ab.ok (Rm.ab x4.fst) ∧ List.length x4.fst.d.vs ≤ x4.fst.d.c) ∧ Ab.told (Rm.ab x.m) x.x x.a x.al x.r.why x.d = Ab.hear
 (Rm.ab x4.fst) x.x x.a.c x.al x.r.why x.d ∧ x4.snd = q8 x) ∧ ∀ (w5 : World), RowAt w5 x.da x.d ∧ True → ((∀ (k : Nat) (x6 : Value), x.d[k]? = some x6 →
 ∃ (ad : Addr), x.da = some ad ∧ World.cell? w5 (Addr.add ad k) = some x6) ∧ True) ∧ True) ∧ ((x.x.ph == (2 : Int)) = false → ∃ (x7 : Rm × Bool), x7.snd = false
 ∧ x7.fst.n = y.n ∧ x7.fst.has = y.has ∧ (List.length x7.fst.d.vs = List.length y.d.vs ∧ x7.fst.d.c = y.d.c) ∧ x7.fst.d.z = y.d.z ∧ x7.fst.at_ = y.at_ ∧
 (x7.fst.d.vs = y.d.vs ∧ List.length x7.fst.d.vs = List.length y.d.vs ∧ x7.fst.d.c = y.d.c ∧ (1 : Nat) = (1 : Nat)) ∧ x.x.slot = x.x.slot ∧ x.x.frm = x.x.frm
 ∧ x.x.to = x.x.to ∧ x.x.ep = x.x.ep ∧ x.x.ph = x.x.ph ∧ x.x.n = x.x.n ∧ x.a.g = x.a.g ∧ x.a.c.kind = x.a.c.kind ∧ x.a.c.ok = x.a.c.ok ∧ x.a.c.ofr = x.a.c.ofr
 ∧ x.a.c.oto = x.a.c.oto ∧ x.a.c.oam = x.a.c.oam ∧ x.a.c.okey = x.a.c.okey ∧ x.a.c.osl = x.a.c.osl ∧ x.a.c.osh = x.a.c.osh ∧ x.a.c.id = x.a.c.id ∧ x.a.c.name = x.a.c.name
 ∧ x.a.c.n = x.a.c.n ∧ x.a.c.why = x.a.c.why ∧ x.a.c.slot = x.a.c.slot ∧ x.a.c.ep = x.a.c.ep ∧ x.a.c.at_ = x.a.c.at_ ∧ x.a.c.last = x.a.c.last ∧ (x.aa = x.aa
 ∧ x.al = x.al ∧ x.ac = x.ac) ∧ x.r.why = x.r.why ∧ x.r.wait = x.r.wait ∧ x.r.rwhy = x.r.rwhy ∧ x.r.ram = x.r.ram ∧ (x.ra = x.ra ∧ x.rn = x.rn ∧ x.rc = x.rc)
 ∧ (x.da = x.da ∧ List.length x.d = List.length x.d ∧ x.dc = x.dc) ∧ (0 : Int) = (0 : Int) ∧ (0 : Int) = (0 : Int) ∧ (0 : Int) = (0 : Int) ∧ (0 : Int) =
 (0 : Int) ∧ (0 : Int) = (0 : Int) ∧ x.a.c.kind = x.a.c.kind ∧ x.a.c.ok = x.a.c.ok ∧ x.a.c.ofr = x.a.c.ofr ∧ x.a.c.oto = x.a.c.oto ∧ x.a.c.oam = x.a.c.oam
 ∧ x.a.c.okey = x.a.c.okey ∧ x.a.c.osl = x.a.c.osl ∧ x.a.c.osh = x.a.c.osh ∧ x.a.c.id = x.a.c.id ∧ x.a.c.name = x.a.c.name ∧ x.a.c.n = x.a.c.n ∧ x.a.c.why = x.a.c.why
 ∧ x.a.c.slot = x.a.c.slot ∧ x.a.c.ep = x.a.c.ep ∧ x.a.c.at_ = x.a.c.at_ ∧ x.a.c.last = x.a.c.last ∧ (x.aa = x.aa ∧ x.al = x.al ∧ x.ac = x.ac) ∧ ((Rm.ab x7.fst = Ab.know
 (Rm.ab x.m) x.x ∧ Ab.ok (Rm.ab x7.fst) ∧ List.length x7.fst.d.vs ≤ x7.fst.d.c) ∧ Ab.told (Rm.ab x.m) x.x x.a x.al x.r.why x.d = Ab.hear (Rm.ab x7.fst) x.x x.a.c x.al x.r.why x.d
 ∧ x7.snd = q8 x) ∧ ∀ (w8 : World), RowAt w8 x.da x.d ∧ True → ((∀ (k9 : Nat) (x10 : Value), x.d[k9]? = some x10 → ∃ (ad11 : Addr), x.da = some ad11 ∧ World.cell? w8
 (Addr.add ad11 k9) = some x10) ∧ True) ∧ True)) ∧ ((x.x.ph == (1 : Int)) = true → ∃ (x12 : Rm × Bool), x12.snd = (x.r.why == (0 : Int)) ∧ x12.fst.n = y.n
 ∧ x12.fst.has = y.has ∧ (List.length x12.fst.d.vs = List.length y.d.vs ∧ x12.fst.d.c = y.d.c) ∧ x12.fst.d.z = y.d.z ∧ x12.fst.at_ = y.at_ ∧ (x12.fst.d.vs = y.d.vs
 ∧ List.length x12.fst.d.vs = List.length y.d.vs ∧ x12.fst.d.c = y.d.c ∧ (1 : Nat) = (1 : Nat)) ∧ x.x.slot = x.x.slot ∧ x.x.frm = x.x.frm ∧ x.x.to = x.x.to
 ∧ x.x.ep = x.x.ep ∧ x.x.ph = x.x.ph ∧ x.x.n = x.x.n ∧ x.a.g = x.a.g ∧ x.a.c.kind = x.a.c.kind ∧ x.a.c.ok = x.a.c.ok ∧ x.a.c.ofr = x.a.c.ofr ∧ x.a.c.oto = x.a.c.oto
 ∧ x.a.c.oam = x.a.c.oam ∧ x.a.c.okey = x.a.c.okey ∧ x.a.c.osl = x.a.c.osl ∧ x.a.c.osh = x.a.c.osh ∧ x.a.c.id = x.a.c.id ∧ x.a.c.name = x.a.c.name ∧ x.a.c.n = x.a.c.n
 ∧ x.a.c.why = x.a.c.why ∧ x.a.c.slot = x.a.c.slot ∧ x.a.c.ep = x.a.c.ep ∧ x.a.c.at_ = x.a.c.at_ ∧ x.a.c.last = x.a.c.last ∧ (x.aa = x.aa ∧ x.al = x.al
 ∧ x.ac = x.ac) ∧ x.r.why = x.r.why ∧ x.r.wait = x.r.wait ∧ x.r.rwhy = x.r.rwhy ∧ x.r.ram = x.r.ram ∧ (x.ra = x.ra ∧ x.rn = x.rn ∧ x.rc = x.rc) ∧ (x.da = x.da
 ∧ List.length x.d = List.length x.d ∧ x.dc = x.dc) ∧ (0 : Int) = (0 : Int) ∧ (0 : Int) = (0 : Int) ∧ (0 : Int) = (0 : Int) ∧ (0 : Int) = (0 : Int) ∧ (0 : Int) =
 (0 : Int) ∧ x.a.c.kind = x.a.c.kind ∧ x.a.c.ok = x.a.c.ok ∧ x.a.c.ofr = x.a.c.ofr ∧ x.a.c.oto = x.a.c.oto ∧ x.a.c.oam = x.a.c.oam ∧ x.a.c.okey = x.a.c.okey
 ∧ x.a.c.osl = x.a.c.osl ∧ x.a.c.osh = x.a.c.osh ∧ x.a.c.id = x.a.c.id ∧ x.a.c.name = x.a.c.name ∧ x.a.c.n = x.a.c.n ∧ x.a.c.why = x.a.c.why ∧ x.a.c.slot = x.a.c.slot
 ∧ x.a.c.ep = x.a.c.ep ∧ x.a.c.at_ = x.a.c.at_ ∧ x.a.c.last = x.a.c.last ∧ (x.aa = x.aa ∧ x.al = x.al ∧ x.ac = x.ac) ∧ ((Rm.ab x12.fst = Ab.know (Rm.ab x.m) x.x
 ∧ Ab.ok (Rm.ab x12.fst) ∧ List.length x12.fst.d.vs ≤ x12.fst.d.c) ∧ Ab.told (Rm.ab x.m) x.x x.a x.al x.r.why x.d = Ab.hear (Rm.ab x12.fst) x.x x.a.c x.al x.r.why x.d
 ∧ x12.snd = q8 x) ∧ ∀ (w13 : World), RowAt w13 x.da x.d ∧ True → ((∀ (k14 : Nat) (x15 : Value), x.d[k14]? = some x15 → ∃ (ad16 : Addr), x.da = some ad16
 ∧ World.cell? w13 (Addr.add ad16 k14) = some x15) ∧ True) ∧ True)) ∧ ((x.a.c.kind == (8 : Int)) = false → ∃ (x17 : Rm × Bool), x17.snd = false ∧ x17.fst.n = y.n
 ∧ x17.fst.has = y.has ∧ (List.length x17.fst.d.vs = List.length y.d.vs ∧ x17.fst.d.c = y.d.c) ∧ x17.fst.d.z = y.d.z ∧ x17.fst.at_ = y.at_ ∧ (x17.fst.d.vs = y.d.vs
 ∧ List.length x17.fst.d.vs = List.length y.d.vs ∧ x17.fst.d.c = y.d.c ∧ (1 : Nat) = (1 : Nat)) ∧ x.x.slot = x.x.slot ∧ x.x.frm = x.x.frm ∧ x.x.to = x.x.to
 ∧ x.x.ep = x.x.ep ∧ x.x.ph = x.x.ph ∧ x.x.n = x.x.n ∧ x.a.g = x.a.g ∧ x.a.c.kind = x.a.c.kind ∧ x.a.c.ok = x.a.c.ok ∧ x.a.c.ofr = x.a.c.ofr ∧ x.a.c.oto = x.a.c.oto
 ∧ x.a.c.oam = x.a.c.oam ∧ x.a.c.okey = x.a.c.okey ∧ x.a.c.osl = x.a.c.osl ∧ x.a.c.osh = x.a.c.osh ∧ x.a.c.id = x.a.c.id ∧ x.a.c.name = x.a.c.name ∧ x.a.c.n = x.a.c.n
 ∧ x.a.c.why = x.a.c.why ∧ x.a.c.slot = x.a.c.slot ∧ x.a.c.ep = x.a.c.ep ∧ x.a.c.at_ = x.a.c.at_ ∧ x.a.c.last = x.a.c.last ∧ (x.aa = x.aa ∧ x.al = x.al
 ∧ x.ac = x.ac) ∧ x.r.why = x.r.why ∧ x.r.wait = x.r.wait ∧ x.r.rwhy = x.r.rwhy ∧ x.r.ram = x.r.ram ∧ (x.ra = x.ra ∧ x.rn = x.rn ∧ x.rc = x.rc) ∧ (x.da = x.da
 ∧ List.length x.d = List.length x.d ∧ x.dc = x.dc) ∧ (0 : Int) = (0 : Int) ∧ (0 : Int) = (0 : Int) ∧ (0 : Int) = (0 : Int) ∧ (0 : Int) = (0 : Int) ∧ (0 : Int) =
 (0 : Int) ∧ x.a.c.kind = x.a.c.kind ∧ x.a.c.ok = x.a.c.ok ∧ x.a.c.ofr = x.a.c.ofr ∧ x.a.c.oto = x.a.c.oto ∧ x.a.c.oam = x.a.c.oam ∧ x.a.c.okey = x.a.c.okey
 ∧ x.a.c.osl = x.a.c.osl ∧ x.a.c.osh = x.a.c.osh ∧ x.a.c.id = x.a.c.id ∧ x.a.c.name = x.a.c.name ∧ x.a.c.n = x.a.c.n ∧ x.a.c.why = x.a.c.why ∧ x.a.c.slot = x.a.c.slot
 ∧ x.a.c.ep = x.a.c.ep ∧ x.a.c.at_ = x.a.c.at_ ∧ x.a.c.last = x.a.c.last ∧ (x.aa = x.aa ∧ x.al = x.al ∧ x.ac = x.ac) ∧ ((Rm.ab x17.fst = Ab.know (Rm.ab x.m) x.x
 ∧ Ab.ok (Rm.ab x17.fst) ∧ List.length x17.fst.d.vs ≤ x17.fst.d.c) ∧ Ab.told (Rm.ab x.m) x.x x.a x.al x.r.why x.d = Ab.hear (Rm.ab x17.fst) x.x x.a.c x.al x.r.why x.d
 ∧ x17.snd = q8 x) ∧ ∀ (w18 : World), RowAt w18 x.da x.d ∧ True → ((∀ (k19 : Nat) (x20 : Value), x.d[k19]? = some x20 → ∃ (ad21 : Addr), x.da = some ad21
 ∧ World.cell? w18 (Addr.add ad21 k19) = some x20) ∧ True) ∧ True)) ∧ ∀ (x22 : Rm × Bool), (Rm.ab x22.fst = Ab.know (Rm.ab x.m) x.x ∧ Rm.ok x22.fst) ∧ Ab.told
 (Rm.ab x.m) x.x x.a x.al x.r.why x.d = Ab.hear (Rm.ab x22.fst) x.x x.a.c x.al x.r.why x.d ∧ x22.snd = q8 x → (x22.snd = true → (∃ (news : List Value), List.length news = List.length x.d *
 (1 : Nat) ∧ (∀ (v : Value), v ∈ news → one1 v = true) ∧ (∀ (w23 : World), (RowAt w23 x.da x.d ∧ True) ∧ True → ∀ (k24 : Nat) (x25 : Value), news[k24]? = some x25
 → ∃ (ad26 : Addr), x.da = some ad26 ∧ World.cell? w23 (Addr.add ad26 k24) = some x25) ∧ List.length x.d * (1 : Nat) ≤ (140737488355328 : Nat) ∧ ∀ (c : Nat), List.length x.d ≤ c
 → (List.length x.d = (0 : Nat) → c = (0 : Nat)) → (True ∧ True) ∧ (True ∧ ((!x22.fst.has) = true → (decide ((0 : Int) > (↑(List.length x.d) : Int)) = true
 → ((x.x.ph == (1 : Int)) = true → ∃ (y27 : Rm × Bool), (bif y27.snd then (2 : Int) else (0 : Int)) = (2 : Int) ∧ (0 : Int) = (0 : Int) ∧ (0 : Int) = (0 : Int)
 ∧ (bif y27.snd then x.x.n else (0 : Int)) = x.x.n ∧ (bif y27.snd then x.x.ph else (0 : Int)) = x.x.ph ∧ y27.snd = true ∧ y27.fst.n = x22.fst.n ∧ y27.fst.has = true
 ∧ (List.length y27.fst.d.vs = List.length x.d ∧ y27.fst.d.c = c) ∧ y27.fst.d.z = ZB.nil ∧ y27.fst.at_ = (0 : Int) ∧ (y27.fst.d.vs = news ∧ List.length y27.fst.d.vs = List.length x.d
 ∧ y27.fst.d.c = c ∧ (1 : Nat) = (1 : Nat)) ∧ ((Rm.ab y27.fst, y27.snd) = Ab.told (Rm.ab x.m) x.x x.a x.al x.r.why x.d ∧ Ab.ok (Rm.ab y27.fst) ∧ List.length y27.fst.d.vs ≤ y27.fst.d.c)
 ∧ ∀ (w28 : World), (RowAt w28 x.da x.d ∧ True) ∧ True → True) ∧ ((x.x.ph == (1 : Int)) = false → ∃ (x29 : Rm), x29.n = x22.fst.n ∧ x29.has = true ∧ (List.length x29.d.vs = List.length x.d
 ∧ x29.d.c = c) ∧ x29.d.z = ZB.nil ∧ x29.at_ = (0 : Int) ∧ (x29.d.vs = news ∧ List.length x29.d.vs = List.length x.d ∧ x29.d.c = c ∧ (1 : Nat) = (1 : Nat))
 ∧ (0 : Int) = (0 : Int) ∧ (0 : Int) = (0 : Int) ∧ (0 : Int) = (0 : Int) ∧ (0 : Int) = (0 : Int) ∧ (0 : Int) = (0 : Int) ∧ ((Rm.ab x29, false) = Ab.told
 (Rm.ab x.m) x.x x.a x.al x.r.why x.d ∧ Ab.ok (Rm.ab x29) ∧ List.length x29.d.vs ≤ x29.d.c) ∧ ∀ (w30 : World), (RowAt w30 x.da x.d ∧ True) ∧ True → ((∀
 (k31 : Nat) (x32 : Value), x.d[k31]? = some x32 → ∃ (ad33 : Addr), x.da = some ad33 ∧ World.cell? w30 (Addr.add ad33 k31) = some x32) ∧ True) ∧ True))
 ∧ (decide ((0 : Int) > (↑(List.length x.d) : Int)) = false → ((x.x.ph == (1 : Int)) = true → ∃ (y34 : Rm × Bool), (bif y34.snd then (2 : Int) else (0 : Int)) =
 (2 : Int) ∧ (0 : Int) = (0 : Int) ∧ (0 : Int) = (0 : Int) ∧ (bif y34.snd then x.x.n else (0 : Int)) = x.x.n ∧ (bif y34.snd then x.x.ph else (0 : Int)) = x.x.ph
 ∧ y34.snd = true ∧ y34.fst.n = x22.fst.n ∧ y34.fst.has = true ∧ (List.length y34.fst.d.vs = List.length x.d ∧ y34.fst.d.c = c) ∧ y34.fst.d.z = ZB.nil ∧ y34.fst.at_ =
 (0 : Int) ∧ (y34.fst.d.vs = news ∧ List.length y34.fst.d.vs = List.length x.d ∧ y34.fst.d.c = c ∧ (1 : Nat) = (1 : Nat)) ∧ ((Rm.ab y34.fst, y34.snd) = Ab.told
 (Rm.ab x.m) x.x x.a x.al x.r.why x.d ∧ Ab.ok (Rm.ab y34.fst) ∧ List.length y34.fst.d.vs ≤ y34.fst.d.c) ∧ ∀ (w35 : World), (RowAt w35 x.da x.d ∧ True) ∧ True
 → True) ∧ ((x.x.ph == (1 : Int)) = false → ∃ (x36 : Rm), x36.n = x22.fst.n ∧ x36.has = true ∧ (List.length x36.d.vs = List.length x.d ∧ x36.d.c = c) ∧ x36.d.z = ZB.nil
 ∧ x36.at_ = (0 : Int) ∧ (x36.d.vs = news ∧ List.length x36.d.vs = List.length x.d ∧ x36.d.c = c ∧ (1 : Nat) = (1 : Nat)) ∧ (0 : Int) = (0 : Int) ∧ (0 : Int) =
 (0 : Int) ∧ (0 : Int) = (0 : Int) ∧ (0 : Int) = (0 : Int) ∧ (0 : Int) = (0 : Int) ∧ ((Rm.ab x36, false) = Ab.told (Rm.ab x.m) x.x x.a x.al x.r.why x.d
 ∧ Ab.ok (Rm.ab x36) ∧ List.length x36.d.vs ≤ x36.d.c) ∧ ∀ (w37 : World), (RowAt w37 x.da x.d ∧ True) ∧ True → ((∀ (k38 : Nat) (x39 : Value), x.d[k38]? = some x39
 → ∃ (ad40 : Addr), x.da = some ad40 ∧ World.cell? w37 (Addr.add ad40 k38) = some x39) ∧ True) ∧ True))) ∧ ((!x22.fst.has) = false → (decide (x22.fst.at_ >
 (↑(List.length x.d) : Int)) = true → ((x.x.ph == (1 : Int)) = true → ∃ (y41 : Rm × Bool), (bif y41.snd then (2 : Int) else (0 : Int)) = (2 : Int) ∧ (0 : Int) =
 (0 : Int) ∧ (0 : Int) = (0 : Int) ∧ (bif y41.snd then x.x.n else (0 : Int)) = x.x.n ∧ (bif y41.snd then x.x.ph else (0 : Int)) = x.x.ph ∧ y41.snd = true
 ∧ y41.fst.n = x22.fst.n ∧ y41.fst.has = true ∧ (List.length y41.fst.d.vs = List.length x.d ∧ y41.fst.d.c = c) ∧ y41.fst.d.z = ZB.nil ∧ y41.fst.at_ = (0 : Int)
 ∧ (y41.fst.d.vs = news ∧ List.length y41.fst.d.vs = List.length x.d ∧ y41.fst.d.c = c ∧ (1 : Nat) = (1 : Nat)) ∧ ((Rm.ab y41.fst, y41.snd) = Ab.told (Rm.ab x.m) x.x x.a x.al x.r.why x.d
 ∧ Ab.ok (Rm.ab y41.fst) ∧ List.length y41.fst.d.vs ≤ y41.fst.d.c) ∧ ∀ (w42 : World), (RowAt w42 x.da x.d ∧ True) ∧ True → True) ∧ ((x.x.ph == (1 : Int)) = false
 → ∃ (x43 : Rm), x43.n = x22.fst.n ∧ x43.has = true ∧ (List.length x43.d.vs = List.length x.d ∧ x43.d.c = c) ∧ x43.d.z = ZB.nil ∧ x43.at_ = (0 : Int) ∧
 (x43.d.vs = news ∧ List.length x43.d.vs = List.length x.d ∧ x43.d.c = c ∧ (1 : Nat) = (1 : Nat)) ∧ (0 : Int) = (0 : Int) ∧ (0 : Int) = (0 : Int) ∧ (0 : Int) =
 (0 : Int) ∧ (0 : Int) = (0 : Int) ∧ (0 : Int) = (0 : Int) ∧ ((Rm.ab x43, false) = Ab.told (Rm.ab x.m) x.x x.a x.al x.r.why x.d ∧ Ab.ok (Rm.ab x43) ∧ List.length x43.d.vs ≤ x43.d.c)
 ∧ ∀ (w44 : World), (RowAt w44 x.da x.d ∧ True) ∧ True → ((∀ (k45 : Nat) (x46 : Value), x.d[k45]? = some x46 → ∃ (ad47 : Addr), x.da = some ad47 ∧ World.cell? w44
 (Addr.add ad47 k45) = some x46) ∧ True) ∧ True)) ∧ (decide (x22.fst.at_ > (↑(List.length x.d) : Int)) = false → ((x.x.ph == (1 : Int)) = true → ∃ (y48 : Rm × Bool),
 (bif y48.snd then (2 : Int) else (0 : Int)) = (2 : Int) ∧ (0 : Int) = (0 : Int) ∧ (0 : Int) = (0 : Int) ∧ (bif y48.snd then x.x.n else (0 : Int)) = x.x.n
 ∧ (bif y48.snd then x.x.ph else (0 : Int)) = x.x.ph ∧ y48.snd = true ∧ y48.fst.n = x22.fst.n ∧ y48.fst.has = true ∧ (List.length y48.fst.d.vs = List.length x.d
 ∧ y48.fst.d.c = c) ∧ y48.fst.d.z = ZB.nil ∧ y48.fst.at_ = x22.fst.at_ ∧ (y48.fst.d.vs = news ∧ List.length y48.fst.d.vs = List.length x.d ∧ y48.fst.d.c = c
 ∧ (1 : Nat) = (1 : Nat)) ∧ ((Rm.ab y48.fst, y48.snd) = Ab.told (Rm.ab x.m) x.x x.a x.al x.r.why x.d ∧ Ab.ok (Rm.ab y48.fst) ∧ List.length y48.fst.d.vs ≤ y48.fst.d.c)
 ∧ ∀ (w49 : World), (RowAt w49 x.da x.d ∧ True) ∧ True → True) ∧ ((x.x.ph == (1 : Int)) = false → ∃ (x50 : Rm), x50.n = x22.fst.n ∧ x50.has = true ∧ (List.length x50.d.vs = List.length x.d
 ∧ x50.d.c = c) ∧ x50.d.z = ZB.nil ∧ x50.at_ = x22.fst.at_ ∧ (x50.d.vs = news ∧ List.length x50.d.vs = List.length x.d ∧ x50.d.c = c ∧ (1 : Nat) = (1 : Nat))
 ∧ (0 : Int) = (0 : Int) ∧ (0 : Int) = (0 : Int) ∧ (0 : Int) = (0 : Int) ∧ (0 : Int) = (0 : Int) ∧ (0 : Int) = (0 : Int) ∧ ((Rm.ab x50, false) = Ab.told
 (Rm.ab x.m) x.x x.a x.al x.r.why x.d ∧ Ab.ok (Rm.ab x50) ∧ List.length x50.d.vs ≤ x50.d.c) ∧ ∀ (w51 : World), (RowAt w51 x.da x.d ∧ True) ∧ True → ((∀
 (k52 : Nat) (x53 : Value), x.d[k52]? = some x53 → ∃ (ad54 : Addr), x.da = some ad54 ∧ World.cell? w51 (Addr.add ad54 k52) = some x53) ∧ True) ∧ True))))
 ∧ True) ∧ True) ∧ (x22.snd = false → (((x.a.c.kind == (9 : Int)) = true → ((x.x.ph == (2 : Int)) = true → (x22.fst.has = true → ∃ (x55 : Rm × Bool), x55.snd =
 (x.a.c.at_ == x22.fst.at_) ∧ x55.fst.n = x22.fst.n ∧ x55.fst.has = x22.fst.has ∧ (List.length x55.fst.d.vs = List.length x22.fst.d.vs ∧ x55.fst.d.c = x22.fst.d.c)
 ∧ x55.fst.d.z = x22.fst.d.z ∧ x55.fst.at_ = x22.fst.at_ ∧ (x55.fst.d.vs = x22.fst.d.vs ∧ List.length x55.fst.d.vs = List.length x22.fst.d.vs ∧ x55.fst.d.c = x22.fst.d.c
 ∧ (1 : Nat) = (1 : Nat)) ∧ x.x.slot = x.x.slot ∧ x.x.frm = x.x.frm ∧ x.x.to = x.x.to ∧ x.x.ep = x.x.ep ∧ x.x.ph = x.x.ph ∧ x.x.n = x.x.n ∧ x.a.g = x.a.g
 ∧ x.a.c.kind = x.a.c.kind ∧ x.a.c.ok = x.a.c.ok ∧ x.a.c.ofr = x.a.c.ofr ∧ x.a.c.oto = x.a.c.oto ∧ x.a.c.oam = x.a.c.oam ∧ x.a.c.okey = x.a.c.okey ∧ x.a.c.osl = x.a.c.osl
 ∧ x.a.c.osh = x.a.c.osh ∧ x.a.c.id = x.a.c.id ∧ x.a.c.name = x.a.c.name ∧ x.a.c.n = x.a.c.n ∧ x.a.c.why = x.a.c.why ∧ x.a.c.slot = x.a.c.slot ∧ x.a.c.ep = x.a.c.ep
 ∧ x.a.c.at_ = x.a.c.at_ ∧ x.a.c.last = x.a.c.last ∧ (x.aa = x.aa ∧ x.al = x.al ∧ x.ac = x.ac) ∧ x.r.why = x.r.why ∧ x.r.wait = x.r.wait ∧ x.r.rwhy = x.r.rwhy
 ∧ x.r.ram = x.r.ram ∧ (x.ra = x.ra ∧ x.rn = x.rn ∧ x.rc = x.rc) ∧ (x.da = x.da ∧ List.length x.d = List.length x.d ∧ x.dc = x.dc) ∧ (0 : Int) = (0 : Int)
 ∧ (0 : Int) = (0 : Int) ∧ (0 : Int) = (0 : Int) ∧ (0 : Int) = (0 : Int) ∧ (0 : Int) = (0 : Int) ∧ x.a.c.kind = x.a.c.kind ∧ x.a.c.ok = x.a.c.ok ∧ x.a.c.ofr = x.a.c.ofr
 ∧ x.a.c.oto = x.a.c.oto ∧ x.a.c.oam = x.a.c.oam ∧ x.a.c.okey = x.a.c.okey ∧ x.a.c.osl = x.a.c.osl ∧ x.a.c.osh = x.a.c.osh ∧ x.a.c.id = x.a.c.id ∧ x.a.c.name = x.a.c.name
 ∧ x.a.c.n = x.a.c.n ∧ x.a.c.why = x.a.c.why ∧ x.a.c.slot = x.a.c.slot ∧ x.a.c.ep = x.a.c.ep ∧ x.a.c.at_ = x.a.c.at_ ∧ x.a.c.last = x.a.c.last ∧ (x.aa = x.aa
 ∧ x.al = x.al ∧ x.ac = x.ac) ∧ ((Rm.ab x55.fst = Ab.know (Rm.ab x.m) x.x ∧ Ab.ok (Rm.ab x55.fst) ∧ List.length x55.fst.d.vs ≤ x55.fst.d.c) ∧ Ab.told (Rm.ab x.m) x.x x.a x.al x.r.why x.d = Ab.hear
 (Rm.ab x55.fst) x.x x.a.c x.al x.r.why x.d ∧ q8 x = false ∧ x55.snd = q9 x x55.fst) ∧ ∀ (w56 : World), (RowAt w56 x.da x.d ∧ True) ∧ True → (((∀ (k57 : Nat)
 (x58 : Value), x.d[k57]? = some x58 → ∃ (ad59 : Addr), x.da = some ad59 ∧ World.cell? w56 (Addr.add ad59 k57) = some x58) ∧ True) ∧ True) ∧ True) ∧ (x22.fst.has = false
 → ∃ (x60 : Rm × Bool), x60.snd = false ∧ x60.fst.n = x22.fst.n ∧ x60.fst.has = x22.fst.has ∧ (List.length x60.fst.d.vs = List.length x22.fst.d.vs ∧ x60.fst.d.c = x22.fst.d.c)
 ∧ x60.fst.d.z = x22.fst.d.z ∧ x60.fst.at_ = x22.fst.at_ ∧ (x60.fst.d.vs = x22.fst.d.vs ∧ List.length x60.fst.d.vs = List.length x22.fst.d.vs ∧ x60.fst.d.c = x22.fst.d.c
 ∧ (1 : Nat) = (1 : Nat)) ∧ x.x.slot = x.x.slot ∧ x.x.frm = x.x.frm ∧ x.x.to = x.x.to ∧ x.x.ep = x.x.ep ∧ x.x.ph = x.x.ph ∧ x.x.n = x.x.n ∧ x.a.g = x.a.g
 ∧ x.a.c.kind = x.a.c.kind ∧ x.a.c.ok = x.a.c.ok ∧ x.a.c.ofr = x.a.c.ofr ∧ x.a.c.oto = x.a.c.oto ∧ x.a.c.oam = x.a.c.oam ∧ x.a.c.okey = x.a.c.okey ∧ x.a.c.osl = x.a.c.osl
 ∧ x.a.c.osh = x.a.c.osh ∧ x.a.c.id = x.a.c.id ∧ x.a.c.name = x.a.c.name ∧ x.a.c.n = x.a.c.n ∧ x.a.c.why = x.a.c.why ∧ x.a.c.slot = x.a.c.slot ∧ x.a.c.ep = x.a.c.ep
 ∧ x.a.c.at_ = x.a.c.at_ ∧ x.a.c.last = x.a.c.last ∧ (x.aa = x.aa ∧ x.al = x.al ∧ x.ac = x.ac) ∧ x.r.why = x.r.why ∧ x.r.wait = x.r.wait ∧ x.r.rwhy = x.r.rwhy
 ∧ x.r.ram = x.r.ram ∧ (x.ra = x.ra ∧ x.rn = x.rn ∧ x.rc = x.rc) ∧ (x.da = x.da ∧ List.length x.d = List.length x.d ∧ x.dc = x.dc) ∧ (0 : Int) = (0 : Int)
 ∧ (0 : Int) = (0 : Int) ∧ (0 : Int) = (0 : Int) ∧ (0 : Int) = (0 : Int) ∧ (0 : Int) = (0 : Int) ∧ x.a.c.kind = x.a.c.kind ∧ x.a.c.ok = x.a.c.ok ∧ x.a.c.ofr = x.a.c.ofr
 ∧ x.a.c.oto = x.a.c.oto ∧ x.a.c.oam = x.a.c.oam ∧ x.a.c.okey = x.a.c.okey ∧ x.a.c.osl = x.a.c.osl ∧ x.a.c.osh = x.a.c.osh ∧ x.a.c.id = x.a.c.id ∧ x.a.c.name = x.a.c.name
 ∧ x.a.c.n = x.a.c.n ∧ x.a.c.why = x.a.c.why ∧ x.a.c.slot = x.a.c.slot ∧ x.a.c.ep = x.a.c.ep ∧ x.a.c.at_ = x.a.c.at_ ∧ x.a.c.last = x.a.c.last ∧ (x.aa = x.aa
 ∧ x.al = x.al ∧ x.ac = x.ac) ∧ ((Rm.ab x60.fst = Ab.know (Rm.ab x.m) x.x ∧ Ab.ok (Rm.ab x60.fst) ∧ List.length x60.fst.d.vs ≤ x60.fst.d.c) ∧ Ab.told (Rm.ab x.m) x.x x.a x.al x.r.why x.d = Ab.hear
 (Rm.ab x60.fst) x.x x.a.c x.al x.r.why x.d ∧ q8 x = false ∧ x60.snd = q9 x x60.fst) ∧ ∀ (w61 : World), (RowAt w61 x.da x.d ∧ True) ∧ True → (((∀ (k62 : Nat)
 (x63 : Value), x.d[k62]? = some x63 → ∃ (ad64 : Addr), x.da = some ad64 ∧ World.cell? w61 (Addr.add ad64 k62) = some x63) ∧ True) ∧ True) ∧ True)) ∧ ((x.x.ph ==
 (2 : Int)) = false → ∃ (x65 : Rm × Bool), x65.snd = false ∧ x65.fst.n = x22.fst.n ∧ x65.fst.has = x22.fst.has ∧ (List.length x65.fst.d.vs = List.length x22.fst.d.vs
 ∧ x65.fst.d.c = x22.fst.d.c) ∧ x65.fst.d.z = x22.fst.d.z ∧ x65.fst.at_ = x22.fst.at_ ∧ (x65.fst.d.vs = x22.fst.d.vs ∧ List.length x65.fst.d.vs = List.length x22.fst.d.vs
 ∧ x65.fst.d.c = x22.fst.d.c ∧ (1 : Nat) = (1 : Nat)) ∧ x.x.slot = x.x.slot ∧ x.x.frm = x.x.frm ∧ x.x.to = x.x.to ∧ x.x.ep = x.x.ep ∧ x.x.ph = x.x.ph ∧ x.x.n = x.x.n
 ∧ x.a.g = x.a.g ∧ x.a.c.kind = x.a.c.kind ∧ x.a.c.ok = x.a.c.ok ∧ x.a.c.ofr = x.a.c.ofr ∧ x.a.c.oto = x.a.c.oto ∧ x.a.c.oam = x.a.c.oam ∧ x.a.c.okey = x.a.c.okey
 ∧ x.a.c.osl = x.a.c.osl ∧ x.a.c.osh = x.a.c.osh ∧ x.a.c.id = x.a.c.id ∧ x.a.c.name = x.a.c.name ∧ x.a.c.n = x.a.c.n ∧ x.a.c.why = x.a.c.why ∧ x.a.c.slot = x.a.c.slot
 ∧ x.a.c.ep = x.a.c.ep ∧ x.a.c.at_ = x.a.c.at_ ∧ x.a.c.last = x.a.c.last ∧ (x.aa = x.aa ∧ x.al = x.al ∧ x.ac = x.ac) ∧ x.r.why = x.r.why ∧ x.r.wait = x.r.wait
 ∧ x.r.rwhy = x.r.rwhy ∧ x.r.ram = x.r.ram ∧ (x.ra = x.ra ∧ x.rn = x.rn ∧ x.rc = x.rc) ∧ (x.da = x.da ∧ List.length x.d = List.length x.d ∧ x.dc = x.dc)
 ∧ (0 : Int) = (0 : Int) ∧ (0 : Int) = (0 : Int) ∧ (0 : Int) = (0 : Int) ∧ (0 : Int) = (0 : Int) ∧ (0 : Int) = (0 : Int) ∧ x.a.c.kind = x.a.c.kind ∧ x.a.c.ok = x.a.c.ok
 ∧ x.a.c.ofr = x.a.c.ofr ∧ x.a.c.oto = x.a.c.oto ∧ x.a.c.oam = x.a.c.oam ∧ x.a.c.okey = x.a.c.okey ∧ x.a.c.osl = x.a.c.osl ∧ x.a.c.osh = x.a.c.osh ∧ x.a.c.id = x.a.c.id
 ∧ x.a.c.name = x.a.c.name ∧ x.a.c.n = x.a.c.n ∧ x.a.c.why = x.a.c.why ∧ x.a.c.slot = x.a.c.slot ∧ x.a.c.ep = x.a.c.ep ∧ x.a.c.at_ = x.a.c.at_ ∧ x.a.c.last = x.a.c.last
 ∧ (x.aa = x.aa ∧ x.al = x.al ∧ x.ac = x.ac) ∧ ((Rm.ab x65.fst = Ab.know (Rm.ab x.m) x.x ∧ Ab.ok (Rm.ab x65.fst) ∧ List.length x65.fst.d.vs ≤ x65.fst.d.c)
 ∧ Ab.told (Rm.ab x.m) x.x x.a x.al x.r.why x.d = Ab.hear (Rm.ab x65.fst) x.x x.a.c x.al x.r.why x.d ∧ q8 x = false ∧ x65.snd = q9 x x65.fst) ∧ ∀ (w66 : World),
 (RowAt w66 x.da x.d ∧ True) ∧ True → (((∀ (k67 : Nat) (x68 : Value), x.d[k67]? = some x68 → ∃ (ad69 : Addr), x.da = some ad69 ∧ World.cell? w66 (Addr.add ad69 k67) = some x68)
 ∧ True) ∧ True) ∧ True)) ∧ ((x.a.c.kind == (9 : Int)) = false → ∃ (x70 : Rm × Bool), x70.snd = false ∧ x70.fst.n = x22.fst.n ∧ x70.fst.has = x22.fst.has
 ∧ (List.length x70.fst.d.vs = List.length x22.fst.d.vs ∧ x70.fst.d.c = x22.fst.d.c) ∧ x70.fst.d.z = x22.fst.d.z ∧ x70.fst.at_ = x22.fst.at_ ∧ (x70.fst.d.vs = x22.fst.d.vs
 ∧ List.length x70.fst.d.vs = List.length x22.fst.d.vs ∧ x70.fst.d.c = x22.fst.d.c ∧ (1 : Nat) = (1 : Nat)) ∧ x.x.slot = x.x.slot ∧ x.x.frm = x.x.frm ∧ x.x.to = x.x.to
 ∧ x.x.ep = x.x.ep ∧ x.x.ph = x.x.ph ∧ x.x.n = x.x.n ∧ x.a.g = x.a.g ∧ x.a.c.kind = x.a.c.kind ∧ x.a.c.ok = x.a.c.ok ∧ x.a.c.ofr = x.a.c.ofr ∧ x.a.c.oto = x.a.c.oto
 ∧ x.a.c.oam = x.a.c.oam ∧ x.a.c.okey = x.a.c.okey ∧ x.a.c.osl = x.a.c.osl ∧ x.a.c.osh = x.a.c.osh ∧ x.a.c.id = x.a.c.id ∧ x.a.c.name = x.a.c.name ∧ x.a.c.n = x.a.c.n
 ∧ x.a.c.why = x.a.c.why ∧ x.a.c.slot = x.a.c.slot ∧ x.a.c.ep = x.a.c.ep ∧ x.a.c.at_ = x.a.c.at_ ∧ x.a.c.last = x.a.c.last ∧ (x.aa = x.aa ∧ x.al = x.al
 ∧ x.ac = x.ac) ∧ x.r.why = x.r.why ∧ x.r.wait = x.r.wait ∧ x.r.rwhy = x.r.rwhy ∧ x.r.ram = x.r.ram ∧ (x.ra = x.ra ∧ x.rn = x.rn ∧ x.rc = x.rc) ∧ (x.da = x.da
 ∧ List.length x.d = List.length x.d ∧ x.dc = x.dc) ∧ (0 : Int) = (0 : Int) ∧ (0 : Int) = (0 : Int) ∧ (0 : Int) = (0 : Int) ∧ (0 : Int) = (0 : Int) ∧ (0 : Int) =
 (0 : Int) ∧ x.a.c.kind = x.a.c.kind ∧ x.a.c.ok = x.a.c.ok ∧ x.a.c.ofr = x.a.c.ofr ∧ x.a.c.oto = x.a.c.oto ∧ x.a.c.oam = x.a.c.oam ∧ x.a.c.okey = x.a.c.okey
 ∧ x.a.c.osl = x.a.c.osl ∧ x.a.c.osh = x.a.c.osh ∧ x.a.c.id = x.a.c.id ∧ x.a.c.name = x.a.c.name ∧ x.a.c.n = x.a.c.n ∧ x.a.c.why = x.a.c.why ∧ x.a.c.slot = x.a.c.slot
 ∧ x.a.c.ep = x.a.c.ep ∧ x.a.c.at_ = x.a.c.at_ ∧ x.a.c.last = x.a.c.last ∧ (x.aa = x.aa ∧ x.al = x.al ∧ x.ac = x.ac) ∧ ((Rm.ab x70.fst = Ab.know (Rm.ab x.m) x.x
 ∧ Ab.ok (Rm.ab x70.fst) ∧ List.length x70.fst.d.vs ≤ x70.fst.d.c) ∧ Ab.told (Rm.ab x.m) x.x x.a x.al x.r.why x.d = Ab.hear (Rm.ab x70.fst) x.x x.a.c x.al x.r.why x.d
 ∧ q8 x = false ∧ x70.snd = q9 x x70.fst) ∧ ∀ (w71 : World), (RowAt w71 x.da x.d ∧ True) ∧ True → (((∀ (k72 : Nat) (x73 : Value), x.d[k72]? = some x73 →
 ∃ (ad74 : Addr), x.da = some ad74 ∧ World.cell? w71 (Addr.add ad74 k72) = some x73) ∧ True) ∧ True) ∧ True)) ∧ ∀ (x75 : Rm × Bool), (Rm.ab x75.fst = Ab.know
 (Rm.ab x.m) x.x ∧ Rm.ok x75.fst) ∧ Ab.told (Rm.ab x.m) x.x x.a x.al x.r.why x.d = Ab.hear (Rm.ab x75.fst) x.x x.a.c x.al x.r.why x.d ∧ q8 x = false ∧ x75.snd = q9 x x75.fst
 → (x75.snd = true → ((x.r.why == (5 : Int)) = false → ((x.r.why == (3 : Int)) = true → ((x.r.why == (0 : Int)) = true → (True ∧ (decide (IntKind.wrap IntKind.i64
 ((0 : Int) + (↑x.al : Int)) > (↑(List.length x75.fst.d.vs) : Int)) = true → (x.a.c.last = true → ∃ (y76 : Rm × Bool), (bif y76.snd then (2 : Int) else
 (0 : Int)) = (2 : Int) ∧ (0 : Int) = (0 : Int) ∧ (0 : Int) = (0 : Int) ∧ (bif y76.snd then x.x.n else (0 : Int)) = x.x.n ∧ (bif y76.snd then x.x.ph else
 (0 : Int)) = x.x.ph ∧ y76.snd = true ∧ y76.fst.n = x75.fst.n ∧ y76.fst.has = x75.fst.has ∧ (List.length y76.fst.d.vs = List.length x75.fst.d.vs ∧ y76.fst.d.c = x75.fst.d.c)
 ∧ y76.fst.d.z = x75.fst.d.z ∧ y76.fst.at_ = (↑(List.length x75.fst.d.vs) : Int) ∧ (y76.fst.d.vs = x75.fst.d.vs ∧ List.length y76.fst.d.vs = List.length x75.fst.d.vs
 ∧ y76.fst.d.c = x75.fst.d.c ∧ (1 : Nat) = (1 : Nat)) ∧ ((Rm.ab y76.fst, y76.snd) = Ab.told (Rm.ab x.m) x.x x.a x.al x.r.why x.d ∧ Ab.ok (Rm.ab y76.fst)
 ∧ List.length y76.fst.d.vs ≤ y76.fst.d.c) ∧ ∀ (w77 : World), ((RowAt w77 x.da x.d ∧ True) ∧ True) ∧ True → True) ∧ (x.a.c.last = false → ∃ (x78 : Rm), x78.n = x75.fst.n
 ∧ x78.has = x75.fst.has ∧ (List.length x78.d.vs = List.length x75.fst.d.vs ∧ x78.d.c = x75.fst.d.c) ∧ x78.d.z = x75.fst.d.z ∧ x78.at_ = (↑(List.length x75.fst.d.vs) : Int)
 ∧ (x78.d.vs = x75.fst.d.vs ∧ List.length x78.d.vs = List.length x75.fst.d.vs ∧ x78.d.c = x75.fst.d.c ∧ (1 : Nat) = (1 : Nat)) ∧ (0 : Int) = (0 : Int) ∧
 (0 : Int) = (0 : Int) ∧ (0 : Int) = (0 : Int) ∧ (0 : Int) = (0 : Int) ∧ (0 : Int) = (0 : Int) ∧ ((Rm.ab x78, false) = Ab.told (Rm.ab x.m) x.x x.a x.al x.r.why x.d
 ∧ Ab.ok (Rm.ab x78) ∧ List.length x78.d.vs ≤ x78.d.c) ∧ ∀ (w79 : World), ((RowAt w79 x.da x.d ∧ True) ∧ True) ∧ True → ((∀ (k80 : Nat) (x81 : Value), x.d[k80]? = some x81
 → ∃ (ad82 : Addr), x.da = some ad82 ∧ World.cell? w79 (Addr.add ad82 k80) = some x81) ∧ True) ∧ True)) ∧ (decide (IntKind.wrap IntKind.i64 ((0 : Int) +
 (↑x.al : Int)) > (↑(List.length x75.fst.d.vs) : Int)) = false → (x.a.c.last = true → ∃ (y83 : Rm × Bool), (bif y83.snd then (2 : Int) else (0 : Int)) =
 (2 : Int) ∧ (0 : Int) = (0 : Int) ∧ (0 : Int) = (0 : Int) ∧ (bif y83.snd then x.x.n else (0 : Int)) = x.x.n ∧ (bif y83.snd then x.x.ph else (0 : Int)) = x.x.ph
 ∧ y83.snd = true ∧ y83.fst.n = x75.fst.n ∧ y83.fst.has = x75.fst.has ∧ (List.length y83.fst.d.vs = List.length x75.fst.d.vs ∧ y83.fst.d.c = x75.fst.d.c)
 ∧ y83.fst.d.z = x75.fst.d.z ∧ y83.fst.at_ = IntKind.wrap IntKind.i64 ((0 : Int) + (↑x.al : Int)) ∧ (y83.fst.d.vs = x75.fst.d.vs ∧ List.length y83.fst.d.vs = List.length x75.fst.d.vs
 ∧ y83.fst.d.c = x75.fst.d.c ∧ (1 : Nat) = (1 : Nat)) ∧ ((Rm.ab y83.fst, y83.snd) = Ab.told (Rm.ab x.m) x.x x.a x.al x.r.why x.d ∧ Ab.ok (Rm.ab y83.fst)
 ∧ List.length y83.fst.d.vs ≤ y83.fst.d.c) ∧ ∀ (w84 : World), ((RowAt w84 x.da x.d ∧ True) ∧ True) ∧ True → True) ∧ (x.a.c.last = false → ∃ (x85 : Rm), x85.n = x75.fst.n
 ∧ x85.has = x75.fst.has ∧ (List.length x85.d.vs = List.length x75.fst.d.vs ∧ x85.d.c = x75.fst.d.c) ∧ x85.d.z = x75.fst.d.z ∧ x85.at_ = IntKind.wrap IntKind.i64
 ((0 : Int) + (↑x.al : Int)) ∧ (x85.d.vs = x75.fst.d.vs ∧ List.length x85.d.vs = List.length x75.fst.d.vs ∧ x85.d.c = x75.fst.d.c ∧ (1 : Nat) = (1 : Nat))
 ∧ (0 : Int) = (0 : Int) ∧ (0 : Int) = (0 : Int) ∧ (0 : Int) = (0 : Int) ∧ (0 : Int) = (0 : Int) ∧ (0 : Int) = (0 : Int) ∧ ((Rm.ab x85, false) = Ab.told
 (Rm.ab x.m) x.x x.a x.al x.r.why x.d ∧ Ab.ok (Rm.ab x85) ∧ List.length x85.d.vs ≤ x85.d.c) ∧ ∀ (w86 : World), ((RowAt w86 x.da x.d ∧ True) ∧ True) ∧ True
 → ((∀ (k87 : Nat) (x88 : Value), x.d[k87]? = some x88 → ∃ (ad89 : Addr), x.da = some ad89 ∧ World.cell? w86 (Addr.add ad89 k87) = some x88) ∧ True) ∧ True)))
 ∧ True) ∧ ((x.r.why == (0 : Int)) = false → ∃ (x90 : Rm), x90.n = x75.fst.n ∧ x90.has = x75.fst.has ∧ (List.length x90.d.vs = List.length x75.fst.d.vs
 ∧ x90.d.c = x75.fst.d.c) ∧ x90.d.z = x75.fst.d.z ∧ x90.at_ = (0 : Int) ∧ (x90.d.vs = x75.fst.d.vs ∧ List.length x90.d.vs = List.length x75.fst.d.vs ∧ x90.d.c = x75.fst.d.c
 ∧ (1 : Nat) = (1 : Nat)) ∧ (0 : Int) = (0 : Int) ∧ (0 : Int) = (0 : Int) ∧ (0 : Int) = (0 : Int) ∧ (0 : Int) = (0 : Int) ∧ (0 : Int) = (0 : Int) ∧ ((Rm.ab x90, false) = Ab.told
 (Rm.ab x.m) x.x x.a x.al x.r.why x.d ∧ Ab.ok (Rm.ab x90) ∧ List.length x90.d.vs ≤ x90.d.c) ∧ ∀ (w91 : World), ((RowAt w91 x.da x.d ∧ True) ∧ True) ∧ True
 → ((∀ (k92 : Nat) (x93 : Value), x.d[k92]? = some x93 → ∃ (ad94 : Addr), x.da = some ad94 ∧ World.cell? w91 (Addr.add ad94 k92) = some x93) ∧ True) ∧ True))
 ∧ ((x.r.why == (3 : Int)) = false → ((x.r.why == (0 : Int)) = true → (True ∧ (decide (IntKind.wrap IntKind.i64 (x75.fst.at_ + (↑x.al : Int)) > (↑(List.length x75.fst.d.vs) : Int)) = true
 → (x.a.c.last = true → ∃ (y95 : Rm × Bool), (bif y95.snd then (2 : Int) else (0 : Int)) = (2 : Int) ∧ (0 : Int) = (0 : Int) ∧ (0 : Int) = (0 : Int) ∧ (bif y95.snd then x.x.n else
 (0 : Int)) = x.x.n ∧ (bif y95.snd then x.x.ph else (0 : Int)) = x.x.ph ∧ y95.snd = true ∧ y95.fst.n = x75.fst.n ∧ y95.fst.has = x75.fst.has ∧ (List.length y95.fst.d.vs = List.length x75.fst.d.vs
 ∧ y95.fst.d.c = x75.fst.d.c) ∧ y95.fst.d.z = x75.fst.d.z ∧ y95.fst.at_ = (↑(List.length x75.fst.d.vs) : Int) ∧ (y95.fst.d.vs = x75.fst.d.vs ∧ List.length y95.fst.d.vs = List.length x75.fst.d.vs
 ∧ y95.fst.d.c = x75.fst.d.c ∧ (1 : Nat) = (1 : Nat)) ∧ ((Rm.ab y95.fst, y95.snd) = Ab.told (Rm.ab x.m) x.x x.a x.al x.r.why x.d ∧ Ab.ok (Rm.ab y95.fst)
 ∧ List.length y95.fst.d.vs ≤ y95.fst.d.c) ∧ ∀ (w96 : World), ((RowAt w96 x.da x.d ∧ True) ∧ True) ∧ True → True) ∧ (x.a.c.last = false → ∃ (x97 : Rm), x97.n = x75.fst.n
 ∧ x97.has = x75.fst.has ∧ (List.length x97.d.vs = List.length x75.fst.d.vs ∧ x97.d.c = x75.fst.d.c) ∧ x97.d.z = x75.fst.d.z ∧ x97.at_ = (↑(List.length x75.fst.d.vs) : Int)
 ∧ (x97.d.vs = x75.fst.d.vs ∧ List.length x97.d.vs = List.length x75.fst.d.vs ∧ x97.d.c = x75.fst.d.c ∧ (1 : Nat) = (1 : Nat)) ∧ (0 : Int) = (0 : Int) ∧
 (0 : Int) = (0 : Int) ∧ (0 : Int) = (0 : Int) ∧ (0 : Int) = (0 : Int) ∧ (0 : Int) = (0 : Int) ∧ ((Rm.ab x97, false) = Ab.told (Rm.ab x.m) x.x x.a x.al x.r.why x.d
 ∧ Ab.ok (Rm.ab x97) ∧ List.length x97.d.vs ≤ x97.d.c) ∧ ∀ (w98 : World), ((RowAt w98 x.da x.d ∧ True) ∧ True) ∧ True → ((∀ (k99 : Nat) (x100 : Value), x.d[k99]? = some x100
 → ∃ (ad101 : Addr), x.da = some ad101 ∧ World.cell? w98 (Addr.add ad101 k99) = some x100) ∧ True) ∧ True)) ∧ (decide (IntKind.wrap IntKind.i64 (x75.fst.at_ +
 (↑x.al : Int)) > (↑(List.length x75.fst.d.vs) : Int)) = false → (x.a.c.last = true → ∃ (y102 : Rm × Bool), (bif y102.snd then (2 : Int) else (0 : Int)) =
 (2 : Int) ∧ (0 : Int) = (0 : Int) ∧ (0 : Int) = (0 : Int) ∧ (bif y102.snd then x.x.n else (0 : Int)) = x.x.n ∧ (bif y102.snd then x.x.ph else (0 : Int)) = x.x.ph
 ∧ y102.snd = true ∧ y102.fst.n = x75.fst.n ∧ y102.fst.has = x75.fst.has ∧ (List.length y102.fst.d.vs = List.length x75.fst.d.vs ∧ y102.fst.d.c = x75.fst.d.c)
 ∧ y102.fst.d.z = x75.fst.d.z ∧ y102.fst.at_ = IntKind.wrap IntKind.i64 (x75.fst.at_ + (↑x.al : Int)) ∧ (y102.fst.d.vs = x75.fst.d.vs ∧ List.length y102.fst.d.vs = List.length x75.fst.d.vs
 ∧ y102.fst.d.c = x75.fst.d.c ∧ (1 : Nat) = (1 : Nat)) ∧ ((Rm.ab y102.fst, y102.snd) = Ab.told (Rm.ab x.m) x.x x.a x.al x.r.why x.d ∧ Ab.ok (Rm.ab y102.fst)
 ∧ List.length y102.fst.d.vs ≤ y102.fst.d.c) ∧ ∀ (w103 : World), ((RowAt w103 x.da x.d ∧ True) ∧ True) ∧ True → True) ∧ (x.a.c.last = false → ∃ (x104 : Rm), x104.n = x75.fst.n
 ∧ x104.has = x75.fst.has ∧ (List.length x104.d.vs = List.length x75.fst.d.vs ∧ x104.d.c = x75.fst.d.c) ∧ x104.d.z = x75.fst.d.z ∧ x104.at_ = IntKind.wrap IntKind.i64
 (x75.fst.at_ + (↑x.al : Int)) ∧ (x104.d.vs = x75.fst.d.vs ∧ List.length x104.d.vs = List.length x75.fst.d.vs ∧ x104.d.c = x75.fst.d.c ∧ (1 : Nat) = (1 : Nat))
 ∧ (0 : Int) = (0 : Int) ∧ (0 : Int) = (0 : Int) ∧ (0 : Int) = (0 : Int) ∧ (0 : Int) = (0 : Int) ∧ (0 : Int) = (0 : Int) ∧ ((Rm.ab x104, false) = Ab.told
 (Rm.ab x.m) x.x x.a x.al x.r.why x.d ∧ Ab.ok (Rm.ab x104) ∧ List.length x104.d.vs ≤ x104.d.c) ∧ ∀ (w105 : World), ((RowAt w105 x.da x.d ∧ True) ∧ True)
 ∧ True → ((∀ (k106 : Nat) (x107 : Value), x.d[k106]? = some x107 → ∃ (ad108 : Addr), x.da = some ad108 ∧ World.cell? w105 (Addr.add ad108 k106) = some x107)
 ∧ True) ∧ True))) ∧ True) ∧ ((x.r.why == (0 : Int)) = false → ∃ (x109 : Rm), x109.n = x75.fst.n ∧ x109.has = x75.fst.has ∧ (List.length x109.d.vs = List.length x75.fst.d.vs
 ∧ x109.d.c = x75.fst.d.c) ∧ x109.d.z = x75.fst.d.z ∧ x109.at_ = x75.fst.at_ ∧ (x109.d.vs = x75.fst.d.vs ∧ List.length x109.d.vs = List.length x75.fst.d.vs
 ∧ x109.d.c = x75.fst.d.c ∧ (1 : Nat) = (1 : Nat)) ∧ (0 : Int) = (0 : Int) ∧ (0 : Int) = (0 : Int) ∧ (0 : Int) = (0 : Int) ∧ (0 : Int) = (0 : Int) ∧ (0 : Int) =
 (0 : Int) ∧ ((Rm.ab x109, false) = Ab.told (Rm.ab x.m) x.x x.a x.al x.r.why x.d ∧ Ab.ok (Rm.ab x109) ∧ List.length x109.d.vs ≤ x109.d.c) ∧ ∀ (w110 : World),
 ((RowAt w110 x.da x.d ∧ True) ∧ True) ∧ True → ((∀ (k111 : Nat) (x112 : Value), x.d[k111]? = some x112 → ∃ (ad113 : Addr), x.da = some ad113 ∧ World.cell? w110
 (Addr.add ad113 k111) = some x112) ∧ True) ∧ True))) ∧ ((x.r.why == (5 : Int)) = true → ((x.r.why == (0 : Int)) = true → (True ∧ (decide (IntKind.wrap IntKind.i64
 ((0 : Int) + (↑x.al : Int)) > (↑(List.length x75.fst.d.vs) : Int)) = true → (x.a.c.last = true → ∃ (y114 : Rm × Bool), (bif y114.snd then (2 : Int) else
 (0 : Int)) = (2 : Int) ∧ (0 : Int) = (0 : Int) ∧ (0 : Int) = (0 : Int) ∧ (bif y114.snd then x.x.n else (0 : Int)) = x.x.n ∧ (bif y114.snd then x.x.ph else
 (0 : Int)) = x.x.ph ∧ y114.snd = true ∧ y114.fst.n = x75.fst.n ∧ y114.fst.has = x75.fst.has ∧ (List.length y114.fst.d.vs = List.length x75.fst.d.vs ∧ y114.fst.d.c = x75.fst.d.c)
 ∧ y114.fst.d.z = x75.fst.d.z ∧ y114.fst.at_ = (↑(List.length x75.fst.d.vs) : Int) ∧ (y114.fst.d.vs = x75.fst.d.vs ∧ List.length y114.fst.d.vs = List.length x75.fst.d.vs
 ∧ y114.fst.d.c = x75.fst.d.c ∧ (1 : Nat) = (1 : Nat)) ∧ ((Rm.ab y114.fst, y114.snd) = Ab.told (Rm.ab x.m) x.x x.a x.al x.r.why x.d ∧ Ab.ok (Rm.ab y114.fst)
 ∧ List.length y114.fst.d.vs ≤ y114.fst.d.c) ∧ ∀ (w115 : World), ((RowAt w115 x.da x.d ∧ True) ∧ True) ∧ True → True) ∧ (x.a.c.last = false → ∃ (x116 : Rm), x116.n = x75.fst.n
 ∧ x116.has = x75.fst.has ∧ (List.length x116.d.vs = List.length x75.fst.d.vs ∧ x116.d.c = x75.fst.d.c) ∧ x116.d.z = x75.fst.d.z ∧ x116.at_ = (↑(List.length x75.fst.d.vs) : Int)
 ∧ (x116.d.vs = x75.fst.d.vs ∧ List.length x116.d.vs = List.length x75.fst.d.vs ∧ x116.d.c = x75.fst.d.c ∧ (1 : Nat) = (1 : Nat)) ∧ (0 : Int) = (0 : Int)
 ∧ (0 : Int) = (0 : Int) ∧ (0 : Int) = (0 : Int) ∧ (0 : Int) = (0 : Int) ∧ (0 : Int) = (0 : Int) ∧ ((Rm.ab x116, false) = Ab.told (Rm.ab x.m) x.x x.a x.al x.r.why x.d
 ∧ Ab.ok (Rm.ab x116) ∧ List.length x116.d.vs ≤ x116.d.c) ∧ ∀ (w117 : World), ((RowAt w117 x.da x.d ∧ True) ∧ True) ∧ True → ((∀ (k118 : Nat) (x119 : Value), x.d[k118]? = some x119
 → ∃ (ad120 : Addr), x.da = some ad120 ∧ World.cell? w117 (Addr.add ad120 k118) = some x119) ∧ True) ∧ True)) ∧ (decide (IntKind.wrap IntKind.i64 ((0 : Int) +
 (↑x.al : Int)) > (↑(List.length x75.fst.d.vs) : Int)) = false → (x.a.c.last = true → ∃ (y121 : Rm × Bool), (bif y121.snd then (2 : Int) else (0 : Int)) =
 (2 : Int) ∧ (0 : Int) = (0 : Int) ∧ (0 : Int) = (0 : Int) ∧ (bif y121.snd then x.x.n else (0 : Int)) = x.x.n ∧ (bif y121.snd then x.x.ph else (0 : Int)) = x.x.ph
 ∧ y121.snd = true ∧ y121.fst.n = x75.fst.n ∧ y121.fst.has = x75.fst.has ∧ (List.length y121.fst.d.vs = List.length x75.fst.d.vs ∧ y121.fst.d.c = x75.fst.d.c)
 ∧ y121.fst.d.z = x75.fst.d.z ∧ y121.fst.at_ = IntKind.wrap IntKind.i64 ((0 : Int) + (↑x.al : Int)) ∧ (y121.fst.d.vs = x75.fst.d.vs ∧ List.length y121.fst.d.vs = List.length x75.fst.d.vs
 ∧ y121.fst.d.c = x75.fst.d.c ∧ (1 : Nat) = (1 : Nat)) ∧ ((Rm.ab y121.fst, y121.snd) = Ab.told (Rm.ab x.m) x.x x.a x.al x.r.why x.d ∧ Ab.ok (Rm.ab y121.fst)
 ∧ List.length y121.fst.d.vs ≤ y121.fst.d.c) ∧ ∀ (w122 : World), ((RowAt w122 x.da x.d ∧ True) ∧ True) ∧ True → True) ∧ (x.a.c.last = false → ∃ (x123 : Rm), x123.n = x75.fst.n
 ∧ x123.has = x75.fst.has ∧ (List.length x123.d.vs = List.length x75.fst.d.vs ∧ x123.d.c = x75.fst.d.c) ∧ x123.d.z = x75.fst.d.z ∧ x123.at_ = IntKind.wrap IntKind.i64
 ((0 : Int) + (↑x.al : Int)) ∧ (x123.d.vs = x75.fst.d.vs ∧ List.length x123.d.vs = List.length x75.fst.d.vs ∧ x123.d.c = x75.fst.d.c ∧ (1 : Nat) = (1 : Nat))
 ∧ (0 : Int) = (0 : Int) ∧ (0 : Int) = (0 : Int) ∧ (0 : Int) = (0 : Int) ∧ (0 : Int) = (0 : Int) ∧ (0 : Int) = (0 : Int) ∧ ((Rm.ab x123, false) = Ab.told
 (Rm.ab x.m) x.x x.a x.al x.r.why x.d ∧ Ab.ok (Rm.ab x123) ∧ List.length x123.d.vs ≤ x123.d.c) ∧ ∀ (w124 : World), ((RowAt w124 x.da x.d ∧ True) ∧ True)
 ∧ True → ((∀ (k125 : Nat) (x126 : Value), x.d[k125]? = some x126 → ∃ (ad127 : Addr), x.da = some ad127 ∧ World.cell? w124 (Addr.add ad127 k125) = some x126)
 ∧ True) ∧ True))) ∧ True) ∧ ((x.r.why == (0 : Int)) = false → ∃ (x128 : Rm), x128.n = x75.fst.n ∧ x128.has = x75.fst.has ∧ (List.length x128.d.vs = List.length x75.fst.d.vs
 ∧ x128.d.c = x75.fst.d.c) ∧ x128.d.z = x75.fst.d.z ∧ x128.at_ = (0 : Int) ∧ (x128.d.vs = x75.fst.d.vs ∧ List.length x128.d.vs = List.length x75.fst.d.vs
 ∧ x128.d.c = x75.fst.d.c ∧ (1 : Nat) = (1 : Nat)) ∧ (0 : Int) = (0 : Int) ∧ (0 : Int) = (0 : Int) ∧ (0 : Int) = (0 : Int) ∧ (0 : Int) = (0 : Int) ∧ (0 : Int) =
 (0 : Int) ∧ ((Rm.ab x128, false) = Ab.told (Rm.ab x.m) x.x x.a x.al x.r.why x.d ∧ Ab.ok (Rm.ab x128) ∧ List.length x128.d.vs ≤ x128.d.c) ∧ ∀ (w129 : World),
 ((RowAt w129 x.da x.d ∧ True) ∧ True) ∧ True → ((∀ (k130 : Nat) (x131 : Value), x.d[k130]? = some x131 → ∃ (ad132 : Addr), x.da = some ad132 ∧ World.cell? w129
 (Addr.add ad132 k130) = some x131) ∧ True) ∧ True))) ∧ (x75.snd = false → (((x.a.c.kind == (10 : Int)) = true → ((x.x.ph == (3 : Int)) = true → ∃ (x133 : Rm × Bool), x133.snd =
 (x.r.why == (0 : Int)) ∧ x133.fst.n = x75.fst.n ∧ x133.fst.has = x75.fst.has ∧ (List.length x133.fst.d.vs = List.length x75.fst.d.vs ∧ x133.fst.d.c = x75.fst.d.c)
 ∧ x133.fst.d.z = x75.fst.d.z ∧ x133.fst.at_ = x75.fst.at_ ∧ (x133.fst.d.vs = x75.fst.d.vs ∧ List.length x133.fst.d.vs = List.length x75.fst.d.vs ∧ x133.fst.d.c = x75.fst.d.c
 ∧ (1 : Nat) = (1 : Nat)) ∧ x.x.slot = x.x.slot ∧ x.x.frm = x.x.frm ∧ x.x.to = x.x.to ∧ x.x.ep = x.x.ep ∧ x.x.ph = x.x.ph ∧ x.x.n = x.x.n ∧ x.a.g = x.a.g
 ∧ x.a.c.kind = x.a.c.kind ∧ x.a.c.ok = x.a.c.ok ∧ x.a.c.ofr = x.a.c.ofr ∧ x.a.c.oto = x.a.c.oto ∧ x.a.c.oam = x.a.c.oam ∧ x.a.c.okey = x.a.c.okey ∧ x.a.c.osl = x.a.c.osl
 ∧ x.a.c.osh = x.a.c.osh ∧ x.a.c.id = x.a.c.id ∧ x.a.c.name = x.a.c.name ∧ x.a.c.n = x.a.c.n ∧ x.a.c.why = x.a.c.why ∧ x.a.c.slot = x.a.c.slot ∧ x.a.c.ep = x.a.c.ep
 ∧ x.a.c.at_ = x.a.c.at_ ∧ x.a.c.last = x.a.c.last ∧ (x.aa = x.aa ∧ x.al = x.al ∧ x.ac = x.ac) ∧ x.r.why = x.r.why ∧ x.r.wait = x.r.wait ∧ x.r.rwhy = x.r.rwhy
 ∧ x.r.ram = x.r.ram ∧ (x.ra = x.ra ∧ x.rn = x.rn ∧ x.rc = x.rc) ∧ (x.da = x.da ∧ List.length x.d = List.length x.d ∧ x.dc = x.dc) ∧ (0 : Int) = (0 : Int)
 ∧ (0 : Int) = (0 : Int) ∧ (0 : Int) = (0 : Int) ∧ (0 : Int) = (0 : Int) ∧ (0 : Int) = (0 : Int) ∧ x.a.c.kind = x.a.c.kind ∧ x.a.c.ok = x.a.c.ok ∧ x.a.c.ofr = x.a.c.ofr
 ∧ x.a.c.oto = x.a.c.oto ∧ x.a.c.oam = x.a.c.oam ∧ x.a.c.okey = x.a.c.okey ∧ x.a.c.osl = x.a.c.osl ∧ x.a.c.osh = x.a.c.osh ∧ x.a.c.id = x.a.c.id ∧ x.a.c.name = x.a.c.name
 ∧ x.a.c.n = x.a.c.n ∧ x.a.c.why = x.a.c.why ∧ x.a.c.slot = x.a.c.slot ∧ x.a.c.ep = x.a.c.ep ∧ x.a.c.at_ = x.a.c.at_ ∧ x.a.c.last = x.a.c.last ∧ (x.aa = x.aa
 ∧ x.al = x.al ∧ x.ac = x.ac) ∧ ((Rm.ab x133.fst = Ab.know (Rm.ab x.m) x.x ∧ Ab.ok (Rm.ab x133.fst) ∧ List.length x133.fst.d.vs ≤ x133.fst.d.c) ∧ Ab.told
 (Rm.ab x.m) x.x x.a x.al x.r.why x.d = Ab.hear (Rm.ab x133.fst) x.x x.a.c x.al x.r.why x.d ∧ q8 x = false ∧ q9 x x133.fst = false ∧ x133.snd = q10 x) ∧
 ∀ (w134 : World), ((RowAt w134 x.da x.d ∧ True) ∧ True) ∧ True → ((((∀ (k135 : Nat) (x136 : Value), x.d[k135]? = some x136 → ∃ (ad137 : Addr), x.da = some ad137
 ∧ World.cell? w134 (Addr.add ad137 k135) = some x136) ∧ True) ∧ True) ∧ True) ∧ True) ∧ ((x.x.ph == (3 : Int)) = false → ∃ (x138 : Rm × Bool), x138.snd = false
 ∧ x138.fst.n = x75.fst.n ∧ x138.fst.has = x75.fst.has ∧ (List.length x138.fst.d.vs = List.length x75.fst.d.vs ∧ x138.fst.d.c = x75.fst.d.c) ∧ x138.fst.d.z = x75.fst.d.z
 ∧ x138.fst.at_ = x75.fst.at_ ∧ (x138.fst.d.vs = x75.fst.d.vs ∧ List.length x138.fst.d.vs = List.length x75.fst.d.vs ∧ x138.fst.d.c = x75.fst.d.c ∧ (1 : Nat) =
 (1 : Nat)) ∧ x.x.slot = x.x.slot ∧ x.x.frm = x.x.frm ∧ x.x.to = x.x.to ∧ x.x.ep = x.x.ep ∧ x.x.ph = x.x.ph ∧ x.x.n = x.x.n ∧ x.a.g = x.a.g ∧ x.a.c.kind = x.a.c.kind
 ∧ x.a.c.ok = x.a.c.ok ∧ x.a.c.ofr = x.a.c.ofr ∧ x.a.c.oto = x.a.c.oto ∧ x.a.c.oam = x.a.c.oam ∧ x.a.c.okey = x.a.c.okey ∧ x.a.c.osl = x.a.c.osl ∧ x.a.c.osh = x.a.c.osh
 ∧ x.a.c.id = x.a.c.id ∧ x.a.c.name = x.a.c.name ∧ x.a.c.n = x.a.c.n ∧ x.a.c.why = x.a.c.why ∧ x.a.c.slot = x.a.c.slot ∧ x.a.c.ep = x.a.c.ep ∧ x.a.c.at_ = x.a.c.at_
 ∧ x.a.c.last = x.a.c.last ∧ (x.aa = x.aa ∧ x.al = x.al ∧ x.ac = x.ac) ∧ x.r.why = x.r.why ∧ x.r.wait = x.r.wait ∧ x.r.rwhy = x.r.rwhy ∧ x.r.ram = x.r.ram
 ∧ (x.ra = x.ra ∧ x.rn = x.rn ∧ x.rc = x.rc) ∧ (x.da = x.da ∧ List.length x.d = List.length x.d ∧ x.dc = x.dc) ∧ (0 : Int) = (0 : Int) ∧ (0 : Int) = (0 : Int)
 ∧ (0 : Int) = (0 : Int) ∧ (0 : Int) = (0 : Int) ∧ (0 : Int) = (0 : Int) ∧ x.a.c.kind = x.a.c.kind ∧ x.a.c.ok = x.a.c.ok ∧ x.a.c.ofr = x.a.c.ofr ∧ x.a.c.oto = x.a.c.oto
 ∧ x.a.c.oam = x.a.c.oam ∧ x.a.c.okey = x.a.c.okey ∧ x.a.c.osl = x.a.c.osl ∧ x.a.c.osh = x.a.c.osh ∧ x.a.c.id = x.a.c.id ∧ x.a.c.name = x.a.c.name ∧ x.a.c.n = x.a.c.n
 ∧ x.a.c.why = x.a.c.why ∧ x.a.c.slot = x.a.c.slot ∧ x.a.c.ep = x.a.c.ep ∧ x.a.c.at_ = x.a.c.at_ ∧ x.a.c.last = x.a.c.last ∧ (x.aa = x.aa ∧ x.al = x.al
 ∧ x.ac = x.ac) ∧ ((Rm.ab x138.fst = Ab.know (Rm.ab x.m) x.x ∧ Ab.ok (Rm.ab x138.fst) ∧ List.length x138.fst.d.vs ≤ x138.fst.d.c) ∧ Ab.told (Rm.ab x.m) x.x x.a x.al x.r.why x.d = Ab.hear
 (Rm.ab x138.fst) x.x x.a.c x.al x.r.why x.d ∧ q8 x = false ∧ q9 x x138.fst = false ∧ x138.snd = q10 x) ∧ ∀ (w139 : World), ((RowAt w139 x.da x.d ∧ True)
 ∧ True) ∧ True → ((((∀ (k140 : Nat) (x141 : Value), x.d[k140]? = some x141 → ∃ (ad142 : Addr), x.da = some ad142 ∧ World.cell? w139 (Addr.add ad142 k140) = some x141)
 ∧ True) ∧ True) ∧ True) ∧ True)) ∧ ((x.a.c.kind == (10 : Int)) = false → ∃ (x143 : Rm × Bool), x143.snd = false ∧ x143.fst.n = x75.fst.n ∧ x143.fst.has = x75.fst.has
 ∧ (List.length x143.fst.d.vs = List.length x75.fst.d.vs ∧ x143.fst.d.c = x75.fst.d.c) ∧ x143.fst.d.z = x75.fst.d.z ∧ x143.fst.at_ = x75.fst.at_ ∧ (x143.fst.d.vs = x75.fst.d.vs
 ∧ List.length x143.fst.d.vs = List.length x75.fst.d.vs ∧ x143.fst.d.c = x75.fst.d.c ∧ (1 : Nat) = (1 : Nat)) ∧ x.x.slot = x.x.slot ∧ x.x.frm = x.x.frm
 ∧ x.x.to = x.x.to ∧ x.x.ep = x.x.ep ∧ x.x.ph = x.x.ph ∧ x.x.n = x.x.n ∧ x.a.g = x.a.g ∧ x.a.c.kind = x.a.c.kind ∧ x.a.c.ok = x.a.c.ok ∧ x.a.c.ofr = x.a.c.ofr
 ∧ x.a.c.oto = x.a.c.oto ∧ x.a.c.oam = x.a.c.oam ∧ x.a.c.okey = x.a.c.okey ∧ x.a.c.osl = x.a.c.osl ∧ x.a.c.osh = x.a.c.osh ∧ x.a.c.id = x.a.c.id ∧ x.a.c.name = x.a.c.name
 ∧ x.a.c.n = x.a.c.n ∧ x.a.c.why = x.a.c.why ∧ x.a.c.slot = x.a.c.slot ∧ x.a.c.ep = x.a.c.ep ∧ x.a.c.at_ = x.a.c.at_ ∧ x.a.c.last = x.a.c.last ∧ (x.aa = x.aa
 ∧ x.al = x.al ∧ x.ac = x.ac) ∧ x.r.why = x.r.why ∧ x.r.wait = x.r.wait ∧ x.r.rwhy = x.r.rwhy ∧ x.r.ram = x.r.ram ∧ (x.ra = x.ra ∧ x.rn = x.rn ∧ x.rc = x.rc)
 ∧ (x.da = x.da ∧ List.length x.d = List.length x.d ∧ x.dc = x.dc) ∧ (0 : Int) = (0 : Int) ∧ (0 : Int) = (0 : Int) ∧ (0 : Int) = (0 : Int) ∧ (0 : Int) =
 (0 : Int) ∧ (0 : Int) = (0 : Int) ∧ x.a.c.kind = x.a.c.kind ∧ x.a.c.ok = x.a.c.ok ∧ x.a.c.ofr = x.a.c.ofr ∧ x.a.c.oto = x.a.c.oto ∧ x.a.c.oam = x.a.c.oam
 ∧ x.a.c.okey = x.a.c.okey ∧ x.a.c.osl = x.a.c.osl ∧ x.a.c.osh = x.a.c.osh ∧ x.a.c.id = x.a.c.id ∧ x.a.c.name = x.a.c.name ∧ x.a.c.n = x.a.c.n ∧ x.a.c.why = x.a.c.why
 ∧ x.a.c.slot = x.a.c.slot ∧ x.a.c.ep = x.a.c.ep ∧ x.a.c.at_ = x.a.c.at_ ∧ x.a.c.last = x.a.c.last ∧ (x.aa = x.aa ∧ x.al = x.al ∧ x.ac = x.ac) ∧ ((Rm.ab x143.fst = Ab.know
 (Rm.ab x.m) x.x ∧ Ab.ok (Rm.ab x143.fst) ∧ List.length x143.fst.d.vs ≤ x143.fst.d.c) ∧ Ab.told (Rm.ab x.m) x.x x.a x.al x.r.why x.d = Ab.hear (Rm.ab x143.fst) x.x x.a.c x.al x.r.why x.d
 ∧ q8 x = false ∧ q9 x x143.fst = false ∧ x143.snd = q10 x) ∧ ∀ (w144 : World), ((RowAt w144 x.da x.d ∧ True) ∧ True) ∧ True → ((((∀ (k145 : Nat) (x146 : Value), x.d[k145]? = some x146
 → ∃ (ad147 : Addr), x.da = some ad147 ∧ World.cell? w144 (Addr.add ad147 k145) = some x146) ∧ True) ∧ True) ∧ True) ∧ True)) ∧ ∀ (x148 : Rm × Bool), (Rm.ab x148.fst = Ab.know
 (Rm.ab x.m) x.x ∧ Rm.ok x148.fst) ∧ Ab.told (Rm.ab x.m) x.x x.a x.al x.r.why x.d = Ab.hear (Rm.ab x148.fst) x.x x.a.c x.al x.r.why x.d ∧ q8 x = false ∧ q9 x x148.fst = false
 ∧ x148.snd = q10 x → (x148.snd = true → ∃ (y149 : Rm × Bool), (bif y149.snd then (2 : Int) else (0 : Int)) = (2 : Int) ∧ (0 : Int) = (0 : Int) ∧ (0 : Int) =
 (0 : Int) ∧ (bif y149.snd then x.x.n else (0 : Int)) = x.x.n ∧ (bif y149.snd then x.x.ph else (0 : Int)) = x.x.ph ∧ y149.snd = true ∧ y149.fst.n = x148.fst.n
 ∧ y149.fst.has = x148.fst.has ∧ (List.length y149.fst.d.vs = List.length x148.fst.d.vs ∧ y149.fst.d.c = x148.fst.d.c) ∧ y149.fst.d.z = x148.fst.d.z ∧ y149.fst.at_ = x148.fst.at_
 ∧ (y149.fst.d.vs = x148.fst.d.vs ∧ List.length y149.fst.d.vs = List.length x148.fst.d.vs ∧ y149.fst.d.c = x148.fst.d.c ∧ (1 : Nat) = (1 : Nat)) ∧ ((Rm.ab y149.fst, y149.snd) = Ab.told
 (Rm.ab x.m) x.x x.a x.al x.r.why x.d ∧ Ab.ok (Rm.ab y149.fst) ∧ List.length y149.fst.d.vs ≤ y149.fst.d.c) ∧ ∀ (w150 : World), (((RowAt w150 x.da x.d ∧ True)
 ∧ True) ∧ True) ∧ True → True) ∧ (x148.snd = false → ∃ (x151 : Rm), x151.n = x148.fst.n ∧ x151.has = x148.fst.has ∧ (List.length x151.d.vs = List.length x148.fst.d.vs
 ∧ x151.d.c = x148.fst.d.c) ∧ x151.d.z = x148.fst.d.z ∧ x151.at_ = x148.fst.at_ ∧ (x151.d.vs = x148.fst.d.vs ∧ List.length x151.d.vs = List.length x148.fst.d.vs
 ∧ x151.d.c = x148.fst.d.c ∧ (1 : Nat) = (1 : Nat)) ∧ (0 : Int) = (0 : Int) ∧ (0 : Int) = (0 : Int) ∧ (0 : Int) = (0 : Int) ∧ (0 : Int) = (0 : Int) ∧ (0 : Int) =
 (0 : Int) ∧ ((Rm.ab x151, false) = Ab.told (Rm.ab x.m) x.x x.a x.al x.r.why x.d ∧ Ab.ok (Rm.ab x151) ∧ List.length x151.d.vs ≤ x151.d.c) ∧ ∀ (w152 : World),
 (((RowAt w152 x.da x.d ∧ True) ∧ True) ∧ True) ∧ True → ((∀ (k153 : Nat) (x154 : Value), x.d[k153]? = some x154 → ∃ (ad155 : Addr), x.da = some ad155 ∧ World.cell? w152
 (Addr.add ad155 k153) = some x154) ∧ True) ∧ True)))) ∧ ∀ (x156 : Rm), (Rm.ab x156, false) = Ab.told (Rm.ab x.m) x.x x.a x.al x.r.why x.d ∧ Rm.ok x156
 → ∃ (y157 : Rm × Bool), (bif y157.snd then (2 : Int) else (0 : Int)) = (0 : Int) ∧ (0 : Int) = (0 : Int) ∧ (0 : Int) = (0 : Int) ∧ (bif y157.snd then x.x.n else
 (0 : Int)) = (0 : Int) ∧ (bif y157.snd then x.x.ph else (0 : Int)) = (0 : Int) ∧ y157.snd = false ∧ y157.fst.n = x156.n ∧ y157.fst.has = x156.has ∧ (List.length y157.fst.d.vs = List.length x156.d.vs
 ∧ y157.fst.d.c = x156.d.c) ∧ y157.fst.d.z = x156.d.z ∧ y157.fst.at_ = x156.at_ ∧ (y157.fst.d.vs = x156.d.vs ∧ List.length y157.fst.d.vs = List.length x156.d.vs
 ∧ y157.fst.d.c = x156.d.c ∧ (1 : Nat) = (1 : Nat)) ∧ ((Rm.ab y157.fst, y157.snd) = Ab.told (Rm.ab x.m) x.x x.a x.al x.r.why x.d ∧ Ab.ok (Rm.ab y157.fst)
 ∧ List.length y157.fst.d.vs ≤ y157.fst.d.c) ∧ ∀ (w158 : World), (RowAt w158 x.da x.d ∧ True) ∧ True → True)) ∧ ((x.a.c.slot != x.x.slot) = true → ∃ (y159 : Rm × Bool),
 (bif y159.snd then (2 : Int) else (0 : Int)) = (0 : Int) ∧ (0 : Int) = (0 : Int) ∧ (0 : Int) = (0 : Int) ∧ (bif y159.snd then x.x.n else (0 : Int)) = (0 : Int)
 ∧ (bif y159.snd then x.x.ph else (0 : Int)) = (0 : Int) ∧ y159.snd = false ∧ y159.fst.n = y.n ∧ y159.fst.has = y.has ∧ (List.length y159.fst.d.vs = List.length y.d.vs
 ∧ y159.fst.d.c = y.d.c) ∧ y159.fst.d.z = y.d.z ∧ y159.fst.at_ = y.at_ ∧ (y159.fst.d.vs = y.d.vs ∧ List.length y159.fst.d.vs = List.length y.d.vs ∧ y159.fst.d.c = y.d.c
 ∧ (1 : Nat) = (1 : Nat)) ∧ ((Rm.ab y159.fst, y159.snd) = Ab.told (Rm.ab x.m) x.x x.a x.al x.r.why x.d ∧ Ab.ok (Rm.ab y159.fst) ∧ List.length y159.fst.d.vs ≤ y159.fst.d.c)
 ∧ ∀ (w160 : World), RowAt w160 x.da x.d ∧ True → True)) ∧ ((x.a.g != x.x.to) = true → ∃ (y161 : Rm × Bool), (bif y161.snd then (2 : Int) else (0 : Int)) =
 (0 : Int) ∧ (0 : Int) = (0 : Int) ∧ (0 : Int) = (0 : Int) ∧ (bif y161.snd then x.x.n else (0 : Int)) = (0 : Int) ∧ (bif y161.snd then x.x.ph else (0 : Int)) =
 (0 : Int) ∧ y161.snd = false ∧ y161.fst.n = y.n ∧ y161.fst.has = y.has ∧ (List.length y161.fst.d.vs = List.length y.d.vs ∧ y161.fst.d.c = y.d.c) ∧ y161.fst.d.z = y.d.z
 ∧ y161.fst.at_ = y.at_ ∧ (y161.fst.d.vs = y.d.vs ∧ List.length y161.fst.d.vs = List.length y.d.vs ∧ y161.fst.d.c = y.d.c ∧ (1 : Nat) = (1 : Nat)) ∧ ((Rm.ab y161.fst, y161.snd) = Ab.told
 (Rm.ab x.m) x.x x.a x.al x.r.why x.d ∧ Ab.ok (Rm.ab y161.fst) ∧ List.length y161.fst.d.vs ≤ y161.fst.d.c) ∧ ∀ (w162 : World), RowAt w162 x.da x.d ∧ True
 → True)) ∧
 ((x.a.c.kind == (9 : Int)) = false → ((x.a.g != x.x.frm) = false → ((x.a.c.slot != x.x.slot) = false → ((x.a.c.ep != x.x.ep) = true → ∃ (y163 : Rm × Bool),
 (bif y163.snd then (2 : Int) else (0 : Int)) = (0 : Int) ∧ (0 : Int) = (0 : Int) ∧ (0 : Int) = (0 : Int) ∧ (bif y163.snd then x.x.n else (0 : Int)) = (0 : Int)
 ∧ (bif y163.snd then x.x.ph else (0 : Int)) = (0 : Int) ∧ y163.snd = false ∧ y163.fst.n = y.n ∧ y163.fst.has = y.has ∧ (List.length y163.fst.d.vs = List.length y.d.vs
 ∧ y163.fst.d.c = y.d.c) ∧ y163.fst.d.z = y.d.z ∧ y163.fst.at_ = y.at_ ∧ (y163.fst.d.vs = y.d.vs ∧ List.length y163.fst.d.vs = List.length y.d.vs ∧ y163.fst.d.c = y.d.c
 ∧ (1 : Nat) = (1 : Nat)) ∧ ((Rm.ab y163.fst, y163.snd) = Ab.told (Rm.ab x.m) x.x x.a x.al x.r.why x.d ∧ Ab.ok (Rm.ab y163.fst) ∧ List.length y163.fst.d.vs ≤ y163.fst.d.c)
 ∧ ∀ (w164 : World), RowAt w164 x.da x.d ∧ True → True) ∧ ((x.a.c.ep != x.x.ep) = false → ((((x.a.c.kind == (8 : Int)) = true → ((x.x.ph == (1 : Int)) = false
 → ((x.x.ph == (2 : Int)) = true → ∃ (x165 : Rm × Bool), x165.snd = (x.r.why == (0 : Int)) ∧ x165.fst.n = y.n ∧ x165.fst.has = y.has ∧ (List.length x165.fst.d.vs = List.length y.d.vs
 ∧ x165.fst.d.c = y.d.c) ∧ x165.fst.d.z = y.d.z ∧ x165.fst.at_ = y.at_ ∧ (x165.fst.d.vs = y.d.vs ∧ List.length x165.fst.d.vs = List.length y.d.vs ∧ x165.fst.d.c = y.d.c
 ∧ (1 : Nat) = (1 : Nat)) ∧ x.x.slot = x.x.slot ∧ x.x.frm = x.x.frm ∧ x.x.to = x.x.to ∧ x.x.ep = x.x.ep ∧ x.x.ph = x.x.ph ∧ x.x.n = x.x.n ∧ x.a.g = x.a.g
 ∧ x.a.c.kind = x.a.c.kind ∧ x.a.c.ok = x.a.c.ok ∧ x.a.c.ofr = x.a.c.ofr ∧ x.a.c.oto = x.a.c.oto ∧ x.a.c.oam = x.a.c.oam ∧ x.a.c.okey = x.a.c.okey ∧ x.a.c.osl = x.a.c.osl
 ∧ x.a.c.osh = x.a.c.osh ∧ x.a.c.id = x.a.c.id ∧ x.a.c.name = x.a.c.name ∧ x.a.c.n = x.a.c.n ∧ x.a.c.why = x.a.c.why ∧ x.a.c.slot = x.a.c.slot ∧ x.a.c.ep = x.a.c.ep
 ∧ x.a.c.at_ = x.a.c.at_ ∧ x.a.c.last = x.a.c.last ∧ (x.aa = x.aa ∧ x.al = x.al ∧ x.ac = x.ac) ∧ x.r.why = x.r.why ∧ x.r.wait = x.r.wait ∧ x.r.rwhy = x.r.rwhy
 ∧ x.r.ram = x.r.ram ∧ (x.ra = x.ra ∧ x.rn = x.rn ∧ x.rc = x.rc) ∧ (x.da = x.da ∧ List.length x.d = List.length x.d ∧ x.dc = x.dc) ∧ (0 : Int) = (0 : Int)
 ∧ (0 : Int) = (0 : Int) ∧ (0 : Int) = (0 : Int) ∧ (0 : Int) = (0 : Int) ∧ (0 : Int) = (0 : Int) ∧ x.a.c.kind = x.a.c.kind ∧ x.a.c.ok = x.a.c.ok ∧ x.a.c.ofr = x.a.c.ofr
 ∧ x.a.c.oto = x.a.c.oto ∧ x.a.c.oam = x.a.c.oam ∧ x.a.c.okey = x.a.c.okey ∧ x.a.c.osl = x.a.c.osl ∧ x.a.c.osh = x.a.c.osh ∧ x.a.c.id = x.a.c.id ∧ x.a.c.name = x.a.c.name
 ∧ x.a.c.n = x.a.c.n ∧ x.a.c.why = x.a.c.why ∧ x.a.c.slot = x.a.c.slot ∧ x.a.c.ep = x.a.c.ep ∧ x.a.c.at_ = x.a.c.at_ ∧ x.a.c.last = x.a.c.last ∧ (x.aa = x.aa
 ∧ x.al = x.al ∧ x.ac = x.ac) ∧ ((Rm.ab x165.fst = Ab.know (Rm.ab x.m) x.x ∧ Ab.ok (Rm.ab x165.fst) ∧ List.length x165.fst.d.vs ≤ x165.fst.d.c) ∧ Ab.told
 (Rm.ab x.m) x.x x.a x.al x.r.why x.d = Ab.hear (Rm.ab x165.fst) x.x x.a.c x.al x.r.why x.d ∧ x165.snd = q8 x) ∧ ∀ (w166 : World), RowAt w166 x.da x.d ∧ True
 → ((∀ (k167 : Nat) (x168 : Value), x.d[k167]? = some x168 → ∃ (ad169 : Addr), x.da = some ad169 ∧ World.cell? w166 (Addr.add ad169 k167) = some x168) ∧ True)
 ∧ True) ∧ ((x.x.ph == (2 : Int)) = false → ∃ (x170 : Rm × Bool), x170.snd = false ∧ x170.fst.n = y.n ∧ x170.fst.has = y.has ∧ (List.length x170.fst.d.vs = List.length y.d.vs
 ∧ x170.fst.d.c = y.d.c) ∧ x170.fst.d.z = y.d.z ∧ x170.fst.at_ = y.at_ ∧ (x170.fst.d.vs = y.d.vs ∧ List.length x170.fst.d.vs = List.length y.d.vs ∧ x170.fst.d.c = y.d.c
 ∧ (1 : Nat) = (1 : Nat)) ∧ x.x.slot = x.x.slot ∧ x.x.frm = x.x.frm ∧ x.x.to = x.x.to ∧ x.x.ep = x.x.ep ∧ x.x.ph = x.x.ph ∧ x.x.n = x.x.n ∧ x.a.g = x.a.g
 ∧ x.a.c.kind = x.a.c.kind ∧ x.a.c.ok = x.a.c.ok ∧ x.a.c.ofr = x.a.c.ofr ∧ x.a.c.oto = x.a.c.oto ∧ x.a.c.oam = x.a.c.oam ∧ x.a.c.okey = x.a.c.okey ∧ x.a.c.osl = x.a.c.osl
 ∧ x.a.c.osh = x.a.c.osh ∧ x.a.c.id = x.a.c.id ∧ x.a.c.name = x.a.c.name ∧ x.a.c.n = x.a.c.n ∧ x.a.c.why = x.a.c.why ∧ x.a.c.slot = x.a.c.slot ∧ x.a.c.ep = x.a.c.ep
 ∧ x.a.c.at_ = x.a.c.at_ ∧ x.a.c.last = x.a.c.last ∧ (x.aa = x.aa ∧ x.al = x.al ∧ x.ac = x.ac) ∧ x.r.why = x.r.why ∧ x.r.wait = x.r.wait ∧ x.r.rwhy = x.r.rwhy
 ∧ x.r.ram = x.r.ram ∧ (x.ra = x.ra ∧ x.rn = x.rn ∧ x.rc = x.rc) ∧ (x.da = x.da ∧ List.length x.d = List.length x.d ∧ x.dc = x.dc) ∧ (0 : Int) = (0 : Int)
 ∧ (0 : Int) = (0 : Int) ∧ (0 : Int) = (0 : Int) ∧ (0 : Int) = (0 : Int) ∧ (0 : Int) = (0 : Int) ∧ x.a.c.kind = x.a.c.kind ∧ x.a.c.ok = x.a.c.ok ∧ x.a.c.ofr = x.a.c.ofr
 ∧ x.a.c.oto = x.a.c.oto ∧ x.a.c.oam = x.a.c.oam ∧ x.a.c.okey = x.a.c.okey ∧ x.a.c.osl = x.a.c.osl ∧ x.a.c.osh = x.a.c.osh ∧ x.a.c.id = x.a.c.id ∧ x.a.c.name = x.a.c.name
 ∧ x.a.c.n = x.a.c.n ∧ x.a.c.why = x.a.c.why ∧ x.a.c.slot = x.a.c.slot ∧ x.a.c.ep = x.a.c.ep ∧ x.a.c.at_ = x.a.c.at_ ∧ x.a.c.last = x.a.c.last ∧ (x.aa = x.aa
 ∧ x.al = x.al ∧ x.ac = x.ac) ∧ ((Rm.ab x170.fst = Ab.know (Rm.ab x.m) x.x ∧ Ab.ok (Rm.ab x170.fst) ∧ List.length x170.fst.d.vs ≤ x170.fst.d.c) ∧ Ab.told
 (Rm.ab x.m) x.x x.a x.al x.r.why x.d = Ab.hear (Rm.ab x170.fst) x.x x.a.c x.al x.r.why x.d ∧ x170.snd = q8 x) ∧ ∀ (w171 : World), RowAt w171 x.da x.d ∧ True
 → ((∀ (k172 : Nat) (x173 : Value), x.d[k172]? = some x173 → ∃ (ad174 : Addr), x.da = some ad174 ∧ World.cell? w171 (Addr.add ad174 k172) = some x173) ∧ True)
 ∧ True)) ∧ ((x.x.ph == (1 : Int)) = true → ∃ (x175 : Rm × Bool), x175.snd = (x.r.why == (0 : Int)) ∧ x175.fst.n = y.n ∧ x175.fst.has = y.has ∧ (List.length x175.fst.d.vs = List.length y.d.vs
 ∧ x175.fst.d.c = y.d.c) ∧ x175.fst.d.z = y.d.z ∧ x175.fst.at_ = y.at_ ∧ (x175.fst.d.vs = y.d.vs ∧ List.length x175.fst.d.vs = List.length y.d.vs ∧ x175.fst.d.c = y.d.c
 ∧ (1 : Nat) = (1 : Nat)) ∧ x.x.slot = x.x.slot ∧ x.x.frm = x.x.frm ∧ x.x.to = x.x.to ∧ x.x.ep = x.x.ep ∧ x.x.ph = x.x.ph ∧ x.x.n = x.x.n ∧ x.a.g = x.a.g
 ∧ x.a.c.kind = x.a.c.kind ∧ x.a.c.ok = x.a.c.ok ∧ x.a.c.ofr = x.a.c.ofr ∧ x.a.c.oto = x.a.c.oto ∧ x.a.c.oam = x.a.c.oam ∧ x.a.c.okey = x.a.c.okey ∧ x.a.c.osl = x.a.c.osl
 ∧ x.a.c.osh = x.a.c.osh ∧ x.a.c.id = x.a.c.id ∧ x.a.c.name = x.a.c.name ∧ x.a.c.n = x.a.c.n ∧ x.a.c.why = x.a.c.why ∧ x.a.c.slot = x.a.c.slot ∧ x.a.c.ep = x.a.c.ep
 ∧ x.a.c.at_ = x.a.c.at_ ∧ x.a.c.last = x.a.c.last ∧ (x.aa = x.aa ∧ x.al = x.al ∧ x.ac = x.ac) ∧ x.r.why = x.r.why ∧ x.r.wait = x.r.wait ∧ x.r.rwhy = x.r.rwhy
 ∧ x.r.ram = x.r.ram ∧ (x.ra = x.ra ∧ x.rn = x.rn ∧ x.rc = x.rc) ∧ (x.da = x.da ∧ List.length x.d = List.length x.d ∧ x.dc = x.dc) ∧ (0 : Int) = (0 : Int)
 ∧ (0 : Int) = (0 : Int) ∧ (0 : Int) = (0 : Int) ∧ (0 : Int) = (0 : Int) ∧ (0 : Int) = (0 : Int) ∧ x.a.c.kind = x.a.c.kind ∧ x.a.c.ok = x.a.c.ok ∧ x.a.c.ofr = x.a.c.ofr
 ∧ x.a.c.oto = x.a.c.oto ∧ x.a.c.oam = x.a.c.oam ∧ x.a.c.okey = x.a.c.okey ∧ x.a.c.osl = x.a.c.osl ∧ x.a.c.osh = x.a.c.osh ∧ x.a.c.id = x.a.c.id ∧ x.a.c.name = x.a.c.name
 ∧ x.a.c.n = x.a.c.n ∧ x.a.c.why = x.a.c.why ∧ x.a.c.slot = x.a.c.slot ∧ x.a.c.ep = x.a.c.ep ∧ x.a.c.at_ = x.a.c.at_ ∧ x.a.c.last = x.a.c.last ∧ (x.aa = x.aa
 ∧ x.al = x.al ∧ x.ac = x.ac) ∧ ((Rm.ab x175.fst = Ab.know (Rm.ab x.m) x.x ∧ Ab.ok (Rm.ab x175.fst) ∧ List.length x175.fst.d.vs ≤ x175.fst.d.c) ∧ Ab.told
 (Rm.ab x.m) x.x x.a x.al x.r.why x.d = Ab.hear (Rm.ab x175.fst) x.x x.a.c x.al x.r.why x.d ∧ x175.snd = q8 x) ∧ ∀ (w176 : World), RowAt w176 x.da x.d ∧ True
 → ((∀ (k177 : Nat) (x178 : Value), x.d[k177]? = some x178 → ∃ (ad179 : Addr), x.da = some ad179 ∧ World.cell? w176 (Addr.add ad179 k177) = some x178) ∧ True)
 ∧ True)) ∧ ((x.a.c.kind == (8 : Int)) = false → ∃ (x180 : Rm × Bool), x180.snd = false ∧ x180.fst.n = y.n ∧ x180.fst.has = y.has ∧ (List.length x180.fst.d.vs = List.length y.d.vs
 ∧ x180.fst.d.c = y.d.c) ∧ x180.fst.d.z = y.d.z ∧ x180.fst.at_ = y.at_ ∧ (x180.fst.d.vs = y.d.vs ∧ List.length x180.fst.d.vs = List.length y.d.vs ∧ x180.fst.d.c = y.d.c
 ∧ (1 : Nat) = (1 : Nat)) ∧ x.x.slot = x.x.slot ∧ x.x.frm = x.x.frm ∧ x.x.to = x.x.to ∧ x.x.ep = x.x.ep ∧ x.x.ph = x.x.ph ∧ x.x.n = x.x.n ∧ x.a.g = x.a.g
 ∧ x.a.c.kind = x.a.c.kind ∧ x.a.c.ok = x.a.c.ok ∧ x.a.c.ofr = x.a.c.ofr ∧ x.a.c.oto = x.a.c.oto ∧ x.a.c.oam = x.a.c.oam ∧ x.a.c.okey = x.a.c.okey ∧ x.a.c.osl = x.a.c.osl
 ∧ x.a.c.osh = x.a.c.osh ∧ x.a.c.id = x.a.c.id ∧ x.a.c.name = x.a.c.name ∧ x.a.c.n = x.a.c.n ∧ x.a.c.why = x.a.c.why ∧ x.a.c.slot = x.a.c.slot ∧ x.a.c.ep = x.a.c.ep
 ∧ x.a.c.at_ = x.a.c.at_ ∧ x.a.c.last = x.a.c.last ∧ (x.aa = x.aa ∧ x.al = x.al ∧ x.ac = x.ac) ∧ x.r.why = x.r.why ∧ x.r.wait = x.r.wait ∧ x.r.rwhy = x.r.rwhy
 ∧ x.r.ram = x.r.ram ∧ (x.ra = x.ra ∧ x.rn = x.rn ∧ x.rc = x.rc) ∧ (x.da = x.da ∧ List.length x.d = List.length x.d ∧ x.dc = x.dc) ∧ (0 : Int) = (0 : Int)
 ∧ (0 : Int) = (0 : Int) ∧ (0 : Int) = (0 : Int) ∧ (0 : Int) = (0 : Int) ∧ (0 : Int) = (0 : Int) ∧ x.a.c.kind = x.a.c.kind ∧ x.a.c.ok = x.a.c.ok ∧ x.a.c.ofr = x.a.c.ofr
 ∧ x.a.c.oto = x.a.c.oto ∧ x.a.c.oam = x.a.c.oam ∧ x.a.c.okey = x.a.c.okey ∧ x.a.c.osl = x.a.c.osl ∧ x.a.c.osh = x.a.c.osh ∧ x.a.c.id = x.a.c.id ∧ x.a.c.name = x.a.c.name
 ∧ x.a.c.n = x.a.c.n ∧ x.a.c.why = x.a.c.why ∧ x.a.c.slot = x.a.c.slot ∧ x.a.c.ep = x.a.c.ep ∧ x.a.c.at_ = x.a.c.at_ ∧ x.a.c.last = x.a.c.last ∧ (x.aa = x.aa
 ∧ x.al = x.al ∧ x.ac = x.ac) ∧ ((Rm.ab x180.fst = Ab.know (Rm.ab x.m) x.x ∧ Ab.ok (Rm.ab x180.fst) ∧ List.length x180.fst.d.vs ≤ x180.fst.d.c) ∧ Ab.told
 (Rm.ab x.m) x.x x.a x.al x.r.why x.d = Ab.hear (Rm.ab x180.fst) x.x x.a.c x.al x.r.why x.d ∧ x180.snd = q8 x) ∧ ∀ (w181 : World), RowAt w181 x.da x.d ∧ True
 → ((∀ (k182 : Nat) (x183 : Value), x.d[k182]? = some x183 → ∃ (ad184 : Addr), x.da = some ad184 ∧ World.cell? w181 (Addr.add ad184 k182) = some x183) ∧ True)
 ∧ True)) ∧ ∀ (x185 : Rm × Bool), (Rm.ab x185.fst = Ab.know (Rm.ab x.m) x.x ∧ Rm.ok x185.fst) ∧ Ab.told (Rm.ab x.m) x.x x.a x.al x.r.why x.d = Ab.hear (Rm.ab x185.fst) x.x x.a.c x.al x.r.why x.d
 ∧ x185.snd = q8 x → (x185.snd = true → (∃ (news186 : List Value), List.length news186 = List.length x.d * (1 : Nat) ∧ (∀ (v187 : Value), v187 ∈ news186
 → one1 v187 = true) ∧ (∀ (w188 : World), (RowAt w188 x.da x.d ∧ True) ∧ True → ∀ (k189 : Nat) (x190 : Value), news186[k189]? = some x190 → ∃ (ad191 : Addr), x.da = some ad191
 ∧ World.cell? w188 (Addr.add ad191 k189) = some x190) ∧ List.length x.d * (1 : Nat) ≤ (140737488355328 : Nat) ∧ ∀ (c192 : Nat), List.length x.d ≤ c192
 → (List.length x.d = (0 : Nat) → c192 = (0 : Nat)) → (True ∧ True) ∧ (True ∧ ((!x185.fst.has) = true → (decide ((0 : Int) > (↑(List.length x.d) : Int)) = true
 → ((x.x.ph == (1 : Int)) = true → ∃ (y193 : Rm × Bool), (bif y193.snd then (2 : Int) else (0 : Int)) = (2 : Int) ∧ (0 : Int) = (0 : Int) ∧ (0 : Int) =
 (0 : Int) ∧ (bif y193.snd then x.x.n else (0 : Int)) = x.x.n ∧ (bif y193.snd then x.x.ph else (0 : Int)) = x.x.ph ∧ y193.snd = true ∧ y193.fst.n = x185.fst.n
 ∧ y193.fst.has = true ∧ (List.length y193.fst.d.vs = List.length x.d ∧ y193.fst.d.c = c192) ∧ y193.fst.d.z = ZB.nil ∧ y193.fst.at_ = (0 : Int) ∧ (y193.fst.d.vs = news186
 ∧ List.length y193.fst.d.vs = List.length x.d ∧ y193.fst.d.c = c192 ∧ (1 : Nat) = (1 : Nat)) ∧ ((Rm.ab y193.fst, y193.snd) = Ab.told (Rm.ab x.m) x.x x.a x.al x.r.why x.d
 ∧ Ab.ok (Rm.ab y193.fst) ∧ List.length y193.fst.d.vs ≤ y193.fst.d.c) ∧ ∀ (w194 : World), (RowAt w194 x.da x.d ∧ True) ∧ True → True) ∧ ((x.x.ph == (1 : Int)) = false
 → ∃ (x195 : Rm), x195.n = x185.fst.n ∧ x195.has = true ∧ (List.length x195.d.vs = List.length x.d ∧ x195.d.c = c192) ∧ x195.d.z = ZB.nil ∧ x195.at_ = (0 : Int)
 ∧ (x195.d.vs = news186 ∧ List.length x195.d.vs = List.length x.d ∧ x195.d.c = c192 ∧ (1 : Nat) = (1 : Nat)) ∧ (0 : Int) = (0 : Int) ∧ (0 : Int) = (0 : Int)
 ∧ (0 : Int) = (0 : Int) ∧ (0 : Int) = (0 : Int) ∧ (0 : Int) = (0 : Int) ∧ ((Rm.ab x195, false) = Ab.told (Rm.ab x.m) x.x x.a x.al x.r.why x.d ∧ Ab.ok (Rm.ab x195)
 ∧ List.length x195.d.vs ≤ x195.d.c) ∧ ∀ (w196 : World), (RowAt w196 x.da x.d ∧ True) ∧ True → ((∀ (k197 : Nat) (x198 : Value), x.d[k197]? = some x198 →
 ∃ (ad199 : Addr), x.da = some ad199 ∧ World.cell? w196 (Addr.add ad199 k197) = some x198) ∧ True) ∧ True)) ∧ (decide ((0 : Int) > (↑(List.length x.d) : Int)) = false
 → ((x.x.ph == (1 : Int)) = true → ∃ (y200 : Rm × Bool), (bif y200.snd then (2 : Int) else (0 : Int)) = (2 : Int) ∧ (0 : Int) = (0 : Int) ∧ (0 : Int) =
 (0 : Int) ∧ (bif y200.snd then x.x.n else (0 : Int)) = x.x.n ∧ (bif y200.snd then x.x.ph else (0 : Int)) = x.x.ph ∧ y200.snd = true ∧ y200.fst.n = x185.fst.n
 ∧ y200.fst.has = true ∧ (List.length y200.fst.d.vs = List.length x.d ∧ y200.fst.d.c = c192) ∧ y200.fst.d.z = ZB.nil ∧ y200.fst.at_ = (0 : Int) ∧ (y200.fst.d.vs = news186
 ∧ List.length y200.fst.d.vs = List.length x.d ∧ y200.fst.d.c = c192 ∧ (1 : Nat) = (1 : Nat)) ∧ ((Rm.ab y200.fst, y200.snd) = Ab.told (Rm.ab x.m) x.x x.a x.al x.r.why x.d
 ∧ Ab.ok (Rm.ab y200.fst) ∧ List.length y200.fst.d.vs ≤ y200.fst.d.c) ∧ ∀ (w201 : World), (RowAt w201 x.da x.d ∧ True) ∧ True → True) ∧ ((x.x.ph == (1 : Int)) = false
 → ∃ (x202 : Rm), x202.n = x185.fst.n ∧ x202.has = true ∧ (List.length x202.d.vs = List.length x.d ∧ x202.d.c = c192) ∧ x202.d.z = ZB.nil ∧ x202.at_ = (0 : Int)
 ∧ (x202.d.vs = news186 ∧ List.length x202.d.vs = List.length x.d ∧ x202.d.c = c192 ∧ (1 : Nat) = (1 : Nat)) ∧ (0 : Int) = (0 : Int) ∧ (0 : Int) = (0 : Int)
 ∧ (0 : Int) = (0 : Int) ∧ (0 : Int) = (0 : Int) ∧ (0 : Int) = (0 : Int) ∧ ((Rm.ab x202, false) = Ab.told (Rm.ab x.m) x.x x.a x.al x.r.why x.d ∧ Ab.ok (Rm.ab x202)
 ∧ List.length x202.d.vs ≤ x202.d.c) ∧ ∀ (w203 : World), (RowAt w203 x.da x.d ∧ True) ∧ True → ((∀ (k204 : Nat) (x205 : Value), x.d[k204]? = some x205 →
 ∃ (ad206 : Addr), x.da = some ad206 ∧ World.cell? w203 (Addr.add ad206 k204) = some x205) ∧ True) ∧ True))) ∧ ((!x185.fst.has) = false → (decide (x185.fst.at_ >
 (↑(List.length x.d) : Int)) = true → ((x.x.ph == (1 : Int)) = true → ∃ (y207 : Rm × Bool), (bif y207.snd then (2 : Int) else (0 : Int)) = (2 : Int) ∧ (0 : Int) =
 (0 : Int) ∧ (0 : Int) = (0 : Int) ∧ (bif y207.snd then x.x.n else (0 : Int)) = x.x.n ∧ (bif y207.snd then x.x.ph else (0 : Int)) = x.x.ph ∧ y207.snd = true
 ∧ y207.fst.n = x185.fst.n ∧ y207.fst.has = true ∧ (List.length y207.fst.d.vs = List.length x.d ∧ y207.fst.d.c = c192) ∧ y207.fst.d.z = ZB.nil ∧ y207.fst.at_ =
 (0 : Int) ∧ (y207.fst.d.vs = news186 ∧ List.length y207.fst.d.vs = List.length x.d ∧ y207.fst.d.c = c192 ∧ (1 : Nat) = (1 : Nat)) ∧ ((Rm.ab y207.fst, y207.snd) = Ab.told
 (Rm.ab x.m) x.x x.a x.al x.r.why x.d ∧ Ab.ok (Rm.ab y207.fst) ∧ List.length y207.fst.d.vs ≤ y207.fst.d.c) ∧ ∀ (w208 : World), (RowAt w208 x.da x.d ∧ True)
 ∧ True → True) ∧ ((x.x.ph == (1 : Int)) = false → ∃ (x209 : Rm), x209.n = x185.fst.n ∧ x209.has = true ∧ (List.length x209.d.vs = List.length x.d ∧ x209.d.c = c192)
 ∧ x209.d.z = ZB.nil ∧ x209.at_ = (0 : Int) ∧ (x209.d.vs = news186 ∧ List.length x209.d.vs = List.length x.d ∧ x209.d.c = c192 ∧ (1 : Nat) = (1 : Nat))
 ∧ (0 : Int) = (0 : Int) ∧ (0 : Int) = (0 : Int) ∧ (0 : Int) = (0 : Int) ∧ (0 : Int) = (0 : Int) ∧ (0 : Int) = (0 : Int) ∧ ((Rm.ab x209, false) = Ab.told
 (Rm.ab x.m) x.x x.a x.al x.r.why x.d ∧ Ab.ok (Rm.ab x209) ∧ List.length x209.d.vs ≤ x209.d.c) ∧ ∀ (w210 : World), (RowAt w210 x.da x.d ∧ True) ∧ True →
 ((∀ (k211 : Nat) (x212 : Value), x.d[k211]? = some x212 → ∃ (ad213 : Addr), x.da = some ad213 ∧ World.cell? w210 (Addr.add ad213 k211) = some x212) ∧ True)
 ∧ True)) ∧ (decide (x185.fst.at_ > (↑(List.length x.d) : Int)) = false → ((x.x.ph == (1 : Int)) = true → ∃ (y214 : Rm × Bool), (bif y214.snd then (2 : Int) else
 (0 : Int)) = (2 : Int) ∧ (0 : Int) = (0 : Int) ∧ (0 : Int) = (0 : Int) ∧ (bif y214.snd then x.x.n else (0 : Int)) = x.x.n ∧ (bif y214.snd then x.x.ph else
 (0 : Int)) = x.x.ph ∧ y214.snd = true ∧ y214.fst.n = x185.fst.n ∧ y214.fst.has = true ∧ (List.length y214.fst.d.vs = List.length x.d ∧ y214.fst.d.c = c192)
 ∧ y214.fst.d.z = ZB.nil ∧ y214.fst.at_ = x185.fst.at_ ∧ (y214.fst.d.vs = news186 ∧ List.length y214.fst.d.vs = List.length x.d ∧ y214.fst.d.c = c192 ∧
 (1 : Nat) = (1 : Nat)) ∧ ((Rm.ab y214.fst, y214.snd) = Ab.told (Rm.ab x.m) x.x x.a x.al x.r.why x.d ∧ Ab.ok (Rm.ab y214.fst) ∧ List.length y214.fst.d.vs ≤ y214.fst.d.c)
 ∧ ∀ (w215 : World), (RowAt w215 x.da x.d ∧ True) ∧ True → True) ∧ ((x.x.ph == (1 : Int)) = false → ∃ (x216 : Rm), x216.n = x185.fst.n ∧ x216.has = true
 ∧ (List.length x216.d.vs = List.length x.d ∧ x216.d.c = c192) ∧ x216.d.z = ZB.nil ∧ x216.at_ = x185.fst.at_ ∧ (x216.d.vs = news186 ∧ List.length x216.d.vs = List.length x.d
 ∧ x216.d.c = c192 ∧ (1 : Nat) = (1 : Nat)) ∧ (0 : Int) = (0 : Int) ∧ (0 : Int) = (0 : Int) ∧ (0 : Int) = (0 : Int) ∧ (0 : Int) = (0 : Int) ∧ (0 : Int) =
 (0 : Int) ∧ ((Rm.ab x216, false) = Ab.told (Rm.ab x.m) x.x x.a x.al x.r.why x.d ∧ Ab.ok (Rm.ab x216) ∧ List.length x216.d.vs ≤ x216.d.c) ∧ ∀ (w217 : World),
 (RowAt w217 x.da x.d ∧ True) ∧ True → ((∀ (k218 : Nat) (x219 : Value), x.d[k218]? = some x219 → ∃ (ad220 : Addr), x.da = some ad220 ∧ World.cell? w217
 (Addr.add ad220 k218) = some x219) ∧ True) ∧ True)))) ∧ True) ∧ True) ∧ (x185.snd = false → (((x.a.c.kind == (9 : Int)) = true → ((x.x.ph == (2 : Int)) = true
 → (x185.fst.has = true → ∃ (x221 : Rm × Bool), x221.snd = (x.a.c.at_ == x185.fst.at_) ∧ x221.fst.n = x185.fst.n ∧ x221.fst.has = x185.fst.has ∧ (List.length x221.fst.d.vs = List.length x185.fst.d.vs
 ∧ x221.fst.d.c = x185.fst.d.c) ∧ x221.fst.d.z = x185.fst.d.z ∧ x221.fst.at_ = x185.fst.at_ ∧ (x221.fst.d.vs = x185.fst.d.vs ∧ List.length x221.fst.d.vs = List.length x185.fst.d.vs
 ∧ x221.fst.d.c = x185.fst.d.c ∧ (1 : Nat) = (1 : Nat)) ∧ x.x.slot = x.x.slot ∧ x.x.frm = x.x.frm ∧ x.x.to = x.x.to ∧ x.x.ep = x.x.ep ∧ x.x.ph = x.x.ph
 ∧ x.x.n = x.x.n ∧ x.a.g = x.a.g ∧ x.a.c.kind = x.a.c.kind ∧ x.a.c.ok = x.a.c.ok ∧ x.a.c.ofr = x.a.c.ofr ∧ x.a.c.oto = x.a.c.oto ∧ x.a.c.oam = x.a.c.oam
 ∧ x.a.c.okey = x.a.c.okey ∧ x.a.c.osl = x.a.c.osl ∧ x.a.c.osh = x.a.c.osh ∧ x.a.c.id = x.a.c.id ∧ x.a.c.name = x.a.c.name ∧ x.a.c.n = x.a.c.n ∧ x.a.c.why = x.a.c.why
 ∧ x.a.c.slot = x.a.c.slot ∧ x.a.c.ep = x.a.c.ep ∧ x.a.c.at_ = x.a.c.at_ ∧ x.a.c.last = x.a.c.last ∧ (x.aa = x.aa ∧ x.al = x.al ∧ x.ac = x.ac) ∧ x.r.why = x.r.why
 ∧ x.r.wait = x.r.wait ∧ x.r.rwhy = x.r.rwhy ∧ x.r.ram = x.r.ram ∧ (x.ra = x.ra ∧ x.rn = x.rn ∧ x.rc = x.rc) ∧ (x.da = x.da ∧ List.length x.d = List.length x.d
 ∧ x.dc = x.dc) ∧ (0 : Int) = (0 : Int) ∧ (0 : Int) = (0 : Int) ∧ (0 : Int) = (0 : Int) ∧ (0 : Int) = (0 : Int) ∧ (0 : Int) = (0 : Int) ∧ x.a.c.kind = x.a.c.kind
 ∧ x.a.c.ok = x.a.c.ok ∧ x.a.c.ofr = x.a.c.ofr ∧ x.a.c.oto = x.a.c.oto ∧ x.a.c.oam = x.a.c.oam ∧ x.a.c.okey = x.a.c.okey ∧ x.a.c.osl = x.a.c.osl ∧ x.a.c.osh = x.a.c.osh
 ∧ x.a.c.id = x.a.c.id ∧ x.a.c.name = x.a.c.name ∧ x.a.c.n = x.a.c.n ∧ x.a.c.why = x.a.c.why ∧ x.a.c.slot = x.a.c.slot ∧ x.a.c.ep = x.a.c.ep ∧ x.a.c.at_ = x.a.c.at_
 ∧ x.a.c.last = x.a.c.last ∧ (x.aa = x.aa ∧ x.al = x.al ∧ x.ac = x.ac) ∧ ((Rm.ab x221.fst = Ab.know (Rm.ab x.m) x.x ∧ Ab.ok (Rm.ab x221.fst) ∧ List.length x221.fst.d.vs ≤ x221.fst.d.c)
 ∧ Ab.told (Rm.ab x.m) x.x x.a x.al x.r.why x.d = Ab.hear (Rm.ab x221.fst) x.x x.a.c x.al x.r.why x.d ∧ q8 x = false ∧ x221.snd = q9 x x221.fst) ∧ ∀ (w222 : World),
 (RowAt w222 x.da x.d ∧ True) ∧ True → (((∀ (k223 : Nat) (x224 : Value), x.d[k223]? = some x224 → ∃ (ad225 : Addr), x.da = some ad225 ∧ World.cell? w222
 (Addr.add ad225 k223) = some x224) ∧ True) ∧ True) ∧ True) ∧ (x185.fst.has = false → ∃ (x226 : Rm × Bool), x226.snd = false ∧ x226.fst.n = x185.fst.n ∧ x226.fst.has = x185.fst.has
 ∧ (List.length x226.fst.d.vs = List.length x185.fst.d.vs ∧ x226.fst.d.c = x185.fst.d.c) ∧ x226.fst.d.z = x185.fst.d.z ∧ x226.fst.at_ = x185.fst.at_ ∧ (x226.fst.d.vs = x185.fst.d.vs
 ∧ List.length x226.fst.d.vs = List.length x185.fst.d.vs ∧ x226.fst.d.c = x185.fst.d.c ∧ (1 : Nat) = (1 : Nat)) ∧ x.x.slot = x.x.slot ∧ x.x.frm = x.x.frm
 ∧ x.x.to = x.x.to ∧ x.x.ep = x.x.ep ∧ x.x.ph = x.x.ph ∧ x.x.n = x.x.n ∧ x.a.g = x.a.g ∧ x.a.c.kind = x.a.c.kind ∧ x.a.c.ok = x.a.c.ok ∧ x.a.c.ofr = x.a.c.ofr
 ∧ x.a.c.oto = x.a.c.oto ∧ x.a.c.oam = x.a.c.oam ∧ x.a.c.okey = x.a.c.okey ∧ x.a.c.osl = x.a.c.osl ∧ x.a.c.osh = x.a.c.osh ∧ x.a.c.id = x.a.c.id ∧ x.a.c.name = x.a.c.name
 ∧ x.a.c.n = x.a.c.n ∧ x.a.c.why = x.a.c.why ∧ x.a.c.slot = x.a.c.slot ∧ x.a.c.ep = x.a.c.ep ∧ x.a.c.at_ = x.a.c.at_ ∧ x.a.c.last = x.a.c.last ∧ (x.aa = x.aa
 ∧ x.al = x.al ∧ x.ac = x.ac) ∧ x.r.why = x.r.why ∧ x.r.wait = x.r.wait ∧ x.r.rwhy = x.r.rwhy ∧ x.r.ram = x.r.ram ∧ (x.ra = x.ra ∧ x.rn = x.rn ∧ x.rc = x.rc)
 ∧ (x.da = x.da ∧ List.length x.d = List.length x.d ∧ x.dc = x.dc) ∧ (0 : Int) = (0 : Int) ∧ (0 : Int) = (0 : Int) ∧ (0 : Int) = (0 : Int) ∧ (0 : Int) =
 (0 : Int) ∧ (0 : Int) = (0 : Int) ∧ x.a.c.kind = x.a.c.kind ∧ x.a.c.ok = x.a.c.ok ∧ x.a.c.ofr = x.a.c.ofr ∧ x.a.c.oto = x.a.c.oto ∧ x.a.c.oam = x.a.c.oam
 ∧ x.a.c.okey = x.a.c.okey ∧ x.a.c.osl = x.a.c.osl ∧ x.a.c.osh = x.a.c.osh ∧ x.a.c.id = x.a.c.id ∧ x.a.c.name = x.a.c.name ∧ x.a.c.n = x.a.c.n ∧ x.a.c.why = x.a.c.why
 ∧ x.a.c.slot = x.a.c.slot ∧ x.a.c.ep = x.a.c.ep ∧ x.a.c.at_ = x.a.c.at_ ∧ x.a.c.last = x.a.c.last ∧ (x.aa = x.aa ∧ x.al = x.al ∧ x.ac = x.ac) ∧ ((Rm.ab x226.fst = Ab.know
 (Rm.ab x.m) x.x ∧ Ab.ok (Rm.ab x226.fst) ∧ List.length x226.fst.d.vs ≤ x226.fst.d.c) ∧ Ab.told (Rm.ab x.m) x.x x.a x.al x.r.why x.d = Ab.hear (Rm.ab x226.fst) x.x x.a.c x.al x.r.why x.d
 ∧ q8 x = false ∧ x226.snd = q9 x x226.fst) ∧ ∀ (w227 : World), (RowAt w227 x.da x.d ∧ True) ∧ True → (((∀ (k228 : Nat) (x229 : Value), x.d[k228]? = some x229
 → ∃ (ad230 : Addr), x.da = some ad230 ∧ World.cell? w227 (Addr.add ad230 k228) = some x229) ∧ True) ∧ True) ∧ True)) ∧ ((x.x.ph == (2 : Int)) = false →
 ∃ (x231 : Rm × Bool), x231.snd = false ∧ x231.fst.n = x185.fst.n ∧ x231.fst.has = x185.fst.has ∧ (List.length x231.fst.d.vs = List.length x185.fst.d.vs
 ∧ x231.fst.d.c = x185.fst.d.c) ∧ x231.fst.d.z = x185.fst.d.z ∧ x231.fst.at_ = x185.fst.at_ ∧ (x231.fst.d.vs = x185.fst.d.vs ∧ List.length x231.fst.d.vs = List.length x185.fst.d.vs
 ∧ x231.fst.d.c = x185.fst.d.c ∧ (1 : Nat) = (1 : Nat)) ∧ x.x.slot = x.x.slot ∧ x.x.frm = x.x.frm ∧ x.x.to = x.x.to ∧ x.x.ep = x.x.ep ∧ x.x.ph = x.x.ph
 ∧ x.x.n = x.x.n ∧ x.a.g = x.a.g ∧ x.a.c.kind = x.a.c.kind ∧ x.a.c.ok = x.a.c.ok ∧ x.a.c.ofr = x.a.c.ofr ∧ x.a.c.oto = x.a.c.oto ∧ x.a.c.oam = x.a.c.oam
 ∧ x.a.c.okey = x.a.c.okey ∧ x.a.c.osl = x.a.c.osl ∧ x.a.c.osh = x.a.c.osh ∧ x.a.c.id = x.a.c.id ∧ x.a.c.name = x.a.c.name ∧ x.a.c.n = x.a.c.n ∧ x.a.c.why = x.a.c.why
 ∧ x.a.c.slot = x.a.c.slot ∧ x.a.c.ep = x.a.c.ep ∧ x.a.c.at_ = x.a.c.at_ ∧ x.a.c.last = x.a.c.last ∧ (x.aa = x.aa ∧ x.al = x.al ∧ x.ac = x.ac) ∧ x.r.why = x.r.why
 ∧ x.r.wait = x.r.wait ∧ x.r.rwhy = x.r.rwhy ∧ x.r.ram = x.r.ram ∧ (x.ra = x.ra ∧ x.rn = x.rn ∧ x.rc = x.rc) ∧ (x.da = x.da ∧ List.length x.d = List.length x.d
 ∧ x.dc = x.dc) ∧ (0 : Int) = (0 : Int) ∧ (0 : Int) = (0 : Int) ∧ (0 : Int) = (0 : Int) ∧ (0 : Int) = (0 : Int) ∧ (0 : Int) = (0 : Int) ∧ x.a.c.kind = x.a.c.kind
 ∧ x.a.c.ok = x.a.c.ok ∧ x.a.c.ofr = x.a.c.ofr ∧ x.a.c.oto = x.a.c.oto ∧ x.a.c.oam = x.a.c.oam ∧ x.a.c.okey = x.a.c.okey ∧ x.a.c.osl = x.a.c.osl ∧ x.a.c.osh = x.a.c.osh
 ∧ x.a.c.id = x.a.c.id ∧ x.a.c.name = x.a.c.name ∧ x.a.c.n = x.a.c.n ∧ x.a.c.why = x.a.c.why ∧ x.a.c.slot = x.a.c.slot ∧ x.a.c.ep = x.a.c.ep ∧ x.a.c.at_ = x.a.c.at_
 ∧ x.a.c.last = x.a.c.last ∧ (x.aa = x.aa ∧ x.al = x.al ∧ x.ac = x.ac) ∧ ((Rm.ab x231.fst = Ab.know (Rm.ab x.m) x.x ∧ Ab.ok (Rm.ab x231.fst) ∧ List.length x231.fst.d.vs ≤ x231.fst.d.c)
 ∧ Ab.told (Rm.ab x.m) x.x x.a x.al x.r.why x.d = Ab.hear (Rm.ab x231.fst) x.x x.a.c x.al x.r.why x.d ∧ q8 x = false ∧ x231.snd = q9 x x231.fst) ∧ ∀ (w232 : World),
 (RowAt w232 x.da x.d ∧ True) ∧ True → (((∀ (k233 : Nat) (x234 : Value), x.d[k233]? = some x234 → ∃ (ad235 : Addr), x.da = some ad235 ∧ World.cell? w232
 (Addr.add ad235 k233) = some x234) ∧ True) ∧ True) ∧ True)) ∧ ((x.a.c.kind == (9 : Int)) = false → ∃ (x236 : Rm × Bool), x236.snd = false ∧ x236.fst.n = x185.fst.n
 ∧ x236.fst.has = x185.fst.has ∧ (List.length x236.fst.d.vs = List.length x185.fst.d.vs ∧ x236.fst.d.c = x185.fst.d.c) ∧ x236.fst.d.z = x185.fst.d.z ∧ x236.fst.at_ = x185.fst.at_
 ∧ (x236.fst.d.vs = x185.fst.d.vs ∧ List.length x236.fst.d.vs = List.length x185.fst.d.vs ∧ x236.fst.d.c = x185.fst.d.c ∧ (1 : Nat) = (1 : Nat)) ∧ x.x.slot = x.x.slot
 ∧ x.x.frm = x.x.frm ∧ x.x.to = x.x.to ∧ x.x.ep = x.x.ep ∧ x.x.ph = x.x.ph ∧ x.x.n = x.x.n ∧ x.a.g = x.a.g ∧ x.a.c.kind = x.a.c.kind ∧ x.a.c.ok = x.a.c.ok
 ∧ x.a.c.ofr = x.a.c.ofr ∧ x.a.c.oto = x.a.c.oto ∧ x.a.c.oam = x.a.c.oam ∧ x.a.c.okey = x.a.c.okey ∧ x.a.c.osl = x.a.c.osl ∧ x.a.c.osh = x.a.c.osh ∧ x.a.c.id = x.a.c.id
 ∧ x.a.c.name = x.a.c.name ∧ x.a.c.n = x.a.c.n ∧ x.a.c.why = x.a.c.why ∧ x.a.c.slot = x.a.c.slot ∧ x.a.c.ep = x.a.c.ep ∧ x.a.c.at_ = x.a.c.at_ ∧ x.a.c.last = x.a.c.last
 ∧ (x.aa = x.aa ∧ x.al = x.al ∧ x.ac = x.ac) ∧ x.r.why = x.r.why ∧ x.r.wait = x.r.wait ∧ x.r.rwhy = x.r.rwhy ∧ x.r.ram = x.r.ram ∧ (x.ra = x.ra ∧ x.rn = x.rn
 ∧ x.rc = x.rc) ∧ (x.da = x.da ∧ List.length x.d = List.length x.d ∧ x.dc = x.dc) ∧ (0 : Int) = (0 : Int) ∧ (0 : Int) = (0 : Int) ∧ (0 : Int) = (0 : Int)
 ∧ (0 : Int) = (0 : Int) ∧ (0 : Int) = (0 : Int) ∧ x.a.c.kind = x.a.c.kind ∧ x.a.c.ok = x.a.c.ok ∧ x.a.c.ofr = x.a.c.ofr ∧ x.a.c.oto = x.a.c.oto ∧ x.a.c.oam = x.a.c.oam
 ∧ x.a.c.okey = x.a.c.okey ∧ x.a.c.osl = x.a.c.osl ∧ x.a.c.osh = x.a.c.osh ∧ x.a.c.id = x.a.c.id ∧ x.a.c.name = x.a.c.name ∧ x.a.c.n = x.a.c.n ∧ x.a.c.why = x.a.c.why
 ∧ x.a.c.slot = x.a.c.slot ∧ x.a.c.ep = x.a.c.ep ∧ x.a.c.at_ = x.a.c.at_ ∧ x.a.c.last = x.a.c.last ∧ (x.aa = x.aa ∧ x.al = x.al ∧ x.ac = x.ac) ∧ ((Rm.ab x236.fst = Ab.know
 (Rm.ab x.m) x.x ∧ Ab.ok (Rm.ab x236.fst) ∧ List.length x236.fst.d.vs ≤ x236.fst.d.c) ∧ Ab.told (Rm.ab x.m) x.x x.a x.al x.r.why x.d = Ab.hear (Rm.ab x236.fst) x.x x.a.c x.al x.r.why x.d
 ∧ q8 x = false ∧ x236.snd = q9 x x236.fst) ∧ ∀ (w237 : World), (RowAt w237 x.da x.d ∧ True) ∧ True → (((∀ (k238 : Nat) (x239 : Value), x.d[k238]? = some x239
 → ∃ (ad240 : Addr), x.da = some ad240 ∧ World.cell? w237 (Addr.add ad240 k238) = some x239) ∧ True) ∧ True) ∧ True)) ∧ ∀ (x241 : Rm × Bool), (Rm.ab x241.fst = Ab.know
 (Rm.ab x.m) x.x ∧ Rm.ok x241.fst) ∧ Ab.told (Rm.ab x.m) x.x x.a x.al x.r.why x.d = Ab.hear (Rm.ab x241.fst) x.x x.a.c x.al x.r.why x.d ∧ q8 x = false ∧ x241.snd = q9 x x241.fst
 → (x241.snd = true → ((x.r.why == (5 : Int)) = false → ((x.r.why == (3 : Int)) = true → ((x.r.why == (0 : Int)) = true → (True ∧ (decide (IntKind.wrap IntKind.i64
 ((0 : Int) + (↑x.al : Int)) > (↑(List.length x241.fst.d.vs) : Int)) = true → (x.a.c.last = true → ∃ (y242 : Rm × Bool), (bif y242.snd then (2 : Int) else
 (0 : Int)) = (2 : Int) ∧ (0 : Int) = (0 : Int) ∧ (0 : Int) = (0 : Int) ∧ (bif y242.snd then x.x.n else (0 : Int)) = x.x.n ∧ (bif y242.snd then x.x.ph else
 (0 : Int)) = x.x.ph ∧ y242.snd = true ∧ y242.fst.n = x241.fst.n ∧ y242.fst.has = x241.fst.has ∧ (List.length y242.fst.d.vs = List.length x241.fst.d.vs
 ∧ y242.fst.d.c = x241.fst.d.c) ∧ y242.fst.d.z = x241.fst.d.z ∧ y242.fst.at_ = (↑(List.length x241.fst.d.vs) : Int) ∧ (y242.fst.d.vs = x241.fst.d.vs ∧ List.length y242.fst.d.vs = List.length x241.fst.d.vs
 ∧ y242.fst.d.c = x241.fst.d.c ∧ (1 : Nat) = (1 : Nat)) ∧ ((Rm.ab y242.fst, y242.snd) = Ab.told (Rm.ab x.m) x.x x.a x.al x.r.why x.d ∧ Ab.ok (Rm.ab y242.fst)
 ∧ List.length y242.fst.d.vs ≤ y242.fst.d.c) ∧ ∀ (w243 : World), ((RowAt w243 x.da x.d ∧ True) ∧ True) ∧ True → True) ∧ (x.a.c.last = false → ∃ (x244 : Rm), x244.n = x241.fst.n
 ∧ x244.has = x241.fst.has ∧ (List.length x244.d.vs = List.length x241.fst.d.vs ∧ x244.d.c = x241.fst.d.c) ∧ x244.d.z = x241.fst.d.z ∧ x244.at_ = (↑(List.length x241.fst.d.vs) : Int)
 ∧ (x244.d.vs = x241.fst.d.vs ∧ List.length x244.d.vs = List.length x241.fst.d.vs ∧ x244.d.c = x241.fst.d.c ∧ (1 : Nat) = (1 : Nat)) ∧ (0 : Int) = (0 : Int)
 ∧ (0 : Int) = (0 : Int) ∧ (0 : Int) = (0 : Int) ∧ (0 : Int) = (0 : Int) ∧ (0 : Int) = (0 : Int) ∧ ((Rm.ab x244, false) = Ab.told (Rm.ab x.m) x.x x.a x.al x.r.why x.d
 ∧ Ab.ok (Rm.ab x244) ∧ List.length x244.d.vs ≤ x244.d.c) ∧ ∀ (w245 : World), ((RowAt w245 x.da x.d ∧ True) ∧ True) ∧ True → ((∀ (k246 : Nat) (x247 : Value), x.d[k246]? = some x247
 → ∃ (ad248 : Addr), x.da = some ad248 ∧ World.cell? w245 (Addr.add ad248 k246) = some x247) ∧ True) ∧ True)) ∧ (decide (IntKind.wrap IntKind.i64 ((0 : Int) +
 (↑x.al : Int)) > (↑(List.length x241.fst.d.vs) : Int)) = false → (x.a.c.last = true → ∃ (y249 : Rm × Bool), (bif y249.snd then (2 : Int) else (0 : Int)) =
 (2 : Int) ∧ (0 : Int) = (0 : Int) ∧ (0 : Int) = (0 : Int) ∧ (bif y249.snd then x.x.n else (0 : Int)) = x.x.n ∧ (bif y249.snd then x.x.ph else (0 : Int)) = x.x.ph
 ∧ y249.snd = true ∧ y249.fst.n = x241.fst.n ∧ y249.fst.has = x241.fst.has ∧ (List.length y249.fst.d.vs = List.length x241.fst.d.vs ∧ y249.fst.d.c = x241.fst.d.c)
 ∧ y249.fst.d.z = x241.fst.d.z ∧ y249.fst.at_ = IntKind.wrap IntKind.i64 ((0 : Int) + (↑x.al : Int)) ∧ (y249.fst.d.vs = x241.fst.d.vs ∧ List.length y249.fst.d.vs = List.length x241.fst.d.vs
 ∧ y249.fst.d.c = x241.fst.d.c ∧ (1 : Nat) = (1 : Nat)) ∧ ((Rm.ab y249.fst, y249.snd) = Ab.told (Rm.ab x.m) x.x x.a x.al x.r.why x.d ∧ Ab.ok (Rm.ab y249.fst)
 ∧ List.length y249.fst.d.vs ≤ y249.fst.d.c) ∧ ∀ (w250 : World), ((RowAt w250 x.da x.d ∧ True) ∧ True) ∧ True → True) ∧ (x.a.c.last = false → ∃ (x251 : Rm), x251.n = x241.fst.n
 ∧ x251.has = x241.fst.has ∧ (List.length x251.d.vs = List.length x241.fst.d.vs ∧ x251.d.c = x241.fst.d.c) ∧ x251.d.z = x241.fst.d.z ∧ x251.at_ = IntKind.wrap IntKind.i64
 ((0 : Int) + (↑x.al : Int)) ∧ (x251.d.vs = x241.fst.d.vs ∧ List.length x251.d.vs = List.length x241.fst.d.vs ∧ x251.d.c = x241.fst.d.c ∧ (1 : Nat) = (1 : Nat))
 ∧ (0 : Int) = (0 : Int) ∧ (0 : Int) = (0 : Int) ∧ (0 : Int) = (0 : Int) ∧ (0 : Int) = (0 : Int) ∧ (0 : Int) = (0 : Int) ∧ ((Rm.ab x251, false) = Ab.told
 (Rm.ab x.m) x.x x.a x.al x.r.why x.d ∧ Ab.ok (Rm.ab x251) ∧ List.length x251.d.vs ≤ x251.d.c) ∧ ∀ (w252 : World), ((RowAt w252 x.da x.d ∧ True) ∧ True)
 ∧ True → ((∀ (k253 : Nat) (x254 : Value), x.d[k253]? = some x254 → ∃ (ad255 : Addr), x.da = some ad255 ∧ World.cell? w252 (Addr.add ad255 k253) = some x254)
 ∧ True) ∧ True))) ∧ True) ∧ ((x.r.why == (0 : Int)) = false → ∃ (x256 : Rm), x256.n = x241.fst.n ∧ x256.has = x241.fst.has ∧ (List.length x256.d.vs = List.length x241.fst.d.vs
 ∧ x256.d.c = x241.fst.d.c) ∧ x256.d.z = x241.fst.d.z ∧ x256.at_ = (0 : Int) ∧ (x256.d.vs = x241.fst.d.vs ∧ List.length x256.d.vs = List.length x241.fst.d.vs
 ∧ x256.d.c = x241.fst.d.c ∧ (1 : Nat) = (1 : Nat)) ∧ (0 : Int) = (0 : Int) ∧ (0 : Int) = (0 : Int) ∧ (0 : Int) = (0 : Int) ∧ (0 : Int) = (0 : Int) ∧ (0 : Int) =
 (0 : Int) ∧ ((Rm.ab x256, false) = Ab.told (Rm.ab x.m) x.x x.a x.al x.r.why x.d ∧ Ab.ok (Rm.ab x256) ∧ List.length x256.d.vs ≤ x256.d.c) ∧ ∀ (w257 : World),
 ((RowAt w257 x.da x.d ∧ True) ∧ True) ∧ True → ((∀ (k258 : Nat) (x259 : Value), x.d[k258]? = some x259 → ∃ (ad260 : Addr), x.da = some ad260 ∧ World.cell? w257
 (Addr.add ad260 k258) = some x259) ∧ True) ∧ True)) ∧ ((x.r.why == (3 : Int)) = false → ((x.r.why == (0 : Int)) = true → (True ∧ (decide (IntKind.wrap IntKind.i64
 (x241.fst.at_ + (↑x.al : Int)) > (↑(List.length x241.fst.d.vs) : Int)) = true → (x.a.c.last = true → ∃ (y261 : Rm × Bool), (bif y261.snd then (2 : Int) else
 (0 : Int)) = (2 : Int) ∧ (0 : Int) = (0 : Int) ∧ (0 : Int) = (0 : Int) ∧ (bif y261.snd then x.x.n else (0 : Int)) = x.x.n ∧ (bif y261.snd then x.x.ph else
 (0 : Int)) = x.x.ph ∧ y261.snd = true ∧ y261.fst.n = x241.fst.n ∧ y261.fst.has = x241.fst.has ∧ (List.length y261.fst.d.vs = List.length x241.fst.d.vs
 ∧ y261.fst.d.c = x241.fst.d.c) ∧ y261.fst.d.z = x241.fst.d.z ∧ y261.fst.at_ = (↑(List.length x241.fst.d.vs) : Int) ∧ (y261.fst.d.vs = x241.fst.d.vs ∧ List.length y261.fst.d.vs = List.length x241.fst.d.vs
 ∧ y261.fst.d.c = x241.fst.d.c ∧ (1 : Nat) = (1 : Nat)) ∧ ((Rm.ab y261.fst, y261.snd) = Ab.told (Rm.ab x.m) x.x x.a x.al x.r.why x.d ∧ Ab.ok (Rm.ab y261.fst)
 ∧ List.length y261.fst.d.vs ≤ y261.fst.d.c) ∧ ∀ (w262 : World), ((RowAt w262 x.da x.d ∧ True) ∧ True) ∧ True → True) ∧ (x.a.c.last = false → ∃ (x263 : Rm), x263.n = x241.fst.n
 ∧ x263.has = x241.fst.has ∧ (List.length x263.d.vs = List.length x241.fst.d.vs ∧ x263.d.c = x241.fst.d.c) ∧ x263.d.z = x241.fst.d.z ∧ x263.at_ = (↑(List.length x241.fst.d.vs) : Int)
 ∧ (x263.d.vs = x241.fst.d.vs ∧ List.length x263.d.vs = List.length x241.fst.d.vs ∧ x263.d.c = x241.fst.d.c ∧ (1 : Nat) = (1 : Nat)) ∧ (0 : Int) = (0 : Int)
 ∧ (0 : Int) = (0 : Int) ∧ (0 : Int) = (0 : Int) ∧ (0 : Int) = (0 : Int) ∧ (0 : Int) = (0 : Int) ∧ ((Rm.ab x263, false) = Ab.told (Rm.ab x.m) x.x x.a x.al x.r.why x.d
 ∧ Ab.ok (Rm.ab x263) ∧ List.length x263.d.vs ≤ x263.d.c) ∧ ∀ (w264 : World), ((RowAt w264 x.da x.d ∧ True) ∧ True) ∧ True → ((∀ (k265 : Nat) (x266 : Value), x.d[k265]? = some x266
 → ∃ (ad267 : Addr), x.da = some ad267 ∧ World.cell? w264 (Addr.add ad267 k265) = some x266) ∧ True) ∧ True)) ∧ (decide (IntKind.wrap IntKind.i64 (x241.fst.at_ +
 (↑x.al : Int)) > (↑(List.length x241.fst.d.vs) : Int)) = false → (x.a.c.last = true → ∃ (y268 : Rm × Bool), (bif y268.snd then (2 : Int) else (0 : Int)) =
 (2 : Int) ∧ (0 : Int) = (0 : Int) ∧ (0 : Int) = (0 : Int) ∧ (bif y268.snd then x.x.n else (0 : Int)) = x.x.n ∧ (bif y268.snd then x.x.ph else (0 : Int)) = x.x.ph
 ∧ y268.snd = true ∧ y268.fst.n = x241.fst.n ∧ y268.fst.has = x241.fst.has ∧ (List.length y268.fst.d.vs = List.length x241.fst.d.vs ∧ y268.fst.d.c = x241.fst.d.c)
 ∧ y268.fst.d.z = x241.fst.d.z ∧ y268.fst.at_ = IntKind.wrap IntKind.i64 (x241.fst.at_ + (↑x.al : Int)) ∧ (y268.fst.d.vs = x241.fst.d.vs ∧ List.length y268.fst.d.vs = List.length x241.fst.d.vs
 ∧ y268.fst.d.c = x241.fst.d.c ∧ (1 : Nat) = (1 : Nat)) ∧ ((Rm.ab y268.fst, y268.snd) = Ab.told (Rm.ab x.m) x.x x.a x.al x.r.why x.d ∧ Ab.ok (Rm.ab y268.fst)
 ∧ List.length y268.fst.d.vs ≤ y268.fst.d.c) ∧ ∀ (w269 : World), ((RowAt w269 x.da x.d ∧ True) ∧ True) ∧ True → True) ∧ (x.a.c.last = false → ∃ (x270 : Rm), x270.n = x241.fst.n
 ∧ x270.has = x241.fst.has ∧ (List.length x270.d.vs = List.length x241.fst.d.vs ∧ x270.d.c = x241.fst.d.c) ∧ x270.d.z = x241.fst.d.z ∧ x270.at_ = IntKind.wrap IntKind.i64
 (x241.fst.at_ + (↑x.al : Int)) ∧ (x270.d.vs = x241.fst.d.vs ∧ List.length x270.d.vs = List.length x241.fst.d.vs ∧ x270.d.c = x241.fst.d.c ∧ (1 : Nat) =
 (1 : Nat)) ∧ (0 : Int) = (0 : Int) ∧ (0 : Int) = (0 : Int) ∧ (0 : Int) = (0 : Int) ∧ (0 : Int) = (0 : Int) ∧ (0 : Int) = (0 : Int) ∧ ((Rm.ab x270, false) = Ab.told
 (Rm.ab x.m) x.x x.a x.al x.r.why x.d ∧ Ab.ok (Rm.ab x270) ∧ List.length x270.d.vs ≤ x270.d.c) ∧ ∀ (w271 : World), ((RowAt w271 x.da x.d ∧ True) ∧ True)
 ∧ True → ((∀ (k272 : Nat) (x273 : Value), x.d[k272]? = some x273 → ∃ (ad274 : Addr), x.da = some ad274 ∧ World.cell? w271 (Addr.add ad274 k272) = some x273)
 ∧ True) ∧ True))) ∧ True) ∧ ((x.r.why == (0 : Int)) = false → ∃ (x275 : Rm), x275.n = x241.fst.n ∧ x275.has = x241.fst.has ∧ (List.length x275.d.vs = List.length x241.fst.d.vs
 ∧ x275.d.c = x241.fst.d.c) ∧ x275.d.z = x241.fst.d.z ∧ x275.at_ = x241.fst.at_ ∧ (x275.d.vs = x241.fst.d.vs ∧ List.length x275.d.vs = List.length x241.fst.d.vs
 ∧ x275.d.c = x241.fst.d.c ∧ (1 : Nat) = (1 : Nat)) ∧ (0 : Int) = (0 : Int) ∧ (0 : Int) = (0 : Int) ∧ (0 : Int) = (0 : Int) ∧ (0 : Int) = (0 : Int) ∧ (0 : Int) =
 (0 : Int) ∧ ((Rm.ab x275, false) = Ab.told (Rm.ab x.m) x.x x.a x.al x.r.why x.d ∧ Ab.ok (Rm.ab x275) ∧ List.length x275.d.vs ≤ x275.d.c) ∧ ∀ (w276 : World),
 ((RowAt w276 x.da x.d ∧ True) ∧ True) ∧ True → ((∀ (k277 : Nat) (x278 : Value), x.d[k277]? = some x278 → ∃ (ad279 : Addr), x.da = some ad279 ∧ World.cell? w276
 (Addr.add ad279 k277) = some x278) ∧ True) ∧ True))) ∧ ((x.r.why == (5 : Int)) = true → ((x.r.why == (0 : Int)) = true → (True ∧ (decide (IntKind.wrap IntKind.i64
 ((0 : Int) + (↑x.al : Int)) > (↑(List.length x241.fst.d.vs) : Int)) = true → (x.a.c.last = true → ∃ (y280 : Rm × Bool), (bif y280.snd then (2 : Int) else
 (0 : Int)) = (2 : Int) ∧ (0 : Int) = (0 : Int) ∧ (0 : Int) = (0 : Int) ∧ (bif y280.snd then x.x.n else (0 : Int)) = x.x.n ∧ (bif y280.snd then x.x.ph else
 (0 : Int)) = x.x.ph ∧ y280.snd = true ∧ y280.fst.n = x241.fst.n ∧ y280.fst.has = x241.fst.has ∧ (List.length y280.fst.d.vs = List.length x241.fst.d.vs
 ∧ y280.fst.d.c = x241.fst.d.c) ∧ y280.fst.d.z = x241.fst.d.z ∧ y280.fst.at_ = (↑(List.length x241.fst.d.vs) : Int) ∧ (y280.fst.d.vs = x241.fst.d.vs ∧ List.length y280.fst.d.vs = List.length x241.fst.d.vs
 ∧ y280.fst.d.c = x241.fst.d.c ∧ (1 : Nat) = (1 : Nat)) ∧ ((Rm.ab y280.fst, y280.snd) = Ab.told (Rm.ab x.m) x.x x.a x.al x.r.why x.d ∧ Ab.ok (Rm.ab y280.fst)
 ∧ List.length y280.fst.d.vs ≤ y280.fst.d.c) ∧ ∀ (w281 : World), ((RowAt w281 x.da x.d ∧ True) ∧ True) ∧ True → True) ∧ (x.a.c.last = false → ∃ (x282 : Rm), x282.n = x241.fst.n
 ∧ x282.has = x241.fst.has ∧ (List.length x282.d.vs = List.length x241.fst.d.vs ∧ x282.d.c = x241.fst.d.c) ∧ x282.d.z = x241.fst.d.z ∧ x282.at_ = (↑(List.length x241.fst.d.vs) : Int)
 ∧ (x282.d.vs = x241.fst.d.vs ∧ List.length x282.d.vs = List.length x241.fst.d.vs ∧ x282.d.c = x241.fst.d.c ∧ (1 : Nat) = (1 : Nat)) ∧ (0 : Int) = (0 : Int)
 ∧ (0 : Int) = (0 : Int) ∧ (0 : Int) = (0 : Int) ∧ (0 : Int) = (0 : Int) ∧ (0 : Int) = (0 : Int) ∧ ((Rm.ab x282, false) = Ab.told (Rm.ab x.m) x.x x.a x.al x.r.why x.d
 ∧ Ab.ok (Rm.ab x282) ∧ List.length x282.d.vs ≤ x282.d.c) ∧ ∀ (w283 : World), ((RowAt w283 x.da x.d ∧ True) ∧ True) ∧ True → ((∀ (k284 : Nat) (x285 : Value), x.d[k284]? = some x285
 → ∃ (ad286 : Addr), x.da = some ad286 ∧ World.cell? w283 (Addr.add ad286 k284) = some x285) ∧ True) ∧ True)) ∧ (decide (IntKind.wrap IntKind.i64 ((0 : Int) +
 (↑x.al : Int)) > (↑(List.length x241.fst.d.vs) : Int)) = false → (x.a.c.last = true → ∃ (y287 : Rm × Bool), (bif y287.snd then (2 : Int) else (0 : Int)) =
 (2 : Int) ∧ (0 : Int) = (0 : Int) ∧ (0 : Int) = (0 : Int) ∧ (bif y287.snd then x.x.n else (0 : Int)) = x.x.n ∧ (bif y287.snd then x.x.ph else (0 : Int)) = x.x.ph
 ∧ y287.snd = true ∧ y287.fst.n = x241.fst.n ∧ y287.fst.has = x241.fst.has ∧ (List.length y287.fst.d.vs = List.length x241.fst.d.vs ∧ y287.fst.d.c = x241.fst.d.c)
 ∧ y287.fst.d.z = x241.fst.d.z ∧ y287.fst.at_ = IntKind.wrap IntKind.i64 ((0 : Int) + (↑x.al : Int)) ∧ (y287.fst.d.vs = x241.fst.d.vs ∧ List.length y287.fst.d.vs = List.length x241.fst.d.vs
 ∧ y287.fst.d.c = x241.fst.d.c ∧ (1 : Nat) = (1 : Nat)) ∧ ((Rm.ab y287.fst, y287.snd) = Ab.told (Rm.ab x.m) x.x x.a x.al x.r.why x.d ∧ Ab.ok (Rm.ab y287.fst)
 ∧ List.length y287.fst.d.vs ≤ y287.fst.d.c) ∧ ∀ (w288 : World), ((RowAt w288 x.da x.d ∧ True) ∧ True) ∧ True → True) ∧ (x.a.c.last = false → ∃ (x289 : Rm), x289.n = x241.fst.n
 ∧ x289.has = x241.fst.has ∧ (List.length x289.d.vs = List.length x241.fst.d.vs ∧ x289.d.c = x241.fst.d.c) ∧ x289.d.z = x241.fst.d.z ∧ x289.at_ = IntKind.wrap IntKind.i64
 ((0 : Int) + (↑x.al : Int)) ∧ (x289.d.vs = x241.fst.d.vs ∧ List.length x289.d.vs = List.length x241.fst.d.vs ∧ x289.d.c = x241.fst.d.c ∧ (1 : Nat) = (1 : Nat))
 ∧ (0 : Int) = (0 : Int) ∧ (0 : Int) = (0 : Int) ∧ (0 : Int) = (0 : Int) ∧ (0 : Int) = (0 : Int) ∧ (0 : Int) = (0 : Int) ∧ ((Rm.ab x289, false) = Ab.told
 (Rm.ab x.m) x.x x.a x.al x.r.why x.d ∧ Ab.ok (Rm.ab x289) ∧ List.length x289.d.vs ≤ x289.d.c) ∧ ∀ (w290 : World), ((RowAt w290 x.da x.d ∧ True) ∧ True)
 ∧ True → ((∀ (k291 : Nat) (x292 : Value), x.d[k291]? = some x292 → ∃ (ad293 : Addr), x.da = some ad293 ∧ World.cell? w290 (Addr.add ad293 k291) = some x292)
 ∧ True) ∧ True))) ∧ True) ∧ ((x.r.why == (0 : Int)) = false → ∃ (x294 : Rm), x294.n = x241.fst.n ∧ x294.has = x241.fst.has ∧ (List.length x294.d.vs = List.length x241.fst.d.vs
 ∧ x294.d.c = x241.fst.d.c) ∧ x294.d.z = x241.fst.d.z ∧ x294.at_ = (0 : Int) ∧ (x294.d.vs = x241.fst.d.vs ∧ List.length x294.d.vs = List.length x241.fst.d.vs
 ∧ x294.d.c = x241.fst.d.c ∧ (1 : Nat) = (1 : Nat)) ∧ (0 : Int) = (0 : Int) ∧ (0 : Int) = (0 : Int) ∧ (0 : Int) = (0 : Int) ∧ (0 : Int) = (0 : Int) ∧ (0 : Int) =
 (0 : Int) ∧ ((Rm.ab x294, false) = Ab.told (Rm.ab x.m) x.x x.a x.al x.r.why x.d ∧ Ab.ok (Rm.ab x294) ∧ List.length x294.d.vs ≤ x294.d.c) ∧ ∀ (w295 : World),
 ((RowAt w295 x.da x.d ∧ True) ∧ True) ∧ True → ((∀ (k296 : Nat) (x297 : Value), x.d[k296]? = some x297 → ∃ (ad298 : Addr), x.da = some ad298 ∧ World.cell? w295
 (Addr.add ad298 k296) = some x297) ∧ True) ∧ True))) ∧ (x241.snd = false → (((x.a.c.kind == (10 : Int)) = true → ((x.x.ph == (3 : Int)) = true → ∃ (x299 : Rm × Bool), x299.snd =
 (x.r.why == (0 : Int)) ∧ x299.fst.n = x241.fst.n ∧ x299.fst.has = x241.fst.has ∧ (List.length x299.fst.d.vs = List.length x241.fst.d.vs ∧ x299.fst.d.c = x241.fst.d.c)
 ∧ x299.fst.d.z = x241.fst.d.z ∧ x299.fst.at_ = x241.fst.at_ ∧ (x299.fst.d.vs = x241.fst.d.vs ∧ List.length x299.fst.d.vs = List.length x241.fst.d.vs ∧ x299.fst.d.c = x241.fst.d.c
 ∧ (1 : Nat) = (1 : Nat)) ∧ x.x.slot = x.x.slot ∧ x.x.frm = x.x.frm ∧ x.x.to = x.x.to ∧ x.x.ep = x.x.ep ∧ x.x.ph = x.x.ph ∧ x.x.n = x.x.n ∧ x.a.g = x.a.g
 ∧ x.a.c.kind = x.a.c.kind ∧ x.a.c.ok = x.a.c.ok ∧ x.a.c.ofr = x.a.c.ofr ∧ x.a.c.oto = x.a.c.oto ∧ x.a.c.oam = x.a.c.oam ∧ x.a.c.okey = x.a.c.okey ∧ x.a.c.osl = x.a.c.osl
 ∧ x.a.c.osh = x.a.c.osh ∧ x.a.c.id = x.a.c.id ∧ x.a.c.name = x.a.c.name ∧ x.a.c.n = x.a.c.n ∧ x.a.c.why = x.a.c.why ∧ x.a.c.slot = x.a.c.slot ∧ x.a.c.ep = x.a.c.ep
 ∧ x.a.c.at_ = x.a.c.at_ ∧ x.a.c.last = x.a.c.last ∧ (x.aa = x.aa ∧ x.al = x.al ∧ x.ac = x.ac) ∧ x.r.why = x.r.why ∧ x.r.wait = x.r.wait ∧ x.r.rwhy = x.r.rwhy
 ∧ x.r.ram = x.r.ram ∧ (x.ra = x.ra ∧ x.rn = x.rn ∧ x.rc = x.rc) ∧ (x.da = x.da ∧ List.length x.d = List.length x.d ∧ x.dc = x.dc) ∧ (0 : Int) = (0 : Int)
 ∧ (0 : Int) = (0 : Int) ∧ (0 : Int) = (0 : Int) ∧ (0 : Int) = (0 : Int) ∧ (0 : Int) = (0 : Int) ∧ x.a.c.kind = x.a.c.kind ∧ x.a.c.ok = x.a.c.ok ∧ x.a.c.ofr = x.a.c.ofr
 ∧ x.a.c.oto = x.a.c.oto ∧ x.a.c.oam = x.a.c.oam ∧ x.a.c.okey = x.a.c.okey ∧ x.a.c.osl = x.a.c.osl ∧ x.a.c.osh = x.a.c.osh ∧ x.a.c.id = x.a.c.id ∧ x.a.c.name = x.a.c.name
 ∧ x.a.c.n = x.a.c.n ∧ x.a.c.why = x.a.c.why ∧ x.a.c.slot = x.a.c.slot ∧ x.a.c.ep = x.a.c.ep ∧ x.a.c.at_ = x.a.c.at_ ∧ x.a.c.last = x.a.c.last ∧ (x.aa = x.aa
 ∧ x.al = x.al ∧ x.ac = x.ac) ∧ ((Rm.ab x299.fst = Ab.know (Rm.ab x.m) x.x ∧ Ab.ok (Rm.ab x299.fst) ∧ List.length x299.fst.d.vs ≤ x299.fst.d.c) ∧ Ab.told
 (Rm.ab x.m) x.x x.a x.al x.r.why x.d = Ab.hear (Rm.ab x299.fst) x.x x.a.c x.al x.r.why x.d ∧ q8 x = false ∧ q9 x x299.fst = false ∧ x299.snd = q10 x) ∧
 ∀ (w300 : World), ((RowAt w300 x.da x.d ∧ True) ∧ True) ∧ True → ((((∀ (k301 : Nat) (x302 : Value), x.d[k301]? = some x302 → ∃ (ad303 : Addr), x.da = some ad303
 ∧ World.cell? w300 (Addr.add ad303 k301) = some x302) ∧ True) ∧ True) ∧ True) ∧ True) ∧ ((x.x.ph == (3 : Int)) = false → ∃ (x304 : Rm × Bool), x304.snd = false
 ∧ x304.fst.n = x241.fst.n ∧ x304.fst.has = x241.fst.has ∧ (List.length x304.fst.d.vs = List.length x241.fst.d.vs ∧ x304.fst.d.c = x241.fst.d.c) ∧ x304.fst.d.z = x241.fst.d.z
 ∧ x304.fst.at_ = x241.fst.at_ ∧ (x304.fst.d.vs = x241.fst.d.vs ∧ List.length x304.fst.d.vs = List.length x241.fst.d.vs ∧ x304.fst.d.c = x241.fst.d.c ∧
 (1 : Nat) = (1 : Nat)) ∧ x.x.slot = x.x.slot ∧ x.x.frm = x.x.frm ∧ x.x.to = x.x.to ∧ x.x.ep = x.x.ep ∧ x.x.ph = x.x.ph ∧ x.x.n = x.x.n ∧ x.a.g = x.a.g
 ∧ x.a.c.kind = x.a.c.kind ∧ x.a.c.ok = x.a.c.ok ∧ x.a.c.ofr = x.a.c.ofr ∧ x.a.c.oto = x.a.c.oto ∧ x.a.c.oam = x.a.c.oam ∧ x.a.c.okey = x.a.c.okey ∧ x.a.c.osl = x.a.c.osl
 ∧ x.a.c.osh = x.a.c.osh ∧ x.a.c.id = x.a.c.id ∧ x.a.c.name = x.a.c.name ∧ x.a.c.n = x.a.c.n ∧ x.a.c.why = x.a.c.why ∧ x.a.c.slot = x.a.c.slot ∧ x.a.c.ep = x.a.c.ep
 ∧ x.a.c.at_ = x.a.c.at_ ∧ x.a.c.last = x.a.c.last ∧ (x.aa = x.aa ∧ x.al = x.al ∧ x.ac = x.ac) ∧ x.r.why = x.r.why ∧ x.r.wait = x.r.wait ∧ x.r.rwhy = x.r.rwhy
 ∧ x.r.ram = x.r.ram ∧ (x.ra = x.ra ∧ x.rn = x.rn ∧ x.rc = x.rc) ∧ (x.da = x.da ∧ List.length x.d = List.length x.d ∧ x.dc = x.dc) ∧ (0 : Int) = (0 : Int)
 ∧ (0 : Int) = (0 : Int) ∧ (0 : Int) = (0 : Int) ∧ (0 : Int) = (0 : Int) ∧ (0 : Int) = (0 : Int) ∧ x.a.c.kind = x.a.c.kind ∧ x.a.c.ok = x.a.c.ok ∧ x.a.c.ofr = x.a.c.ofr
 ∧ x.a.c.oto = x.a.c.oto ∧ x.a.c.oam = x.a.c.oam ∧ x.a.c.okey = x.a.c.okey ∧ x.a.c.osl = x.a.c.osl ∧ x.a.c.osh = x.a.c.osh ∧ x.a.c.id = x.a.c.id ∧ x.a.c.name = x.a.c.name
 ∧ x.a.c.n = x.a.c.n ∧ x.a.c.why = x.a.c.why ∧ x.a.c.slot = x.a.c.slot ∧ x.a.c.ep = x.a.c.ep ∧ x.a.c.at_ = x.a.c.at_ ∧ x.a.c.last = x.a.c.last ∧ (x.aa = x.aa
 ∧ x.al = x.al ∧ x.ac = x.ac) ∧ ((Rm.ab x304.fst = Ab.know (Rm.ab x.m) x.x ∧ Ab.ok (Rm.ab x304.fst) ∧ List.length x304.fst.d.vs ≤ x304.fst.d.c) ∧ Ab.told
 (Rm.ab x.m) x.x x.a x.al x.r.why x.d = Ab.hear (Rm.ab x304.fst) x.x x.a.c x.al x.r.why x.d ∧ q8 x = false ∧ q9 x x304.fst = false ∧ x304.snd = q10 x) ∧
 ∀ (w305 : World), ((RowAt w305 x.da x.d ∧ True) ∧ True) ∧ True → ((((∀ (k306 : Nat) (x307 : Value), x.d[k306]? = some x307 → ∃ (ad308 : Addr), x.da = some ad308
 ∧ World.cell? w305 (Addr.add ad308 k306) = some x307) ∧ True) ∧ True) ∧ True) ∧ True)) ∧ ((x.a.c.kind == (10 : Int)) = false → ∃ (x309 : Rm × Bool), x309.snd = false
 ∧ x309.fst.n = x241.fst.n ∧ x309.fst.has = x241.fst.has ∧ (List.length x309.fst.d.vs = List.length x241.fst.d.vs ∧ x309.fst.d.c = x241.fst.d.c) ∧ x309.fst.d.z = x241.fst.d.z
 ∧ x309.fst.at_ = x241.fst.at_ ∧ (x309.fst.d.vs = x241.fst.d.vs ∧ List.length x309.fst.d.vs = List.length x241.fst.d.vs ∧ x309.fst.d.c = x241.fst.d.c ∧
 (1 : Nat) = (1 : Nat)) ∧ x.x.slot = x.x.slot ∧ x.x.frm = x.x.frm ∧ x.x.to = x.x.to ∧ x.x.ep = x.x.ep ∧ x.x.ph = x.x.ph ∧ x.x.n = x.x.n ∧ x.a.g = x.a.g
 ∧ x.a.c.kind = x.a.c.kind ∧ x.a.c.ok = x.a.c.ok ∧ x.a.c.ofr = x.a.c.ofr ∧ x.a.c.oto = x.a.c.oto ∧ x.a.c.oam = x.a.c.oam ∧ x.a.c.okey = x.a.c.okey ∧ x.a.c.osl = x.a.c.osl
 ∧ x.a.c.osh = x.a.c.osh ∧ x.a.c.id = x.a.c.id ∧ x.a.c.name = x.a.c.name ∧ x.a.c.n = x.a.c.n ∧ x.a.c.why = x.a.c.why ∧ x.a.c.slot = x.a.c.slot ∧ x.a.c.ep = x.a.c.ep
 ∧ x.a.c.at_ = x.a.c.at_ ∧ x.a.c.last = x.a.c.last ∧ (x.aa = x.aa ∧ x.al = x.al ∧ x.ac = x.ac) ∧ x.r.why = x.r.why ∧ x.r.wait = x.r.wait ∧ x.r.rwhy = x.r.rwhy
 ∧ x.r.ram = x.r.ram ∧ (x.ra = x.ra ∧ x.rn = x.rn ∧ x.rc = x.rc) ∧ (x.da = x.da ∧ List.length x.d = List.length x.d ∧ x.dc = x.dc) ∧ (0 : Int) = (0 : Int)
 ∧ (0 : Int) = (0 : Int) ∧ (0 : Int) = (0 : Int) ∧ (0 : Int) = (0 : Int) ∧ (0 : Int) = (0 : Int) ∧ x.a.c.kind = x.a.c.kind ∧ x.a.c.ok = x.a.c.ok ∧ x.a.c.ofr = x.a.c.ofr
 ∧ x.a.c.oto = x.a.c.oto ∧ x.a.c.oam = x.a.c.oam ∧ x.a.c.okey = x.a.c.okey ∧ x.a.c.osl = x.a.c.osl ∧ x.a.c.osh = x.a.c.osh ∧ x.a.c.id = x.a.c.id ∧ x.a.c.name = x.a.c.name
 ∧ x.a.c.n = x.a.c.n ∧ x.a.c.why = x.a.c.why ∧ x.a.c.slot = x.a.c.slot ∧ x.a.c.ep = x.a.c.ep ∧ x.a.c.at_ = x.a.c.at_ ∧ x.a.c.last = x.a.c.last ∧ (x.aa = x.aa
 ∧ x.al = x.al ∧ x.ac = x.ac) ∧ ((Rm.ab x309.fst = Ab.know (Rm.ab x.m) x.x ∧ Ab.ok (Rm.ab x309.fst) ∧ List.length x309.fst.d.vs ≤ x309.fst.d.c) ∧ Ab.told
 (Rm.ab x.m) x.x x.a x.al x.r.why x.d = Ab.hear (Rm.ab x309.fst) x.x x.a.c x.al x.r.why x.d ∧ q8 x = false ∧ q9 x x309.fst = false ∧ x309.snd = q10 x) ∧
 ∀ (w310 : World), ((RowAt w310 x.da x.d ∧ True) ∧ True) ∧ True → ((((∀ (k311 : Nat) (x312 : Value), x.d[k311]? = some x312 → ∃ (ad313 : Addr), x.da = some ad313
 ∧ World.cell? w310 (Addr.add ad313 k311) = some x312) ∧ True) ∧ True) ∧ True) ∧ True)) ∧ ∀ (x314 : Rm × Bool), (Rm.ab x314.fst = Ab.know (Rm.ab x.m) x.x
 ∧ Rm.ok x314.fst) ∧ Ab.told (Rm.ab x.m) x.x x.a x.al x.r.why x.d = Ab.hear (Rm.ab x314.fst) x.x x.a.c x.al x.r.why x.d ∧ q8 x = false ∧ q9 x x314.fst = false
 ∧ x314.snd = q10 x → (x314.snd = true → ∃ (y315 : Rm × Bool), (bif y315.snd then (2 : Int) else (0 : Int)) = (2 : Int) ∧ (0 : Int) = (0 : Int) ∧ (0 : Int) =
 (0 : Int) ∧ (bif y315.snd then x.x.n else (0 : Int)) = x.x.n ∧ (bif y315.snd then x.x.ph else (0 : Int)) = x.x.ph ∧ y315.snd = true ∧ y315.fst.n = x314.fst.n
 ∧ y315.fst.has = x314.fst.has ∧ (List.length y315.fst.d.vs = List.length x314.fst.d.vs ∧ y315.fst.d.c = x314.fst.d.c) ∧ y315.fst.d.z = x314.fst.d.z ∧ y315.fst.at_ = x314.fst.at_
 ∧ (y315.fst.d.vs = x314.fst.d.vs ∧ List.length y315.fst.d.vs = List.length x314.fst.d.vs ∧ y315.fst.d.c = x314.fst.d.c ∧ (1 : Nat) = (1 : Nat)) ∧ ((Rm.ab y315.fst, y315.snd) = Ab.told
 (Rm.ab x.m) x.x x.a x.al x.r.why x.d ∧ Ab.ok (Rm.ab y315.fst) ∧ List.length y315.fst.d.vs ≤ y315.fst.d.c) ∧ ∀ (w316 : World), (((RowAt w316 x.da x.d ∧ True)
 ∧ True) ∧ True) ∧ True → True) ∧ (x314.snd = false → ∃ (x317 : Rm), x317.n = x314.fst.n ∧ x317.has = x314.fst.has ∧ (List.length x317.d.vs = List.length x314.fst.d.vs
 ∧ x317.d.c = x314.fst.d.c) ∧ x317.d.z = x314.fst.d.z ∧ x317.at_ = x314.fst.at_ ∧ (x317.d.vs = x314.fst.d.vs ∧ List.length x317.d.vs = List.length x314.fst.d.vs
 ∧ x317.d.c = x314.fst.d.c ∧ (1 : Nat) = (1 : Nat)) ∧ (0 : Int) = (0 : Int) ∧ (0 : Int) = (0 : Int) ∧ (0 : Int) = (0 : Int) ∧ (0 : Int) = (0 : Int) ∧ (0 : Int) =
 (0 : Int) ∧ ((Rm.ab x317, false) = Ab.told (Rm.ab x.m) x.x x.a x.al x.r.why x.d ∧ Ab.ok (Rm.ab x317) ∧ List.length x317.d.vs ≤ x317.d.c) ∧ ∀ (w318 : World),
 (((RowAt w318 x.da x.d ∧ True) ∧ True) ∧ True) ∧ True → ((∀ (k319 : Nat) (x320 : Value), x.d[k319]? = some x320 → ∃ (ad321 : Addr), x.da = some ad321 ∧ World.cell? w318
 (Addr.add ad321 k319) = some x320) ∧ True) ∧ True)))) ∧ ∀ (x322 : Rm), (Rm.ab x322, false) = Ab.told (Rm.ab x.m) x.x x.a x.al x.r.why x.d ∧ Rm.ok x322
 → ∃ (y323 : Rm × Bool), (bif y323.snd then (2 : Int) else (0 : Int)) = (0 : Int) ∧ (0 : Int) = (0 : Int) ∧ (0 : Int) = (0 : Int) ∧ (bif y323.snd then x.x.n else
 (0 : Int)) = (0 : Int) ∧ (bif y323.snd then x.x.ph else (0 : Int)) = (0 : Int) ∧ y323.snd = false ∧ y323.fst.n = x322.n ∧ y323.fst.has = x322.has ∧ (List.length y323.fst.d.vs = List.length x322.d.vs
 ∧ y323.fst.d.c = x322.d.c) ∧ y323.fst.d.z = x322.d.z ∧ y323.fst.at_ = x322.at_ ∧ (y323.fst.d.vs = x322.d.vs ∧ List.length y323.fst.d.vs = List.length x322.d.vs
 ∧ y323.fst.d.c = x322.d.c ∧ (1 : Nat) = (1 : Nat)) ∧ ((Rm.ab y323.fst, y323.snd) = Ab.told (Rm.ab x.m) x.x x.a x.al x.r.why x.d ∧ Ab.ok (Rm.ab y323.fst)
 ∧ List.length y323.fst.d.vs ≤ y323.fst.d.c) ∧ ∀ (w324 : World), (RowAt w324 x.da x.d ∧ True) ∧ True → True)) ∧ ((x.a.c.slot != x.x.slot) = true → ∃ (y325 : Rm × Bool),
 (bif y325.snd then (2 : Int) else (0 : Int)) = (0 : Int) ∧ (0 : Int) = (0 : Int) ∧ (0 : Int) = (0 : Int) ∧ (bif y325.snd then x.x.n else (0 : Int)) = (0 : Int)
 ∧ (bif y325.snd then x.x.ph else (0 : Int)) = (0 : Int) ∧ y325.snd = false ∧ y325.fst.n = y.n ∧ y325.fst.has = y.has ∧ (List.length y325.fst.d.vs = List.length y.d.vs
 ∧ y325.fst.d.c = y.d.c) ∧ y325.fst.d.z = y.d.z ∧ y325.fst.at_ = y.at_ ∧ (y325.fst.d.vs = y.d.vs ∧ List.length y325.fst.d.vs = List.length y.d.vs ∧ y325.fst.d.c = y.d.c
 ∧ (1 : Nat) = (1 : Nat)) ∧ ((Rm.ab y325.fst, y325.snd) = Ab.told (Rm.ab x.m) x.x x.a x.al x.r.why x.d ∧ Ab.ok (Rm.ab y325.fst) ∧ List.length y325.fst.d.vs ≤ y325.fst.d.c)
 ∧ ∀ (w326 : World), RowAt w326 x.da x.d ∧ True → True)) ∧ ((x.a.g != x.x.frm) = true → ∃ (y327 : Rm × Bool), (bif y327.snd then (2 : Int) else (0 : Int)) =
 (0 : Int) ∧ (0 : Int) = (0 : Int) ∧ (0 : Int) = (0 : Int) ∧ (bif y327.snd then x.x.n else (0 : Int)) = (0 : Int) ∧ (bif y327.snd then x.x.ph else (0 : Int)) =
 (0 : Int) ∧ y327.snd = false ∧ y327.fst.n = y.n ∧ y327.fst.has = y.has ∧ (List.length y327.fst.d.vs = List.length y.d.vs ∧ y327.fst.d.c = y.d.c) ∧ y327.fst.d.z = y.d.z
 ∧ y327.fst.at_ = y.at_ ∧ (y327.fst.d.vs = y.d.vs ∧ List.length y327.fst.d.vs = List.length y.d.vs ∧ y327.fst.d.c = y.d.c ∧ (1 : Nat) = (1 : Nat)) ∧ ((Rm.ab y327.fst, y327.snd) = Ab.told
 (Rm.ab x.m) x.x x.a x.al x.r.why x.d ∧ Ab.ok (Rm.ab y327.fst) ∧ List.length y327.fst.d.vs ≤ y327.fst.d.c) ∧ ∀ (w328 : World), RowAt w328 x.da x.d ∧ True
 → True))) := by kernel_rfl

end Go.Proofs.Ytgjoileoekbkoaa
