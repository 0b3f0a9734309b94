/-
  What is left of the contracts when the executor has run; written by vcg.py.
-/
import Derived.Test.YtgjoileoekbkoaaM1
set_option linter.unusedVariables false
set_option maxRecDepth 100000
namespace Go.Proofs.Ytgjoileoekbkoaa
open Go Go.SX
theorem lawS_vc : goalX c3 lawS r3 Γ3
 = (
 ∀ (x : LX),
 LX.ok x →
 (false = true → ∃ (y : Bool), y = false ∧ y = true ∧ ∀ (w : World), LX.in x w → True) ∧
 (false = false →
 (∃ (x1 : LL), (x.a = x.a ∧ List.length x.l = List.length x.l ∧ x.c = x.c) ∧ x1.i = (0 : Int) ∧ x1.m.n = (0 : Int) ∧ (x1.m.d.z = ZB.nil ∧ List.length x1.m.d.vs =
 (0 : Nat) ∧ x1.m.d.c = (0 : Nat)) ∧ x1.m.at_ = (0 : Int) ∧ (x1.m.d.vs = [] ∧ List.length x1.m.d.vs = (0 : Nat) ∧ x1.m.d.c = (0 : Nat)) ∧ x1.r.n = (0 : Int)
 ∧ x1.r.has = false ∧ (x1.r.d.z = ZB.nil ∧ List.length x1.r.d.vs = (0 : Nat) ∧ x1.r.d.c = (0 : Nat)) ∧ x1.r.at_ = (0 : Int) ∧ (x1.r.d.vs = [] ∧ List.length x1.r.d.vs =
 (0 : Nat) ∧ x1.r.d.c = (0 : Nat)) ∧ x1.a.g = (0 : Int) ∧ x1.a.c.kind = (0 : Int) ∧ x1.a.c.ok = (0 : Int) ∧ x1.a.c.ofr = ByteArray.empty ∧ x1.a.c.oto = ByteArray.empty
 ∧ x1.a.c.oam = (0 : Int) ∧ x1.a.c.okey = ByteArray.empty ∧ x1.a.c.osl = (0 : Int) ∧ x1.a.c.osh = (0 : Int) ∧ x1.a.c.id = ByteArray.empty ∧ x1.a.c.name = ByteArray.empty
 ∧ x1.a.c.n = (0 : Int) ∧ x1.a.c.why = (0 : Int) ∧ x1.a.c.slot = (0 : Int) ∧ x1.a.c.ep = (0 : Int) ∧ x1.a.c.at_ = (0 : Int) ∧ x1.a.c.last = false ∧ (x1.la = none
 ∧ List.length x1.ld = (0 : Nat) ∧ x1.lc = (0 : Nat)) ∧ (LL.ok x x1 ∧ Mo.ab x1.m = Rm.ab x1.r) ∧ ∀ (w2 : World), LX.in x w2 → (∀ (i : Nat) (o : OpD), x.l[i]? = some o
 → (∀ (k : Nat) (x3 : Value), (OpD.vals o)[k]? = some x3 → ∃ (ad : Addr), Option.map (fun (x : Addr) => Addr.add x (i * (31 : Nat))) x.a = some ad ∧ World.cell? w2
 (Addr.add ad k) = some x3) ∧ (∀ (k4 : Nat) (x5 : Value), o.d[k4]? = some x5 → ∃ (ad6 : Addr), o.da = some ad6 ∧ World.cell? w2 (Addr.add ad6 k4) = some x5)
 ∧ ∀ (k7 : Nat) (x8 : Value), (x.ad o)[k7]? = some x8 → ∃ (ad9 : Addr), o.aa = some ad9 ∧ World.cell? w2 (Addr.add ad9 k7) = some x8) ∧ ∀ (k10 : Nat) (x11 : Value), x1.ld[k10]? = some x11
 → ∃ (ad12 : Addr), x1.la = some ad12 ∧ World.cell? w2 (Addr.add ad12 k10) = some x11) ∧
 ∀ (x13 : LL),
 LL.ok x x13 ∧ Mo.ab x13.m = Rm.ab x13.r →
 (decide (x13.i < (↑(List.length x.l) : Int)) = true →
 (decide (x13.i < (100 : Int)) = true →
 (((0 : Int) ≤ x13.i ∧ x13.i < (↑(List.length x.l) : Int)) ∧ (∀ (w14 : World), LX.in x w14 ∧ RowAt w14 x13.la x13.ld → Option.isSome x.a = true) ∧ ∃ (n : Int),
 (∀ (w15 : World), LX.in x w15 ∧ RowAt w15 x13.la x13.ld → ∃ (ad16 : Addr), x.a = some ad16 ∧ World.cell? w15 (Addr.add ad16 (Int.toNat x13.i * (31 : Nat) +
 (0 : Nat))) = some (Value.int IntKind.i64 n)) ∧ ∃ (n17 : Int), (∀ (w18 : World), LX.in x w18 ∧ RowAt w18 x13.la x13.ld → ∃ (ad19 : Addr), x.a = some ad19
 ∧ World.cell? w18 (Addr.add ad19 (Int.toNat x13.i * (31 : Nat) + (1 : Nat))) = some (Value.int IntKind.i64 n17)) ∧ ∃ (n20 : Int), (∀ (w21 : World), LX.in x w21
 ∧ RowAt w21 x13.la x13.ld → ∃ (ad22 : Addr), x.a = some ad22 ∧ World.cell? w21 (Addr.add ad22 (Int.toNat x13.i * (31 : Nat) + (2 : Nat))) = some (Value.int IntKind.i64 n20))
 ∧ ∃ (n23 : Int), (∀ (w24 : World), LX.in x w24 ∧ RowAt w24 x13.la x13.ld → ∃ (ad25 : Addr), x.a = some ad25 ∧ World.cell? w24 (Addr.add ad25 (Int.toNat x13.i *
 (31 : Nat) + (3 : Nat))) = some (Value.int IntKind.i64 n23)) ∧ ∃ (n26 : Int), (∀ (w27 : World), LX.in x w27 ∧ RowAt w27 x13.la x13.ld → ∃ (ad28 : Addr), x.a = some ad28
 ∧ World.cell? w27 (Addr.add ad28 (Int.toNat x13.i * (31 : Nat) + (4 : Nat))) = some (Value.int IntKind.i64 n26)) ∧ ∃ (n29 : Int), (∀ (w30 : World), LX.in x w30
 ∧ RowAt w30 x13.la x13.ld → ∃ (ad31 : Addr), x.a = some ad31 ∧ World.cell? w30 (Addr.add ad31 (Int.toNat x13.i * (31 : Nat) + (5 : Nat))) = some (Value.int IntKind.i64 n29))
 ∧ ∃ (n32 : Int), (∀ (w33 : World), LX.in x w33 ∧ RowAt w33 x13.la x13.ld → ∃ (ad34 : Addr), x.a = some ad34 ∧ World.cell? w33 (Addr.add ad34 (Int.toNat x13.i *
 (31 : Nat) + (6 : Nat))) = some (Value.int IntKind.i64 n32)) ∧ ∃ (n35 : Int), (∀ (w36 : World), LX.in x w36 ∧ RowAt w36 x13.la x13.ld → ∃ (ad37 : Addr), x.a = some ad37
 ∧ World.cell? w36 (Addr.add ad37 (Int.toNat x13.i * (31 : Nat) + (7 : Nat))) = some (Value.int IntKind.i64 n35)) ∧ ∃ (n38 : Int), (∀ (w39 : World), LX.in x w39
 ∧ RowAt w39 x13.la x13.ld → ∃ (ad40 : Addr), x.a = some ad40 ∧ World.cell? w39 (Addr.add ad40 (Int.toNat x13.i * (31 : Nat) + (8 : Nat))) = some (Value.int IntKind.i64 n38))
 ∧ ∃ (n41 : Int), (∀ (w42 : World), LX.in x w42 ∧ RowAt w42 x13.la x13.ld → ∃ (ad43 : Addr), x.a = some ad43 ∧ World.cell? w42 (Addr.add ad43 (Int.toNat x13.i *
 (31 : Nat) + (9 : Nat))) = some (Value.int IntKind.i64 n41)) ∧ ∃ (s : ByteArray), (∀ (w44 : World), LX.in x w44 ∧ RowAt w44 x13.la x13.ld → ∃ (ad45 : Addr), x.a = some ad45
 ∧ World.cell? w44 (Addr.add ad45 (Int.toNat x13.i * (31 : Nat) + (10 : Nat))) = some (Value.string s)) ∧ ∃ (s46 : ByteArray), (∀ (w47 : World), LX.in x w47
 ∧ RowAt w47 x13.la x13.ld → ∃ (ad48 : Addr), x.a = some ad48 ∧ World.cell? w47 (Addr.add ad48 (Int.toNat x13.i * (31 : Nat) + (11 : Nat))) = some (Value.string s46))
 ∧ ∃ (n49 : Int), (∀ (w50 : World), LX.in x w50 ∧ RowAt w50 x13.la x13.ld → ∃ (ad51 : Addr), x.a = some ad51 ∧ World.cell? w50 (Addr.add ad51 (Int.toNat x13.i *
 (31 : Nat) + (12 : Nat))) = some (Value.int IntKind.i64 n49)) ∧ ∃ (s52 : ByteArray), (∀ (w53 : World), LX.in x w53 ∧ RowAt w53 x13.la x13.ld → ∃ (ad54 : Addr), x.a = some ad54
 ∧ World.cell? w53 (Addr.add ad54 (Int.toNat x13.i * (31 : Nat) + (13 : Nat))) = some (Value.string s52)) ∧ ∃ (n55 : Int), (∀ (w56 : World), LX.in x w56
 ∧ RowAt w56 x13.la x13.ld → ∃ (ad57 : Addr), x.a = some ad57 ∧ World.cell? w56 (Addr.add ad57 (Int.toNat x13.i * (31 : Nat) + (14 : Nat))) = some (Value.int IntKind.i64 n55))
 ∧ ∃ (n58 : Int), (∀ (w59 : World), LX.in x w59 ∧ RowAt w59 x13.la x13.ld → ∃ (ad60 : Addr), x.a = some ad60 ∧ World.cell? w59 (Addr.add ad60 (Int.toNat x13.i *
 (31 : Nat) + (15 : Nat))) = some (Value.int IntKind.i64 n58)) ∧ ∃ (s61 : ByteArray), (∀ (w62 : World), LX.in x w62 ∧ RowAt w62 x13.la x13.ld → ∃ (ad63 : Addr), x.a = some ad63
 ∧ World.cell? w62 (Addr.add ad63 (Int.toNat x13.i * (31 : Nat) + (16 : Nat))) = some (Value.string s61)) ∧ ∃ (s64 : ByteArray), (∀ (w65 : World), LX.in x w65
 ∧ RowAt w65 x13.la x13.ld → ∃ (ad66 : Addr), x.a = some ad66 ∧ World.cell? w65 (Addr.add ad66 (Int.toNat x13.i * (31 : Nat) + (17 : Nat))) = some (Value.string s64))
 ∧ ∃ (n67 : Int), (∀ (w68 : World), LX.in x w68 ∧ RowAt w68 x13.la x13.ld → ∃ (ad69 : Addr), x.a = some ad69 ∧ World.cell? w68 (Addr.add ad69 (Int.toNat x13.i *
 (31 : Nat) + (18 : Nat))) = some (Value.int IntKind.i64 n67)) ∧ ∃ (n70 : Int), (∀ (w71 : World), LX.in x w71 ∧ RowAt w71 x13.la x13.ld → ∃ (ad72 : Addr), x.a = some ad72
 ∧ World.cell? w71 (Addr.add ad72 (Int.toNat x13.i * (31 : Nat) + (19 : Nat))) = some (Value.int IntKind.i64 n70)) ∧ ∃ (n73 : Int), (∀ (w74 : World), LX.in x w74
 ∧ RowAt w74 x13.la x13.ld → ∃ (ad75 : Addr), x.a = some ad75 ∧ World.cell? w74 (Addr.add ad75 (Int.toNat x13.i * (31 : Nat) + (20 : Nat))) = some (Value.int IntKind.i64 n73))
 ∧ ∃ (n76 : Int), (∀ (w77 : World), LX.in x w77 ∧ RowAt w77 x13.la x13.ld → ∃ (ad78 : Addr), x.a = some ad78 ∧ World.cell? w77 (Addr.add ad78 (Int.toNat x13.i *
 (31 : Nat) + (21 : Nat))) = some (Value.int IntKind.i64 n76)) ∧ ∃ (n79 : Int), (∀ (w80 : World), LX.in x w80 ∧ RowAt w80 x13.la x13.ld → ∃ (ad81 : Addr), x.a = some ad81
 ∧ World.cell? w80 (Addr.add ad81 (Int.toNat x13.i * (31 : Nat) + (22 : Nat))) = some (Value.int IntKind.i64 n79)) ∧ ∃ (p : Bool), (∀ (w82 : World), LX.in x w82
 ∧ RowAt w82 x13.la x13.ld → ∃ (ad83 : Addr), x.a = some ad83 ∧ World.cell? w82 (Addr.add ad83 (Int.toNat x13.i * (31 : Nat) + (23 : Nat))) = some (Value.bool p))
 ∧ ∃ (a : Option Addr), ∃ (n84 : Nat), ∃ (c : Nat), (∀ (w85 : World), LX.in x w85 ∧ RowAt w85 x13.la x13.ld → ∃ (ad86 : Addr), x.a = some ad86 ∧ World.cell? w85
 (Addr.add ad86 (Int.toNat x13.i * (31 : Nat) + (24 : Nat))) = some (Value.slice a n84 c)) ∧ ∃ (n87 : Int), (∀ (w88 : World), LX.in x w88 ∧ RowAt w88 x13.la x13.ld
 → ∃ (ad89 : Addr), x.a = some ad89 ∧ World.cell? w88 (Addr.add ad89 (Int.toNat x13.i * (31 : Nat) + (25 : Nat))) = some (Value.int IntKind.i64 n87)) ∧
 ∃ (p90 : Bool), (∀ (w91 : World), LX.in x w91 ∧ RowAt w91 x13.la x13.ld → ∃ (ad92 : Addr), x.a = some ad92 ∧ World.cell? w91 (Addr.add ad92 (Int.toNat x13.i *
 (31 : Nat) + (26 : Nat))) = some (Value.bool p90)) ∧ ∃ (n93 : Int), (∀ (w94 : World), LX.in x w94 ∧ RowAt w94 x13.la x13.ld → ∃ (ad95 : Addr), x.a = some ad95
 ∧ World.cell? w94 (Addr.add ad95 (Int.toNat x13.i * (31 : Nat) + (27 : Nat))) = some (Value.int IntKind.i64 n93)) ∧ ∃ (n96 : Int), (∀ (w97 : World), LX.in x w97
 ∧ RowAt w97 x13.la x13.ld → ∃ (ad98 : Addr), x.a = some ad98 ∧ World.cell? w97 (Addr.add ad98 (Int.toNat x13.i * (31 : Nat) + (28 : Nat))) = some (Value.int IntKind.i64 n96))
 ∧ ∃ (a99 : Option Addr), ∃ (n100 : Nat), ∃ (c101 : Nat), (∀ (w102 : World), LX.in x w102 ∧ RowAt w102 x13.la x13.ld → ∃ (ad103 : Addr), x.a = some ad103
 ∧ World.cell? w102 (Addr.add ad103 (Int.toNat x13.i * (31 : Nat) + (29 : Nat))) = some (Value.slice a99 n100 c101)) ∧ ∃ (a104 : Option Addr), ∃ (n105 : Nat),
 ∃ (c106 : Nat), (∀ (w107 : World), LX.in x w107 ∧ RowAt w107 x13.la x13.ld → ∃ (ad108 : Addr), x.a = some ad108 ∧ World.cell? w107 (Addr.add ad108 (Int.toNat x13.i *
 (31 : Nat) + (30 : Nat))) = some (Value.slice a104 n105 c106)) ∧ ∃ (x109 : LL × OpD), (x.a = x.a ∧ List.length x.l = List.length x.l ∧ x.c = x.c) ∧ x109.fst.i = x13.i
 ∧ x109.fst.m.n = x13.m.n ∧ (List.length x109.fst.m.d.vs = List.length x13.m.d.vs ∧ x109.fst.m.d.c = x13.m.d.c) ∧ x109.fst.m.d.z = x13.m.d.z ∧ x109.fst.m.at_ = x13.m.at_
 ∧ (x109.fst.m.d.vs = x13.m.d.vs ∧ List.length x109.fst.m.d.vs = List.length x13.m.d.vs ∧ x109.fst.m.d.c = x13.m.d.c ∧ (1 : Nat) = (1 : Nat)) ∧ x109.fst.r.n = x13.r.n
 ∧ x109.fst.r.has = x13.r.has ∧ (List.length x109.fst.r.d.vs = List.length x13.r.d.vs ∧ x109.fst.r.d.c = x13.r.d.c) ∧ x109.fst.r.d.z = x13.r.d.z ∧ x109.fst.r.at_ = x13.r.at_
 ∧ (x109.fst.r.d.vs = x13.r.d.vs ∧ List.length x109.fst.r.d.vs = List.length x13.r.d.vs ∧ x109.fst.r.d.c = x13.r.d.c ∧ (1 : Nat) = (1 : Nat)) ∧ x109.fst.a.g = x13.a.g
 ∧ x109.fst.a.c.kind = x13.a.c.kind ∧ x109.fst.a.c.ok = x13.a.c.ok ∧ x109.fst.a.c.ofr = x13.a.c.ofr ∧ x109.fst.a.c.oto = x13.a.c.oto ∧ x109.fst.a.c.oam = x13.a.c.oam
 ∧ x109.fst.a.c.okey = x13.a.c.okey ∧ x109.fst.a.c.osl = x13.a.c.osl ∧ x109.fst.a.c.osh = x13.a.c.osh ∧ x109.fst.a.c.id = x13.a.c.id ∧ x109.fst.a.c.name = x13.a.c.name
 ∧ x109.fst.a.c.n = x13.a.c.n ∧ x109.fst.a.c.why = x13.a.c.why ∧ x109.fst.a.c.slot = x13.a.c.slot ∧ x109.fst.a.c.ep = x13.a.c.ep ∧ x109.fst.a.c.at_ = x13.a.c.at_
 ∧ x109.fst.a.c.last = x13.a.c.last ∧ (x109.fst.la = x13.la ∧ List.length x109.fst.ld = List.length x13.ld ∧ x109.fst.lc = x13.lc) ∧ x109.snd.kind = n ∧ x109.snd.mv.slot = n17
 ∧ x109.snd.mv.frm = n20 ∧ x109.snd.mv.to = n23 ∧ x109.snd.mv.ep = n26 ∧ x109.snd.mv.ph = n29 ∧ x109.snd.mv.n = n32 ∧ x109.snd.a.g = n35 ∧ x109.snd.a.c.kind = n38
 ∧ x109.snd.a.c.ok = n41 ∧ x109.snd.a.c.ofr = s ∧ x109.snd.a.c.oto = s46 ∧ x109.snd.a.c.oam = n49 ∧ x109.snd.a.c.okey = s52 ∧ x109.snd.a.c.osl = n55 ∧ x109.snd.a.c.osh = n58
 ∧ x109.snd.a.c.id = s61 ∧ x109.snd.a.c.name = s64 ∧ x109.snd.a.c.n = n67 ∧ x109.snd.a.c.why = n70 ∧ x109.snd.a.c.slot = n73 ∧ x109.snd.a.c.ep = n76 ∧ x109.snd.a.c.at_ = n79
 ∧ x109.snd.a.c.last = p ∧ (x109.snd.aa = a ∧ x109.snd.al = n84 ∧ x109.snd.ac = c) ∧ x109.snd.r.why = n87 ∧ x109.snd.r.wait = p90 ∧ x109.snd.r.rwhy = n93
 ∧ x109.snd.r.ram = n96 ∧ (x109.snd.ra = a99 ∧ x109.snd.rn = n100 ∧ x109.snd.rc = c101) ∧ (x109.snd.da = a104 ∧ List.length x109.snd.d = n105 ∧ x109.snd.dc = c106)
 ∧ ((LL.ok x x109.fst ∧ x109.fst.i = x13.i ∧ Mo.ab x109.fst.m = Rm.ab x109.fst.r) ∧ x.l[Int.toNat x109.fst.i]? = some x109.snd) ∧ ∀ (w110 : World), LX.in x w110
 ∧ RowAt w110 x13.la x13.ld → ((∀ (i111 : Nat) (o112 : OpD), x.l[i111]? = some o112 → (∀ (k113 : Nat) (x114 : Value), (OpD.vals o112)[k113]? = some x114
 → ∃ (ad115 : Addr), Option.map (fun (x : Addr) => Addr.add x (i111 * (31 : Nat))) x.a = some ad115 ∧ World.cell? w110 (Addr.add ad115 k113) = some x114)
 ∧ (∀ (k116 : Nat) (x117 : Value), o112.d[k116]? = some x117 → ∃ (ad118 : Addr), o112.da = some ad118 ∧ World.cell? w110 (Addr.add ad118 k116) = some x117)
 ∧ ∀ (k119 : Nat) (x120 : Value), (x.ad o112)[k119]? = some x120 → ∃ (ad121 : Addr), o112.aa = some ad121 ∧ World.cell? w110 (Addr.add ad121 k119) = some x120)
 ∧ ∀ (k122 : Nat) (x123 : Value), x13.ld[k122]? = some x123 → ∃ (ad124 : Addr), x13.la = some ad124 ∧ World.cell? w110 (Addr.add ad124 k122) = some x123)
 ∧ ∀ (k125 : Nat) (x126 : Value), x109.fst.ld[k125]? = some x126 → ∃ (ad127 : Addr), x109.fst.la = some ad127 ∧ World.cell? w110 (Addr.add ad127 k125) = some x126)
 ∧
 ∀ (x128 : LL × OpD),
 (LL.ok x x128.fst ∧ x128.fst.i = x13.i ∧ Mo.ab x128.fst.m = Rm.ab x128.fst.r) ∧ x.l[Int.toNat x128.fst.i]? = some x128.snd →
 (((x128.snd.kind == (0 : Int)) = true → ∃ (x129 : Mo × Mv), x129.snd.slot = x128.snd.mv.slot ∧ x129.snd.frm = x128.snd.mv.frm ∧ x129.snd.to = x128.snd.mv.to
 ∧ x129.snd.ep = x128.snd.mv.ep ∧ x129.snd.ph = x128.snd.mv.ph ∧ x129.snd.n = x128.snd.mv.n ∧ x129.fst.n = x128.fst.m.n ∧ (List.length x129.fst.d.vs = List.length x128.fst.m.d.vs
 ∧ x129.fst.d.c = x128.fst.m.d.c) ∧ x129.fst.d.z = x128.fst.m.d.z ∧ x129.fst.at_ = x128.fst.m.at_ ∧ (x129.fst.d.vs = x128.fst.m.d.vs ∧ List.length x129.fst.d.vs = List.length x128.fst.m.d.vs
 ∧ x129.fst.d.c = x128.fst.m.d.c ∧ (1 : Nat) = (1 : Nat)) ∧ (Ab.ok (Mo.ab x129.fst) ∧ List.length x129.fst.d.vs ≤ x129.fst.d.c) ∧ (∀ (w130 : World), (LX.in x w130
 ∧ RowAt w130 x13.la x13.ld) ∧ RowAt w130 x128.fst.la x128.fst.ld → True) ∧ (∀ (y131 : Mo), (Mo.ab y131 = Ab.know (Mo.ab x129.fst) x129.snd ∧ Mo.ok y131)
 ∧ Ab.ask (Mo.ab y131) x129.snd = none → ∃ (x132 : Rm × Mv), x132.snd.slot = x128.snd.mv.slot ∧ x132.snd.frm = x128.snd.mv.frm ∧ x132.snd.to = x128.snd.mv.to
 ∧ x132.snd.ep = x128.snd.mv.ep ∧ x132.snd.ph = x128.snd.mv.ph ∧ x132.snd.n = x128.snd.mv.n ∧ x132.fst.n = x128.fst.r.n ∧ x132.fst.has = x128.fst.r.has
 ∧ (List.length x132.fst.d.vs = List.length x128.fst.r.d.vs ∧ x132.fst.d.c = x128.fst.r.d.c) ∧ x132.fst.d.z = x128.fst.r.d.z ∧ x132.fst.at_ = x128.fst.r.at_
 ∧ (x132.fst.d.vs = x128.fst.r.d.vs ∧ List.length x132.fst.d.vs = List.length x128.fst.r.d.vs ∧ x132.fst.d.c = x128.fst.r.d.c ∧ (1 : Nat) = (1 : Nat)) ∧
 (Ab.ok (Rm.ab x132.fst) ∧ List.length x132.fst.d.vs ≤ x132.fst.d.c) ∧ (∀ (w133 : World), ((LX.in x w133 ∧ RowAt w133 x13.la x13.ld) ∧ RowAt w133 x128.fst.la x128.fst.ld)
 ∧ True → True) ∧ (∀ (y134 : Rm), (Rm.ab y134 = Ab.know (Rm.ab x132.fst) x132.snd ∧ Rm.ok y134) ∧ Ab.ask (Rm.ab y134) x132.snd = none → (((↑(0 : Nat) : Int) !=
 (↑(0 : Nat) : Int)) = true → ∃ (y135 : Bool), y135 = false ∧ y135 = true ∧ ∀ (w136 : World), (((LX.in x w136 ∧ RowAt w136 x13.la x13.ld) ∧ RowAt w136 x128.fst.la x128.fst.ld)
 ∧ True) ∧ True → True) ∧ (((↑(0 : Nat) : Int) != (↑(0 : Nat) : Int)) = false → (decide ((0 : Int) < (↑(0 : Nat) : Int)) = true → False) ∧ (decide ((0 : Int) <
 (↑(0 : Nat) : Int)) = false → ∃ (x137 : LL), (x.a = x.a ∧ List.length x.l = List.length x.l ∧ x.c = x.c) ∧ x137.i = x128.fst.i ∧ x137.m.n = y131.n ∧ (List.length x137.m.d.vs = List.length y131.d.vs
 ∧ x137.m.d.c = y131.d.c) ∧ x137.m.d.z = y131.d.z ∧ x137.m.at_ = y131.at_ ∧ (x137.m.d.vs = y131.d.vs ∧ List.length x137.m.d.vs = List.length y131.d.vs ∧ x137.m.d.c = y131.d.c
 ∧ (1 : Nat) = (1 : Nat)) ∧ x137.r.n = y134.n ∧ x137.r.has = y134.has ∧ (List.length x137.r.d.vs = List.length y134.d.vs ∧ x137.r.d.c = y134.d.c) ∧ x137.r.d.z = y134.d.z
 ∧ x137.r.at_ = y134.at_ ∧ (x137.r.d.vs = y134.d.vs ∧ List.length x137.r.d.vs = List.length y134.d.vs ∧ x137.r.d.c = y134.d.c ∧ (1 : Nat) = (1 : Nat)) ∧ x137.a.g = x128.fst.a.g
 ∧ x137.a.c.kind = x128.fst.a.c.kind ∧ x137.a.c.ok = x128.fst.a.c.ok ∧ x137.a.c.ofr = x128.fst.a.c.ofr ∧ x137.a.c.oto = x128.fst.a.c.oto ∧ x137.a.c.oam = x128.fst.a.c.oam
 ∧ x137.a.c.okey = x128.fst.a.c.okey ∧ x137.a.c.osl = x128.fst.a.c.osl ∧ x137.a.c.osh = x128.fst.a.c.osh ∧ x137.a.c.id = x128.fst.a.c.id ∧ x137.a.c.name = x128.fst.a.c.name
 ∧ x137.a.c.n = x128.fst.a.c.n ∧ x137.a.c.why = x128.fst.a.c.why ∧ x137.a.c.slot = x128.fst.a.c.slot ∧ x137.a.c.ep = x128.fst.a.c.ep ∧ x137.a.c.at_ = x128.fst.a.c.at_
 ∧ x137.a.c.last = x128.fst.a.c.last ∧ (x137.la = x128.fst.la ∧ List.length x137.ld = List.length x128.fst.ld ∧ x137.lc = x128.fst.lc) ∧ ((LL.ok x x137
 ∧ x137.i = x128.fst.i ∧ Mo.ab x137.m = Rm.ab x137.r) ∧ x137.i < (↑(List.length x.l) : Int)) ∧ ∀ (w138 : World), (((LX.in x w138 ∧ RowAt w138 x13.la x13.ld)
 ∧ RowAt w138 x128.fst.la x128.fst.ld) ∧ True) ∧ True → (((∀ (i139 : Nat) (o140 : OpD), x.l[i139]? = some o140 → (∀ (k141 : Nat) (x142 : Value), (OpD.vals o140)[k141]? = some x142
 → ∃ (ad143 : Addr), Option.map (fun (x : Addr) => Addr.add x (i139 * (31 : Nat))) x.a = some ad143 ∧ World.cell? w138 (Addr.add ad143 k141) = some x142)
 ∧ (∀ (k144 : Nat) (x145 : Value), o140.d[k144]? = some x145 → ∃ (ad146 : Addr), o140.da = some ad146 ∧ World.cell? w138 (Addr.add ad146 k144) = some x145)
 ∧ ∀ (k147 : Nat) (x148 : Value), (x.ad o140)[k147]? = some x148 → ∃ (ad149 : Addr), o140.aa = some ad149 ∧ World.cell? w138 (Addr.add ad149 k147) = some x148)
 ∧ ∀ (k150 : Nat) (x151 : Value), x13.ld[k150]? = some x151 → ∃ (ad152 : Addr), x13.la = some ad152 ∧ World.cell? w138 (Addr.add ad152 k150) = some x151)
 ∧ ∀ (k153 : Nat) (x154 : Value), x128.fst.ld[k153]? = some x154 → ∃ (ad155 : Addr), x128.fst.la = some ad155 ∧ World.cell? w138 (Addr.add ad155 k153) = some x154)
 ∧ ∀ (k156 : Nat) (x157 : Value), x137.ld[k156]? = some x157 → ∃ (ad158 : Addr), x137.la = some ad158 ∧ World.cell? w138 (Addr.add ad158 k156) = some x157)))
 ∧ ∀ (y159 : Rm × Ak × Sl), (Rm.ab y159.fst = Ab.know (Rm.ab x132.fst) x132.snd ∧ Rm.ok y159.fst) ∧ Ab.ask (Rm.ab y159.fst) x132.snd = some (y159.snd.fst, y159.snd.snd.vs)
 → (((↑(0 : Nat) : Int) != (↑(1 : Nat) : Int)) = true → ∃ (y160 : Bool), y160 = false ∧ y160 = true ∧ ∀ (w161 : World), (((LX.in x w161 ∧ RowAt w161 x13.la x13.ld)
 ∧ RowAt w161 x128.fst.la x128.fst.ld) ∧ True) ∧ True → True) ∧ (((↑(0 : Nat) : Int) != (↑(1 : Nat) : Int)) = false → (decide ((0 : Int) < (↑(0 : Nat) : Int)) = true
 → False) ∧ (decide ((0 : Int) < (↑(0 : Nat) : Int)) = false → ∃ (x162 : LL), (x.a = x.a ∧ List.length x.l = List.length x.l ∧ x.c = x.c) ∧ x162.i = x128.fst.i
 ∧ x162.m.n = y131.n ∧ (List.length x162.m.d.vs = List.length y131.d.vs ∧ x162.m.d.c = y131.d.c) ∧ x162.m.d.z = y131.d.z ∧ x162.m.at_ = y131.at_ ∧ (x162.m.d.vs = y131.d.vs
 ∧ List.length x162.m.d.vs = List.length y131.d.vs ∧ x162.m.d.c = y131.d.c ∧ (1 : Nat) = (1 : Nat)) ∧ x162.r.n = y159.fst.n ∧ x162.r.has = y159.fst.has
 ∧ (List.length x162.r.d.vs = List.length y159.fst.d.vs ∧ x162.r.d.c = y159.fst.d.c) ∧ x162.r.d.z = y159.fst.d.z ∧ x162.r.at_ = y159.fst.at_ ∧ (x162.r.d.vs = y159.fst.d.vs
 ∧ List.length x162.r.d.vs = List.length y159.fst.d.vs ∧ x162.r.d.c = y159.fst.d.c ∧ (1 : Nat) = (1 : Nat)) ∧ x162.a.g = x128.fst.a.g ∧ x162.a.c.kind = x128.fst.a.c.kind
 ∧ x162.a.c.ok = x128.fst.a.c.ok ∧ x162.a.c.ofr = x128.fst.a.c.ofr ∧ x162.a.c.oto = x128.fst.a.c.oto ∧ x162.a.c.oam = x128.fst.a.c.oam ∧ x162.a.c.okey = x128.fst.a.c.okey
 ∧ x162.a.c.osl = x128.fst.a.c.osl ∧ x162.a.c.osh = x128.fst.a.c.osh ∧ x162.a.c.id = x128.fst.a.c.id ∧ x162.a.c.name = x128.fst.a.c.name ∧ x162.a.c.n = x128.fst.a.c.n
 ∧ x162.a.c.why = x128.fst.a.c.why ∧ x162.a.c.slot = x128.fst.a.c.slot ∧ x162.a.c.ep = x128.fst.a.c.ep ∧ x162.a.c.at_ = x128.fst.a.c.at_ ∧ x162.a.c.last = x128.fst.a.c.last
 ∧ (x162.la = x128.fst.la ∧ List.length x162.ld = List.length x128.fst.ld ∧ x162.lc = x128.fst.lc) ∧ ((LL.ok x x162 ∧ x162.i = x128.fst.i ∧ Mo.ab x162.m = Rm.ab x162.r)
 ∧ x162.i < (↑(List.length x.l) : Int)) ∧ ∀ (w163 : World), (((LX.in x w163 ∧ RowAt w163 x13.la x13.ld) ∧ RowAt w163 x128.fst.la x128.fst.ld) ∧ True) ∧ True
 → (((∀ (i164 : Nat) (o165 : OpD), x.l[i164]? = some o165 → (∀ (k166 : Nat) (x167 : Value), (OpD.vals o165)[k166]? = some x167 → ∃ (ad168 : Addr), Option.map
 (fun (x : Addr) => Addr.add x (i164 * (31 : Nat))) x.a = some ad168 ∧ World.cell? w163 (Addr.add ad168 k166) = some x167) ∧ (∀ (k169 : Nat) (x170 : Value), o165.d[k169]? = some x170
 → ∃ (ad171 : Addr), o165.da = some ad171 ∧ World.cell? w163 (Addr.add ad171 k169) = some x170) ∧ ∀ (k172 : Nat) (x173 : Value), (x.ad o165)[k172]? = some x173
 → ∃ (ad174 : Addr), o165.aa = some ad174 ∧ World.cell? w163 (Addr.add ad174 k172) = some x173) ∧ ∀ (k175 : Nat) (x176 : Value), x13.ld[k175]? = some x176
 → ∃ (ad177 : Addr), x13.la = some ad177 ∧ World.cell? w163 (Addr.add ad177 k175) = some x176) ∧ ∀ (k178 : Nat) (x179 : Value), x128.fst.ld[k178]? = some x179
 → ∃ (ad180 : Addr), x128.fst.la = some ad180 ∧ World.cell? w163 (Addr.add ad180 k178) = some x179) ∧ ∀ (k181 : Nat) (x182 : Value), x162.ld[k181]? = some x182
 → ∃ (ad183 : Addr), x162.la = some ad183 ∧ World.cell? w163 (Addr.add ad183 k181) = some x182))) ∧ ∀ (y184 : Mo × Ak × Sl × Nat × Nat × List Value), (Mo.ab y184.fst = Ab.know
 (Mo.ab x129.fst) x129.snd ∧ Mo.ok y184.fst) ∧ Ab.ask (Mo.ab y184.fst) x129.snd = some (y184.snd.fst, y184.snd.snd.fst.vs) ∧ List.length y184.snd.snd.fst.vs ≤ y184.snd.snd.fst.c
 → ∃ (x185 : Rm × Mv), x185.snd.slot = x128.snd.mv.slot ∧ x185.snd.frm = x128.snd.mv.frm ∧ x185.snd.to = x128.snd.mv.to ∧ x185.snd.ep = x128.snd.mv.ep ∧ x185.snd.ph = x128.snd.mv.ph
 ∧ x185.snd.n = x128.snd.mv.n ∧ x185.fst.n = x128.fst.r.n ∧ x185.fst.has = x128.fst.r.has ∧ (List.length x185.fst.d.vs = List.length x128.fst.r.d.vs ∧ x185.fst.d.c = x128.fst.r.d.c)
 ∧ x185.fst.d.z = x128.fst.r.d.z ∧ x185.fst.at_ = x128.fst.r.at_ ∧ (x185.fst.d.vs = x128.fst.r.d.vs ∧ List.length x185.fst.d.vs = List.length x128.fst.r.d.vs
 ∧ x185.fst.d.c = x128.fst.r.d.c ∧ (1 : Nat) = (1 : Nat)) ∧ (Ab.ok (Rm.ab x185.fst) ∧ List.length x185.fst.d.vs ≤ x185.fst.d.c) ∧ (∀ (w186 : World), ((LX.in x w186
 ∧ RowAt w186 x13.la x13.ld) ∧ RowAt w186 x128.fst.la x128.fst.ld) ∧ True → True) ∧ (∀ (y187 : Rm), (Rm.ab y187 = Ab.know (Rm.ab x185.fst) x185.snd ∧ Rm.ok y187)
 ∧ Ab.ask (Rm.ab y187) x185.snd = none → (((↑(1 : Nat) : Int) != (↑(0 : Nat) : Int)) = true → ∃ (y188 : Bool), y188 = false ∧ y188 = true ∧ ∀ (w189 : World),
 (((LX.in x w189 ∧ RowAt w189 x13.la x13.ld) ∧ RowAt w189 x128.fst.la x128.fst.ld) ∧ True) ∧ True → True) ∧ (((↑(1 : Nat) : Int) != (↑(0 : Nat) : Int)) = false
 → (decide ((0 : Int) < (↑(1 : Nat) : Int)) = true → ((0 : Int) ≤ (0 : Int) ∧ (0 : Int) < (↑(1 : Nat) : Int)) ∧ ((0 : Int) = (↑(0 : Nat) : Int) → ((0 : Int) ≤
 (0 : Int) ∧ (0 : Int) < (↑(1 : Nat) : Int)) ∧ ((0 : Int) = (↑(0 : Nat) : Int) → False) ∧ True) ∧ True) ∧ (decide ((0 : Int) < (↑(1 : Nat) : Int)) = false
 → ∃ (x190 : LL), (x.a = x.a ∧ List.length x.l = List.length x.l ∧ x.c = x.c) ∧ x190.i = x128.fst.i ∧ x190.m.n = y184.fst.n ∧ (List.length x190.m.d.vs = List.length y184.fst.d.vs
 ∧ x190.m.d.c = y184.fst.d.c) ∧ x190.m.d.z = y184.fst.d.z ∧ x190.m.at_ = y184.fst.at_ ∧ (x190.m.d.vs = y184.fst.d.vs ∧ List.length x190.m.d.vs = List.length y184.fst.d.vs
 ∧ x190.m.d.c = y184.fst.d.c ∧ (1 : Nat) = (1 : Nat)) ∧ x190.r.n = y187.n ∧ x190.r.has = y187.has ∧ (List.length x190.r.d.vs = List.length y187.d.vs ∧ x190.r.d.c = y187.d.c)
 ∧ x190.r.d.z = y187.d.z ∧ x190.r.at_ = y187.at_ ∧ (x190.r.d.vs = y187.d.vs ∧ List.length x190.r.d.vs = List.length y187.d.vs ∧ x190.r.d.c = y187.d.c ∧
 (1 : Nat) = (1 : Nat)) ∧ x190.a.g = x128.fst.a.g ∧ x190.a.c.kind = x128.fst.a.c.kind ∧ x190.a.c.ok = x128.fst.a.c.ok ∧ x190.a.c.ofr = x128.fst.a.c.ofr
 ∧ x190.a.c.oto = x128.fst.a.c.oto ∧ x190.a.c.oam = x128.fst.a.c.oam ∧ x190.a.c.okey = x128.fst.a.c.okey ∧ x190.a.c.osl = x128.fst.a.c.osl ∧ x190.a.c.osh = x128.fst.a.c.osh
 ∧ x190.a.c.id = x128.fst.a.c.id ∧ x190.a.c.name = x128.fst.a.c.name ∧ x190.a.c.n = x128.fst.a.c.n ∧ x190.a.c.why = x128.fst.a.c.why ∧ x190.a.c.slot = x128.fst.a.c.slot
 ∧ x190.a.c.ep = x128.fst.a.c.ep ∧ x190.a.c.at_ = x128.fst.a.c.at_ ∧ x190.a.c.last = x128.fst.a.c.last ∧ (x190.la = x128.fst.la ∧ List.length x190.ld = List.length x128.fst.ld
 ∧ x190.lc = x128.fst.lc) ∧ ((LL.ok x x190 ∧ x190.i = x128.fst.i ∧ Mo.ab x190.m = Rm.ab x190.r) ∧ x190.i < (↑(List.length x.l) : Int)) ∧ ∀ (w191 : World),
 (((LX.in x w191 ∧ RowAt w191 x13.la x13.ld) ∧ RowAt w191 x128.fst.la x128.fst.ld) ∧ True) ∧ True → (((∀ (i192 : Nat) (o193 : OpD), x.l[i192]? = some o193
 → (∀ (k194 : Nat) (x195 : Value), (OpD.vals o193)[k194]? = some x195 → ∃ (ad196 : Addr), Option.map (fun (x : Addr) => Addr.add x (i192 * (31 : Nat))) x.a = some ad196
 ∧ World.cell? w191 (Addr.add ad196 k194) = some x195) ∧ (∀ (k197 : Nat) (x198 : Value), o193.d[k197]? = some x198 → ∃ (ad199 : Addr), o193.da = some ad199
 ∧ World.cell? w191 (Addr.add ad199 k197) = some x198) ∧ ∀ (k200 : Nat) (x201 : Value), (x.ad o193)[k200]? = some x201 → ∃ (ad202 : Addr), o193.aa = some ad202
 ∧ World.cell? w191 (Addr.add ad202 k200) = some x201) ∧ ∀ (k203 : Nat) (x204 : Value), x13.ld[k203]? = some x204 → ∃ (ad205 : Addr), x13.la = some ad205
 ∧ World.cell? w191 (Addr.add ad205 k203) = some x204) ∧ ∀ (k206 : Nat) (x207 : Value), x128.fst.ld[k206]? = some x207 → ∃ (ad208 : Addr), x128.fst.la = some ad208
 ∧ World.cell? w191 (Addr.add ad208 k206) = some x207) ∧ ∀ (k209 : Nat) (x210 : Value), x190.ld[k209]? = some x210 → ∃ (ad211 : Addr), x190.la = some ad211
 ∧ World.cell? w191 (Addr.add ad211 k209) = some x210))) ∧ ∀ (y212 : Rm × Ak × Sl), (Rm.ab y212.fst = Ab.know (Rm.ab x185.fst) x185.snd ∧ Rm.ok y212.fst)
 ∧ Ab.ask (Rm.ab y212.fst) x185.snd = some (y212.snd.fst, y212.snd.snd.vs) → (((↑(1 : Nat) : Int) != (↑(1 : Nat) : Int)) = true → ∃ (y213 : Bool), y213 = false
 ∧ y213 = true ∧ ∀ (w214 : World), (((LX.in x w214 ∧ RowAt w214 x13.la x13.ld) ∧ RowAt w214 x128.fst.la x128.fst.ld) ∧ True) ∧ True → True) ∧ (((↑(1 : Nat) : Int) !=
 (↑(1 : Nat) : Int)) = false → (decide ((0 : Int) < (↑(1 : Nat) : Int)) = true → ((0 : Int) ≤ (0 : Int) ∧ (0 : Int) < (↑(1 : Nat) : Int)) ∧ ((0 : Int) =
 (↑(0 : Nat) : Int) → ((0 : Int) ≤ (0 : Int) ∧ (0 : Int) < (↑(1 : Nat) : Int)) ∧ ((0 : Int) = (↑(0 : Nat) : Int) → ((0 : Int) ≤ (0 : Int) ∧ (0 : Int) <
 (↑(1 : Nat) : Int)) ∧ ((0 : Int) = (↑(0 : Nat) : Int) → ((((0 : Nat) = (0 : Nat) ∧ (1 : Nat) = (1 : Nat) ∧ y184.snd.snd.snd.fst = y184.snd.snd.snd.fst)
 ∧ (0 : Int) = (0 : Int) ∧ (((0 : Int) ≤ (0 : Int) ∧ (0 : Int) < (↑(1 : Nat) : Int)) ∧ ((0 : Int) = (↑(0 : Nat) : Int) → True) ∧ True) ∧ True ∧ y184.snd.fst.g = y184.snd.fst.g
 ∧ ((0 : Nat) = (0 : Nat) ∧ (1 : Nat) = (1 : Nat) ∧ (1 : Nat) = (1 : Nat)) ∧ (0 : Int) = (0 : Int) ∧ (((0 : Int) ≤ (0 : Int) ∧ (0 : Int) < (↑(1 : Nat) : Int))
 ∧ ((0 : Int) = (↑(0 : Nat) : Int) → True) ∧ True) ∧ (y212.snd.fst.g = y212.snd.fst.g ∧ y212.snd.fst.c.kind = y212.snd.fst.c.kind ∧ y212.snd.fst.c.ok = y212.snd.fst.c.ok
 ∧ y212.snd.fst.c.ofr = y212.snd.fst.c.ofr ∧ y212.snd.fst.c.oto = y212.snd.fst.c.oto ∧ y212.snd.fst.c.oam = y212.snd.fst.c.oam ∧ y212.snd.fst.c.okey = y212.snd.fst.c.okey
 ∧ y212.snd.fst.c.osl = y212.snd.fst.c.osl ∧ y212.snd.fst.c.osh = y212.snd.fst.c.osh ∧ y212.snd.fst.c.id = y212.snd.fst.c.id ∧ y212.snd.fst.c.name = y212.snd.fst.c.name
 ∧ y212.snd.fst.c.n = y212.snd.fst.c.n ∧ y212.snd.fst.c.why = y212.snd.fst.c.why ∧ y212.snd.fst.c.slot = y212.snd.fst.c.slot ∧ y212.snd.fst.c.ep = y212.snd.fst.c.ep
 ∧ y212.snd.fst.c.at_ = y212.snd.fst.c.at_ ∧ y212.snd.fst.c.last = y212.snd.fst.c.last ∧ (List.length y212.snd.snd.vs = List.length y212.snd.snd.vs ∧ y212.snd.snd.c = y212.snd.snd.c
 ∧ y212.snd.snd.z = y212.snd.snd.z) ∧ True) ∧ True) ∧ (∃ (x215 : Ak × Ak × Sl × Sl), x215.fst.g = y184.snd.fst.g ∧ x215.fst.c.kind = y184.snd.fst.c.kind
 ∧ x215.fst.c.ok = y184.snd.fst.c.ok ∧ x215.fst.c.ofr = y184.snd.fst.c.ofr ∧ x215.fst.c.oto = y184.snd.fst.c.oto ∧ x215.fst.c.oam = y184.snd.fst.c.oam ∧ x215.fst.c.okey = y184.snd.fst.c.okey
 ∧ x215.fst.c.osl = y184.snd.fst.c.osl ∧ x215.fst.c.osh = y184.snd.fst.c.osh ∧ x215.fst.c.id = y184.snd.fst.c.id ∧ x215.fst.c.name = y184.snd.fst.c.name
 ∧ x215.fst.c.n = y184.snd.fst.c.n ∧ x215.fst.c.why = y184.snd.fst.c.why ∧ x215.fst.c.slot = y184.snd.fst.c.slot ∧ x215.fst.c.ep = y184.snd.fst.c.ep ∧ x215.fst.c.at_ = y184.snd.fst.c.at_
 ∧ x215.fst.c.last = y184.snd.fst.c.last ∧ (List.length x215.snd.snd.fst.vs = List.length y184.snd.snd.fst.vs ∧ x215.snd.snd.fst.c = y184.snd.snd.fst.c)
 ∧ x215.snd.snd.fst.z = y184.snd.snd.fst.z ∧ x215.snd.fst.g = y212.snd.fst.g ∧ x215.snd.fst.c.kind = y212.snd.fst.c.kind ∧ x215.snd.fst.c.ok = y212.snd.fst.c.ok
 ∧ x215.snd.fst.c.ofr = y212.snd.fst.c.ofr ∧ x215.snd.fst.c.oto = y212.snd.fst.c.oto ∧ x215.snd.fst.c.oam = y212.snd.fst.c.oam ∧ x215.snd.fst.c.okey = y212.snd.fst.c.okey
 ∧ x215.snd.fst.c.osl = y212.snd.fst.c.osl ∧ x215.snd.fst.c.osh = y212.snd.fst.c.osh ∧ x215.snd.fst.c.id = y212.snd.fst.c.id ∧ x215.snd.fst.c.name = y212.snd.fst.c.name
 ∧ x215.snd.fst.c.n = y212.snd.fst.c.n ∧ x215.snd.fst.c.why = y212.snd.fst.c.why ∧ x215.snd.fst.c.slot = y212.snd.fst.c.slot ∧ x215.snd.fst.c.ep = y212.snd.fst.c.ep
 ∧ x215.snd.fst.c.at_ = y212.snd.fst.c.at_ ∧ x215.snd.fst.c.last = y212.snd.fst.c.last ∧ (List.length x215.snd.snd.snd.vs = List.length y212.snd.snd.vs
 ∧ x215.snd.snd.snd.c = y212.snd.snd.c) ∧ x215.snd.snd.snd.z = y212.snd.snd.z ∧ (x215.snd.snd.fst.vs = y184.snd.snd.fst.vs ∧ List.length x215.snd.snd.fst.vs = List.length y184.snd.snd.fst.vs
 ∧ x215.snd.snd.fst.c = y184.snd.snd.fst.c ∧ (1 : Nat) = (1 : Nat)) ∧ (x215.snd.snd.snd.vs = y212.snd.snd.vs ∧ List.length x215.snd.snd.snd.vs = List.length y212.snd.snd.vs
 ∧ x215.snd.snd.snd.c = y212.snd.snd.c ∧ (1 : Nat) = (1 : Nat)) ∧ (x215.fst = x215.snd.fst ∧ x215.snd.snd.fst.vs = x215.snd.snd.snd.vs ∧ ∀ (v : Value), v ∈ x215.snd.snd.fst.vs
 → ∃ (n216 : Int), v = Value.int IntKind.u8 n216) ∧ (∀ (w217 : World), (((LX.in x w217 ∧ RowAt w217 x13.la x13.ld) ∧ RowAt w217 x128.fst.la x128.fst.ld)
 ∧ True) ∧ True → True) ∧ ∀ (y218 : Bool), y218 = true → True ∧ ((!y218) = true → ∃ (y219 : Bool), y219 = false ∧ y219 = true ∧ ∀ (w220 : World), ((((LX.in x w220
 ∧ RowAt w220 x13.la x13.ld) ∧ RowAt w220 x128.fst.la x128.fst.ld) ∧ True) ∧ True) ∧ True → True) ∧ ((!y218) = false → ((0 : Int) ≤ (0 : Int) ∧ (0 : Int) <
 (↑(1 : Nat) : Int)) ∧ ((0 : Int) = (↑(0 : Nat) : Int) → ((0 : Int) ≤ (0 : Int) ∧ (0 : Int) < (↑(1 : Nat) : Int)) ∧ ((0 : Int) = (↑(0 : Nat) : Int) → (∃
 (news : List Value), news = List.take (List.length y212.snd.snd.vs * (1 : Nat)) x215.snd.snd.snd.vs ∧ List.length y212.snd.snd.vs ≤ List.length x215.snd.snd.snd.vs
 ∧ y212.snd.snd.c = x215.snd.snd.snd.c ∧ (∀ (v221 : Value), v221 ∈ news → one1 v221 = true) ∧ List.length y212.snd.snd.vs * (1 : Nat) ≤ (140737488355328 : Nat)
 ∧ ∀ (c222 : Nat), List.length y212.snd.snd.vs ≤ c222 → (List.length y212.snd.snd.vs = (0 : Nat) → c222 = (0 : Nat)) → True ∧ (True ∧ ((0 : Int) ≤ (0 : Int)
 ∧ (0 : Int) < (↑(1 : Nat) : Int)) ∧ ((0 : Int) = (↑(0 : Nat) : Int) → ∃ (x223 : Sl), (List.length x223.vs = List.length y184.snd.snd.fst.vs ∧ x223.c = y184.snd.snd.fst.c)
 ∧ x223.z = y184.snd.snd.fst.z ∧ (x223.vs = x215.snd.snd.fst.vs ∧ List.length x223.vs = List.length x215.snd.snd.fst.vs ∧ x223.c = x215.snd.snd.fst.c ∧
 (1 : Nat) = (1 : Nat)) ∧ (List.length x223.vs + (1 : Nat) ≤ (140737488355328 : Nat) ∧ (∀ (v224 : Value), v224 ∈ x223.vs → ∃ (n225 : Int), v224 = Value.int IntKind.u8 n225)
 ∧ List.length x223.vs ≤ x223.c) ∧ (∀ (w226 : World), ((((LX.in x w226 ∧ RowAt w226 x13.la x13.ld) ∧ RowAt w226 x128.fst.la x128.fst.ld) ∧ True) ∧ True)
 ∧ True → True) ∧ ∀ (y227 : Unit), True → (decide (IntKind.wrap IntKind.i64 ((0 : Int) + (1 : Int)) < (↑(1 : Nat) : Int)) = true → ((0 : Int) ≤ IntKind.wrap IntKind.i64
 ((0 : Int) + (1 : Int)) ∧ IntKind.wrap IntKind.i64 ((0 : Int) + (1 : Int)) < (↑(1 : Nat) : Int)) ∧ (IntKind.wrap IntKind.i64 ((0 : Int) + (1 : Int)) =
 (↑(0 : Nat) : Int) → ((0 : Int) ≤ IntKind.wrap IntKind.i64 ((0 : Int) + (1 : Int)) ∧ IntKind.wrap IntKind.i64 ((0 : Int) + (1 : Int)) < (↑(1 : Nat) : Int))
 ∧ (IntKind.wrap IntKind.i64 ((0 : Int) + (1 : Int)) = (↑(0 : Nat) : Int) → ((0 : Int) ≤ IntKind.wrap IntKind.i64 ((0 : Int) + (1 : Int)) ∧ IntKind.wrap IntKind.i64
 ((0 : Int) + (1 : Int)) < (↑(1 : Nat) : Int)) ∧ (IntKind.wrap IntKind.i64 ((0 : Int) + (1 : Int)) = (↑(0 : Nat) : Int) → ((((0 : Nat) = (0 : Nat) ∧ (1 : Nat) =
 (1 : Nat) ∧ y184.snd.snd.snd.fst = y184.snd.snd.snd.fst) ∧ IntKind.wrap IntKind.i64 ((0 : Int) + (1 : Int)) = IntKind.wrap IntKind.i64 ((0 : Int) + (1 : Int))
 ∧ (((0 : Int) ≤ IntKind.wrap IntKind.i64 ((0 : Int) + (1 : Int)) ∧ IntKind.wrap IntKind.i64 ((0 : Int) + (1 : Int)) < (↑(1 : Nat) : Int)) ∧ (IntKind.wrap IntKind.i64
 ((0 : Int) + (1 : Int)) = (↑(0 : Nat) : Int) → True) ∧ True) ∧ True ∧ y184.snd.fst.g = y184.snd.fst.g ∧ ((0 : Nat) = (0 : Nat) ∧ (1 : Nat) = (1 : Nat)
 ∧ (1 : Nat) = (1 : Nat)) ∧ IntKind.wrap IntKind.i64 ((0 : Int) + (1 : Int)) = IntKind.wrap IntKind.i64 ((0 : Int) + (1 : Int)) ∧ (((0 : Int) ≤ IntKind.wrap IntKind.i64
 ((0 : Int) + (1 : Int)) ∧ IntKind.wrap IntKind.i64 ((0 : Int) + (1 : Int)) < (↑(1 : Nat) : Int)) ∧ (IntKind.wrap IntKind.i64 ((0 : Int) + (1 : Int)) =
 (↑(0 : Nat) : Int) → True) ∧ True) ∧ (y212.snd.fst.g = y212.snd.fst.g ∧ y212.snd.fst.c.kind = y212.snd.fst.c.kind ∧ y212.snd.fst.c.ok = y212.snd.fst.c.ok
 ∧ y212.snd.fst.c.ofr = y212.snd.fst.c.ofr ∧ y212.snd.fst.c.oto = y212.snd.fst.c.oto ∧ y212.snd.fst.c.oam = y212.snd.fst.c.oam ∧ y212.snd.fst.c.okey = y212.snd.fst.c.okey
 ∧ y212.snd.fst.c.osl = y212.snd.fst.c.osl ∧ y212.snd.fst.c.osh = y212.snd.fst.c.osh ∧ y212.snd.fst.c.id = y212.snd.fst.c.id ∧ y212.snd.fst.c.name = y212.snd.fst.c.name
 ∧ y212.snd.fst.c.n = y212.snd.fst.c.n ∧ y212.snd.fst.c.why = y212.snd.fst.c.why ∧ y212.snd.fst.c.slot = y212.snd.fst.c.slot ∧ y212.snd.fst.c.ep = y212.snd.fst.c.ep
 ∧ y212.snd.fst.c.at_ = y212.snd.fst.c.at_ ∧ y212.snd.fst.c.last = y212.snd.fst.c.last ∧ (List.length y212.snd.snd.vs = List.length y212.snd.snd.vs ∧ y212.snd.snd.c = y212.snd.snd.c
 ∧ y212.snd.snd.z = y212.snd.snd.z) ∧ True) ∧ True) ∧ (∃ (x228 : Ak × Ak × Sl × Sl), x228.fst.g = y184.snd.fst.g ∧ x228.fst.c.kind = y184.snd.fst.c.kind
 ∧ x228.fst.c.ok = y184.snd.fst.c.ok ∧ x228.fst.c.ofr = y184.snd.fst.c.ofr ∧ x228.fst.c.oto = y184.snd.fst.c.oto ∧ x228.fst.c.oam = y184.snd.fst.c.oam ∧ x228.fst.c.okey = y184.snd.fst.c.okey
 ∧ x228.fst.c.osl = y184.snd.fst.c.osl ∧ x228.fst.c.osh = y184.snd.fst.c.osh ∧ x228.fst.c.id = y184.snd.fst.c.id ∧ x228.fst.c.name = y184.snd.fst.c.name
 ∧ x228.fst.c.n = y184.snd.fst.c.n ∧ x228.fst.c.why = y184.snd.fst.c.why ∧ x228.fst.c.slot = y184.snd.fst.c.slot ∧ x228.fst.c.ep = y184.snd.fst.c.ep ∧ x228.fst.c.at_ = y184.snd.fst.c.at_
 ∧ x228.fst.c.last = y184.snd.fst.c.last ∧ (List.length x228.snd.snd.fst.vs = List.length y184.snd.snd.fst.vs ∧ x228.snd.snd.fst.c = y184.snd.snd.fst.c)
 ∧ x228.snd.snd.fst.z = y184.snd.snd.fst.z ∧ x228.snd.fst.g = y212.snd.fst.g ∧ x228.snd.fst.c.kind = y212.snd.fst.c.kind ∧ x228.snd.fst.c.ok = y212.snd.fst.c.ok
 ∧ x228.snd.fst.c.ofr = y212.snd.fst.c.ofr ∧ x228.snd.fst.c.oto = y212.snd.fst.c.oto ∧ x228.snd.fst.c.oam = y212.snd.fst.c.oam ∧ x228.snd.fst.c.okey = y212.snd.fst.c.okey
 ∧ x228.snd.fst.c.osl = y212.snd.fst.c.osl ∧ x228.snd.fst.c.osh = y212.snd.fst.c.osh ∧ x228.snd.fst.c.id = y212.snd.fst.c.id ∧ x228.snd.fst.c.name = y212.snd.fst.c.name
 ∧ x228.snd.fst.c.n = y212.snd.fst.c.n ∧ x228.snd.fst.c.why = y212.snd.fst.c.why ∧ x228.snd.fst.c.slot = y212.snd.fst.c.slot ∧ x228.snd.fst.c.ep = y212.snd.fst.c.ep
 ∧ x228.snd.fst.c.at_ = y212.snd.fst.c.at_ ∧ x228.snd.fst.c.last = y212.snd.fst.c.last ∧ (List.length x228.snd.snd.snd.vs = List.length y212.snd.snd.vs
 ∧ x228.snd.snd.snd.c = y212.snd.snd.c) ∧ x228.snd.snd.snd.z = y212.snd.snd.z ∧ False) ∧ True) ∧ True) ∧ True) ∧ True) ∧ True) ∧ (decide (IntKind.wrap IntKind.i64
 ((0 : Int) + (1 : Int)) < (↑(1 : Nat) : Int)) = false → ∀ (a0 : Addr), ∃ (x229 : LL), (x.a = x.a ∧ List.length x.l = List.length x.l ∧ x.c = x.c) ∧ x229.i = x128.fst.i
 ∧ x229.m.n = y184.fst.n ∧ (List.length x229.m.d.vs = List.length y184.fst.d.vs ∧ x229.m.d.c = y184.fst.d.c) ∧ x229.m.d.z = y184.fst.d.z ∧ x229.m.at_ = y184.fst.at_
 ∧ (x229.m.d.vs = y184.fst.d.vs ∧ List.length x229.m.d.vs = List.length y184.fst.d.vs ∧ x229.m.d.c = y184.fst.d.c ∧ (1 : Nat) = (1 : Nat)) ∧ x229.r.n = y212.fst.n
 ∧ x229.r.has = y212.fst.has ∧ (List.length x229.r.d.vs = List.length y212.fst.d.vs ∧ x229.r.d.c = y212.fst.d.c) ∧ x229.r.d.z = y212.fst.d.z ∧ x229.r.at_ = y212.fst.at_
 ∧ (x229.r.d.vs = y212.fst.d.vs ∧ List.length x229.r.d.vs = List.length y212.fst.d.vs ∧ x229.r.d.c = y212.fst.d.c ∧ (1 : Nat) = (1 : Nat)) ∧ x229.a.g = y212.snd.fst.g
 ∧ x229.a.c.kind = y212.snd.fst.c.kind ∧ x229.a.c.ok = y212.snd.fst.c.ok ∧ x229.a.c.ofr = y212.snd.fst.c.ofr ∧ x229.a.c.oto = y212.snd.fst.c.oto ∧ x229.a.c.oam = y212.snd.fst.c.oam
 ∧ x229.a.c.okey = y212.snd.fst.c.okey ∧ x229.a.c.osl = y212.snd.fst.c.osl ∧ x229.a.c.osh = y212.snd.fst.c.osh ∧ x229.a.c.id = y212.snd.fst.c.id ∧ x229.a.c.name = y212.snd.fst.c.name
 ∧ x229.a.c.n = y212.snd.fst.c.n ∧ x229.a.c.why = y212.snd.fst.c.why ∧ x229.a.c.slot = y212.snd.fst.c.slot ∧ x229.a.c.ep = y212.snd.fst.c.ep ∧ x229.a.c.at_ = y212.snd.fst.c.at_
 ∧ x229.a.c.last = y212.snd.fst.c.last ∧ ((x229.la = if c222 = (0 : Nat) then ZB.at ZB.nil a0 else some a0) ∧ List.length x229.ld = List.length y212.snd.snd.vs
 ∧ x229.lc = c222) ∧ ((LL.ok x x229 ∧ x229.i = x128.fst.i ∧ Mo.ab x229.m = Rm.ab x229.r) ∧ x229.i < (↑(List.length x.l) : Int)) ∧ ∀ (w230 : World), ((((((LX.in x w230
 ∧ RowAt w230 x13.la x13.ld) ∧ RowAt w230 x128.fst.la x128.fst.ld) ∧ True) ∧ True) ∧ True) ∧ True) ∧ (c222 ≠ (0 : Nat) → RowAt w230 (some a0) news) → (((∀
 (i231 : Nat) (o232 : OpD), x.l[i231]? = some o232 → (∀ (k233 : Nat) (x234 : Value), (OpD.vals o232)[k233]? = some x234 → ∃ (ad235 : Addr), Option.map (fun
 (x : Addr) => Addr.add x (i231 * (31 : Nat))) x.a = some ad235 ∧ World.cell? w230 (Addr.add ad235 k233) = some x234) ∧ (∀ (k236 : Nat) (x237 : Value), o232.d[k236]? = some x237
 → ∃ (ad238 : Addr), o232.da = some ad238 ∧ World.cell? w230 (Addr.add ad238 k236) = some x237) ∧ ∀ (k239 : Nat) (x240 : Value), (x.ad o232)[k239]? = some x240
 → ∃ (ad241 : Addr), o232.aa = some ad241 ∧ World.cell? w230 (Addr.add ad241 k239) = some x240) ∧ ∀ (k242 : Nat) (x243 : Value), x13.ld[k242]? = some x243
 → ∃ (ad244 : Addr), x13.la = some ad244 ∧ World.cell? w230 (Addr.add ad244 k242) = some x243) ∧ ∀ (k245 : Nat) (x246 : Value), x128.fst.ld[k245]? = some x246
 → ∃ (ad247 : Addr), x128.fst.la = some ad247 ∧ World.cell? w230 (Addr.add ad247 k245) = some x246) ∧ ∀ (k248 : Nat) (x249 : Value), x229.ld[k248]? = some x249
 → ∃ (ad250 : Addr), x229.la = some ad250 ∧ World.cell? w230 (Addr.add ad250 k248) = some x249)) ∧ True) ∧ True) ∧ True) ∧ True) ∧ True)) ∧ True) ∧ True)
 ∧ True) ∧ True) ∧ True) ∧ (decide ((0 : Int) < (↑(1 : Nat) : Int)) = false → ∃ (x251 : LL), (x.a = x.a ∧ List.length x.l = List.length x.l ∧ x.c = x.c)
 ∧ x251.i = x128.fst.i ∧ x251.m.n = y184.fst.n ∧ (List.length x251.m.d.vs = List.length y184.fst.d.vs ∧ x251.m.d.c = y184.fst.d.c) ∧ x251.m.d.z = y184.fst.d.z
 ∧ x251.m.at_ = y184.fst.at_ ∧ (x251.m.d.vs = y184.fst.d.vs ∧ List.length x251.m.d.vs = List.length y184.fst.d.vs ∧ x251.m.d.c = y184.fst.d.c ∧ (1 : Nat) =
 (1 : Nat)) ∧ x251.r.n = y212.fst.n ∧ x251.r.has = y212.fst.has ∧ (List.length x251.r.d.vs = List.length y212.fst.d.vs ∧ x251.r.d.c = y212.fst.d.c) ∧ x251.r.d.z = y212.fst.d.z
 ∧ x251.r.at_ = y212.fst.at_ ∧ (x251.r.d.vs = y212.fst.d.vs ∧ List.length x251.r.d.vs = List.length y212.fst.d.vs ∧ x251.r.d.c = y212.fst.d.c ∧ (1 : Nat) =
 (1 : Nat)) ∧ x251.a.g = x128.fst.a.g ∧ x251.a.c.kind = x128.fst.a.c.kind ∧ x251.a.c.ok = x128.fst.a.c.ok ∧ x251.a.c.ofr = x128.fst.a.c.ofr ∧ x251.a.c.oto = x128.fst.a.c.oto
 ∧ x251.a.c.oam = x128.fst.a.c.oam ∧ x251.a.c.okey = x128.fst.a.c.okey ∧ x251.a.c.osl = x128.fst.a.c.osl ∧ x251.a.c.osh = x128.fst.a.c.osh ∧ x251.a.c.id = x128.fst.a.c.id
 ∧ x251.a.c.name = x128.fst.a.c.name ∧ x251.a.c.n = x128.fst.a.c.n ∧ x251.a.c.why = x128.fst.a.c.why ∧ x251.a.c.slot = x128.fst.a.c.slot ∧ x251.a.c.ep = x128.fst.a.c.ep
 ∧ x251.a.c.at_ = x128.fst.a.c.at_ ∧ x251.a.c.last = x128.fst.a.c.last ∧ (x251.la = x128.fst.la ∧ List.length x251.ld = List.length x128.fst.ld ∧ x251.lc = x128.fst.lc)
 ∧ ((LL.ok x x251 ∧ x251.i = x128.fst.i ∧ Mo.ab x251.m = Rm.ab x251.r) ∧ x251.i < (↑(List.length x.l) : Int)) ∧ ∀ (w252 : World), (((LX.in x w252 ∧ RowAt w252 x13.la x13.ld)
 ∧ RowAt w252 x128.fst.la x128.fst.ld) ∧ True) ∧ True → (((∀ (i253 : Nat) (o254 : OpD), x.l[i253]? = some o254 → (∀ (k255 : Nat) (x256 : Value), (OpD.vals o254)[k255]? = some x256
 → ∃ (ad257 : Addr), Option.map (fun (x : Addr) => Addr.add x (i253 * (31 : Nat))) x.a = some ad257 ∧ World.cell? w252 (Addr.add ad257 k255) = some x256)
 ∧ (∀ (k258 : Nat) (x259 : Value), o254.d[k258]? = some x259 → ∃ (ad260 : Addr), o254.da = some ad260 ∧ World.cell? w252 (Addr.add ad260 k258) = some x259)
 ∧ ∀ (k261 : Nat) (x262 : Value), (x.ad o254)[k261]? = some x262 → ∃ (ad263 : Addr), o254.aa = some ad263 ∧ World.cell? w252 (Addr.add ad263 k261) = some x262)
 ∧ ∀ (k264 : Nat) (x265 : Value), x13.ld[k264]? = some x265 → ∃ (ad266 : Addr), x13.la = some ad266 ∧ World.cell? w252 (Addr.add ad266 k264) = some x265)
 ∧ ∀ (k267 : Nat) (x268 : Value), x128.fst.ld[k267]? = some x268 → ∃ (ad269 : Addr), x128.fst.la = some ad269 ∧ World.cell? w252 (Addr.add ad269 k267) = some x268)
 ∧ ∀ (k270 : Nat) (x271 : Value), x251.ld[k270]? = some x271 → ∃ (ad272 : Addr), x251.la = some ad272 ∧ World.cell? w252 (Addr.add ad272 k270) = some x271)))
 ∧
 ((x128.snd.kind == (0 : Int)) = false → (((x128.snd.kind == (1 : Int)) = true → ∃ (x273 : LL × OpD × Bool), (x.a = x.a ∧ List.length x.l = List.length x.l
 ∧ x.c = x.c) ∧ x273.fst.i = x128.fst.i ∧ x273.snd.snd = true ∧ x273.fst.m.n = x128.fst.m.n ∧ (List.length x273.fst.m.d.vs = List.length x128.fst.m.d.vs
 ∧ x273.fst.m.d.c = x128.fst.m.d.c) ∧ x273.fst.m.d.z = x128.fst.m.d.z ∧ x273.fst.m.at_ = x128.fst.m.at_ ∧ (x273.fst.m.d.vs = x128.fst.m.d.vs ∧ List.length x273.fst.m.d.vs = List.length x128.fst.m.d.vs
 ∧ x273.fst.m.d.c = x128.fst.m.d.c ∧ (1 : Nat) = (1 : Nat)) ∧ x273.fst.r.n = x128.fst.r.n ∧ x273.fst.r.has = x128.fst.r.has ∧ (List.length x273.fst.r.d.vs = List.length x128.fst.r.d.vs
 ∧ x273.fst.r.d.c = x128.fst.r.d.c) ∧ x273.fst.r.d.z = x128.fst.r.d.z ∧ x273.fst.r.at_ = x128.fst.r.at_ ∧ (x273.fst.r.d.vs = x128.fst.r.d.vs ∧ List.length x273.fst.r.d.vs = List.length x128.fst.r.d.vs
 ∧ x273.fst.r.d.c = x128.fst.r.d.c ∧ (1 : Nat) = (1 : Nat)) ∧ x273.fst.a.g = x128.fst.a.g ∧ x273.fst.a.c.kind = x128.fst.a.c.kind ∧ x273.fst.a.c.ok = x128.fst.a.c.ok
 ∧ x273.fst.a.c.ofr = x128.fst.a.c.ofr ∧ x273.fst.a.c.oto = x128.fst.a.c.oto ∧ x273.fst.a.c.oam = x128.fst.a.c.oam ∧ x273.fst.a.c.okey = x128.fst.a.c.okey
 ∧ x273.fst.a.c.osl = x128.fst.a.c.osl ∧ x273.fst.a.c.osh = x128.fst.a.c.osh ∧ x273.fst.a.c.id = x128.fst.a.c.id ∧ x273.fst.a.c.name = x128.fst.a.c.name
 ∧ x273.fst.a.c.n = x128.fst.a.c.n ∧ x273.fst.a.c.why = x128.fst.a.c.why ∧ x273.fst.a.c.slot = x128.fst.a.c.slot ∧ x273.fst.a.c.ep = x128.fst.a.c.ep ∧ x273.fst.a.c.at_ = x128.fst.a.c.at_
 ∧ x273.fst.a.c.last = x128.fst.a.c.last ∧ (x273.fst.la = x128.fst.la ∧ List.length x273.fst.ld = List.length x128.fst.ld ∧ x273.fst.lc = x128.fst.lc) ∧ x273.snd.fst.kind = x128.snd.kind
 ∧ x273.snd.fst.mv.slot = x128.snd.mv.slot ∧ x273.snd.fst.mv.frm = x128.snd.mv.frm ∧ x273.snd.fst.mv.to = x128.snd.mv.to ∧ x273.snd.fst.mv.ep = x128.snd.mv.ep
 ∧ x273.snd.fst.mv.ph = x128.snd.mv.ph ∧ x273.snd.fst.mv.n = x128.snd.mv.n ∧ x273.snd.fst.a.g = x128.snd.a.g ∧ x273.snd.fst.a.c.kind = x128.snd.a.c.kind
 ∧ x273.snd.fst.a.c.ok = x128.snd.a.c.ok ∧ x273.snd.fst.a.c.ofr = x128.snd.a.c.ofr ∧ x273.snd.fst.a.c.oto = x128.snd.a.c.oto ∧ x273.snd.fst.a.c.oam = x128.snd.a.c.oam
 ∧ x273.snd.fst.a.c.okey = x128.snd.a.c.okey ∧ x273.snd.fst.a.c.osl = x128.snd.a.c.osl ∧ x273.snd.fst.a.c.osh = x128.snd.a.c.osh ∧ x273.snd.fst.a.c.id = x128.snd.a.c.id
 ∧ x273.snd.fst.a.c.name = x128.snd.a.c.name ∧ x273.snd.fst.a.c.n = x128.snd.a.c.n ∧ x273.snd.fst.a.c.why = x128.snd.a.c.why ∧ x273.snd.fst.a.c.slot = x128.snd.a.c.slot
 ∧ x273.snd.fst.a.c.ep = x128.snd.a.c.ep ∧ x273.snd.fst.a.c.at_ = x128.snd.a.c.at_ ∧ x273.snd.fst.a.c.last = x128.snd.a.c.last ∧ (x273.snd.fst.aa = x128.snd.aa
 ∧ x273.snd.fst.al = x128.snd.al ∧ x273.snd.fst.ac = x128.snd.ac) ∧ x273.snd.fst.r.why = x128.snd.r.why ∧ x273.snd.fst.r.wait = x128.snd.r.wait ∧ x273.snd.fst.r.rwhy = x128.snd.r.rwhy
 ∧ x273.snd.fst.r.ram = x128.snd.r.ram ∧ (x273.snd.fst.ra = x128.snd.ra ∧ x273.snd.fst.rn = x128.snd.rn ∧ x273.snd.fst.rc = x128.snd.rc) ∧ (x273.snd.fst.da = x128.snd.da
 ∧ List.length x273.snd.fst.d = List.length x128.snd.d ∧ x273.snd.fst.dc = x128.snd.dc) ∧ ((LL.ok x x273.fst ∧ x273.fst.i = x128.fst.i ∧ Mo.ab x273.fst.m = Rm.ab x273.fst.r)
 ∧ x.l[Int.toNat x273.fst.i]? = some x273.snd.fst) ∧ ∀ (w274 : World), (LX.in x w274 ∧ RowAt w274 x13.la x13.ld) ∧ RowAt w274 x128.fst.la x128.fst.ld →
 (((∀ (i275 : Nat) (o276 : OpD), x.l[i275]? = some o276 → (∀ (k277 : Nat) (x278 : Value), (OpD.vals o276)[k277]? = some x278 → ∃ (ad279 : Addr), Option.map
 (fun (x : Addr) => Addr.add x (i275 * (31 : Nat))) x.a = some ad279 ∧ World.cell? w274 (Addr.add ad279 k277) = some x278) ∧ (∀ (k280 : Nat) (x281 : Value), o276.d[k280]? = some x281
 → ∃ (ad282 : Addr), o276.da = some ad282 ∧ World.cell? w274 (Addr.add ad282 k280) = some x281) ∧ ∀ (k283 : Nat) (x284 : Value), (x.ad o276)[k283]? = some x284
 → ∃ (ad285 : Addr), o276.aa = some ad285 ∧ World.cell? w274 (Addr.add ad285 k283) = some x284) ∧ ∀ (k286 : Nat) (x287 : Value), x13.ld[k286]? = some x287
 → ∃ (ad288 : Addr), x13.la = some ad288 ∧ World.cell? w274 (Addr.add ad288 k286) = some x287) ∧ ∀ (k289 : Nat) (x290 : Value), x128.fst.ld[k289]? = some x290
 → ∃ (ad291 : Addr), x128.fst.la = some ad291 ∧ World.cell? w274 (Addr.add ad291 k289) = some x290) ∧ ∀ (k292 : Nat) (x293 : Value), x273.fst.ld[k292]? = some x293
 → ∃ (ad294 : Addr), x273.fst.la = some ad294 ∧ World.cell? w274 (Addr.add ad294 k292) = some x293) ∧ ((x128.snd.kind == (1 : Int)) = false → ((x128.snd.kind ==
 (2 : Int)) = true → ∃ (x295 : LL × OpD × Bool), (x.a = x.a ∧ List.length x.l = List.length x.l ∧ x.c = x.c) ∧ x295.fst.i = x128.fst.i ∧ x295.snd.snd = true
 ∧ x295.fst.m.n = x128.fst.m.n ∧ (List.length x295.fst.m.d.vs = List.length x128.fst.m.d.vs ∧ x295.fst.m.d.c = x128.fst.m.d.c) ∧ x295.fst.m.d.z = x128.fst.m.d.z
 ∧ x295.fst.m.at_ = x128.fst.m.at_ ∧ (x295.fst.m.d.vs = x128.fst.m.d.vs ∧ List.length x295.fst.m.d.vs = List.length x128.fst.m.d.vs ∧ x295.fst.m.d.c = x128.fst.m.d.c
 ∧ (1 : Nat) = (1 : Nat)) ∧ x295.fst.r.n = x128.fst.r.n ∧ x295.fst.r.has = x128.fst.r.has ∧ (List.length x295.fst.r.d.vs = List.length x128.fst.r.d.vs ∧ x295.fst.r.d.c = x128.fst.r.d.c)
 ∧ x295.fst.r.d.z = x128.fst.r.d.z ∧ x295.fst.r.at_ = x128.fst.r.at_ ∧ (x295.fst.r.d.vs = x128.fst.r.d.vs ∧ List.length x295.fst.r.d.vs = List.length x128.fst.r.d.vs
 ∧ x295.fst.r.d.c = x128.fst.r.d.c ∧ (1 : Nat) = (1 : Nat)) ∧ x295.fst.a.g = x128.fst.a.g ∧ x295.fst.a.c.kind = x128.fst.a.c.kind ∧ x295.fst.a.c.ok = x128.fst.a.c.ok
 ∧ x295.fst.a.c.ofr = x128.fst.a.c.ofr ∧ x295.fst.a.c.oto = x128.fst.a.c.oto ∧ x295.fst.a.c.oam = x128.fst.a.c.oam ∧ x295.fst.a.c.okey = x128.fst.a.c.okey
 ∧ x295.fst.a.c.osl = x128.fst.a.c.osl ∧ x295.fst.a.c.osh = x128.fst.a.c.osh ∧ x295.fst.a.c.id = x128.fst.a.c.id ∧ x295.fst.a.c.name = x128.fst.a.c.name
 ∧ x295.fst.a.c.n = x128.fst.a.c.n ∧ x295.fst.a.c.why = x128.fst.a.c.why ∧ x295.fst.a.c.slot = x128.fst.a.c.slot ∧ x295.fst.a.c.ep = x128.fst.a.c.ep ∧ x295.fst.a.c.at_ = x128.fst.a.c.at_
 ∧ x295.fst.a.c.last = x128.fst.a.c.last ∧ (x295.fst.la = x128.fst.la ∧ List.length x295.fst.ld = List.length x128.fst.ld ∧ x295.fst.lc = x128.fst.lc) ∧ x295.snd.fst.kind = x128.snd.kind
 ∧ x295.snd.fst.mv.slot = x128.snd.mv.slot ∧ x295.snd.fst.mv.frm = x128.snd.mv.frm ∧ x295.snd.fst.mv.to = x128.snd.mv.to ∧ x295.snd.fst.mv.ep = x128.snd.mv.ep
 ∧ x295.snd.fst.mv.ph = x128.snd.mv.ph ∧ x295.snd.fst.mv.n = x128.snd.mv.n ∧ x295.snd.fst.a.g = x128.snd.a.g ∧ x295.snd.fst.a.c.kind = x128.snd.a.c.kind
 ∧ x295.snd.fst.a.c.ok = x128.snd.a.c.ok ∧ x295.snd.fst.a.c.ofr = x128.snd.a.c.ofr ∧ x295.snd.fst.a.c.oto = x128.snd.a.c.oto ∧ x295.snd.fst.a.c.oam = x128.snd.a.c.oam
 ∧ x295.snd.fst.a.c.okey = x128.snd.a.c.okey ∧ x295.snd.fst.a.c.osl = x128.snd.a.c.osl ∧ x295.snd.fst.a.c.osh = x128.snd.a.c.osh ∧ x295.snd.fst.a.c.id = x128.snd.a.c.id
 ∧ x295.snd.fst.a.c.name = x128.snd.a.c.name ∧ x295.snd.fst.a.c.n = x128.snd.a.c.n ∧ x295.snd.fst.a.c.why = x128.snd.a.c.why ∧ x295.snd.fst.a.c.slot = x128.snd.a.c.slot
 ∧ x295.snd.fst.a.c.ep = x128.snd.a.c.ep ∧ x295.snd.fst.a.c.at_ = x128.snd.a.c.at_ ∧ x295.snd.fst.a.c.last = x128.snd.a.c.last ∧ (x295.snd.fst.aa = x128.snd.aa
 ∧ x295.snd.fst.al = x128.snd.al ∧ x295.snd.fst.ac = x128.snd.ac) ∧ x295.snd.fst.r.why = x128.snd.r.why ∧ x295.snd.fst.r.wait = x128.snd.r.wait ∧ x295.snd.fst.r.rwhy = x128.snd.r.rwhy
 ∧ x295.snd.fst.r.ram = x128.snd.r.ram ∧ (x295.snd.fst.ra = x128.snd.ra ∧ x295.snd.fst.rn = x128.snd.rn ∧ x295.snd.fst.rc = x128.snd.rc) ∧ (x295.snd.fst.da = x128.snd.da
 ∧ List.length x295.snd.fst.d = List.length x128.snd.d ∧ x295.snd.fst.dc = x128.snd.dc) ∧ ((LL.ok x x295.fst ∧ x295.fst.i = x128.fst.i ∧ Mo.ab x295.fst.m = Rm.ab x295.fst.r)
 ∧ x.l[Int.toNat x295.fst.i]? = some x295.snd.fst) ∧ ∀ (w296 : World), (LX.in x w296 ∧ RowAt w296 x13.la x13.ld) ∧ RowAt w296 x128.fst.la x128.fst.ld →
 (((∀ (i297 : Nat) (o298 : OpD), x.l[i297]? = some o298 → (∀ (k299 : Nat) (x300 : Value), (OpD.vals o298)[k299]? = some x300 → ∃ (ad301 : Addr), Option.map
 (fun (x : Addr) => Addr.add x (i297 * (31 : Nat))) x.a = some ad301 ∧ World.cell? w296 (Addr.add ad301 k299) = some x300) ∧ (∀ (k302 : Nat) (x303 : Value), o298.d[k302]? = some x303
 → ∃ (ad304 : Addr), o298.da = some ad304 ∧ World.cell? w296 (Addr.add ad304 k302) = some x303) ∧ ∀ (k305 : Nat) (x306 : Value), (x.ad o298)[k305]? = some x306
 → ∃ (ad307 : Addr), o298.aa = some ad307 ∧ World.cell? w296 (Addr.add ad307 k305) = some x306) ∧ ∀ (k308 : Nat) (x309 : Value), x13.ld[k308]? = some x309
 → ∃ (ad310 : Addr), x13.la = some ad310 ∧ World.cell? w296 (Addr.add ad310 k308) = some x309) ∧ ∀ (k311 : Nat) (x312 : Value), x128.fst.ld[k311]? = some x312
 → ∃ (ad313 : Addr), x128.fst.la = some ad313 ∧ World.cell? w296 (Addr.add ad313 k311) = some x312) ∧ ∀ (k314 : Nat) (x315 : Value), x295.fst.ld[k314]? = some x315
 → ∃ (ad316 : Addr), x295.fst.la = some ad316 ∧ World.cell? w296 (Addr.add ad316 k314) = some x315) ∧ ((x128.snd.kind == (2 : Int)) = false → ∃ (x317 : LL × OpD × Bool),
 (x.a = x.a ∧ List.length x.l = List.length x.l ∧ x.c = x.c) ∧ x317.fst.i = x128.fst.i ∧ x317.snd.snd = (x128.snd.kind == (3 : Int)) ∧ x317.fst.m.n = x128.fst.m.n
 ∧ (List.length x317.fst.m.d.vs = List.length x128.fst.m.d.vs ∧ x317.fst.m.d.c = x128.fst.m.d.c) ∧ x317.fst.m.d.z = x128.fst.m.d.z ∧ x317.fst.m.at_ = x128.fst.m.at_
 ∧ (x317.fst.m.d.vs = x128.fst.m.d.vs ∧ List.length x317.fst.m.d.vs = List.length x128.fst.m.d.vs ∧ x317.fst.m.d.c = x128.fst.m.d.c ∧ (1 : Nat) = (1 : Nat))
 ∧ x317.fst.r.n = x128.fst.r.n ∧ x317.fst.r.has = x128.fst.r.has ∧ (List.length x317.fst.r.d.vs = List.length x128.fst.r.d.vs ∧ x317.fst.r.d.c = x128.fst.r.d.c)
 ∧ x317.fst.r.d.z = x128.fst.r.d.z ∧ x317.fst.r.at_ = x128.fst.r.at_ ∧ (x317.fst.r.d.vs = x128.fst.r.d.vs ∧ List.length x317.fst.r.d.vs = List.length x128.fst.r.d.vs
 ∧ x317.fst.r.d.c = x128.fst.r.d.c ∧ (1 : Nat) = (1 : Nat)) ∧ x317.fst.a.g = x128.fst.a.g ∧ x317.fst.a.c.kind = x128.fst.a.c.kind ∧ x317.fst.a.c.ok = x128.fst.a.c.ok
 ∧ x317.fst.a.c.ofr = x128.fst.a.c.ofr ∧ x317.fst.a.c.oto = x128.fst.a.c.oto ∧ x317.fst.a.c.oam = x128.fst.a.c.oam ∧ x317.fst.a.c.okey = x128.fst.a.c.okey
 ∧ x317.fst.a.c.osl = x128.fst.a.c.osl ∧ x317.fst.a.c.osh = x128.fst.a.c.osh ∧ x317.fst.a.c.id = x128.fst.a.c.id ∧ x317.fst.a.c.name = x128.fst.a.c.name
 ∧ x317.fst.a.c.n = x128.fst.a.c.n ∧ x317.fst.a.c.why = x128.fst.a.c.why ∧ x317.fst.a.c.slot = x128.fst.a.c.slot ∧ x317.fst.a.c.ep = x128.fst.a.c.ep ∧ x317.fst.a.c.at_ = x128.fst.a.c.at_
 ∧ x317.fst.a.c.last = x128.fst.a.c.last ∧ (x317.fst.la = x128.fst.la ∧ List.length x317.fst.ld = List.length x128.fst.ld ∧ x317.fst.lc = x128.fst.lc) ∧ x317.snd.fst.kind = x128.snd.kind
 ∧ x317.snd.fst.mv.slot = x128.snd.mv.slot ∧ x317.snd.fst.mv.frm = x128.snd.mv.frm ∧ x317.snd.fst.mv.to = x128.snd.mv.to ∧ x317.snd.fst.mv.ep = x128.snd.mv.ep
 ∧ x317.snd.fst.mv.ph = x128.snd.mv.ph ∧ x317.snd.fst.mv.n = x128.snd.mv.n ∧ x317.snd.fst.a.g = x128.snd.a.g ∧ x317.snd.fst.a.c.kind = x128.snd.a.c.kind
 ∧ x317.snd.fst.a.c.ok = x128.snd.a.c.ok ∧ x317.snd.fst.a.c.ofr = x128.snd.a.c.ofr ∧ x317.snd.fst.a.c.oto = x128.snd.a.c.oto ∧ x317.snd.fst.a.c.oam = x128.snd.a.c.oam
 ∧ x317.snd.fst.a.c.okey = x128.snd.a.c.okey ∧ x317.snd.fst.a.c.osl = x128.snd.a.c.osl ∧ x317.snd.fst.a.c.osh = x128.snd.a.c.osh ∧ x317.snd.fst.a.c.id = x128.snd.a.c.id
 ∧ x317.snd.fst.a.c.name = x128.snd.a.c.name ∧ x317.snd.fst.a.c.n = x128.snd.a.c.n ∧ x317.snd.fst.a.c.why = x128.snd.a.c.why ∧ x317.snd.fst.a.c.slot = x128.snd.a.c.slot
 ∧ x317.snd.fst.a.c.ep = x128.snd.a.c.ep ∧ x317.snd.fst.a.c.at_ = x128.snd.a.c.at_ ∧ x317.snd.fst.a.c.last = x128.snd.a.c.last ∧ (x317.snd.fst.aa = x128.snd.aa
 ∧ x317.snd.fst.al = x128.snd.al ∧ x317.snd.fst.ac = x128.snd.ac) ∧ x317.snd.fst.r.why = x128.snd.r.why ∧ x317.snd.fst.r.wait = x128.snd.r.wait ∧ x317.snd.fst.r.rwhy = x128.snd.r.rwhy
 ∧ x317.snd.fst.r.ram = x128.snd.r.ram ∧ (x317.snd.fst.ra = x128.snd.ra ∧ x317.snd.fst.rn = x128.snd.rn ∧ x317.snd.fst.rc = x128.snd.rc) ∧ (x317.snd.fst.da = x128.snd.da
 ∧ List.length x317.snd.fst.d = List.length x128.snd.d ∧ x317.snd.fst.dc = x128.snd.dc) ∧ ((LL.ok x x317.fst ∧ x317.fst.i = x128.fst.i ∧ Mo.ab x317.fst.m = Rm.ab x317.fst.r)
 ∧ x.l[Int.toNat x317.fst.i]? = some x317.snd.fst) ∧ ∀ (w318 : World), (LX.in x w318 ∧ RowAt w318 x13.la x13.ld) ∧ RowAt w318 x128.fst.la x128.fst.ld →
 (((∀ (i319 : Nat) (o320 : OpD), x.l[i319]? = some o320 → (∀ (k321 : Nat) (x322 : Value), (OpD.vals o320)[k321]? = some x322 → ∃ (ad323 : Addr), Option.map
 (fun (x : Addr) => Addr.add x (i319 * (31 : Nat))) x.a = some ad323 ∧ World.cell? w318 (Addr.add ad323 k321) = some x322) ∧ (∀ (k324 : Nat) (x325 : Value), o320.d[k324]? = some x325
 → ∃ (ad326 : Addr), o320.da = some ad326 ∧ World.cell? w318 (Addr.add ad326 k324) = some x325) ∧ ∀ (k327 : Nat) (x328 : Value), (x.ad o320)[k327]? = some x328
 → ∃ (ad329 : Addr), o320.aa = some ad329 ∧ World.cell? w318 (Addr.add ad329 k327) = some x328) ∧ ∀ (k330 : Nat) (x331 : Value), x13.ld[k330]? = some x331
 → ∃ (ad332 : Addr), x13.la = some ad332 ∧ World.cell? w318 (Addr.add ad332 k330) = some x331) ∧ ∀ (k333 : Nat) (x334 : Value), x128.fst.ld[k333]? = some x334
 → ∃ (ad335 : Addr), x128.fst.la = some ad335 ∧ World.cell? w318 (Addr.add ad335 k333) = some x334) ∧ ∀ (k336 : Nat) (x337 : Value), x317.fst.ld[k336]? = some x337
 → ∃ (ad338 : Addr), x317.fst.la = some ad338 ∧ World.cell? w318 (Addr.add ad338 k336) = some x337))) ∧ ∀ (x339 : LL × OpD × Bool), (LL.ok x x339.fst ∧ x339.fst.i = x128.fst.i
 ∧ Mo.ab x339.fst.m = Rm.ab x339.fst.r) ∧ x.l[Int.toNat x339.fst.i]? = some x339.snd.fst → (x339.snd.snd = true → ((decide (x339.snd.fst.kind > (1 : Int)) = true
 → ∃ (x340 : LL × OpD × AD), (x.a = x.a ∧ List.length x.l = List.length x.l ∧ x.c = x.c) ∧ x340.fst.i = x339.fst.i ∧ x340.fst.m.n = x339.fst.m.n ∧ (List.length x340.fst.m.d.vs = List.length x339.fst.m.d.vs
 ∧ x340.fst.m.d.c = x339.fst.m.d.c) ∧ x340.fst.m.d.z = x339.fst.m.d.z ∧ x340.fst.m.at_ = x339.fst.m.at_ ∧ (x340.fst.m.d.vs = x339.fst.m.d.vs ∧ List.length x340.fst.m.d.vs = List.length x339.fst.m.d.vs
 ∧ x340.fst.m.d.c = x339.fst.m.d.c ∧ (1 : Nat) = (1 : Nat)) ∧ x340.fst.r.n = x339.fst.r.n ∧ x340.fst.r.has = x339.fst.r.has ∧ (List.length x340.fst.r.d.vs = List.length x339.fst.r.d.vs
 ∧ x340.fst.r.d.c = x339.fst.r.d.c) ∧ x340.fst.r.d.z = x339.fst.r.d.z ∧ x340.fst.r.at_ = x339.fst.r.at_ ∧ (x340.fst.r.d.vs = x339.fst.r.d.vs ∧ List.length x340.fst.r.d.vs = List.length x339.fst.r.d.vs
 ∧ x340.fst.r.d.c = x339.fst.r.d.c ∧ (1 : Nat) = (1 : Nat)) ∧ x340.fst.a.g = x339.fst.a.g ∧ x340.fst.a.c.kind = x339.fst.a.c.kind ∧ x340.fst.a.c.ok = x339.fst.a.c.ok
 ∧ x340.fst.a.c.ofr = x339.fst.a.c.ofr ∧ x340.fst.a.c.oto = x339.fst.a.c.oto ∧ x340.fst.a.c.oam = x339.fst.a.c.oam ∧ x340.fst.a.c.okey = x339.fst.a.c.okey
 ∧ x340.fst.a.c.osl = x339.fst.a.c.osl ∧ x340.fst.a.c.osh = x339.fst.a.c.osh ∧ x340.fst.a.c.id = x339.fst.a.c.id ∧ x340.fst.a.c.name = x339.fst.a.c.name
 ∧ x340.fst.a.c.n = x339.fst.a.c.n ∧ x340.fst.a.c.why = x339.fst.a.c.why ∧ x340.fst.a.c.slot = x339.fst.a.c.slot ∧ x340.fst.a.c.ep = x339.fst.a.c.ep ∧ x340.fst.a.c.at_ = x339.fst.a.c.at_
 ∧ x340.fst.a.c.last = x339.fst.a.c.last ∧ (x340.fst.la = x339.fst.la ∧ List.length x340.fst.ld = List.length x339.fst.ld ∧ x340.fst.lc = x339.fst.lc) ∧ x340.snd.fst.kind = x339.snd.fst.kind
 ∧ x340.snd.fst.mv.slot = x339.snd.fst.mv.slot ∧ x340.snd.fst.mv.frm = x339.snd.fst.mv.frm ∧ x340.snd.fst.mv.to = x339.snd.fst.mv.to ∧ x340.snd.fst.mv.ep = x339.snd.fst.mv.ep
 ∧ x340.snd.fst.mv.ph = x339.snd.fst.mv.ph ∧ x340.snd.fst.mv.n = x339.snd.fst.mv.n ∧ x340.snd.fst.a.g = x339.snd.fst.a.g ∧ x340.snd.fst.a.c.kind = x339.snd.fst.a.c.kind
 ∧ x340.snd.fst.a.c.ok = x339.snd.fst.a.c.ok ∧ x340.snd.fst.a.c.ofr = x339.snd.fst.a.c.ofr ∧ x340.snd.fst.a.c.oto = x339.snd.fst.a.c.oto ∧ x340.snd.fst.a.c.oam = x339.snd.fst.a.c.oam
 ∧ x340.snd.fst.a.c.okey = x339.snd.fst.a.c.okey ∧ x340.snd.fst.a.c.osl = x339.snd.fst.a.c.osl ∧ x340.snd.fst.a.c.osh = x339.snd.fst.a.c.osh ∧ x340.snd.fst.a.c.id = x339.snd.fst.a.c.id
 ∧ x340.snd.fst.a.c.name = x339.snd.fst.a.c.name ∧ x340.snd.fst.a.c.n = x339.snd.fst.a.c.n ∧ x340.snd.fst.a.c.why = x339.snd.fst.a.c.why ∧ x340.snd.fst.a.c.slot = x339.snd.fst.a.c.slot
 ∧ x340.snd.fst.a.c.ep = x339.snd.fst.a.c.ep ∧ x340.snd.fst.a.c.at_ = x339.snd.fst.a.c.at_ ∧ x340.snd.fst.a.c.last = x339.snd.fst.a.c.last ∧ (x340.snd.fst.aa = x339.snd.fst.aa
 ∧ x340.snd.fst.al = x339.snd.fst.al ∧ x340.snd.fst.ac = x339.snd.fst.ac) ∧ x340.snd.fst.r.why = x339.snd.fst.r.why ∧ x340.snd.fst.r.wait = x339.snd.fst.r.wait
 ∧ x340.snd.fst.r.rwhy = x339.snd.fst.r.rwhy ∧ x340.snd.fst.r.ram = x339.snd.fst.r.ram ∧ (x340.snd.fst.ra = x339.snd.fst.ra ∧ x340.snd.fst.rn = x339.snd.fst.rn
 ∧ x340.snd.fst.rc = x339.snd.fst.rc) ∧ (x340.snd.fst.da = x339.snd.fst.da ∧ List.length x340.snd.fst.d = List.length x339.snd.fst.d ∧ x340.snd.fst.dc = x339.snd.fst.dc)
 ∧ x340.snd.snd.a.g = x339.fst.a.g ∧ x340.snd.snd.a.c.kind = x339.fst.a.c.kind ∧ x340.snd.snd.a.c.ok = x339.fst.a.c.ok ∧ x340.snd.snd.a.c.ofr = x339.fst.a.c.ofr
 ∧ x340.snd.snd.a.c.oto = x339.fst.a.c.oto ∧ x340.snd.snd.a.c.oam = x339.fst.a.c.oam ∧ x340.snd.snd.a.c.okey = x339.fst.a.c.okey ∧ x340.snd.snd.a.c.osl = x339.fst.a.c.osl
 ∧ x340.snd.snd.a.c.osh = x339.fst.a.c.osh ∧ x340.snd.snd.a.c.id = x339.fst.a.c.id ∧ x340.snd.snd.a.c.name = x339.fst.a.c.name ∧ x340.snd.snd.a.c.n = x339.fst.a.c.n
 ∧ x340.snd.snd.a.c.why = x339.fst.a.c.why ∧ x340.snd.snd.a.c.slot = x339.fst.a.c.slot ∧ x340.snd.snd.a.c.ep = x339.fst.a.c.ep ∧ x340.snd.snd.a.c.at_ = x339.fst.a.c.at_
 ∧ x340.snd.snd.a.c.last = x339.fst.a.c.last ∧ (x340.snd.snd.p = x339.fst.la ∧ List.length x340.snd.snd.d = List.length x339.fst.ld ∧ x340.snd.snd.c = x339.fst.lc)
 ∧ ((LL.ok x x340.fst ∧ x340.fst.i = x339.fst.i ∧ Mo.ab x340.fst.m = Rm.ab x340.fst.r) ∧ x.l[Int.toNat x340.fst.i]? = some x340.snd.fst ∧ AD.ok x340.snd.snd)
 ∧ ∀ (w341 : World), ((LX.in x w341 ∧ RowAt w341 x13.la x13.ld) ∧ RowAt w341 x128.fst.la x128.fst.ld) ∧ RowAt w341 x339.fst.la x339.fst.ld → ((((∀ (i342 : Nat)
 (o343 : OpD), x.l[i342]? = some o343 → (∀ (k344 : Nat) (x345 : Value), (OpD.vals o343)[k344]? = some x345 → ∃ (ad346 : Addr), Option.map (fun (x : Addr) => Addr.add x
 (i342 * (31 : Nat))) x.a = some ad346 ∧ World.cell? w341 (Addr.add ad346 k344) = some x345) ∧ (∀ (k347 : Nat) (x348 : Value), o343.d[k347]? = some x348
 → ∃ (ad349 : Addr), o343.da = some ad349 ∧ World.cell? w341 (Addr.add ad349 k347) = some x348) ∧ ∀ (k350 : Nat) (x351 : Value), (x.ad o343)[k350]? = some x351
 → ∃ (ad352 : Addr), o343.aa = some ad352 ∧ World.cell? w341 (Addr.add ad352 k350) = some x351) ∧ ∀ (k353 : Nat) (x354 : Value), x13.ld[k353]? = some x354
 → ∃ (ad355 : Addr), x13.la = some ad355 ∧ World.cell? w341 (Addr.add ad355 k353) = some x354) ∧ ∀ (k356 : Nat) (x357 : Value), x128.fst.ld[k356]? = some x357
 → ∃ (ad358 : Addr), x128.fst.la = some ad358 ∧ World.cell? w341 (Addr.add ad358 k356) = some x357) ∧ ∀ (k359 : Nat) (x360 : Value), x339.fst.ld[k359]? = some x360
 → ∃ (ad361 : Addr), x339.fst.la = some ad361 ∧ World.cell? w341 (Addr.add ad361 k359) = some x360) ∧ (∀ (k362 : Nat) (x363 : Value), x340.fst.ld[k362]? = some x363
 → ∃ (ad364 : Addr), x340.fst.la = some ad364 ∧ World.cell? w341 (Addr.add ad364 k362) = some x363) ∧ ∀ (k365 : Nat) (x366 : Value), x340.snd.snd.d[k365]? = some x366
 → ∃ (ad367 : Addr), x340.snd.snd.p = some ad367 ∧ World.cell? w341 (Addr.add ad367 k365) = some x366) ∧ (decide (x339.snd.fst.kind > (1 : Int)) = false
 → ∃ (x368 : LL × OpD × AD), (x.a = x.a ∧ List.length x.l = List.length x.l ∧ x.c = x.c) ∧ x368.fst.i = x339.fst.i ∧ x368.fst.m.n = x339.fst.m.n ∧ (List.length x368.fst.m.d.vs = List.length x339.fst.m.d.vs
 ∧ x368.fst.m.d.c = x339.fst.m.d.c) ∧ x368.fst.m.d.z = x339.fst.m.d.z ∧ x368.fst.m.at_ = x339.fst.m.at_ ∧ (x368.fst.m.d.vs = x339.fst.m.d.vs ∧ List.length x368.fst.m.d.vs = List.length x339.fst.m.d.vs
 ∧ x368.fst.m.d.c = x339.fst.m.d.c ∧ (1 : Nat) = (1 : Nat)) ∧ x368.fst.r.n = x339.fst.r.n ∧ x368.fst.r.has = x339.fst.r.has ∧ (List.length x368.fst.r.d.vs = List.length x339.fst.r.d.vs
 ∧ x368.fst.r.d.c = x339.fst.r.d.c) ∧ x368.fst.r.d.z = x339.fst.r.d.z ∧ x368.fst.r.at_ = x339.fst.r.at_ ∧ (x368.fst.r.d.vs = x339.fst.r.d.vs ∧ List.length x368.fst.r.d.vs = List.length x339.fst.r.d.vs
 ∧ x368.fst.r.d.c = x339.fst.r.d.c ∧ (1 : Nat) = (1 : Nat)) ∧ x368.fst.a.g = x339.fst.a.g ∧ x368.fst.a.c.kind = x339.fst.a.c.kind ∧ x368.fst.a.c.ok = x339.fst.a.c.ok
 ∧ x368.fst.a.c.ofr = x339.fst.a.c.ofr ∧ x368.fst.a.c.oto = x339.fst.a.c.oto ∧ x368.fst.a.c.oam = x339.fst.a.c.oam ∧ x368.fst.a.c.okey = x339.fst.a.c.okey
 ∧ x368.fst.a.c.osl = x339.fst.a.c.osl ∧ x368.fst.a.c.osh = x339.fst.a.c.osh ∧ x368.fst.a.c.id = x339.fst.a.c.id ∧ x368.fst.a.c.name = x339.fst.a.c.name
 ∧ x368.fst.a.c.n = x339.fst.a.c.n ∧ x368.fst.a.c.why = x339.fst.a.c.why ∧ x368.fst.a.c.slot = x339.fst.a.c.slot ∧ x368.fst.a.c.ep = x339.fst.a.c.ep ∧ x368.fst.a.c.at_ = x339.fst.a.c.at_
 ∧ x368.fst.a.c.last = x339.fst.a.c.last ∧ (x368.fst.la = x339.fst.la ∧ List.length x368.fst.ld = List.length x339.fst.ld ∧ x368.fst.lc = x339.fst.lc) ∧ x368.snd.fst.kind = x339.snd.fst.kind
 ∧ x368.snd.fst.mv.slot = x339.snd.fst.mv.slot ∧ x368.snd.fst.mv.frm = x339.snd.fst.mv.frm ∧ x368.snd.fst.mv.to = x339.snd.fst.mv.to ∧ x368.snd.fst.mv.ep = x339.snd.fst.mv.ep
 ∧ x368.snd.fst.mv.ph = x339.snd.fst.mv.ph ∧ x368.snd.fst.mv.n = x339.snd.fst.mv.n ∧ x368.snd.fst.a.g = x339.snd.fst.a.g ∧ x368.snd.fst.a.c.kind = x339.snd.fst.a.c.kind
 ∧ x368.snd.fst.a.c.ok = x339.snd.fst.a.c.ok ∧ x368.snd.fst.a.c.ofr = x339.snd.fst.a.c.ofr ∧ x368.snd.fst.a.c.oto = x339.snd.fst.a.c.oto ∧ x368.snd.fst.a.c.oam = x339.snd.fst.a.c.oam
 ∧ x368.snd.fst.a.c.okey = x339.snd.fst.a.c.okey ∧ x368.snd.fst.a.c.osl = x339.snd.fst.a.c.osl ∧ x368.snd.fst.a.c.osh = x339.snd.fst.a.c.osh ∧ x368.snd.fst.a.c.id = x339.snd.fst.a.c.id
 ∧ x368.snd.fst.a.c.name = x339.snd.fst.a.c.name ∧ x368.snd.fst.a.c.n = x339.snd.fst.a.c.n ∧ x368.snd.fst.a.c.why = x339.snd.fst.a.c.why ∧ x368.snd.fst.a.c.slot = x339.snd.fst.a.c.slot
 ∧ x368.snd.fst.a.c.ep = x339.snd.fst.a.c.ep ∧ x368.snd.fst.a.c.at_ = x339.snd.fst.a.c.at_ ∧ x368.snd.fst.a.c.last = x339.snd.fst.a.c.last ∧ (x368.snd.fst.aa = x339.snd.fst.aa
 ∧ x368.snd.fst.al = x339.snd.fst.al ∧ x368.snd.fst.ac = x339.snd.fst.ac) ∧ x368.snd.fst.r.why = x339.snd.fst.r.why ∧ x368.snd.fst.r.wait = x339.snd.fst.r.wait
 ∧ x368.snd.fst.r.rwhy = x339.snd.fst.r.rwhy ∧ x368.snd.fst.r.ram = x339.snd.fst.r.ram ∧ (x368.snd.fst.ra = x339.snd.fst.ra ∧ x368.snd.fst.rn = x339.snd.fst.rn
 ∧ x368.snd.fst.rc = x339.snd.fst.rc) ∧ (x368.snd.fst.da = x339.snd.fst.da ∧ List.length x368.snd.fst.d = List.length x339.snd.fst.d ∧ x368.snd.fst.dc = x339.snd.fst.dc)
 ∧ x368.snd.snd.a.g = x339.snd.fst.a.g ∧ x368.snd.snd.a.c.kind = x339.snd.fst.a.c.kind ∧ x368.snd.snd.a.c.ok = x339.snd.fst.a.c.ok ∧ x368.snd.snd.a.c.ofr = x339.snd.fst.a.c.ofr
 ∧ x368.snd.snd.a.c.oto = x339.snd.fst.a.c.oto ∧ x368.snd.snd.a.c.oam = x339.snd.fst.a.c.oam ∧ x368.snd.snd.a.c.okey = x339.snd.fst.a.c.okey ∧ x368.snd.snd.a.c.osl = x339.snd.fst.a.c.osl
 ∧ x368.snd.snd.a.c.osh = x339.snd.fst.a.c.osh ∧ x368.snd.snd.a.c.id = x339.snd.fst.a.c.id ∧ x368.snd.snd.a.c.name = x339.snd.fst.a.c.name ∧ x368.snd.snd.a.c.n = x339.snd.fst.a.c.n
 ∧ x368.snd.snd.a.c.why = x339.snd.fst.a.c.why ∧ x368.snd.snd.a.c.slot = x339.snd.fst.a.c.slot ∧ x368.snd.snd.a.c.ep = x339.snd.fst.a.c.ep ∧ x368.snd.snd.a.c.at_ = x339.snd.fst.a.c.at_
 ∧ x368.snd.snd.a.c.last = x339.snd.fst.a.c.last ∧ (x368.snd.snd.p = x339.snd.fst.aa ∧ List.length x368.snd.snd.d = x339.snd.fst.al ∧ x368.snd.snd.c = x339.snd.fst.ac)
 ∧ ((LL.ok x x368.fst ∧ x368.fst.i = x339.fst.i ∧ Mo.ab x368.fst.m = Rm.ab x368.fst.r) ∧ x.l[Int.toNat x368.fst.i]? = some x368.snd.fst ∧ AD.ok x368.snd.snd)
 ∧ ∀ (w369 : World), ((LX.in x w369 ∧ RowAt w369 x13.la x13.ld) ∧ RowAt w369 x128.fst.la x128.fst.ld) ∧ RowAt w369 x339.fst.la x339.fst.ld → ((((∀ (i370 : Nat)
 (o371 : OpD), x.l[i370]? = some o371 → (∀ (k372 : Nat) (x373 : Value), (OpD.vals o371)[k372]? = some x373 → ∃ (ad374 : Addr), Option.map (fun (x : Addr) => Addr.add x
 (i370 * (31 : Nat))) x.a = some ad374 ∧ World.cell? w369 (Addr.add ad374 k372) = some x373) ∧ (∀ (k375 : Nat) (x376 : Value), o371.d[k375]? = some x376
 → ∃ (ad377 : Addr), o371.da = some ad377 ∧ World.cell? w369 (Addr.add ad377 k375) = some x376) ∧ ∀ (k378 : Nat) (x379 : Value), (x.ad o371)[k378]? = some x379
 → ∃ (ad380 : Addr), o371.aa = some ad380 ∧ World.cell? w369 (Addr.add ad380 k378) = some x379) ∧ ∀ (k381 : Nat) (x382 : Value), x13.ld[k381]? = some x382
 → ∃ (ad383 : Addr), x13.la = some ad383 ∧ World.cell? w369 (Addr.add ad383 k381) = some x382) ∧ ∀ (k384 : Nat) (x385 : Value), x128.fst.ld[k384]? = some x385
 → ∃ (ad386 : Addr), x128.fst.la = some ad386 ∧ World.cell? w369 (Addr.add ad386 k384) = some x385) ∧ ∀ (k387 : Nat) (x388 : Value), x339.fst.ld[k387]? = some x388
 → ∃ (ad389 : Addr), x339.fst.la = some ad389 ∧ World.cell? w369 (Addr.add ad389 k387) = some x388) ∧ (∀ (k390 : Nat) (x391 : Value), x368.fst.ld[k390]? = some x391
 → ∃ (ad392 : Addr), x368.fst.la = some ad392 ∧ World.cell? w369 (Addr.add ad392 k390) = some x391) ∧ ∀ (k393 : Nat) (x394 : Value), x368.snd.snd.d[k393]? = some x394
 → ∃ (ad395 : Addr), x368.snd.snd.p = some ad395 ∧ World.cell? w369 (Addr.add ad395 k393) = some x394)) ∧ ∀ (x396 : LL × OpD × AD), (LL.ok x x396.fst ∧ x396.fst.i = x339.fst.i
 ∧ Mo.ab x396.fst.m = Rm.ab x396.fst.r) ∧ x.l[Int.toNat x396.fst.i]? = some x396.snd.fst ∧ AD.ok x396.snd.snd → ∃ (news397 : List Value), List.length news397 = List.length x396.snd.fst.d *
 (1 : Nat) ∧ (∀ (v398 : Value), v398 ∈ news397 → one1 v398 = true) ∧ (∀ (w399 : World), (((LX.in x w399 ∧ RowAt w399 x13.la x13.ld) ∧ RowAt w399 x128.fst.la x128.fst.ld)
 ∧ RowAt w399 x339.fst.la x339.fst.ld) ∧ RowAt w399 x396.fst.la x396.fst.ld ∧ RowAt w399 x396.snd.snd.p x396.snd.snd.d → ∀ (k400 : Nat) (x401 : Value), news397[k400]? = some x401
 → ∃ (ad402 : Addr), x396.snd.fst.da = some ad402 ∧ World.cell? w399 (Addr.add ad402 k400) = some x401) ∧ List.length x396.snd.fst.d * (1 : Nat) ≤ (140737488355328 : Nat)
 ∧ ∀ (c403 : Nat), List.length x396.snd.fst.d ≤ c403 → (List.length x396.snd.fst.d = (0 : Nat) → c403 = (0 : Nat)) → (((True ∧ True ∧ x396.snd.snd.a.g = x396.snd.snd.a.g
 ∧ True ∧ (x396.snd.snd.a.c.kind = x396.snd.snd.a.c.kind ∧ x396.snd.snd.a.c.ok = x396.snd.snd.a.c.ok ∧ x396.snd.snd.a.c.ofr = x396.snd.snd.a.c.ofr ∧ x396.snd.snd.a.c.oto = x396.snd.snd.a.c.oto
 ∧ x396.snd.snd.a.c.oam = x396.snd.snd.a.c.oam ∧ x396.snd.snd.a.c.okey = x396.snd.snd.a.c.okey ∧ x396.snd.snd.a.c.osl = x396.snd.snd.a.c.osl ∧ x396.snd.snd.a.c.osh = x396.snd.snd.a.c.osh
 ∧ x396.snd.snd.a.c.id = x396.snd.snd.a.c.id ∧ x396.snd.snd.a.c.name = x396.snd.snd.a.c.name ∧ x396.snd.snd.a.c.n = x396.snd.snd.a.c.n ∧ x396.snd.snd.a.c.why = x396.snd.snd.a.c.why
 ∧ x396.snd.snd.a.c.slot = x396.snd.snd.a.c.slot ∧ x396.snd.snd.a.c.ep = x396.snd.snd.a.c.ep ∧ x396.snd.snd.a.c.at_ = x396.snd.snd.a.c.at_ ∧ x396.snd.snd.a.c.last = x396.snd.snd.a.c.last
 ∧ (x396.snd.snd.p = x396.snd.snd.p ∧ List.length x396.snd.snd.d = List.length x396.snd.snd.d ∧ x396.snd.snd.c = x396.snd.snd.c) ∧ True) ∧ (x396.snd.fst.r.why = x396.snd.fst.r.why
 ∧ x396.snd.fst.r.wait = x396.snd.fst.r.wait ∧ (0 : Int) = (0 : Int) ∧ (0 : Int) = (0 : Int) ∧ True ∧ (List.length x396.snd.fst.d = List.length x396.snd.fst.d
 ∧ c403 = c403 ∧ ZB.nil = ZB.nil) ∧ True) ∧ True) ∧ (∃ (news404 : List Value), List.length news404 = List.length x396.snd.snd.d * (1 : Nat) ∧ (∀ (v405 : Value), v405 ∈ news404
 → one1 v405 = true) ∧ (∀ (w406 : World), (((LX.in x w406 ∧ RowAt w406 x13.la x13.ld) ∧ RowAt w406 x128.fst.la x128.fst.ld) ∧ RowAt w406 x339.fst.la x339.fst.ld)
 ∧ RowAt w406 x396.fst.la x396.fst.ld ∧ RowAt w406 x396.snd.snd.p x396.snd.snd.d → ∀ (k407 : Nat) (x408 : Value), news404[k407]? = some x408 → ∃ (ad409 : Addr), x396.snd.snd.p = some ad409
 ∧ World.cell? w406 (Addr.add ad409 k407) = some x408) ∧ List.length x396.snd.snd.d * (1 : Nat) ≤ (140737488355328 : Nat) ∧ ∀ (c410 : Nat), List.length x396.snd.snd.d ≤ c410
 → (List.length x396.snd.snd.d = (0 : Nat) → c410 = (0 : Nat)) → (True ∧ True ∧ x396.snd.snd.a.g = x396.snd.snd.a.g ∧ (x396.snd.fst.r.why = x396.snd.fst.r.why
 ∧ x396.snd.fst.r.wait = x396.snd.fst.r.wait ∧ (0 : Int) = (0 : Int) ∧ (0 : Int) = (0 : Int) ∧ True ∧ (List.length x396.snd.fst.d = List.length x396.snd.fst.d
 ∧ c403 = c403 ∧ ZB.nil = ZB.nil) ∧ True) ∧ True) ∧ (∃ (x411 : TX), x411.x.slot = x396.snd.fst.mv.slot ∧ x411.x.frm = x396.snd.fst.mv.frm ∧ x411.x.to = x396.snd.fst.mv.to
 ∧ x411.x.ep = x396.snd.fst.mv.ep ∧ x411.x.ph = x396.snd.fst.mv.ph ∧ x411.x.n = x396.snd.fst.mv.n ∧ x411.a.g = x396.snd.snd.a.g ∧ x411.a.c.kind = x396.snd.snd.a.c.kind
 ∧ x411.a.c.ok = x396.snd.snd.a.c.ok ∧ x411.a.c.ofr = x396.snd.snd.a.c.ofr ∧ x411.a.c.oto = x396.snd.snd.a.c.oto ∧ x411.a.c.oam = x396.snd.snd.a.c.oam ∧ x411.a.c.okey = x396.snd.snd.a.c.okey
 ∧ x411.a.c.osl = x396.snd.snd.a.c.osl ∧ x411.a.c.osh = x396.snd.snd.a.c.osh ∧ x411.a.c.id = x396.snd.snd.a.c.id ∧ x411.a.c.name = x396.snd.snd.a.c.name
 ∧ x411.a.c.n = x396.snd.snd.a.c.n ∧ x411.a.c.why = x396.snd.snd.a.c.why ∧ x411.a.c.slot = x396.snd.snd.a.c.slot ∧ x411.a.c.ep = x396.snd.snd.a.c.ep ∧ x411.a.c.at_ = x396.snd.snd.a.c.at_
 ∧ x411.a.c.last = x396.snd.snd.a.c.last ∧ (List.length x411.ad.vs = List.length x396.snd.snd.d ∧ x411.ad.c = c410) ∧ x411.ad.z = ZB.nil ∧ x411.r.why = x396.snd.fst.r.why
 ∧ x411.r.wait = x396.snd.fst.r.wait ∧ x411.r.rwhy = (0 : Int) ∧ x411.r.ram = (0 : Int) ∧ (List.length x411.rd.vs = List.length x396.snd.fst.d ∧ x411.rd.c = c403)
 ∧ x411.rd.z = ZB.nil ∧ x411.m.n = x396.fst.m.n ∧ (List.length x411.m.d.vs = List.length x396.fst.m.d.vs ∧ x411.m.d.c = x396.fst.m.d.c) ∧ x411.m.d.z = x396.fst.m.d.z
 ∧ x411.m.at_ = x396.fst.m.at_ ∧ (x411.m.d.vs = x396.fst.m.d.vs ∧ List.length x411.m.d.vs = List.length x396.fst.m.d.vs ∧ x411.m.d.c = x396.fst.m.d.c ∧
 (1 : Nat) = (1 : Nat)) ∧ (x411.ad.vs = news404 ∧ List.length x411.ad.vs = List.length x396.snd.snd.d ∧ x411.ad.c = c410 ∧ (1 : Nat) = (1 : Nat)) ∧ (x411.rd.vs = news397
 ∧ List.length x411.rd.vs = List.length x396.snd.fst.d ∧ x411.rd.c = c403 ∧ (1 : Nat) = (1 : Nat)) ∧ ((Ab.ok (Mo.ab x411.m) ∧ List.length x411.m.d.vs ≤ x411.m.d.c)
 ∧ (∀ (v412 : Value), v412 ∈ x411.rd.vs → ∃ (n413 : Int), v412 = Value.int IntKind.u8 n413) ∧ List.length x411.rd.vs ≤ (140737488355328 : Nat) ∧ List.length x411.ad.vs ≤
 (140737488355328 : Nat)) ∧ (∀ (w414 : World), (((LX.in x w414 ∧ RowAt w414 x13.la x13.ld) ∧ RowAt w414 x128.fst.la x128.fst.ld) ∧ RowAt w414 x339.fst.la x339.fst.ld)
 ∧ RowAt w414 x396.fst.la x396.fst.ld ∧ RowAt w414 x396.snd.snd.p x396.snd.snd.d → True) ∧ ∀ (y415 : Mo × Bool), (Mo.ab y415.fst, y415.snd) = Ab.told (Mo.ab x411.m) x411.x x411.a
 (List.length x411.ad.vs) x411.r.why x411.rd.vs ∧ Mo.ok y415.fst → True ∧ ((True ∧ True ∧ (x396.snd.fst.mv.slot = x396.snd.fst.mv.slot ∧ x396.snd.fst.mv.frm = x396.snd.fst.mv.frm
 ∧ x396.snd.fst.mv.to = x396.snd.fst.mv.to ∧ x396.snd.fst.mv.ep = x396.snd.fst.mv.ep ∧ x396.snd.fst.mv.ph = x396.snd.fst.mv.ph ∧ x396.snd.fst.mv.n = x396.snd.fst.mv.n
 ∧ True) ∧ True ∧ x396.snd.snd.a.g = x396.snd.snd.a.g ∧ True ∧ (x396.snd.snd.a.c.kind = x396.snd.snd.a.c.kind ∧ x396.snd.snd.a.c.ok = x396.snd.snd.a.c.ok
 ∧ x396.snd.snd.a.c.ofr = x396.snd.snd.a.c.ofr ∧ x396.snd.snd.a.c.oto = x396.snd.snd.a.c.oto ∧ x396.snd.snd.a.c.oam = x396.snd.snd.a.c.oam ∧ x396.snd.snd.a.c.okey = x396.snd.snd.a.c.okey
 ∧ x396.snd.snd.a.c.osl = x396.snd.snd.a.c.osl ∧ x396.snd.snd.a.c.osh = x396.snd.snd.a.c.osh ∧ x396.snd.snd.a.c.id = x396.snd.snd.a.c.id ∧ x396.snd.snd.a.c.name = x396.snd.snd.a.c.name
 ∧ x396.snd.snd.a.c.n = x396.snd.snd.a.c.n ∧ x396.snd.snd.a.c.why = x396.snd.snd.a.c.why ∧ x396.snd.snd.a.c.slot = x396.snd.snd.a.c.slot ∧ x396.snd.snd.a.c.ep = x396.snd.snd.a.c.ep
 ∧ x396.snd.snd.a.c.at_ = x396.snd.snd.a.c.at_ ∧ x396.snd.snd.a.c.last = x396.snd.snd.a.c.last ∧ (x396.snd.snd.p = x396.snd.snd.p ∧ List.length x396.snd.snd.d = List.length x396.snd.snd.d
 ∧ x396.snd.snd.c = x396.snd.snd.c) ∧ True) ∧ (x396.snd.fst.r.why = x396.snd.fst.r.why ∧ x396.snd.fst.r.wait = x396.snd.fst.r.wait ∧ (0 : Int) = (0 : Int)
 ∧ (0 : Int) = (0 : Int) ∧ True ∧ (List.length x396.snd.fst.d = List.length x396.snd.fst.d ∧ c403 = c403 ∧ ZB.nil = ZB.nil) ∧ True) ∧ (x396.snd.snd.a.g = x396.snd.snd.a.g
 ∧ x396.snd.snd.a.c.kind = x396.snd.snd.a.c.kind ∧ x396.snd.snd.a.c.ok = x396.snd.snd.a.c.ok ∧ x396.snd.snd.a.c.ofr = x396.snd.snd.a.c.ofr ∧ x396.snd.snd.a.c.oto = x396.snd.snd.a.c.oto
 ∧ x396.snd.snd.a.c.oam = x396.snd.snd.a.c.oam ∧ x396.snd.snd.a.c.okey = x396.snd.snd.a.c.okey ∧ x396.snd.snd.a.c.osl = x396.snd.snd.a.c.osl ∧ x396.snd.snd.a.c.osh = x396.snd.snd.a.c.osh
 ∧ x396.snd.snd.a.c.id = x396.snd.snd.a.c.id ∧ x396.snd.snd.a.c.name = x396.snd.snd.a.c.name ∧ x396.snd.snd.a.c.n = x396.snd.snd.a.c.n ∧ x396.snd.snd.a.c.why = x396.snd.snd.a.c.why
 ∧ x396.snd.snd.a.c.slot = x396.snd.snd.a.c.slot ∧ x396.snd.snd.a.c.ep = x396.snd.snd.a.c.ep ∧ x396.snd.snd.a.c.at_ = x396.snd.snd.a.c.at_ ∧ x396.snd.snd.a.c.last = x396.snd.snd.a.c.last
 ∧ (List.length x396.snd.snd.d = List.length x396.snd.snd.d ∧ c410 = c410 ∧ ZB.nil = ZB.nil) ∧ True) ∧ ((((bif y415.snd then (2 : Int) else (0 : Int)) = bif y415.snd then
 (2 : Int) else (0 : Int)) ∧ (0 : Int) = (0 : Int) ∧ (0 : Int) = (0 : Int) ∧ ((bif y415.snd then x411.x.n else (0 : Int)) = bif y415.snd then x411.x.n else
 (0 : Int)) ∧ ((bif y415.snd then x411.x.ph else (0 : Int)) = bif y415.snd then x411.x.ph else (0 : Int)) ∧ True) ∧ y415.snd = y415.snd ∧ True) ∧ (((bif y415.snd then
 (2 : Int) else (0 : Int)) = bif y415.snd then (2 : Int) else (0 : Int)) ∧ (0 : Int) = (0 : Int) ∧ (0 : Int) = (0 : Int) ∧ ((bif y415.snd then x411.x.n else
 (0 : Int)) = bif y415.snd then x411.x.n else (0 : Int)) ∧ ((bif y415.snd then x411.x.ph else (0 : Int)) = bif y415.snd then x411.x.ph else (0 : Int)) ∧ True)
 ∧ y415.snd = y415.snd ∧ True) ∧ ((y415.snd = y415.snd ∧ True) ∧ ∃ (x416 : LL × OpD × AD × Sl × Bool), (x.a = x.a ∧ List.length x.l = List.length x.l ∧ x.c = x.c)
 ∧ x416.fst.i = x396.fst.i ∧ x416.snd.snd.snd.snd = y415.snd ∧ x416.fst.m.n = y415.fst.n ∧ (List.length x416.fst.m.d.vs = List.length y415.fst.d.vs ∧ x416.fst.m.d.c = y415.fst.d.c)
 ∧ x416.fst.m.d.z = y415.fst.d.z ∧ x416.fst.m.at_ = y415.fst.at_ ∧ (x416.fst.m.d.vs = y415.fst.d.vs ∧ List.length x416.fst.m.d.vs = List.length y415.fst.d.vs
 ∧ x416.fst.m.d.c = y415.fst.d.c ∧ (1 : Nat) = (1 : Nat)) ∧ x416.fst.r.n = x396.fst.r.n ∧ x416.fst.r.has = x396.fst.r.has ∧ (List.length x416.fst.r.d.vs = List.length x396.fst.r.d.vs
 ∧ x416.fst.r.d.c = x396.fst.r.d.c) ∧ x416.fst.r.d.z = x396.fst.r.d.z ∧ x416.fst.r.at_ = x396.fst.r.at_ ∧ (x416.fst.r.d.vs = x396.fst.r.d.vs ∧ List.length x416.fst.r.d.vs = List.length x396.fst.r.d.vs
 ∧ x416.fst.r.d.c = x396.fst.r.d.c ∧ (1 : Nat) = (1 : Nat)) ∧ x416.fst.a.g = x396.fst.a.g ∧ x416.fst.a.c.kind = x396.fst.a.c.kind ∧ x416.fst.a.c.ok = x396.fst.a.c.ok
 ∧ x416.fst.a.c.ofr = x396.fst.a.c.ofr ∧ x416.fst.a.c.oto = x396.fst.a.c.oto ∧ x416.fst.a.c.oam = x396.fst.a.c.oam ∧ x416.fst.a.c.okey = x396.fst.a.c.okey
 ∧ x416.fst.a.c.osl = x396.fst.a.c.osl ∧ x416.fst.a.c.osh = x396.fst.a.c.osh ∧ x416.fst.a.c.id = x396.fst.a.c.id ∧ x416.fst.a.c.name = x396.fst.a.c.name
 ∧ x416.fst.a.c.n = x396.fst.a.c.n ∧ x416.fst.a.c.why = x396.fst.a.c.why ∧ x416.fst.a.c.slot = x396.fst.a.c.slot ∧ x416.fst.a.c.ep = x396.fst.a.c.ep ∧ x416.fst.a.c.at_ = x396.fst.a.c.at_
 ∧ x416.fst.a.c.last = x396.fst.a.c.last ∧ (x416.fst.la = x396.fst.la ∧ List.length x416.fst.ld = List.length x396.fst.ld ∧ x416.fst.lc = x396.fst.lc) ∧ x416.snd.fst.kind = x396.snd.fst.kind
 ∧ x416.snd.fst.mv.slot = x396.snd.fst.mv.slot ∧ x416.snd.fst.mv.frm = x396.snd.fst.mv.frm ∧ x416.snd.fst.mv.to = x396.snd.fst.mv.to ∧ x416.snd.fst.mv.ep = x396.snd.fst.mv.ep
 ∧ x416.snd.fst.mv.ph = x396.snd.fst.mv.ph ∧ x416.snd.fst.mv.n = x396.snd.fst.mv.n ∧ x416.snd.fst.a.g = x396.snd.fst.a.g ∧ x416.snd.fst.a.c.kind = x396.snd.fst.a.c.kind
 ∧ x416.snd.fst.a.c.ok = x396.snd.fst.a.c.ok ∧ x416.snd.fst.a.c.ofr = x396.snd.fst.a.c.ofr ∧ x416.snd.fst.a.c.oto = x396.snd.fst.a.c.oto ∧ x416.snd.fst.a.c.oam = x396.snd.fst.a.c.oam
 ∧ x416.snd.fst.a.c.okey = x396.snd.fst.a.c.okey ∧ x416.snd.fst.a.c.osl = x396.snd.fst.a.c.osl ∧ x416.snd.fst.a.c.osh = x396.snd.fst.a.c.osh ∧ x416.snd.fst.a.c.id = x396.snd.fst.a.c.id
 ∧ x416.snd.fst.a.c.name = x396.snd.fst.a.c.name ∧ x416.snd.fst.a.c.n = x396.snd.fst.a.c.n ∧ x416.snd.fst.a.c.why = x396.snd.fst.a.c.why ∧ x416.snd.fst.a.c.slot = x396.snd.fst.a.c.slot
 ∧ x416.snd.fst.a.c.ep = x396.snd.fst.a.c.ep ∧ x416.snd.fst.a.c.at_ = x396.snd.fst.a.c.at_ ∧ x416.snd.fst.a.c.last = x396.snd.fst.a.c.last ∧ (x416.snd.fst.aa = x396.snd.fst.aa
 ∧ x416.snd.fst.al = x396.snd.fst.al ∧ x416.snd.fst.ac = x396.snd.fst.ac) ∧ x416.snd.fst.r.why = x396.snd.fst.r.why ∧ x416.snd.fst.r.wait = x396.snd.fst.r.wait
 ∧ x416.snd.fst.r.rwhy = x396.snd.fst.r.rwhy ∧ x416.snd.fst.r.ram = x396.snd.fst.r.ram ∧ (x416.snd.fst.ra = x396.snd.fst.ra ∧ x416.snd.fst.rn = x396.snd.fst.rn
 ∧ x416.snd.fst.rc = x396.snd.fst.rc) ∧ (x416.snd.fst.da = x396.snd.fst.da ∧ List.length x416.snd.fst.d = List.length x396.snd.fst.d ∧ x416.snd.fst.dc = x396.snd.fst.dc)
 ∧ x416.snd.snd.fst.a.g = x396.snd.snd.a.g ∧ x416.snd.snd.fst.a.c.kind = x396.snd.snd.a.c.kind ∧ x416.snd.snd.fst.a.c.ok = x396.snd.snd.a.c.ok ∧ x416.snd.snd.fst.a.c.ofr = x396.snd.snd.a.c.ofr
 ∧ x416.snd.snd.fst.a.c.oto = x396.snd.snd.a.c.oto ∧ x416.snd.snd.fst.a.c.oam = x396.snd.snd.a.c.oam ∧ x416.snd.snd.fst.a.c.okey = x396.snd.snd.a.c.okey
 ∧ x416.snd.snd.fst.a.c.osl = x396.snd.snd.a.c.osl ∧ x416.snd.snd.fst.a.c.osh = x396.snd.snd.a.c.osh ∧ x416.snd.snd.fst.a.c.id = x396.snd.snd.a.c.id ∧ x416.snd.snd.fst.a.c.name = x396.snd.snd.a.c.name
 ∧ x416.snd.snd.fst.a.c.n = x396.snd.snd.a.c.n ∧ x416.snd.snd.fst.a.c.why = x396.snd.snd.a.c.why ∧ x416.snd.snd.fst.a.c.slot = x396.snd.snd.a.c.slot ∧ x416.snd.snd.fst.a.c.ep = x396.snd.snd.a.c.ep
 ∧ x416.snd.snd.fst.a.c.at_ = x396.snd.snd.a.c.at_ ∧ x416.snd.snd.fst.a.c.last = x396.snd.snd.a.c.last ∧ (x416.snd.snd.fst.p = x396.snd.snd.p ∧ List.length x416.snd.snd.fst.d = List.length x396.snd.snd.d
 ∧ x416.snd.snd.fst.c = x396.snd.snd.c) ∧ x416.snd.fst.r.why = x396.snd.fst.r.why ∧ x416.snd.fst.r.wait = x396.snd.fst.r.wait ∧ (0 : Int) = (0 : Int) ∧
 (0 : Int) = (0 : Int) ∧ (List.length x416.snd.snd.snd.fst.vs = List.length x396.snd.fst.d ∧ x416.snd.snd.snd.fst.c = c403) ∧ x416.snd.snd.snd.fst.z = ZB.nil
 ∧ (x416.snd.snd.snd.fst.vs = x411.rd.vs ∧ List.length x416.snd.snd.snd.fst.vs = List.length x411.rd.vs ∧ x416.snd.snd.snd.fst.c = x411.rd.c ∧ (1 : Nat) =
 (1 : Nat)) ∧ ((bif x416.snd.snd.snd.snd then (2 : Int) else (0 : Int)) = bif y415.snd then (2 : Int) else (0 : Int)) ∧ (0 : Int) = (0 : Int) ∧ (0 : Int) =
 (0 : Int) ∧ ((bif x416.snd.snd.snd.snd then x416.snd.fst.mv.n else (0 : Int)) = bif y415.snd then x411.x.n else (0 : Int)) ∧ ((bif x416.snd.snd.snd.snd then x416.snd.fst.mv.ph else
 (0 : Int)) = bif y415.snd then x411.x.ph else (0 : Int)) ∧ ((LL.ok x x416.fst ∧ x416.fst.i = x396.fst.i ∧ (Mo.ab x416.fst.m, x416.snd.snd.snd.snd) = Ab.told
 (Rm.ab x416.fst.r) x416.snd.fst.mv x416.snd.snd.fst.a (List.length x416.snd.snd.fst.d) x416.snd.fst.r.why x416.snd.fst.d) ∧ x.l[Int.toNat x416.fst.i]? = some x416.snd.fst
 ∧ AD.ok x416.snd.snd.fst ∧ x416.snd.snd.snd.fst.vs = x416.snd.fst.d ∧ List.length x416.snd.snd.snd.fst.vs ≤ x416.snd.snd.snd.fst.c) ∧ ∀ (w417 : World),
 ((((LX.in x w417 ∧ RowAt w417 x13.la x13.ld) ∧ RowAt w417 x128.fst.la x128.fst.ld) ∧ RowAt w417 x339.fst.la x339.fst.ld) ∧ RowAt w417 x396.fst.la x396.fst.ld
 ∧ RowAt w417 x396.snd.snd.p x396.snd.snd.d) ∧ True → (((((∀ (i418 : Nat) (o419 : OpD), x.l[i418]? = some o419 → (∀ (k420 : Nat) (x421 : Value), (OpD.vals o419)[k420]? = some x421
 → ∃ (ad422 : Addr), Option.map (fun (x : Addr) => Addr.add x (i418 * (31 : Nat))) x.a = some ad422 ∧ World.cell? w417 (Addr.add ad422 k420) = some x421)
 ∧ (∀ (k423 : Nat) (x424 : Value), o419.d[k423]? = some x424 → ∃ (ad425 : Addr), o419.da = some ad425 ∧ World.cell? w417 (Addr.add ad425 k423) = some x424)
 ∧ ∀ (k426 : Nat) (x427 : Value), (x.ad o419)[k426]? = some x427 → ∃ (ad428 : Addr), o419.aa = some ad428 ∧ World.cell? w417 (Addr.add ad428 k426) = some x427)
 ∧ ∀ (k429 : Nat) (x430 : Value), x13.ld[k429]? = some x430 → ∃ (ad431 : Addr), x13.la = some ad431 ∧ World.cell? w417 (Addr.add ad431 k429) = some x430)
 ∧ ∀ (k432 : Nat) (x433 : Value), x128.fst.ld[k432]? = some x433 → ∃ (ad434 : Addr), x128.fst.la = some ad434 ∧ World.cell? w417 (Addr.add ad434 k432) = some x433)
 ∧ ∀ (k435 : Nat) (x436 : Value), x339.fst.ld[k435]? = some x436 → ∃ (ad437 : Addr), x339.fst.la = some ad437 ∧ World.cell? w417 (Addr.add ad437 k435) = some x436)
 ∧ (∀ (k438 : Nat) (x439 : Value), x396.fst.ld[k438]? = some x439 → ∃ (ad440 : Addr), x396.fst.la = some ad440 ∧ World.cell? w417 (Addr.add ad440 k438) = some x439)
 ∧ ∀ (k441 : Nat) (x442 : Value), x396.snd.snd.d[k441]? = some x442 → ∃ (ad443 : Addr), x396.snd.snd.p = some ad443 ∧ World.cell? w417 (Addr.add ad443 k441) = some x442)
 ∧ (∀ (k444 : Nat) (x445 : Value), x416.fst.ld[k444]? = some x445 → ∃ (ad446 : Addr), x416.fst.la = some ad446 ∧ World.cell? w417 (Addr.add ad446 k444) = some x445)
 ∧ ∀ (k447 : Nat) (x448 : Value), x416.snd.snd.fst.d[k447]? = some x448 → ∃ (ad449 : Addr), x416.snd.snd.fst.p = some ad449 ∧ World.cell? w417 (Addr.add ad449 k447) = some x448)
 ∧ True) ∧ True) ∧ ((True ∧ True ∧ (x396.snd.fst.mv.slot = x396.snd.fst.mv.slot ∧ x396.snd.fst.mv.frm = x396.snd.fst.mv.frm ∧ x396.snd.fst.mv.to = x396.snd.fst.mv.to
 ∧ x396.snd.fst.mv.ep = x396.snd.fst.mv.ep ∧ x396.snd.fst.mv.ph = x396.snd.fst.mv.ph ∧ x396.snd.fst.mv.n = x396.snd.fst.mv.n ∧ True) ∧ True ∧ x396.snd.snd.a.g = x396.snd.snd.a.g
 ∧ True ∧ (x396.snd.snd.a.c.kind = x396.snd.snd.a.c.kind ∧ x396.snd.snd.a.c.ok = x396.snd.snd.a.c.ok ∧ x396.snd.snd.a.c.ofr = x396.snd.snd.a.c.ofr ∧ x396.snd.snd.a.c.oto = x396.snd.snd.a.c.oto
 ∧ x396.snd.snd.a.c.oam = x396.snd.snd.a.c.oam ∧ x396.snd.snd.a.c.okey = x396.snd.snd.a.c.okey ∧ x396.snd.snd.a.c.osl = x396.snd.snd.a.c.osl ∧ x396.snd.snd.a.c.osh = x396.snd.snd.a.c.osh
 ∧ x396.snd.snd.a.c.id = x396.snd.snd.a.c.id ∧ x396.snd.snd.a.c.name = x396.snd.snd.a.c.name ∧ x396.snd.snd.a.c.n = x396.snd.snd.a.c.n ∧ x396.snd.snd.a.c.why = x396.snd.snd.a.c.why
 ∧ x396.snd.snd.a.c.slot = x396.snd.snd.a.c.slot ∧ x396.snd.snd.a.c.ep = x396.snd.snd.a.c.ep ∧ x396.snd.snd.a.c.at_ = x396.snd.snd.a.c.at_ ∧ x396.snd.snd.a.c.last = x396.snd.snd.a.c.last
 ∧ (x396.snd.snd.p = x396.snd.snd.p ∧ List.length x396.snd.snd.d = List.length x396.snd.snd.d ∧ x396.snd.snd.c = x396.snd.snd.c) ∧ True) ∧ (x396.snd.fst.r.why = x396.snd.fst.r.why
 ∧ x396.snd.fst.r.wait = x396.snd.fst.r.wait ∧ (0 : Int) = (0 : Int) ∧ (0 : Int) = (0 : Int) ∧ True ∧ (List.length x396.snd.fst.d = List.length x396.snd.fst.d
 ∧ c403 = c403 ∧ ZB.nil = ZB.nil) ∧ True) ∧ (x396.snd.snd.a.g = x396.snd.snd.a.g ∧ x396.snd.snd.a.c.kind = x396.snd.snd.a.c.kind ∧ x396.snd.snd.a.c.ok = x396.snd.snd.a.c.ok
 ∧ x396.snd.snd.a.c.ofr = x396.snd.snd.a.c.ofr ∧ x396.snd.snd.a.c.oto = x396.snd.snd.a.c.oto ∧ x396.snd.snd.a.c.oam = x396.snd.snd.a.c.oam ∧ x396.snd.snd.a.c.okey = x396.snd.snd.a.c.okey
 ∧ x396.snd.snd.a.c.osl = x396.snd.snd.a.c.osl ∧ x396.snd.snd.a.c.osh = x396.snd.snd.a.c.osh ∧ x396.snd.snd.a.c.id = x396.snd.snd.a.c.id ∧ x396.snd.snd.a.c.name = x396.snd.snd.a.c.name
 ∧ x396.snd.snd.a.c.n = x396.snd.snd.a.c.n ∧ x396.snd.snd.a.c.why = x396.snd.snd.a.c.why ∧ x396.snd.snd.a.c.slot = x396.snd.snd.a.c.slot ∧ x396.snd.snd.a.c.ep = x396.snd.snd.a.c.ep
 ∧ x396.snd.snd.a.c.at_ = x396.snd.snd.a.c.at_ ∧ x396.snd.snd.a.c.last = x396.snd.snd.a.c.last ∧ (List.length x396.snd.snd.d = List.length x396.snd.snd.d
 ∧ c410 = c410 ∧ ZB.nil = ZB.nil) ∧ True) ∧ True) ∧ (∃ (x450 : TX), x450.x.slot = x396.snd.fst.mv.slot ∧ x450.x.frm = x396.snd.fst.mv.frm ∧ x450.x.to = x396.snd.fst.mv.to
 ∧ x450.x.ep = x396.snd.fst.mv.ep ∧ x450.x.ph = x396.snd.fst.mv.ph ∧ x450.x.n = x396.snd.fst.mv.n ∧ x450.a.g = x396.snd.snd.a.g ∧ x450.a.c.kind = x396.snd.snd.a.c.kind
 ∧ x450.a.c.ok = x396.snd.snd.a.c.ok ∧ x450.a.c.ofr = x396.snd.snd.a.c.ofr ∧ x450.a.c.oto = x396.snd.snd.a.c.oto ∧ x450.a.c.oam = x396.snd.snd.a.c.oam ∧ x450.a.c.okey = x396.snd.snd.a.c.okey
 ∧ x450.a.c.osl = x396.snd.snd.a.c.osl ∧ x450.a.c.osh = x396.snd.snd.a.c.osh ∧ x450.a.c.id = x396.snd.snd.a.c.id ∧ x450.a.c.name = x396.snd.snd.a.c.name
 ∧ x450.a.c.n = x396.snd.snd.a.c.n ∧ x450.a.c.why = x396.snd.snd.a.c.why ∧ x450.a.c.slot = x396.snd.snd.a.c.slot ∧ x450.a.c.ep = x396.snd.snd.a.c.ep ∧ x450.a.c.at_ = x396.snd.snd.a.c.at_
 ∧ x450.a.c.last = x396.snd.snd.a.c.last ∧ (List.length x450.ad.vs = List.length x396.snd.snd.d ∧ x450.ad.c = c410) ∧ x450.ad.z = ZB.nil ∧ x450.r.why = x396.snd.fst.r.why
 ∧ x450.r.wait = x396.snd.fst.r.wait ∧ x450.r.rwhy = (0 : Int) ∧ x450.r.ram = (0 : Int) ∧ (List.length x450.rd.vs = List.length x396.snd.fst.d ∧ x450.rd.c = c403)
 ∧ x450.rd.z = ZB.nil ∧ x450.m.n = x396.fst.m.n ∧ (List.length x450.m.d.vs = List.length x396.fst.m.d.vs ∧ x450.m.d.c = x396.fst.m.d.c) ∧ x450.m.d.z = x396.fst.m.d.z
 ∧ x450.m.at_ = x396.fst.m.at_ ∧ (x450.m.d.vs = x396.fst.m.d.vs ∧ List.length x450.m.d.vs = List.length x396.fst.m.d.vs ∧ x450.m.d.c = x396.fst.m.d.c ∧
 (1 : Nat) = (1 : Nat)) ∧ (x450.ad.vs = news404 ∧ List.length x450.ad.vs = List.length x396.snd.snd.d ∧ x450.ad.c = c410 ∧ (1 : Nat) = (1 : Nat)) ∧ (x450.rd.vs = news397
 ∧ List.length x450.rd.vs = List.length x396.snd.fst.d ∧ x450.rd.c = c403 ∧ (1 : Nat) = (1 : Nat)) ∧ ((Ab.ok (Mo.ab x450.m) ∧ List.length x450.m.d.vs ≤ x450.m.d.c)
 ∧ (∀ (v451 : Value), v451 ∈ x450.rd.vs → ∃ (n452 : Int), v451 = Value.int IntKind.u8 n452) ∧ List.length x450.rd.vs ≤ (140737488355328 : Nat) ∧ List.length x450.ad.vs ≤
 (140737488355328 : Nat)) ∧ (∀ (w453 : World), (((LX.in x w453 ∧ RowAt w453 x13.la x13.ld) ∧ RowAt w453 x128.fst.la x128.fst.ld) ∧ RowAt w453 x339.fst.la x339.fst.ld)
 ∧ RowAt w453 x396.fst.la x396.fst.ld ∧ RowAt w453 x396.snd.snd.p x396.snd.snd.d → True) ∧ ∀ (y454 : Mo × Bool), (Mo.ab y454.fst, y454.snd) = Ab.told (Mo.ab x450.m) x450.x x450.a
 (List.length x450.ad.vs) x450.r.why x450.rd.vs ∧ Mo.ok y454.fst → True ∧ ((y454.snd = y454.snd ∧ True) ∧ ∃ (x455 : LL × OpD × AD × Sl × Bool), (x.a = x.a
 ∧ List.length x.l = List.length x.l ∧ x.c = x.c) ∧ x455.fst.i = x396.fst.i ∧ x455.snd.snd.snd.snd = y454.snd ∧ x455.fst.m.n = y454.fst.n ∧ (List.length x455.fst.m.d.vs = List.length y454.fst.d.vs
 ∧ x455.fst.m.d.c = y454.fst.d.c) ∧ x455.fst.m.d.z = y454.fst.d.z ∧ x455.fst.m.at_ = y454.fst.at_ ∧ (x455.fst.m.d.vs = y454.fst.d.vs ∧ List.length x455.fst.m.d.vs = List.length y454.fst.d.vs
 ∧ x455.fst.m.d.c = y454.fst.d.c ∧ (1 : Nat) = (1 : Nat)) ∧ x455.fst.r.n = x396.fst.r.n ∧ x455.fst.r.has = x396.fst.r.has ∧ (List.length x455.fst.r.d.vs = List.length x396.fst.r.d.vs
 ∧ x455.fst.r.d.c = x396.fst.r.d.c) ∧ x455.fst.r.d.z = x396.fst.r.d.z ∧ x455.fst.r.at_ = x396.fst.r.at_ ∧ (x455.fst.r.d.vs = x396.fst.r.d.vs ∧ List.length x455.fst.r.d.vs = List.length x396.fst.r.d.vs
 ∧ x455.fst.r.d.c = x396.fst.r.d.c ∧ (1 : Nat) = (1 : Nat)) ∧ x455.fst.a.g = x396.fst.a.g ∧ x455.fst.a.c.kind = x396.fst.a.c.kind ∧ x455.fst.a.c.ok = x396.fst.a.c.ok
 ∧ x455.fst.a.c.ofr = x396.fst.a.c.ofr ∧ x455.fst.a.c.oto = x396.fst.a.c.oto ∧ x455.fst.a.c.oam = x396.fst.a.c.oam ∧ x455.fst.a.c.okey = x396.fst.a.c.okey
 ∧ x455.fst.a.c.osl = x396.fst.a.c.osl ∧ x455.fst.a.c.osh = x396.fst.a.c.osh ∧ x455.fst.a.c.id = x396.fst.a.c.id ∧ x455.fst.a.c.name = x396.fst.a.c.name
 ∧ x455.fst.a.c.n = x396.fst.a.c.n ∧ x455.fst.a.c.why = x396.fst.a.c.why ∧ x455.fst.a.c.slot = x396.fst.a.c.slot ∧ x455.fst.a.c.ep = x396.fst.a.c.ep ∧ x455.fst.a.c.at_ = x396.fst.a.c.at_
 ∧ x455.fst.a.c.last = x396.fst.a.c.last ∧ (x455.fst.la = x396.fst.la ∧ List.length x455.fst.ld = List.length x396.fst.ld ∧ x455.fst.lc = x396.fst.lc) ∧ x455.snd.fst.kind = x396.snd.fst.kind
 ∧ x455.snd.fst.mv.slot = x396.snd.fst.mv.slot ∧ x455.snd.fst.mv.frm = x396.snd.fst.mv.frm ∧ x455.snd.fst.mv.to = x396.snd.fst.mv.to ∧ x455.snd.fst.mv.ep = x396.snd.fst.mv.ep
 ∧ x455.snd.fst.mv.ph = x396.snd.fst.mv.ph ∧ x455.snd.fst.mv.n = x396.snd.fst.mv.n ∧ x455.snd.fst.a.g = x396.snd.fst.a.g ∧ x455.snd.fst.a.c.kind = x396.snd.fst.a.c.kind
 ∧ x455.snd.fst.a.c.ok = x396.snd.fst.a.c.ok ∧ x455.snd.fst.a.c.ofr = x396.snd.fst.a.c.ofr ∧ x455.snd.fst.a.c.oto = x396.snd.fst.a.c.oto ∧ x455.snd.fst.a.c.oam = x396.snd.fst.a.c.oam
 ∧ x455.snd.fst.a.c.okey = x396.snd.fst.a.c.okey ∧ x455.snd.fst.a.c.osl = x396.snd.fst.a.c.osl ∧ x455.snd.fst.a.c.osh = x396.snd.fst.a.c.osh ∧ x455.snd.fst.a.c.id = x396.snd.fst.a.c.id
 ∧ x455.snd.fst.a.c.name = x396.snd.fst.a.c.name ∧ x455.snd.fst.a.c.n = x396.snd.fst.a.c.n ∧ x455.snd.fst.a.c.why = x396.snd.fst.a.c.why ∧ x455.snd.fst.a.c.slot = x396.snd.fst.a.c.slot
 ∧ x455.snd.fst.a.c.ep = x396.snd.fst.a.c.ep ∧ x455.snd.fst.a.c.at_ = x396.snd.fst.a.c.at_ ∧ x455.snd.fst.a.c.last = x396.snd.fst.a.c.last ∧ (x455.snd.fst.aa = x396.snd.fst.aa
 ∧ x455.snd.fst.al = x396.snd.fst.al ∧ x455.snd.fst.ac = x396.snd.fst.ac) ∧ x455.snd.fst.r.why = x396.snd.fst.r.why ∧ x455.snd.fst.r.wait = x396.snd.fst.r.wait
 ∧ x455.snd.fst.r.rwhy = x396.snd.fst.r.rwhy ∧ x455.snd.fst.r.ram = x396.snd.fst.r.ram ∧ (x455.snd.fst.ra = x396.snd.fst.ra ∧ x455.snd.fst.rn = x396.snd.fst.rn
 ∧ x455.snd.fst.rc = x396.snd.fst.rc) ∧ (x455.snd.fst.da = x396.snd.fst.da ∧ List.length x455.snd.fst.d = List.length x396.snd.fst.d ∧ x455.snd.fst.dc = x396.snd.fst.dc)
 ∧ x455.snd.snd.fst.a.g = x396.snd.snd.a.g ∧ x455.snd.snd.fst.a.c.kind = x396.snd.snd.a.c.kind ∧ x455.snd.snd.fst.a.c.ok = x396.snd.snd.a.c.ok ∧ x455.snd.snd.fst.a.c.ofr = x396.snd.snd.a.c.ofr
 ∧ x455.snd.snd.fst.a.c.oto = x396.snd.snd.a.c.oto ∧ x455.snd.snd.fst.a.c.oam = x396.snd.snd.a.c.oam ∧ x455.snd.snd.fst.a.c.okey = x396.snd.snd.a.c.okey
 ∧ x455.snd.snd.fst.a.c.osl = x396.snd.snd.a.c.osl ∧ x455.snd.snd.fst.a.c.osh = x396.snd.snd.a.c.osh ∧ x455.snd.snd.fst.a.c.id = x396.snd.snd.a.c.id ∧ x455.snd.snd.fst.a.c.name = x396.snd.snd.a.c.name
 ∧ x455.snd.snd.fst.a.c.n = x396.snd.snd.a.c.n ∧ x455.snd.snd.fst.a.c.why = x396.snd.snd.a.c.why ∧ x455.snd.snd.fst.a.c.slot = x396.snd.snd.a.c.slot ∧ x455.snd.snd.fst.a.c.ep = x396.snd.snd.a.c.ep
 ∧ x455.snd.snd.fst.a.c.at_ = x396.snd.snd.a.c.at_ ∧ x455.snd.snd.fst.a.c.last = x396.snd.snd.a.c.last ∧ (x455.snd.snd.fst.p = x396.snd.snd.p ∧ List.length x455.snd.snd.fst.d = List.length x396.snd.snd.d
 ∧ x455.snd.snd.fst.c = x396.snd.snd.c) ∧ x455.snd.fst.r.why = x396.snd.fst.r.why ∧ x455.snd.fst.r.wait = x396.snd.fst.r.wait ∧ (0 : Int) = (0 : Int) ∧
 (0 : Int) = (0 : Int) ∧ (List.length x455.snd.snd.snd.fst.vs = List.length x396.snd.fst.d ∧ x455.snd.snd.snd.fst.c = c403) ∧ x455.snd.snd.snd.fst.z = ZB.nil
 ∧ (x455.snd.snd.snd.fst.vs = x450.rd.vs ∧ List.length x455.snd.snd.snd.fst.vs = List.length x450.rd.vs ∧ x455.snd.snd.snd.fst.c = x450.rd.c ∧ (1 : Nat) =
 (1 : Nat)) ∧ ((bif x455.snd.snd.snd.snd then (2 : Int) else (0 : Int)) = bif y454.snd then (2 : Int) else (0 : Int)) ∧ (0 : Int) = (0 : Int) ∧ (0 : Int) =
 (0 : Int) ∧ ((bif x455.snd.snd.snd.snd then x455.snd.fst.mv.n else (0 : Int)) = bif y454.snd then x450.x.n else (0 : Int)) ∧ ((bif x455.snd.snd.snd.snd then x455.snd.fst.mv.ph else
 (0 : Int)) = bif y454.snd then x450.x.ph else (0 : Int)) ∧ ((LL.ok x x455.fst ∧ x455.fst.i = x396.fst.i ∧ (Mo.ab x455.fst.m, x455.snd.snd.snd.snd) = Ab.told
 (Rm.ab x455.fst.r) x455.snd.fst.mv x455.snd.snd.fst.a (List.length x455.snd.snd.fst.d) x455.snd.fst.r.why x455.snd.fst.d) ∧ x.l[Int.toNat x455.fst.i]? = some x455.snd.fst
 ∧ AD.ok x455.snd.snd.fst ∧ x455.snd.snd.snd.fst.vs = x455.snd.fst.d ∧ List.length x455.snd.snd.snd.fst.vs ≤ x455.snd.snd.snd.fst.c) ∧ ∀ (w456 : World),
 ((((LX.in x w456 ∧ RowAt w456 x13.la x13.ld) ∧ RowAt w456 x128.fst.la x128.fst.ld) ∧ RowAt w456 x339.fst.la x339.fst.ld) ∧ RowAt w456 x396.fst.la x396.fst.ld
 ∧ RowAt w456 x396.snd.snd.p x396.snd.snd.d) ∧ True → (((((∀ (i457 : Nat) (o458 : OpD), x.l[i457]? = some o458 → (∀ (k459 : Nat) (x460 : Value), (OpD.vals o458)[k459]? = some x460
 → ∃ (ad461 : Addr), Option.map (fun (x : Addr) => Addr.add x (i457 * (31 : Nat))) x.a = some ad461 ∧ World.cell? w456 (Addr.add ad461 k459) = some x460)
 ∧ (∀ (k462 : Nat) (x463 : Value), o458.d[k462]? = some x463 → ∃ (ad464 : Addr), o458.da = some ad464 ∧ World.cell? w456 (Addr.add ad464 k462) = some x463)
 ∧ ∀ (k465 : Nat) (x466 : Value), (x.ad o458)[k465]? = some x466 → ∃ (ad467 : Addr), o458.aa = some ad467 ∧ World.cell? w456 (Addr.add ad467 k465) = some x466)
 ∧ ∀ (k468 : Nat) (x469 : Value), x13.ld[k468]? = some x469 → ∃ (ad470 : Addr), x13.la = some ad470 ∧ World.cell? w456 (Addr.add ad470 k468) = some x469)
 ∧ ∀ (k471 : Nat) (x472 : Value), x128.fst.ld[k471]? = some x472 → ∃ (ad473 : Addr), x128.fst.la = some ad473 ∧ World.cell? w456 (Addr.add ad473 k471) = some x472)
 ∧ ∀ (k474 : Nat) (x475 : Value), x339.fst.ld[k474]? = some x475 → ∃ (ad476 : Addr), x339.fst.la = some ad476 ∧ World.cell? w456 (Addr.add ad476 k474) = some x475)
 ∧ (∀ (k477 : Nat) (x478 : Value), x396.fst.ld[k477]? = some x478 → ∃ (ad479 : Addr), x396.fst.la = some ad479 ∧ World.cell? w456 (Addr.add ad479 k477) = some x478)
 ∧ ∀ (k480 : Nat) (x481 : Value), x396.snd.snd.d[k480]? = some x481 → ∃ (ad482 : Addr), x396.snd.snd.p = some ad482 ∧ World.cell? w456 (Addr.add ad482 k480) = some x481)
 ∧ (∀ (k483 : Nat) (x484 : Value), x455.fst.ld[k483]? = some x484 → ∃ (ad485 : Addr), x455.fst.la = some ad485 ∧ World.cell? w456 (Addr.add ad485 k483) = some x484)
 ∧ ∀ (k486 : Nat) (x487 : Value), x455.snd.snd.fst.d[k486]? = some x487 → ∃ (ad488 : Addr), x455.snd.snd.fst.p = some ad488 ∧ World.cell? w456 (Addr.add ad488 k486) = some x487)
 ∧ True) ∧ True) ∧ True) ∧ ((True ∧ True ∧ (x396.snd.fst.mv.slot = x396.snd.fst.mv.slot ∧ x396.snd.fst.mv.frm = x396.snd.fst.mv.frm ∧ x396.snd.fst.mv.to = x396.snd.fst.mv.to
 ∧ x396.snd.fst.mv.ep = x396.snd.fst.mv.ep ∧ x396.snd.fst.mv.ph = x396.snd.fst.mv.ph ∧ x396.snd.fst.mv.n = x396.snd.fst.mv.n ∧ True) ∧ True ∧ x396.snd.snd.a.g = x396.snd.snd.a.g
 ∧ True ∧ (x396.snd.snd.a.c.kind = x396.snd.snd.a.c.kind ∧ x396.snd.snd.a.c.ok = x396.snd.snd.a.c.ok ∧ x396.snd.snd.a.c.ofr = x396.snd.snd.a.c.ofr ∧ x396.snd.snd.a.c.oto = x396.snd.snd.a.c.oto
 ∧ x396.snd.snd.a.c.oam = x396.snd.snd.a.c.oam ∧ x396.snd.snd.a.c.okey = x396.snd.snd.a.c.okey ∧ x396.snd.snd.a.c.osl = x396.snd.snd.a.c.osl ∧ x396.snd.snd.a.c.osh = x396.snd.snd.a.c.osh
 ∧ x396.snd.snd.a.c.id = x396.snd.snd.a.c.id ∧ x396.snd.snd.a.c.name = x396.snd.snd.a.c.name ∧ x396.snd.snd.a.c.n = x396.snd.snd.a.c.n ∧ x396.snd.snd.a.c.why = x396.snd.snd.a.c.why
 ∧ x396.snd.snd.a.c.slot = x396.snd.snd.a.c.slot ∧ x396.snd.snd.a.c.ep = x396.snd.snd.a.c.ep ∧ x396.snd.snd.a.c.at_ = x396.snd.snd.a.c.at_ ∧ x396.snd.snd.a.c.last = x396.snd.snd.a.c.last
 ∧ (x396.snd.snd.p = x396.snd.snd.p ∧ List.length x396.snd.snd.d = List.length x396.snd.snd.d ∧ x396.snd.snd.c = x396.snd.snd.c) ∧ True) ∧ (x396.snd.fst.r.why = x396.snd.fst.r.why
 ∧ x396.snd.fst.r.wait = x396.snd.fst.r.wait ∧ (0 : Int) = (0 : Int) ∧ (0 : Int) = (0 : Int) ∧ True ∧ (List.length x396.snd.fst.d = List.length x396.snd.fst.d
 ∧ c403 = c403 ∧ ZB.nil = ZB.nil) ∧ True) ∧ True) ∧ (∃ (news489 : List Value), List.length news489 = List.length x396.snd.snd.d * (1 : Nat) ∧ (∀ (v490 : Value), v490 ∈ news489
 → one1 v490 = true) ∧ (∀ (w491 : World), (((LX.in x w491 ∧ RowAt w491 x13.la x13.ld) ∧ RowAt w491 x128.fst.la x128.fst.ld) ∧ RowAt w491 x339.fst.la x339.fst.ld)
 ∧ RowAt w491 x396.fst.la x396.fst.ld ∧ RowAt w491 x396.snd.snd.p x396.snd.snd.d → ∀ (k492 : Nat) (x493 : Value), news489[k492]? = some x493 → ∃ (ad494 : Addr), x396.snd.snd.p = some ad494
 ∧ World.cell? w491 (Addr.add ad494 k492) = some x493) ∧ List.length x396.snd.snd.d * (1 : Nat) ≤ (140737488355328 : Nat) ∧ ∀ (c495 : Nat), List.length x396.snd.snd.d ≤ c495
 → (List.length x396.snd.snd.d = (0 : Nat) → c495 = (0 : Nat)) → (True ∧ True ∧ x396.snd.snd.a.g = x396.snd.snd.a.g ∧ (x396.snd.fst.r.why = x396.snd.fst.r.why
 ∧ x396.snd.fst.r.wait = x396.snd.fst.r.wait ∧ (0 : Int) = (0 : Int) ∧ (0 : Int) = (0 : Int) ∧ True ∧ (List.length x396.snd.fst.d = List.length x396.snd.fst.d
 ∧ c403 = c403 ∧ ZB.nil = ZB.nil) ∧ True) ∧ True) ∧ (∃ (x496 : TX), x496.x.slot = x396.snd.fst.mv.slot ∧ x496.x.frm = x396.snd.fst.mv.frm ∧ x496.x.to = x396.snd.fst.mv.to
 ∧ x496.x.ep = x396.snd.fst.mv.ep ∧ x496.x.ph = x396.snd.fst.mv.ph ∧ x496.x.n = x396.snd.fst.mv.n ∧ x496.a.g = x396.snd.snd.a.g ∧ x496.a.c.kind = x396.snd.snd.a.c.kind
 ∧ x496.a.c.ok = x396.snd.snd.a.c.ok ∧ x496.a.c.ofr = x396.snd.snd.a.c.ofr ∧ x496.a.c.oto = x396.snd.snd.a.c.oto ∧ x496.a.c.oam = x396.snd.snd.a.c.oam ∧ x496.a.c.okey = x396.snd.snd.a.c.okey
 ∧ x496.a.c.osl = x396.snd.snd.a.c.osl ∧ x496.a.c.osh = x396.snd.snd.a.c.osh ∧ x496.a.c.id = x396.snd.snd.a.c.id ∧ x496.a.c.name = x396.snd.snd.a.c.name
 ∧ x496.a.c.n = x396.snd.snd.a.c.n ∧ x496.a.c.why = x396.snd.snd.a.c.why ∧ x496.a.c.slot = x396.snd.snd.a.c.slot ∧ x496.a.c.ep = x396.snd.snd.a.c.ep ∧ x496.a.c.at_ = x396.snd.snd.a.c.at_
 ∧ x496.a.c.last = x396.snd.snd.a.c.last ∧ (List.length x496.ad.vs = List.length x396.snd.snd.d ∧ x496.ad.c = c495) ∧ x496.ad.z = ZB.nil ∧ x496.r.why = x396.snd.fst.r.why
 ∧ x496.r.wait = x396.snd.fst.r.wait ∧ x496.r.rwhy = (0 : Int) ∧ x496.r.ram = (0 : Int) ∧ (List.length x496.rd.vs = List.length x396.snd.fst.d ∧ x496.rd.c = c403)
 ∧ x496.rd.z = ZB.nil ∧ x496.m.n = x396.fst.m.n ∧ (List.length x496.m.d.vs = List.length x396.fst.m.d.vs ∧ x496.m.d.c = x396.fst.m.d.c) ∧ x496.m.d.z = x396.fst.m.d.z
 ∧ x496.m.at_ = x396.fst.m.at_ ∧ (x496.m.d.vs = x396.fst.m.d.vs ∧ List.length x496.m.d.vs = List.length x396.fst.m.d.vs ∧ x496.m.d.c = x396.fst.m.d.c ∧
 (1 : Nat) = (1 : Nat)) ∧ (x496.ad.vs = news489 ∧ List.length x496.ad.vs = List.length x396.snd.snd.d ∧ x496.ad.c = c495 ∧ (1 : Nat) = (1 : Nat)) ∧ (x496.rd.vs = news397
 ∧ List.length x496.rd.vs = List.length x396.snd.fst.d ∧ x496.rd.c = c403 ∧ (1 : Nat) = (1 : Nat)) ∧ ((Ab.ok (Mo.ab x496.m) ∧ List.length x496.m.d.vs ≤ x496.m.d.c)
 ∧ (∀ (v497 : Value), v497 ∈ x496.rd.vs → ∃ (n498 : Int), v497 = Value.int IntKind.u8 n498) ∧ List.length x496.rd.vs ≤ (140737488355328 : Nat) ∧ List.length x496.ad.vs ≤
 (140737488355328 : Nat)) ∧ (∀ (w499 : World), (((LX.in x w499 ∧ RowAt w499 x13.la x13.ld) ∧ RowAt w499 x128.fst.la x128.fst.ld) ∧ RowAt w499 x339.fst.la x339.fst.ld)
 ∧ RowAt w499 x396.fst.la x396.fst.ld ∧ RowAt w499 x396.snd.snd.p x396.snd.snd.d → True) ∧ ∀ (y500 : Mo × Bool), (Mo.ab y500.fst, y500.snd) = Ab.told (Mo.ab x496.m) x496.x x496.a
 (List.length x496.ad.vs) x496.r.why x496.rd.vs ∧ Mo.ok y500.fst → True ∧ ((y500.snd = y500.snd ∧ True) ∧ ∃ (x501 : LL × OpD × AD × Sl × Bool), (x.a = x.a
 ∧ List.length x.l = List.length x.l ∧ x.c = x.c) ∧ x501.fst.i = x396.fst.i ∧ x501.snd.snd.snd.snd = y500.snd ∧ x501.fst.m.n = y500.fst.n ∧ (List.length x501.fst.m.d.vs = List.length y500.fst.d.vs
 ∧ x501.fst.m.d.c = y500.fst.d.c) ∧ x501.fst.m.d.z = y500.fst.d.z ∧ x501.fst.m.at_ = y500.fst.at_ ∧ (x501.fst.m.d.vs = y500.fst.d.vs ∧ List.length x501.fst.m.d.vs = List.length y500.fst.d.vs
 ∧ x501.fst.m.d.c = y500.fst.d.c ∧ (1 : Nat) = (1 : Nat)) ∧ x501.fst.r.n = x396.fst.r.n ∧ x501.fst.r.has = x396.fst.r.has ∧ (List.length x501.fst.r.d.vs = List.length x396.fst.r.d.vs
 ∧ x501.fst.r.d.c = x396.fst.r.d.c) ∧ x501.fst.r.d.z = x396.fst.r.d.z ∧ x501.fst.r.at_ = x396.fst.r.at_ ∧ (x501.fst.r.d.vs = x396.fst.r.d.vs ∧ List.length x501.fst.r.d.vs = List.length x396.fst.r.d.vs
 ∧ x501.fst.r.d.c = x396.fst.r.d.c ∧ (1 : Nat) = (1 : Nat)) ∧ x501.fst.a.g = x396.fst.a.g ∧ x501.fst.a.c.kind = x396.fst.a.c.kind ∧ x501.fst.a.c.ok = x396.fst.a.c.ok
 ∧ x501.fst.a.c.ofr = x396.fst.a.c.ofr ∧ x501.fst.a.c.oto = x396.fst.a.c.oto ∧ x501.fst.a.c.oam = x396.fst.a.c.oam ∧ x501.fst.a.c.okey = x396.fst.a.c.okey
 ∧ x501.fst.a.c.osl = x396.fst.a.c.osl ∧ x501.fst.a.c.osh = x396.fst.a.c.osh ∧ x501.fst.a.c.id = x396.fst.a.c.id ∧ x501.fst.a.c.name = x396.fst.a.c.name
 ∧ x501.fst.a.c.n = x396.fst.a.c.n ∧ x501.fst.a.c.why = x396.fst.a.c.why ∧ x501.fst.a.c.slot = x396.fst.a.c.slot ∧ x501.fst.a.c.ep = x396.fst.a.c.ep ∧ x501.fst.a.c.at_ = x396.fst.a.c.at_
 ∧ x501.fst.a.c.last = x396.fst.a.c.last ∧ (x501.fst.la = x396.fst.la ∧ List.length x501.fst.ld = List.length x396.fst.ld ∧ x501.fst.lc = x396.fst.lc) ∧ x501.snd.fst.kind = x396.snd.fst.kind
 ∧ x501.snd.fst.mv.slot = x396.snd.fst.mv.slot ∧ x501.snd.fst.mv.frm = x396.snd.fst.mv.frm ∧ x501.snd.fst.mv.to = x396.snd.fst.mv.to ∧ x501.snd.fst.mv.ep = x396.snd.fst.mv.ep
 ∧ x501.snd.fst.mv.ph = x396.snd.fst.mv.ph ∧ x501.snd.fst.mv.n = x396.snd.fst.mv.n ∧ x501.snd.fst.a.g = x396.snd.fst.a.g ∧ x501.snd.fst.a.c.kind = x396.snd.fst.a.c.kind
 ∧ x501.snd.fst.a.c.ok = x396.snd.fst.a.c.ok ∧ x501.snd.fst.a.c.ofr = x396.snd.fst.a.c.ofr ∧ x501.snd.fst.a.c.oto = x396.snd.fst.a.c.oto ∧ x501.snd.fst.a.c.oam = x396.snd.fst.a.c.oam
 ∧ x501.snd.fst.a.c.okey = x396.snd.fst.a.c.okey ∧ x501.snd.fst.a.c.osl = x396.snd.fst.a.c.osl ∧ x501.snd.fst.a.c.osh = x396.snd.fst.a.c.osh ∧ x501.snd.fst.a.c.id = x396.snd.fst.a.c.id
 ∧ x501.snd.fst.a.c.name = x396.snd.fst.a.c.name ∧ x501.snd.fst.a.c.n = x396.snd.fst.a.c.n ∧ x501.snd.fst.a.c.why = x396.snd.fst.a.c.why ∧ x501.snd.fst.a.c.slot = x396.snd.fst.a.c.slot
 ∧ x501.snd.fst.a.c.ep = x396.snd.fst.a.c.ep ∧ x501.snd.fst.a.c.at_ = x396.snd.fst.a.c.at_ ∧ x501.snd.fst.a.c.last = x396.snd.fst.a.c.last ∧ (x501.snd.fst.aa = x396.snd.fst.aa
 ∧ x501.snd.fst.al = x396.snd.fst.al ∧ x501.snd.fst.ac = x396.snd.fst.ac) ∧ x501.snd.fst.r.why = x396.snd.fst.r.why ∧ x501.snd.fst.r.wait = x396.snd.fst.r.wait
 ∧ x501.snd.fst.r.rwhy = x396.snd.fst.r.rwhy ∧ x501.snd.fst.r.ram = x396.snd.fst.r.ram ∧ (x501.snd.fst.ra = x396.snd.fst.ra ∧ x501.snd.fst.rn = x396.snd.fst.rn
 ∧ x501.snd.fst.rc = x396.snd.fst.rc) ∧ (x501.snd.fst.da = x396.snd.fst.da ∧ List.length x501.snd.fst.d = List.length x396.snd.fst.d ∧ x501.snd.fst.dc = x396.snd.fst.dc)
 ∧ x501.snd.snd.fst.a.g = x396.snd.snd.a.g ∧ x501.snd.snd.fst.a.c.kind = x396.snd.snd.a.c.kind ∧ x501.snd.snd.fst.a.c.ok = x396.snd.snd.a.c.ok ∧ x501.snd.snd.fst.a.c.ofr = x396.snd.snd.a.c.ofr
 ∧ x501.snd.snd.fst.a.c.oto = x396.snd.snd.a.c.oto ∧ x501.snd.snd.fst.a.c.oam = x396.snd.snd.a.c.oam ∧ x501.snd.snd.fst.a.c.okey = x396.snd.snd.a.c.okey
 ∧ x501.snd.snd.fst.a.c.osl = x396.snd.snd.a.c.osl ∧ x501.snd.snd.fst.a.c.osh = x396.snd.snd.a.c.osh ∧ x501.snd.snd.fst.a.c.id = x396.snd.snd.a.c.id ∧ x501.snd.snd.fst.a.c.name = x396.snd.snd.a.c.name
 ∧ x501.snd.snd.fst.a.c.n = x396.snd.snd.a.c.n ∧ x501.snd.snd.fst.a.c.why = x396.snd.snd.a.c.why ∧ x501.snd.snd.fst.a.c.slot = x396.snd.snd.a.c.slot ∧ x501.snd.snd.fst.a.c.ep = x396.snd.snd.a.c.ep
 ∧ x501.snd.snd.fst.a.c.at_ = x396.snd.snd.a.c.at_ ∧ x501.snd.snd.fst.a.c.last = x396.snd.snd.a.c.last ∧ (x501.snd.snd.fst.p = x396.snd.snd.p ∧ List.length x501.snd.snd.fst.d = List.length x396.snd.snd.d
 ∧ x501.snd.snd.fst.c = x396.snd.snd.c) ∧ x501.snd.fst.r.why = x396.snd.fst.r.why ∧ x501.snd.fst.r.wait = x396.snd.fst.r.wait ∧ (0 : Int) = (0 : Int) ∧
 (0 : Int) = (0 : Int) ∧ (List.length x501.snd.snd.snd.fst.vs = List.length x396.snd.fst.d ∧ x501.snd.snd.snd.fst.c = c403) ∧ x501.snd.snd.snd.fst.z = ZB.nil
 ∧ (x501.snd.snd.snd.fst.vs = x496.rd.vs ∧ List.length x501.snd.snd.snd.fst.vs = List.length x496.rd.vs ∧ x501.snd.snd.snd.fst.c = x496.rd.c ∧ (1 : Nat) =
 (1 : Nat)) ∧ ((bif x501.snd.snd.snd.snd then (2 : Int) else (0 : Int)) = bif y500.snd then (2 : Int) else (0 : Int)) ∧ (0 : Int) = (0 : Int) ∧ (0 : Int) =
 (0 : Int) ∧ ((bif x501.snd.snd.snd.snd then x501.snd.fst.mv.n else (0 : Int)) = bif y500.snd then x496.x.n else (0 : Int)) ∧ ((bif x501.snd.snd.snd.snd then x501.snd.fst.mv.ph else
 (0 : Int)) = bif y500.snd then x496.x.ph else (0 : Int)) ∧ ((LL.ok x x501.fst ∧ x501.fst.i = x396.fst.i ∧ (Mo.ab x501.fst.m, x501.snd.snd.snd.snd) = Ab.told
 (Rm.ab x501.fst.r) x501.snd.fst.mv x501.snd.snd.fst.a (List.length x501.snd.snd.fst.d) x501.snd.fst.r.why x501.snd.fst.d) ∧ x.l[Int.toNat x501.fst.i]? = some x501.snd.fst
 ∧ AD.ok x501.snd.snd.fst ∧ x501.snd.snd.snd.fst.vs = x501.snd.fst.d ∧ List.length x501.snd.snd.snd.fst.vs ≤ x501.snd.snd.snd.fst.c) ∧ ∀ (w502 : World),
 ((((LX.in x w502 ∧ RowAt w502 x13.la x13.ld) ∧ RowAt w502 x128.fst.la x128.fst.ld) ∧ RowAt w502 x339.fst.la x339.fst.ld) ∧ RowAt w502 x396.fst.la x396.fst.ld
 ∧ RowAt w502 x396.snd.snd.p x396.snd.snd.d) ∧ True → (((((∀ (i503 : Nat) (o504 : OpD), x.l[i503]? = some o504 → (∀ (k505 : Nat) (x506 : Value), (OpD.vals o504)[k505]? = some x506
 → ∃ (ad507 : Addr), Option.map (fun (x : Addr) => Addr.add x (i503 * (31 : Nat))) x.a = some ad507 ∧ World.cell? w502 (Addr.add ad507 k505) = some x506)
 ∧ (∀ (k508 : Nat) (x509 : Value), o504.d[k508]? = some x509 → ∃ (ad510 : Addr), o504.da = some ad510 ∧ World.cell? w502 (Addr.add ad510 k508) = some x509)
 ∧ ∀ (k511 : Nat) (x512 : Value), (x.ad o504)[k511]? = some x512 → ∃ (ad513 : Addr), o504.aa = some ad513 ∧ World.cell? w502 (Addr.add ad513 k511) = some x512)
 ∧ ∀ (k514 : Nat) (x515 : Value), x13.ld[k514]? = some x515 → ∃ (ad516 : Addr), x13.la = some ad516 ∧ World.cell? w502 (Addr.add ad516 k514) = some x515)
 ∧ ∀ (k517 : Nat) (x518 : Value), x128.fst.ld[k517]? = some x518 → ∃ (ad519 : Addr), x128.fst.la = some ad519 ∧ World.cell? w502 (Addr.add ad519 k517) = some x518)
 ∧ ∀ (k520 : Nat) (x521 : Value), x339.fst.ld[k520]? = some x521 → ∃ (ad522 : Addr), x339.fst.la = some ad522 ∧ World.cell? w502 (Addr.add ad522 k520) = some x521)
 ∧ (∀ (k523 : Nat) (x524 : Value), x396.fst.ld[k523]? = some x524 → ∃ (ad525 : Addr), x396.fst.la = some ad525 ∧ World.cell? w502 (Addr.add ad525 k523) = some x524)
 ∧ ∀ (k526 : Nat) (x527 : Value), x396.snd.snd.d[k526]? = some x527 → ∃ (ad528 : Addr), x396.snd.snd.p = some ad528 ∧ World.cell? w502 (Addr.add ad528 k526) = some x527)
 ∧ (∀ (k529 : Nat) (x530 : Value), x501.fst.ld[k529]? = some x530 → ∃ (ad531 : Addr), x501.fst.la = some ad531 ∧ World.cell? w502 (Addr.add ad531 k529) = some x530)
 ∧ ∀ (k532 : Nat) (x533 : Value), x501.snd.snd.fst.d[k532]? = some x533 → ∃ (ad534 : Addr), x501.snd.snd.fst.p = some ad534 ∧ World.cell? w502 (Addr.add ad534 k532) = some x533)
 ∧ True) ∧ True) ∧ True) ∧ True) ∧ ((True ∧ True ∧ (x396.snd.fst.mv.slot = x396.snd.fst.mv.slot ∧ x396.snd.fst.mv.frm = x396.snd.fst.mv.frm ∧ x396.snd.fst.mv.to = x396.snd.fst.mv.to
 ∧ x396.snd.fst.mv.ep = x396.snd.fst.mv.ep ∧ x396.snd.fst.mv.ph = x396.snd.fst.mv.ph ∧ x396.snd.fst.mv.n = x396.snd.fst.mv.n ∧ True) ∧ True ∧ x396.snd.snd.a.g = x396.snd.snd.a.g
 ∧ True ∧ (x396.snd.snd.a.c.kind = x396.snd.snd.a.c.kind ∧ x396.snd.snd.a.c.ok = x396.snd.snd.a.c.ok ∧ x396.snd.snd.a.c.ofr = x396.snd.snd.a.c.ofr ∧ x396.snd.snd.a.c.oto = x396.snd.snd.a.c.oto
 ∧ x396.snd.snd.a.c.oam = x396.snd.snd.a.c.oam ∧ x396.snd.snd.a.c.okey = x396.snd.snd.a.c.okey ∧ x396.snd.snd.a.c.osl = x396.snd.snd.a.c.osl ∧ x396.snd.snd.a.c.osh = x396.snd.snd.a.c.osh
 ∧ x396.snd.snd.a.c.id = x396.snd.snd.a.c.id ∧ x396.snd.snd.a.c.name = x396.snd.snd.a.c.name ∧ x396.snd.snd.a.c.n = x396.snd.snd.a.c.n ∧ x396.snd.snd.a.c.why = x396.snd.snd.a.c.why
 ∧ x396.snd.snd.a.c.slot = x396.snd.snd.a.c.slot ∧ x396.snd.snd.a.c.ep = x396.snd.snd.a.c.ep ∧ x396.snd.snd.a.c.at_ = x396.snd.snd.a.c.at_ ∧ x396.snd.snd.a.c.last = x396.snd.snd.a.c.last
 ∧ (x396.snd.snd.p = x396.snd.snd.p ∧ List.length x396.snd.snd.d = List.length x396.snd.snd.d ∧ x396.snd.snd.c = x396.snd.snd.c) ∧ True) ∧ (x396.snd.fst.r.why = x396.snd.fst.r.why
 ∧ x396.snd.fst.r.wait = x396.snd.fst.r.wait ∧ (0 : Int) = (0 : Int) ∧ (0 : Int) = (0 : Int) ∧ True ∧ (List.length x396.snd.fst.d = List.length x396.snd.fst.d
 ∧ c403 = c403 ∧ ZB.nil = ZB.nil) ∧ True) ∧ True) ∧ ((True ∧ True ∧ x396.snd.snd.a.g = x396.snd.snd.a.g ∧ True ∧ (x396.snd.snd.a.c.kind = x396.snd.snd.a.c.kind
 ∧ x396.snd.snd.a.c.ok = x396.snd.snd.a.c.ok ∧ x396.snd.snd.a.c.ofr = x396.snd.snd.a.c.ofr ∧ x396.snd.snd.a.c.oto = x396.snd.snd.a.c.oto ∧ x396.snd.snd.a.c.oam = x396.snd.snd.a.c.oam
 ∧ x396.snd.snd.a.c.okey = x396.snd.snd.a.c.okey ∧ x396.snd.snd.a.c.osl = x396.snd.snd.a.c.osl ∧ x396.snd.snd.a.c.osh = x396.snd.snd.a.c.osh ∧ x396.snd.snd.a.c.id = x396.snd.snd.a.c.id
 ∧ x396.snd.snd.a.c.name = x396.snd.snd.a.c.name ∧ x396.snd.snd.a.c.n = x396.snd.snd.a.c.n ∧ x396.snd.snd.a.c.why = x396.snd.snd.a.c.why ∧ x396.snd.snd.a.c.slot = x396.snd.snd.a.c.slot
 ∧ x396.snd.snd.a.c.ep = x396.snd.snd.a.c.ep ∧ x396.snd.snd.a.c.at_ = x396.snd.snd.a.c.at_ ∧ x396.snd.snd.a.c.last = x396.snd.snd.a.c.last ∧ (x396.snd.snd.p = x396.snd.snd.p
 ∧ List.length x396.snd.snd.d = List.length x396.snd.snd.d ∧ x396.snd.snd.c = x396.snd.snd.c) ∧ True) ∧ (x396.snd.fst.r.why = x396.snd.fst.r.why ∧ x396.snd.fst.r.wait = x396.snd.fst.r.wait
 ∧ (0 : Int) = (0 : Int) ∧ (0 : Int) = (0 : Int) ∧ True ∧ (List.length x396.snd.fst.d = List.length x396.snd.fst.d ∧ c403 = c403 ∧ ZB.nil = ZB.nil) ∧ True)
 ∧ True) ∧ (∃ (news535 : List Value), List.length news535 = List.length x396.snd.snd.d * (1 : Nat) ∧ (∀ (v536 : Value), v536 ∈ news535 → one1 v536 = true)
 ∧ (∀ (w537 : World), (((LX.in x w537 ∧ RowAt w537 x13.la x13.ld) ∧ RowAt w537 x128.fst.la x128.fst.ld) ∧ RowAt w537 x339.fst.la x339.fst.ld) ∧ RowAt w537 x396.fst.la x396.fst.ld
 ∧ RowAt w537 x396.snd.snd.p x396.snd.snd.d → ∀ (k538 : Nat) (x539 : Value), news535[k538]? = some x539 → ∃ (ad540 : Addr), x396.snd.snd.p = some ad540
 ∧ World.cell? w537 (Addr.add ad540 k538) = some x539) ∧ List.length x396.snd.snd.d * (1 : Nat) ≤ (140737488355328 : Nat) ∧ ∀ (c541 : Nat), List.length x396.snd.snd.d ≤ c541
 → (List.length x396.snd.snd.d = (0 : Nat) → c541 = (0 : Nat)) → (True ∧ True ∧ x396.snd.snd.a.g = x396.snd.snd.a.g ∧ (x396.snd.fst.r.why = x396.snd.fst.r.why
 ∧ x396.snd.fst.r.wait = x396.snd.fst.r.wait ∧ (0 : Int) = (0 : Int) ∧ (0 : Int) = (0 : Int) ∧ True ∧ (List.length x396.snd.fst.d = List.length x396.snd.fst.d
 ∧ c403 = c403 ∧ ZB.nil = ZB.nil) ∧ True) ∧ True) ∧ (∃ (x542 : TX), x542.x.slot = x396.snd.fst.mv.slot ∧ x542.x.frm = x396.snd.fst.mv.frm ∧ x542.x.to = x396.snd.fst.mv.to
 ∧ x542.x.ep = x396.snd.fst.mv.ep ∧ x542.x.ph = x396.snd.fst.mv.ph ∧ x542.x.n = x396.snd.fst.mv.n ∧ x542.a.g = x396.snd.snd.a.g ∧ x542.a.c.kind = x396.snd.snd.a.c.kind
 ∧ x542.a.c.ok = x396.snd.snd.a.c.ok ∧ x542.a.c.ofr = x396.snd.snd.a.c.ofr ∧ x542.a.c.oto = x396.snd.snd.a.c.oto ∧ x542.a.c.oam = x396.snd.snd.a.c.oam ∧ x542.a.c.okey = x396.snd.snd.a.c.okey
 ∧ x542.a.c.osl = x396.snd.snd.a.c.osl ∧ x542.a.c.osh = x396.snd.snd.a.c.osh ∧ x542.a.c.id = x396.snd.snd.a.c.id ∧ x542.a.c.name = x396.snd.snd.a.c.name
 ∧ x542.a.c.n = x396.snd.snd.a.c.n ∧ x542.a.c.why = x396.snd.snd.a.c.why ∧ x542.a.c.slot = x396.snd.snd.a.c.slot ∧ x542.a.c.ep = x396.snd.snd.a.c.ep ∧ x542.a.c.at_ = x396.snd.snd.a.c.at_
 ∧ x542.a.c.last = x396.snd.snd.a.c.last ∧ (List.length x542.ad.vs = List.length x396.snd.snd.d ∧ x542.ad.c = c541) ∧ x542.ad.z = ZB.nil ∧ x542.r.why = x396.snd.fst.r.why
 ∧ x542.r.wait = x396.snd.fst.r.wait ∧ x542.r.rwhy = (0 : Int) ∧ x542.r.ram = (0 : Int) ∧ (List.length x542.rd.vs = List.length x396.snd.fst.d ∧ x542.rd.c = c403)
 ∧ x542.rd.z = ZB.nil ∧ x542.m.n = x396.fst.m.n ∧ (List.length x542.m.d.vs = List.length x396.fst.m.d.vs ∧ x542.m.d.c = x396.fst.m.d.c) ∧ x542.m.d.z = x396.fst.m.d.z
 ∧ x542.m.at_ = x396.fst.m.at_ ∧ (x542.m.d.vs = x396.fst.m.d.vs ∧ List.length x542.m.d.vs = List.length x396.fst.m.d.vs ∧ x542.m.d.c = x396.fst.m.d.c ∧
 (1 : Nat) = (1 : Nat)) ∧ (x542.ad.vs = news535 ∧ List.length x542.ad.vs = List.length x396.snd.snd.d ∧ x542.ad.c = c541 ∧ (1 : Nat) = (1 : Nat)) ∧ (x542.rd.vs = news397
 ∧ List.length x542.rd.vs = List.length x396.snd.fst.d ∧ x542.rd.c = c403 ∧ (1 : Nat) = (1 : Nat)) ∧ ((Ab.ok (Mo.ab x542.m) ∧ List.length x542.m.d.vs ≤ x542.m.d.c)
 ∧ (∀ (v543 : Value), v543 ∈ x542.rd.vs → ∃ (n544 : Int), v543 = Value.int IntKind.u8 n544) ∧ List.length x542.rd.vs ≤ (140737488355328 : Nat) ∧ List.length x542.ad.vs ≤
 (140737488355328 : Nat)) ∧ (∀ (w545 : World), (((LX.in x w545 ∧ RowAt w545 x13.la x13.ld) ∧ RowAt w545 x128.fst.la x128.fst.ld) ∧ RowAt w545 x339.fst.la x339.fst.ld)
 ∧ RowAt w545 x396.fst.la x396.fst.ld ∧ RowAt w545 x396.snd.snd.p x396.snd.snd.d → True) ∧ ∀ (y546 : Mo × Bool), (Mo.ab y546.fst, y546.snd) = Ab.told (Mo.ab x542.m) x542.x x542.a
 (List.length x542.ad.vs) x542.r.why x542.rd.vs ∧ Mo.ok y546.fst → True ∧ ((y546.snd = y546.snd ∧ True) ∧ ∃ (x547 : LL × OpD × AD × Sl × Bool), (x.a = x.a
 ∧ List.length x.l = List.length x.l ∧ x.c = x.c) ∧ x547.fst.i = x396.fst.i ∧ x547.snd.snd.snd.snd = y546.snd ∧ x547.fst.m.n = y546.fst.n ∧ (List.length x547.fst.m.d.vs = List.length y546.fst.d.vs
 ∧ x547.fst.m.d.c = y546.fst.d.c) ∧ x547.fst.m.d.z = y546.fst.d.z ∧ x547.fst.m.at_ = y546.fst.at_ ∧ (x547.fst.m.d.vs = y546.fst.d.vs ∧ List.length x547.fst.m.d.vs = List.length y546.fst.d.vs
 ∧ x547.fst.m.d.c = y546.fst.d.c ∧ (1 : Nat) = (1 : Nat)) ∧ x547.fst.r.n = x396.fst.r.n ∧ x547.fst.r.has = x396.fst.r.has ∧ (List.length x547.fst.r.d.vs = List.length x396.fst.r.d.vs
 ∧ x547.fst.r.d.c = x396.fst.r.d.c) ∧ x547.fst.r.d.z = x396.fst.r.d.z ∧ x547.fst.r.at_ = x396.fst.r.at_ ∧ (x547.fst.r.d.vs = x396.fst.r.d.vs ∧ List.length x547.fst.r.d.vs = List.length x396.fst.r.d.vs
 ∧ x547.fst.r.d.c = x396.fst.r.d.c ∧ (1 : Nat) = (1 : Nat)) ∧ x547.fst.a.g = x396.fst.a.g ∧ x547.fst.a.c.kind = x396.fst.a.c.kind ∧ x547.fst.a.c.ok = x396.fst.a.c.ok
 ∧ x547.fst.a.c.ofr = x396.fst.a.c.ofr ∧ x547.fst.a.c.oto = x396.fst.a.c.oto ∧ x547.fst.a.c.oam = x396.fst.a.c.oam ∧ x547.fst.a.c.okey = x396.fst.a.c.okey
 ∧ x547.fst.a.c.osl = x396.fst.a.c.osl ∧ x547.fst.a.c.osh = x396.fst.a.c.osh ∧ x547.fst.a.c.id = x396.fst.a.c.id ∧ x547.fst.a.c.name = x396.fst.a.c.name
 ∧ x547.fst.a.c.n = x396.fst.a.c.n ∧ x547.fst.a.c.why = x396.fst.a.c.why ∧ x547.fst.a.c.slot = x396.fst.a.c.slot ∧ x547.fst.a.c.ep = x396.fst.a.c.ep ∧ x547.fst.a.c.at_ = x396.fst.a.c.at_
 ∧ x547.fst.a.c.last = x396.fst.a.c.last ∧ (x547.fst.la = x396.fst.la ∧ List.length x547.fst.ld = List.length x396.fst.ld ∧ x547.fst.lc = x396.fst.lc) ∧ x547.snd.fst.kind = x396.snd.fst.kind
 ∧ x547.snd.fst.mv.slot = x396.snd.fst.mv.slot ∧ x547.snd.fst.mv.frm = x396.snd.fst.mv.frm ∧ x547.snd.fst.mv.to = x396.snd.fst.mv.to ∧ x547.snd.fst.mv.ep = x396.snd.fst.mv.ep
 ∧ x547.snd.fst.mv.ph = x396.snd.fst.mv.ph ∧ x547.snd.fst.mv.n = x396.snd.fst.mv.n ∧ x547.snd.fst.a.g = x396.snd.fst.a.g ∧ x547.snd.fst.a.c.kind = x396.snd.fst.a.c.kind
 ∧ x547.snd.fst.a.c.ok = x396.snd.fst.a.c.ok ∧ x547.snd.fst.a.c.ofr = x396.snd.fst.a.c.ofr ∧ x547.snd.fst.a.c.oto = x396.snd.fst.a.c.oto ∧ x547.snd.fst.a.c.oam = x396.snd.fst.a.c.oam
 ∧ x547.snd.fst.a.c.okey = x396.snd.fst.a.c.okey ∧ x547.snd.fst.a.c.osl = x396.snd.fst.a.c.osl ∧ x547.snd.fst.a.c.osh = x396.snd.fst.a.c.osh ∧ x547.snd.fst.a.c.id = x396.snd.fst.a.c.id
 ∧ x547.snd.fst.a.c.name = x396.snd.fst.a.c.name ∧ x547.snd.fst.a.c.n = x396.snd.fst.a.c.n ∧ x547.snd.fst.a.c.why = x396.snd.fst.a.c.why ∧ x547.snd.fst.a.c.slot = x396.snd.fst.a.c.slot
 ∧ x547.snd.fst.a.c.ep = x396.snd.fst.a.c.ep ∧ x547.snd.fst.a.c.at_ = x396.snd.fst.a.c.at_ ∧ x547.snd.fst.a.c.last = x396.snd.fst.a.c.last ∧ (x547.snd.fst.aa = x396.snd.fst.aa
 ∧ x547.snd.fst.al = x396.snd.fst.al ∧ x547.snd.fst.ac = x396.snd.fst.ac) ∧ x547.snd.fst.r.why = x396.snd.fst.r.why ∧ x547.snd.fst.r.wait = x396.snd.fst.r.wait
 ∧ x547.snd.fst.r.rwhy = x396.snd.fst.r.rwhy ∧ x547.snd.fst.r.ram = x396.snd.fst.r.ram ∧ (x547.snd.fst.ra = x396.snd.fst.ra ∧ x547.snd.fst.rn = x396.snd.fst.rn
 ∧ x547.snd.fst.rc = x396.snd.fst.rc) ∧ (x547.snd.fst.da = x396.snd.fst.da ∧ List.length x547.snd.fst.d = List.length x396.snd.fst.d ∧ x547.snd.fst.dc = x396.snd.fst.dc)
 ∧ x547.snd.snd.fst.a.g = x396.snd.snd.a.g ∧ x547.snd.snd.fst.a.c.kind = x396.snd.snd.a.c.kind ∧ x547.snd.snd.fst.a.c.ok = x396.snd.snd.a.c.ok ∧ x547.snd.snd.fst.a.c.ofr = x396.snd.snd.a.c.ofr
 ∧ x547.snd.snd.fst.a.c.oto = x396.snd.snd.a.c.oto ∧ x547.snd.snd.fst.a.c.oam = x396.snd.snd.a.c.oam ∧ x547.snd.snd.fst.a.c.okey = x396.snd.snd.a.c.okey
 ∧ x547.snd.snd.fst.a.c.osl = x396.snd.snd.a.c.osl ∧ x547.snd.snd.fst.a.c.osh = x396.snd.snd.a.c.osh ∧ x547.snd.snd.fst.a.c.id = x396.snd.snd.a.c.id ∧ x547.snd.snd.fst.a.c.name = x396.snd.snd.a.c.name
 ∧ x547.snd.snd.fst.a.c.n = x396.snd.snd.a.c.n ∧ x547.snd.snd.fst.a.c.why = x396.snd.snd.a.c.why ∧ x547.snd.snd.fst.a.c.slot = x396.snd.snd.a.c.slot ∧ x547.snd.snd.fst.a.c.ep = x396.snd.snd.a.c.ep
 ∧ x547.snd.snd.fst.a.c.at_ = x396.snd.snd.a.c.at_ ∧ x547.snd.snd.fst.a.c.last = x396.snd.snd.a.c.last ∧ (x547.snd.snd.fst.p = x396.snd.snd.p ∧ List.length x547.snd.snd.fst.d = List.length x396.snd.snd.d
 ∧ x547.snd.snd.fst.c = x396.snd.snd.c) ∧ x547.snd.fst.r.why = x396.snd.fst.r.why ∧ x547.snd.fst.r.wait = x396.snd.fst.r.wait ∧ (0 : Int) = (0 : Int) ∧
 (0 : Int) = (0 : Int) ∧ (List.length x547.snd.snd.snd.fst.vs = List.length x396.snd.fst.d ∧ x547.snd.snd.snd.fst.c = c403) ∧ x547.snd.snd.snd.fst.z = ZB.nil
 ∧ (x547.snd.snd.snd.fst.vs = x542.rd.vs ∧ List.length x547.snd.snd.snd.fst.vs = List.length x542.rd.vs ∧ x547.snd.snd.snd.fst.c = x542.rd.c ∧ (1 : Nat) =
 (1 : Nat)) ∧ ((bif x547.snd.snd.snd.snd then (2 : Int) else (0 : Int)) = bif y546.snd then (2 : Int) else (0 : Int)) ∧ (0 : Int) = (0 : Int) ∧ (0 : Int) =
 (0 : Int) ∧ ((bif x547.snd.snd.snd.snd then x547.snd.fst.mv.n else (0 : Int)) = bif y546.snd then x542.x.n else (0 : Int)) ∧ ((bif x547.snd.snd.snd.snd then x547.snd.fst.mv.ph else
 (0 : Int)) = bif y546.snd then x542.x.ph else (0 : Int)) ∧ ((LL.ok x x547.fst ∧ x547.fst.i = x396.fst.i ∧ (Mo.ab x547.fst.m, x547.snd.snd.snd.snd) = Ab.told
 (Rm.ab x547.fst.r) x547.snd.fst.mv x547.snd.snd.fst.a (List.length x547.snd.snd.fst.d) x547.snd.fst.r.why x547.snd.fst.d) ∧ x.l[Int.toNat x547.fst.i]? = some x547.snd.fst
 ∧ AD.ok x547.snd.snd.fst ∧ x547.snd.snd.snd.fst.vs = x547.snd.fst.d ∧ List.length x547.snd.snd.snd.fst.vs ≤ x547.snd.snd.snd.fst.c) ∧ ∀ (w548 : World),
 ((((LX.in x w548 ∧ RowAt w548 x13.la x13.ld) ∧ RowAt w548 x128.fst.la x128.fst.ld) ∧ RowAt w548 x339.fst.la x339.fst.ld) ∧ RowAt w548 x396.fst.la x396.fst.ld
 ∧ RowAt w548 x396.snd.snd.p x396.snd.snd.d) ∧ True → (((((∀ (i549 : Nat) (o550 : OpD), x.l[i549]? = some o550 → (∀ (k551 : Nat) (x552 : Value), (OpD.vals o550)[k551]? = some x552
 → ∃ (ad553 : Addr), Option.map (fun (x : Addr) => Addr.add x (i549 * (31 : Nat))) x.a = some ad553 ∧ World.cell? w548 (Addr.add ad553 k551) = some x552)
 ∧ (∀ (k554 : Nat) (x555 : Value), o550.d[k554]? = some x555 → ∃ (ad556 : Addr), o550.da = some ad556 ∧ World.cell? w548 (Addr.add ad556 k554) = some x555)
 ∧ ∀ (k557 : Nat) (x558 : Value), (x.ad o550)[k557]? = some x558 → ∃ (ad559 : Addr), o550.aa = some ad559 ∧ World.cell? w548 (Addr.add ad559 k557) = some x558)
 ∧ ∀ (k560 : Nat) (x561 : Value), x13.ld[k560]? = some x561 → ∃ (ad562 : Addr), x13.la = some ad562 ∧ World.cell? w548 (Addr.add ad562 k560) = some x561)
 ∧ ∀ (k563 : Nat) (x564 : Value), x128.fst.ld[k563]? = some x564 → ∃ (ad565 : Addr), x128.fst.la = some ad565 ∧ World.cell? w548 (Addr.add ad565 k563) = some x564)
 ∧ ∀ (k566 : Nat) (x567 : Value), x339.fst.ld[k566]? = some x567 → ∃ (ad568 : Addr), x339.fst.la = some ad568 ∧ World.cell? w548 (Addr.add ad568 k566) = some x567)
 ∧ (∀ (k569 : Nat) (x570 : Value), x396.fst.ld[k569]? = some x570 → ∃ (ad571 : Addr), x396.fst.la = some ad571 ∧ World.cell? w548 (Addr.add ad571 k569) = some x570)
 ∧ ∀ (k572 : Nat) (x573 : Value), x396.snd.snd.d[k572]? = some x573 → ∃ (ad574 : Addr), x396.snd.snd.p = some ad574 ∧ World.cell? w548 (Addr.add ad574 k572) = some x573)
 ∧ (∀ (k575 : Nat) (x576 : Value), x547.fst.ld[k575]? = some x576 → ∃ (ad577 : Addr), x547.fst.la = some ad577 ∧ World.cell? w548 (Addr.add ad577 k575) = some x576)
 ∧ ∀ (k578 : Nat) (x579 : Value), x547.snd.snd.fst.d[k578]? = some x579 → ∃ (ad580 : Addr), x547.snd.snd.fst.p = some ad580 ∧ World.cell? w548 (Addr.add ad580 k578) = some x579)
 ∧ True) ∧ True) ∧ True) ∧ True) ∧ True) ∧ ∀ (x581 : LL × OpD × AD × Sl × Bool), (LL.ok x x581.fst ∧ x581.fst.i = x396.fst.i ∧ (Mo.ab x581.fst.m, x581.snd.snd.snd.snd) = Ab.told
 (Rm.ab x581.fst.r) x581.snd.fst.mv x581.snd.snd.fst.a (List.length x581.snd.snd.fst.d) x581.snd.fst.r.why x581.snd.fst.d) ∧ x.l[Int.toNat x581.fst.i]? = some x581.snd.fst
 ∧ AD.ok x581.snd.snd.fst ∧ x581.snd.snd.snd.fst.vs = x581.snd.fst.d ∧ List.length x581.snd.snd.snd.fst.vs ≤ x581.snd.snd.snd.fst.c → ∃ (x582 : RY), x582.x.slot = x581.snd.fst.mv.slot
 ∧ x582.x.frm = x581.snd.fst.mv.frm ∧ x582.x.to = x581.snd.fst.mv.to ∧ x582.x.ep = x581.snd.fst.mv.ep ∧ x582.x.ph = x581.snd.fst.mv.ph ∧ x582.x.n = x581.snd.fst.mv.n
 ∧ x582.a.g = x581.snd.snd.fst.a.g ∧ x582.a.c.kind = x581.snd.snd.fst.a.c.kind ∧ x582.a.c.ok = x581.snd.snd.fst.a.c.ok ∧ x582.a.c.ofr = x581.snd.snd.fst.a.c.ofr
 ∧ x582.a.c.oto = x581.snd.snd.fst.a.c.oto ∧ x582.a.c.oam = x581.snd.snd.fst.a.c.oam ∧ x582.a.c.okey = x581.snd.snd.fst.a.c.okey ∧ x582.a.c.osl = x581.snd.snd.fst.a.c.osl
 ∧ x582.a.c.osh = x581.snd.snd.fst.a.c.osh ∧ x582.a.c.id = x581.snd.snd.fst.a.c.id ∧ x582.a.c.name = x581.snd.snd.fst.a.c.name ∧ x582.a.c.n = x581.snd.snd.fst.a.c.n
 ∧ x582.a.c.why = x581.snd.snd.fst.a.c.why ∧ x582.a.c.slot = x581.snd.snd.fst.a.c.slot ∧ x582.a.c.ep = x581.snd.snd.fst.a.c.ep ∧ x582.a.c.at_ = x581.snd.snd.fst.a.c.at_
 ∧ x582.a.c.last = x581.snd.snd.fst.a.c.last ∧ (x582.aa = x581.snd.snd.fst.p ∧ x582.al = List.length x581.snd.snd.fst.d ∧ x582.ac = x581.snd.snd.fst.c)
 ∧ x582.r.why = x581.snd.fst.r.why ∧ x582.r.wait = x581.snd.fst.r.wait ∧ x582.r.rwhy = x581.snd.fst.r.rwhy ∧ x582.r.ram = x581.snd.fst.r.ram ∧ (x582.ra = x581.snd.fst.ra
 ∧ x582.rn = x581.snd.fst.rn ∧ x582.rc = x581.snd.fst.rc) ∧ (x582.da = x581.snd.fst.da ∧ List.length x582.d = List.length x581.snd.fst.d ∧ x582.dc = x581.snd.fst.dc)
 ∧ x582.m.n = x581.fst.r.n ∧ x582.m.has = x581.fst.r.has ∧ (List.length x582.m.d.vs = List.length x581.fst.r.d.vs ∧ x582.m.d.c = x581.fst.r.d.c) ∧ x582.m.d.z = x581.fst.r.d.z
 ∧ x582.m.at_ = x581.fst.r.at_ ∧ (x582.m.d.vs = x581.fst.r.d.vs ∧ List.length x582.m.d.vs = List.length x581.fst.r.d.vs ∧ x582.m.d.c = x581.fst.r.d.c ∧
 (1 : Nat) = (1 : Nat)) ∧ ((Ab.ok (Rm.ab x582.m) ∧ List.length x582.m.d.vs ≤ x582.m.d.c) ∧ (∀ (v583 : Value), v583 ∈ x582.d → ∃ (n584 : Int), v583 = Value.int IntKind.u8 n584)
 ∧ List.length x582.d ≤ (140737488355328 : Nat) ∧ x582.al ≤ (140737488355328 : Nat)) ∧ (∀ (w585 : World), ((((LX.in x w585 ∧ RowAt w585 x13.la x13.ld) ∧ RowAt w585 x128.fst.la x128.fst.ld)
 ∧ RowAt w585 x339.fst.la x339.fst.ld) ∧ RowAt w585 x396.fst.la x396.fst.ld ∧ RowAt w585 x396.snd.snd.p x396.snd.snd.d) ∧ RowAt w585 x581.fst.la x581.fst.ld
 ∧ RowAt w585 x581.snd.snd.fst.p x581.snd.snd.fst.d → ∀ (k586 : Nat) (x587 : Value), x582.d[k586]? = some x587 → ∃ (ad588 : Addr), x582.da = some ad588
 ∧ World.cell? w585 (Addr.add ad588 k586) = some x587) ∧ ∀ (y589 : Rm × Bool), (Rm.ab y589.fst, y589.snd) = Ab.told (Rm.ab x582.m) x582.x x582.a x582.al x582.r.why x582.d
 ∧ Rm.ok y589.fst → ∃ (x590 : Sl), (List.length x590.vs = List.length x581.snd.snd.snd.fst.vs ∧ x590.c = x581.snd.snd.snd.fst.c) ∧ x590.z = x581.snd.snd.snd.fst.z
 ∧ (x590.vs = x581.snd.snd.snd.fst.vs ∧ List.length x590.vs = List.length x581.snd.snd.snd.fst.vs ∧ x590.c = x581.snd.snd.snd.fst.c ∧ (1 : Nat) = (1 : Nat))
 ∧ (List.length x590.vs + (1 : Nat) ≤ (140737488355328 : Nat) ∧ (∀ (v591 : Value), v591 ∈ x590.vs → ∃ (n592 : Int), v591 = Value.int IntKind.u8 n592) ∧ List.length x590.vs ≤ x590.c)
 ∧ (∀ (w593 : World), (((((LX.in x w593 ∧ RowAt w593 x13.la x13.ld) ∧ RowAt w593 x128.fst.la x128.fst.ld) ∧ RowAt w593 x339.fst.la x339.fst.ld) ∧ RowAt w593 x396.fst.la x396.fst.ld
 ∧ RowAt w593 x396.snd.snd.p x396.snd.snd.d) ∧ RowAt w593 x581.fst.la x581.fst.ld ∧ RowAt w593 x581.snd.snd.fst.p x581.snd.snd.fst.d) ∧ True → True) ∧ ∀
 (y594 : Unit), True → (((bif x581.snd.snd.snd.snd then (2 : Int) else (0 : Int)) != bif y589.snd then (2 : Int) else (0 : Int)) = false → (((bif x581.snd.snd.snd.snd then x581.snd.fst.mv.n else
 (0 : Int)) != bif y589.snd then x582.x.n else (0 : Int)) = false → (((bif x581.snd.snd.snd.snd then x581.snd.fst.mv.ph else (0 : Int)) != bif y589.snd then x582.x.ph else
 (0 : Int)) = false → (((0 : Int) != (0 : Int)) = false → (((0 : Int) != (0 : Int)) = false → ((!x581.snd.snd.snd.snd == y589.snd) = true → ∃ (y595 : Bool), y595 = false
 ∧ y595 = true ∧ ∀ (w596 : World), ((((((LX.in x w596 ∧ RowAt w596 x13.la x13.ld) ∧ RowAt w596 x128.fst.la x128.fst.ld) ∧ RowAt w596 x339.fst.la x339.fst.ld)
 ∧ RowAt w596 x396.fst.la x396.fst.ld ∧ RowAt w596 x396.snd.snd.p x396.snd.snd.d) ∧ RowAt w596 x581.fst.la x581.fst.ld ∧ RowAt w596 x581.snd.snd.fst.p x581.snd.snd.fst.d)
 ∧ True) ∧ True → True) ∧ ((!x581.snd.snd.snd.snd == y589.snd) = false → ∃ (x597 : LL), (x.a = x.a ∧ List.length x.l = List.length x.l ∧ x.c = x.c) ∧ x597.i = x581.fst.i
 ∧ x597.m.n = x581.fst.m.n ∧ (List.length x597.m.d.vs = List.length x581.fst.m.d.vs ∧ x597.m.d.c = x581.fst.m.d.c) ∧ x597.m.d.z = x581.fst.m.d.z ∧ x597.m.at_ = x581.fst.m.at_
 ∧ (x597.m.d.vs = x581.fst.m.d.vs ∧ List.length x597.m.d.vs = List.length x581.fst.m.d.vs ∧ x597.m.d.c = x581.fst.m.d.c ∧ (1 : Nat) = (1 : Nat)) ∧ x597.r.n = y589.fst.n
 ∧ x597.r.has = y589.fst.has ∧ (List.length x597.r.d.vs = List.length y589.fst.d.vs ∧ x597.r.d.c = y589.fst.d.c) ∧ x597.r.d.z = y589.fst.d.z ∧ x597.r.at_ = y589.fst.at_
 ∧ (x597.r.d.vs = y589.fst.d.vs ∧ List.length x597.r.d.vs = List.length y589.fst.d.vs ∧ x597.r.d.c = y589.fst.d.c ∧ (1 : Nat) = (1 : Nat)) ∧ x597.a.g = x581.fst.a.g
 ∧ x597.a.c.kind = x581.fst.a.c.kind ∧ x597.a.c.ok = x581.fst.a.c.ok ∧ x597.a.c.ofr = x581.fst.a.c.ofr ∧ x597.a.c.oto = x581.fst.a.c.oto ∧ x597.a.c.oam = x581.fst.a.c.oam
 ∧ x597.a.c.okey = x581.fst.a.c.okey ∧ x597.a.c.osl = x581.fst.a.c.osl ∧ x597.a.c.osh = x581.fst.a.c.osh ∧ x597.a.c.id = x581.fst.a.c.id ∧ x597.a.c.name = x581.fst.a.c.name
 ∧ x597.a.c.n = x581.fst.a.c.n ∧ x597.a.c.why = x581.fst.a.c.why ∧ x597.a.c.slot = x581.fst.a.c.slot ∧ x597.a.c.ep = x581.fst.a.c.ep ∧ x597.a.c.at_ = x581.fst.a.c.at_
 ∧ x597.a.c.last = x581.fst.a.c.last ∧ (x597.la = x581.fst.la ∧ List.length x597.ld = List.length x581.fst.ld ∧ x597.lc = x581.fst.lc) ∧ ((LL.ok x x597
 ∧ x597.i = x128.fst.i ∧ Mo.ab x597.m = Rm.ab x597.r) ∧ x597.i < (↑(List.length x.l) : Int)) ∧ ∀ (w598 : World), ((((((LX.in x w598 ∧ RowAt w598 x13.la x13.ld)
 ∧ RowAt w598 x128.fst.la x128.fst.ld) ∧ RowAt w598 x339.fst.la x339.fst.ld) ∧ RowAt w598 x396.fst.la x396.fst.ld ∧ RowAt w598 x396.snd.snd.p x396.snd.snd.d)
 ∧ RowAt w598 x581.fst.la x581.fst.ld ∧ RowAt w598 x581.snd.snd.fst.p x581.snd.snd.fst.d) ∧ True) ∧ True → (((∀ (i599 : Nat) (o600 : OpD), x.l[i599]? = some o600
 → (∀ (k601 : Nat) (x602 : Value), (OpD.vals o600)[k601]? = some x602 → ∃ (ad603 : Addr), Option.map (fun (x : Addr) => Addr.add x (i599 * (31 : Nat))) x.a = some ad603
 ∧ World.cell? w598 (Addr.add ad603 k601) = some x602) ∧ (∀ (k604 : Nat) (x605 : Value), o600.d[k604]? = some x605 → ∃ (ad606 : Addr), o600.da = some ad606
 ∧ World.cell? w598 (Addr.add ad606 k604) = some x605) ∧ ∀ (k607 : Nat) (x608 : Value), (x.ad o600)[k607]? = some x608 → ∃ (ad609 : Addr), o600.aa = some ad609
 ∧ World.cell? w598 (Addr.add ad609 k607) = some x608) ∧ ∀ (k610 : Nat) (x611 : Value), x13.ld[k610]? = some x611 → ∃ (ad612 : Addr), x13.la = some ad612
 ∧ World.cell? w598 (Addr.add ad612 k610) = some x611) ∧ ∀ (k613 : Nat) (x614 : Value), x128.fst.ld[k613]? = some x614 → ∃ (ad615 : Addr), x128.fst.la = some ad615
 ∧ World.cell? w598 (Addr.add ad615 k613) = some x614) ∧ ∀ (k616 : Nat) (x617 : Value), x597.ld[k616]? = some x617 → ∃ (ad618 : Addr), x597.la = some ad618
 ∧ World.cell? w598 (Addr.add ad618 k616) = some x617)) ∧ (((0 : Int) != (0 : Int)) = true → ∃ (y619 : Bool), y619 = false ∧ y619 = true ∧ ∀ (w620 : World),
 ((((((LX.in x w620 ∧ RowAt w620 x13.la x13.ld) ∧ RowAt w620 x128.fst.la x128.fst.ld) ∧ RowAt w620 x339.fst.la x339.fst.ld) ∧ RowAt w620 x396.fst.la x396.fst.ld
 ∧ RowAt w620 x396.snd.snd.p x396.snd.snd.d) ∧ RowAt w620 x581.fst.la x581.fst.ld ∧ RowAt w620 x581.snd.snd.fst.p x581.snd.snd.fst.d) ∧ True) ∧ True → True))
 ∧ (((0 : Int) != (0 : Int)) = true → ∃ (y621 : Bool), y621 = false ∧ y621 = true ∧ ∀ (w622 : World), ((((((LX.in x w622 ∧ RowAt w622 x13.la x13.ld) ∧ RowAt w622 x128.fst.la x128.fst.ld)
 ∧ RowAt w622 x339.fst.la x339.fst.ld) ∧ RowAt w622 x396.fst.la x396.fst.ld ∧ RowAt w622 x396.snd.snd.p x396.snd.snd.d) ∧ RowAt w622 x581.fst.la x581.fst.ld
 ∧ RowAt w622 x581.snd.snd.fst.p x581.snd.snd.fst.d) ∧ True) ∧ True → True)) ∧ (((bif x581.snd.snd.snd.snd then x581.snd.fst.mv.ph else (0 : Int)) != bif y589.snd then x582.x.ph else
 (0 : Int)) = true → ∃ (y623 : Bool), y623 = false ∧ y623 = true ∧ ∀ (w624 : World), ((((((LX.in x w624 ∧ RowAt w624 x13.la x13.ld) ∧ RowAt w624 x128.fst.la x128.fst.ld)
 ∧ RowAt w624 x339.fst.la x339.fst.ld) ∧ RowAt w624 x396.fst.la x396.fst.ld ∧ RowAt w624 x396.snd.snd.p x396.snd.snd.d) ∧ RowAt w624 x581.fst.la x581.fst.ld
 ∧ RowAt w624 x581.snd.snd.fst.p x581.snd.snd.fst.d) ∧ True) ∧ True → True)) ∧ (((bif x581.snd.snd.snd.snd then x581.snd.fst.mv.n else (0 : Int)) != bif y589.snd then x582.x.n else
 (0 : Int)) = true → ∃ (y625 : Bool), y625 = false ∧ y625 = true ∧ ∀ (w626 : World), ((((((LX.in x w626 ∧ RowAt w626 x13.la x13.ld) ∧ RowAt w626 x128.fst.la x128.fst.ld)
 ∧ RowAt w626 x339.fst.la x339.fst.ld) ∧ RowAt w626 x396.fst.la x396.fst.ld ∧ RowAt w626 x396.snd.snd.p x396.snd.snd.d) ∧ RowAt w626 x581.fst.la x581.fst.ld
 ∧ RowAt w626 x581.snd.snd.fst.p x581.snd.snd.fst.d) ∧ True) ∧ True → True)) ∧ (((bif x581.snd.snd.snd.snd then (2 : Int) else (0 : Int)) != bif y589.snd then
 (2 : Int) else (0 : Int)) = true → ∃ (y627 : Bool), y627 = false ∧ y627 = true ∧ ∀ (w628 : World), ((((((LX.in x w628 ∧ RowAt w628 x13.la x13.ld) ∧ RowAt w628 x128.fst.la x128.fst.ld)
 ∧ RowAt w628 x339.fst.la x339.fst.ld) ∧ RowAt w628 x396.fst.la x396.fst.ld ∧ RowAt w628 x396.snd.snd.p x396.snd.snd.d) ∧ RowAt w628 x581.fst.la x581.fst.ld
 ∧ RowAt w628 x581.snd.snd.fst.p x581.snd.snd.fst.d) ∧ True) ∧ True → True)) ∧ (x339.snd.snd = false → ∃ (x629 : LL), (x.a = x.a ∧ List.length x.l = List.length x.l
 ∧ x.c = x.c) ∧ x629.i = x339.fst.i ∧ x629.m.n = x339.fst.m.n ∧ (List.length x629.m.d.vs = List.length x339.fst.m.d.vs ∧ x629.m.d.c = x339.fst.m.d.c) ∧ x629.m.d.z = x339.fst.m.d.z
 ∧ x629.m.at_ = x339.fst.m.at_ ∧ (x629.m.d.vs = x339.fst.m.d.vs ∧ List.length x629.m.d.vs = List.length x339.fst.m.d.vs ∧ x629.m.d.c = x339.fst.m.d.c ∧
 (1 : Nat) = (1 : Nat)) ∧ x629.r.n = x339.fst.r.n ∧ x629.r.has = x339.fst.r.has ∧ (List.length x629.r.d.vs = List.length x339.fst.r.d.vs ∧ x629.r.d.c = x339.fst.r.d.c)
 ∧ x629.r.d.z = x339.fst.r.d.z ∧ x629.r.at_ = x339.fst.r.at_ ∧ (x629.r.d.vs = x339.fst.r.d.vs ∧ List.length x629.r.d.vs = List.length x339.fst.r.d.vs ∧ x629.r.d.c = x339.fst.r.d.c
 ∧ (1 : Nat) = (1 : Nat)) ∧ x629.a.g = x339.fst.a.g ∧ x629.a.c.kind = x339.fst.a.c.kind ∧ x629.a.c.ok = x339.fst.a.c.ok ∧ x629.a.c.ofr = x339.fst.a.c.ofr
 ∧ x629.a.c.oto = x339.fst.a.c.oto ∧ x629.a.c.oam = x339.fst.a.c.oam ∧ x629.a.c.okey = x339.fst.a.c.okey ∧ x629.a.c.osl = x339.fst.a.c.osl ∧ x629.a.c.osh = x339.fst.a.c.osh
 ∧ x629.a.c.id = x339.fst.a.c.id ∧ x629.a.c.name = x339.fst.a.c.name ∧ x629.a.c.n = x339.fst.a.c.n ∧ x629.a.c.why = x339.fst.a.c.why ∧ x629.a.c.slot = x339.fst.a.c.slot
 ∧ x629.a.c.ep = x339.fst.a.c.ep ∧ x629.a.c.at_ = x339.fst.a.c.at_ ∧ x629.a.c.last = x339.fst.a.c.last ∧ (x629.la = x339.fst.la ∧ List.length x629.ld = List.length x339.fst.ld
 ∧ x629.lc = x339.fst.lc) ∧ ((LL.ok x x629 ∧ x629.i = x128.fst.i ∧ Mo.ab x629.m = Rm.ab x629.r) ∧ x629.i < (↑(List.length x.l) : Int)) ∧ ∀ (w630 : World),
 ((LX.in x w630 ∧ RowAt w630 x13.la x13.ld) ∧ RowAt w630 x128.fst.la x128.fst.ld) ∧ RowAt w630 x339.fst.la x339.fst.ld → (((∀ (i631 : Nat) (o632 : OpD), x.l[i631]? = some o632
 → (∀ (k633 : Nat) (x634 : Value), (OpD.vals o632)[k633]? = some x634 → ∃ (ad635 : Addr), Option.map (fun (x : Addr) => Addr.add x (i631 * (31 : Nat))) x.a = some ad635
 ∧ World.cell? w630 (Addr.add ad635 k633) = some x634) ∧ (∀ (k636 : Nat) (x637 : Value), o632.d[k636]? = some x637 → ∃ (ad638 : Addr), o632.da = some ad638
 ∧ World.cell? w630 (Addr.add ad638 k636) = some x637) ∧ ∀ (k639 : Nat) (x640 : Value), (x.ad o632)[k639]? = some x640 → ∃ (ad641 : Addr), o632.aa = some ad641
 ∧ World.cell? w630 (Addr.add ad641 k639) = some x640) ∧ ∀ (k642 : Nat) (x643 : Value), x13.ld[k642]? = some x643 → ∃ (ad644 : Addr), x13.la = some ad644
 ∧ World.cell? w630 (Addr.add ad644 k642) = some x643) ∧ ∀ (k645 : Nat) (x646 : Value), x128.fst.ld[k645]? = some x646 → ∃ (ad647 : Addr), x128.fst.la = some ad647
 ∧ World.cell? w630 (Addr.add ad647 k645) = some x646) ∧ ∀ (k648 : Nat) (x649 : Value), x629.ld[k648]? = some x649 → ∃ (ad650 : Addr), x629.la = some ad650
 ∧ World.cell? w630 (Addr.add ad650 k648) = some x649))) ∧
 ∀ (x651 : LL), (LL.ok x x651 ∧ x651.i = x128.fst.i ∧ Mo.ab x651.m = Rm.ab x651.r) ∧ x651.i < (↑(List.length x.l) : Int) → (∃ (x652 : Mo), x652.n = x651.m.n
 ∧ (List.length x652.d.vs = List.length x651.m.d.vs ∧ x652.d.c = x651.m.d.c) ∧ x652.d.z = x651.m.d.z ∧ x652.at_ = x651.m.at_ ∧ (x652.d.vs = x651.m.d.vs
 ∧ List.length x652.d.vs = List.length x651.m.d.vs ∧ x652.d.c = x651.m.d.c ∧ (1 : Nat) = (1 : Nat)) ∧ True ∧ (∀ (w653 : World), ((LX.in x w653 ∧ RowAt w653 x13.la x13.ld)
 ∧ RowAt w653 x128.fst.la x128.fst.ld) ∧ RowAt w653 x651.la x651.ld → True) ∧ ∀ (y654 : Int), (y654 = if Sl.has x652.d = true then (↑(List.length x652.d.vs) : Int) else
 (-1 : Int)) → (True ∧ True) ∧ (∃ (x655 : Rm), x655.n = x651.r.n ∧ x655.has = x651.r.has ∧ (List.length x655.d.vs = List.length x651.r.d.vs ∧ x655.d.c = x651.r.d.c)
 ∧ x655.d.z = x651.r.d.z ∧ x655.at_ = x651.r.at_ ∧ (x655.d.vs = x651.r.d.vs ∧ List.length x655.d.vs = List.length x651.r.d.vs ∧ x655.d.c = x651.r.d.c ∧
 (1 : Nat) = (1 : Nat)) ∧ True ∧ (∀ (w656 : World), (((LX.in x w656 ∧ RowAt w656 x13.la x13.ld) ∧ RowAt w656 x128.fst.la x128.fst.ld) ∧ RowAt w656 x651.la x651.ld)
 ∧ True → True) ∧ ∀ (y657 : Int), (y657 = if x655.has = true then (↑(List.length x655.d.vs) : Int) else (-1 : Int)) → True ∧ ((y654 != y657) = false → ((false = true
 → (True ∧ True ∧ True ∧ x655.at_ = x655.at_ ∧ True) ∧ (((0 : Int) != x655.at_) = true → ∃ (y658 : Bool), y658 = false ∧ y658 = true ∧ ∀ (w659 : World),
 ((((LX.in x w659 ∧ RowAt w659 x13.la x13.ld) ∧ RowAt w659 x128.fst.la x128.fst.ld) ∧ RowAt w659 x651.la x651.ld) ∧ True) ∧ True → True) ∧ (((0 : Int) != x655.at_) = false
 → ∃ (x660 : LL), ((x.a = x.a ∧ List.length x.l = List.length x.l ∧ x.c = x.c) ∧ x660.i = IntKind.wrap IntKind.i64 (x651.i + (1 : Int)) ∧ x660.m.n = x652.n
 ∧ (List.length x660.m.d.vs = List.length x652.d.vs ∧ x660.m.d.c = x652.d.c) ∧ x660.m.d.z = x652.d.z ∧ x660.m.at_ = x652.at_ ∧ (x660.m.d.vs = x652.d.vs
 ∧ List.length x660.m.d.vs = List.length x652.d.vs ∧ x660.m.d.c = x652.d.c ∧ (1 : Nat) = (1 : Nat)) ∧ x660.r.n = x655.n ∧ x660.r.has = x655.has ∧ (List.length x660.r.d.vs = List.length x655.d.vs
 ∧ x660.r.d.c = x655.d.c) ∧ x660.r.d.z = x655.d.z ∧ x660.r.at_ = x655.at_ ∧ (x660.r.d.vs = x655.d.vs ∧ List.length x660.r.d.vs = List.length x655.d.vs ∧ x660.r.d.c = x655.d.c
 ∧ (1 : Nat) = (1 : Nat)) ∧ x660.a.g = x651.a.g ∧ x660.a.c.kind = x651.a.c.kind ∧ x660.a.c.ok = x651.a.c.ok ∧ x660.a.c.ofr = x651.a.c.ofr ∧ x660.a.c.oto = x651.a.c.oto
 ∧ x660.a.c.oam = x651.a.c.oam ∧ x660.a.c.okey = x651.a.c.okey ∧ x660.a.c.osl = x651.a.c.osl ∧ x660.a.c.osh = x651.a.c.osh ∧ x660.a.c.id = x651.a.c.id ∧ x660.a.c.name = x651.a.c.name
 ∧ x660.a.c.n = x651.a.c.n ∧ x660.a.c.why = x651.a.c.why ∧ x660.a.c.slot = x651.a.c.slot ∧ x660.a.c.ep = x651.a.c.ep ∧ x660.a.c.at_ = x651.a.c.at_ ∧ x660.a.c.last = x651.a.c.last
 ∧ (x660.la = x651.la ∧ List.length x660.ld = List.length x651.ld ∧ x660.lc = x651.lc) ∧ (LL.ok x x660 ∧ Mo.ab x660.m = Rm.ab x660.r) ∧ ∀ (w661 : World),
 ((((LX.in x w661 ∧ RowAt w661 x13.la x13.ld) ∧ RowAt w661 x128.fst.la x128.fst.ld) ∧ RowAt w661 x651.la x651.ld) ∧ True) ∧ True → (∀ (i662 : Nat) (o663 : OpD), x.l[i662]? = some o663
 → (∀ (k664 : Nat) (x665 : Value), (OpD.vals o663)[k664]? = some x665 → ∃ (ad666 : Addr), Option.map (fun (x : Addr) => Addr.add x (i662 * (31 : Nat))) x.a = some ad666
 ∧ World.cell? w661 (Addr.add ad666 k664) = some x665) ∧ (∀ (k667 : Nat) (x668 : Value), o663.d[k667]? = some x668 → ∃ (ad669 : Addr), o663.da = some ad669
 ∧ World.cell? w661 (Addr.add ad669 k667) = some x668) ∧ ∀ (k670 : Nat) (x671 : Value), (x.ad o663)[k670]? = some x671 → ∃ (ad672 : Addr), o663.aa = some ad672
 ∧ World.cell? w661 (Addr.add ad672 k670) = some x671) ∧ ∀ (k673 : Nat) (x674 : Value), x660.ld[k673]? = some x674 → ∃ (ad675 : Addr), x660.la = some ad675
 ∧ World.cell? w661 (Addr.add ad675 k673) = some x674) ∧ List.length x.l - Int.toNat x660.i < List.length x.l - Int.toNat x13.i)) ∧ (false = false → (True
 ∧ True ∧ True ∧ x655.at_ = x655.at_ ∧ True) ∧ ((x652.at_ != x655.at_) = true → ∃ (y676 : Bool), y676 = false ∧ y676 = true ∧ ∀ (w677 : World), ((((LX.in x w677
 ∧ RowAt w677 x13.la x13.ld) ∧ RowAt w677 x128.fst.la x128.fst.ld) ∧ RowAt w677 x651.la x651.ld) ∧ True) ∧ True → True) ∧ ((x652.at_ != x655.at_) = false
 → ∃ (x678 : LL), ((x.a = x.a ∧ List.length x.l = List.length x.l ∧ x.c = x.c) ∧ x678.i = IntKind.wrap IntKind.i64 (x651.i + (1 : Int)) ∧ x678.m.n = x652.n
 ∧ (List.length x678.m.d.vs = List.length x652.d.vs ∧ x678.m.d.c = x652.d.c) ∧ x678.m.d.z = x652.d.z ∧ x678.m.at_ = x652.at_ ∧ (x678.m.d.vs = x652.d.vs
 ∧ List.length x678.m.d.vs = List.length x652.d.vs ∧ x678.m.d.c = x652.d.c ∧ (1 : Nat) = (1 : Nat)) ∧ x678.r.n = x655.n ∧ x678.r.has = x655.has ∧ (List.length x678.r.d.vs = List.length x655.d.vs
 ∧ x678.r.d.c = x655.d.c) ∧ x678.r.d.z = x655.d.z ∧ x678.r.at_ = x655.at_ ∧ (x678.r.d.vs = x655.d.vs ∧ List.length x678.r.d.vs = List.length x655.d.vs ∧ x678.r.d.c = x655.d.c
 ∧ (1 : Nat) = (1 : Nat)) ∧ x678.a.g = x651.a.g ∧ x678.a.c.kind = x651.a.c.kind ∧ x678.a.c.ok = x651.a.c.ok ∧ x678.a.c.ofr = x651.a.c.ofr ∧ x678.a.c.oto = x651.a.c.oto
 ∧ x678.a.c.oam = x651.a.c.oam ∧ x678.a.c.okey = x651.a.c.okey ∧ x678.a.c.osl = x651.a.c.osl ∧ x678.a.c.osh = x651.a.c.osh ∧ x678.a.c.id = x651.a.c.id ∧ x678.a.c.name = x651.a.c.name
 ∧ x678.a.c.n = x651.a.c.n ∧ x678.a.c.why = x651.a.c.why ∧ x678.a.c.slot = x651.a.c.slot ∧ x678.a.c.ep = x651.a.c.ep ∧ x678.a.c.at_ = x651.a.c.at_ ∧ x678.a.c.last = x651.a.c.last
 ∧ (x678.la = x651.la ∧ List.length x678.ld = List.length x651.ld ∧ x678.lc = x651.lc) ∧ (LL.ok x x678 ∧ Mo.ab x678.m = Rm.ab x678.r) ∧ ∀ (w679 : World),
 ((((LX.in x w679 ∧ RowAt w679 x13.la x13.ld) ∧ RowAt w679 x128.fst.la x128.fst.ld) ∧ RowAt w679 x651.la x651.ld) ∧ True) ∧ True → (∀ (i680 : Nat) (o681 : OpD), x.l[i680]? = some o681
 → (∀ (k682 : Nat) (x683 : Value), (OpD.vals o681)[k682]? = some x683 → ∃ (ad684 : Addr), Option.map (fun (x : Addr) => Addr.add x (i680 * (31 : Nat))) x.a = some ad684
 ∧ World.cell? w679 (Addr.add ad684 k682) = some x683) ∧ (∀ (k685 : Nat) (x686 : Value), o681.d[k685]? = some x686 → ∃ (ad687 : Addr), o681.da = some ad687
 ∧ World.cell? w679 (Addr.add ad687 k685) = some x686) ∧ ∀ (k688 : Nat) (x689 : Value), (x.ad o681)[k688]? = some x689 → ∃ (ad690 : Addr), o681.aa = some ad690
 ∧ World.cell? w679 (Addr.add ad690 k688) = some x689) ∧ ∀ (k691 : Nat) (x692 : Value), x678.ld[k691]? = some x692 → ∃ (ad693 : Addr), x678.la = some ad693
 ∧ World.cell? w679 (Addr.add ad693 k691) = some x692) ∧ List.length x.l - Int.toNat x678.i < List.length x.l - Int.toNat x13.i))) ∧ True) ∧ ((y654 != y657) = true
 → ((True ∧ True ∧ True ∧ True ∧ True) ∧ ∃ (y694 : Bool), y694 = false ∧ y694 = true ∧ ∀ (w695 : World), ((((LX.in x w695 ∧ RowAt w695 x13.la x13.ld) ∧ RowAt w695 x128.fst.la x128.fst.ld)
 ∧ RowAt w695 x651.la x651.ld) ∧ True) ∧ True → True) ∧ True)) ∧ True) ∧ True) ∧
 (decide (x13.i < (100 : Int)) = false → ∃ (x696 : Unit), True ∧ (∀ (w697 : World), LX.in x w697 ∧ RowAt w697 x13.la x13.ld → True) ∧ ∀ (y698 : Bool), y698 = true
 → ∃ (y699 : Bool), y699 = y698 ∧ y699 = true ∧ ∀ (w700 : World), (LX.in x w700 ∧ RowAt w700 x13.la x13.ld) ∧ True → True)) ∧
 (decide (x13.i < (↑(List.length x.l) : Int)) = false → ∃ (x701 : Unit), True ∧ (∀ (w702 : World), LX.in x w702 ∧ RowAt w702 x13.la x13.ld → True) ∧ ∀
 (y703 : Bool), y703 = true → ∃ (y704 : Bool), y704 = y703 ∧ y704 = true ∧ ∀ (w705 : World), (LX.in x w705 ∧ RowAt w705 x13.la x13.ld) ∧ True → True))) := by kernel_rfl

end Go.Proofs.Ytgjoileoekbkoaa
