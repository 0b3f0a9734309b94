/-
  The contracts of the mover's functions.
-/
import Derived.Test.YtgjoileoekbkoaaC
set_option linter.unusedVariables false
namespace Go.Proofs.Ytgjoileoekbkoaa
open Go Go.SX

abbrev I (n : Int) : Seg := .one (.v (.int .i64 n))
abbrev B (p : Bool) : Seg := .one (.b p)
abbrev T (s : ByteArray) : Seg := .one (.v (.string s))

/-- A slice of the call's own: its bytes; its capacity; its base where that is 0. -/
structure Sl where
  vs : List Value
  c : Nat
  z : ZB
abbrev Sl.nil : Sl := ⟨[], 0, .nil⟩
abbrev Sl.sv (s : Sl) (i : Nat) : SV := .osl i s.vs.length s.c s.z
abbrev Sl.blk (s : Sl) (i : Nat) : Nat × SB := (i, .orow s.vs s.vs.length s.c 1)
def Sl.has (s : Sl) : Bool := !(s.c == 0 && s.z.isNil)

/-- A move. -/
structure Mv where
  slot : Int
  frm : Int
  to : Int
  ep : Int
  ph : Int
  n : Int
abbrev Mv.cells (x : Mv) : List Seg := [I x.slot, I x.frm, I x.to, I x.ep, I x.ph, I x.n]

/-- A command, but for its data. -/
structure Cm where
  kind : Int := 0
  ok : Int := 0
  ofr : ByteArray := ByteArray.empty
  oto : ByteArray := ByteArray.empty
  oam : Int := 0
  okey : ByteArray := ByteArray.empty
  osl : Int := 0
  osh : Int := 0
  id : ByteArray := ByteArray.empty
  name : ByteArray := ByteArray.empty
  n : Int := 0
  why : Int := 0
  slot : Int := 0
  ep : Int := 0
  at_ : Int := 0
  last : Bool := false
abbrev Cm.cells (c : Cm) (d : SV) : List Seg := [I c.kind, I c.ok, T c.ofr, T c.oto, I c.oam, T c.okey, I c.osl, I c.osh, T c.id, T c.name, I c.n, I c.why, I c.slot, I c.ep, I c.at_, B c.last, .one d]
/-- An ask: its group; its command; its data. -/
structure Ak where
  g : Int
  c : Cm
abbrev Ak.cells (a : Ak) (d : SV) : List Seg := [I a.g, I a.c.kind, I a.c.ok, T a.c.ofr, T a.c.oto, I a.c.oam, T a.c.okey, I a.c.osl, I a.c.osh, T a.c.id, T a.c.name, I a.c.n, I a.c.why, I a.c.slot, I a.c.ep, I a.c.at_, B a.c.last, .one d]
/-- A result, but for its data. -/
structure Rs where
  why : Int
  wait : Bool
  rwhy : Int
  ram : Int
abbrev Rs.cells (r : Rs) (rows d : SV) : List Seg := [I r.why, B r.wait, I r.rwhy, I r.ram, .one rows, .one d]

/-! ### What a mover does, in plain words -/
structure Ab where
  n : Int
  has : Bool
  vs : List Value
  at_ : Int
def Ab.know (m : Ab) (x : Mv) : Ab := if m.n ≠ x.n ∨ x.ph = 0 then ⟨x.n, false, [], 0⟩ else m
def Ab.ask (m : Ab) (x : Mv) : Option (Ak × List Value) :=
  if x.ph = 3 then some (⟨x.frm, { kind := 10, slot := x.slot, ep := x.ep }⟩, [])
  else if x.ph = 2 ∧ m.has = true then
    some (⟨x.to, { kind := 9, slot := x.slot, ep := x.ep, at_ := m.at_, last := decide (min (m.at_ + 1000) (m.vs.length : Int) = m.vs.length) }⟩,
      (m.vs.drop m.at_.toNat).take ((min (m.at_ + 1000) (m.vs.length : Int)).toNat - m.at_.toNat))
  else if x.ph = 1 ∨ x.ph = 2 then some (⟨x.frm, { kind := 8, slot := x.slot, ep := x.ep }⟩, [])
  else none
/-- An answer is heard: the state; is the phase over? -/
def Ab.hear (m : Ab) (x : Mv) (c : Cm) (k : Nat) (why : Int) (d : List Value) : Ab × Bool :=
  if c.kind = 8 then
    if why = 0 ∧ (x.ph = 1 ∨ x.ph = 2) then (⟨m.n, true, d, if m.at_ > d.length then 0 else m.at_⟩, decide (x.ph = 1)) else (m, false)
  else if c.kind = 9 then
    if x.ph = 2 ∧ m.has = true ∧ c.at_ = m.at_ then
      (if why = 0 then { m with at_ := min (m.at_ + k) m.vs.length } else if why = 5 ∨ why = 3 then { m with at_ := 0 } else m, decide (why = 0) && c.last)
    else (m, false)
  else if c.kind = 10 then (m, decide (why = 0) && decide (x.ph = 3))
  else (m, false)
def Ab.told (m : Ab) (x : Mv) (a : Ak) (k : Nat) (why : Int) (d : List Value) : Ab × Bool :=
  if a.g ≠ (if a.c.kind = 9 then x.to else x.frm) ∨ a.c.slot ≠ x.slot ∨ a.c.ep ≠ x.ep then (m.know x, false) else (m.know x).hear x a.c k why d

/-- Such a state occurs. -/
structure Ab.ok (m : Ab) : Prop where
  len : m.vs.length ≤ 140737488355328
  at0 : 0 ≤ m.at_
  at1 : m.at_ ≤ m.vs.length
  no : m.has = false → m.vs = [] ∧ m.at_ = 0
  u8 : ∀ v ∈ m.vs, isU8 v

/-! ### The mover -/
structure Mo where
  n : Int
  d : Sl
  at_ : Int
abbrev Mo.cells (m : Mo) (i : Nat) : List Seg := [I m.n, .one (m.d.sv i), I m.at_]
abbrev Mo.hp (m : Mo) (i j : Nat) : List (Nat × SB) := [(i, .cells (m.cells j)), m.d.blk j]
def Mo.ab (m : Mo) : Ab := ⟨m.n, m.d.has, m.d.vs, m.at_⟩
def Mo.ok (m : Mo) : Prop := m.ab.ok ∧ m.d.vs.length ≤ m.d.c

def knowS : FSpec where
  X := Mo × Mv
  args x := [.ptr 0 0, .agg x.2.cells]
  hp x := x.1.hp 0 1
  pp x := x.1.ok
  nx := 2
  outs := [{
    Y := Mo
    ret := fun _ _ => []
    hq := fun _ y => y.hp 0 2
    qp := fun x y => y.ab = x.1.ab.know x.2 ∧ y.ok
    nx2 := 3 }]

def nextS : FSpec where
  X := Mo × Mv
  args x := [.ptr 0 0, .agg x.2.cells]
  hp x := x.1.hp 0 1
  pp x := x.1.ok
  nx := 2
  outs := [{
    Y := Ak × Sl × Bool
    ret := fun _ y => [.agg (y.1.cells (y.2.1.sv 2)), .b y.2.2]
    hq := fun x y => x.1.hp 0 1 ++ [y.2.1.blk 2]
    qp := fun x y => match x.1.ab.ask x.2 with
      | none => y.2.2 = false
      | some q => (y.2.2 = true ∧ y.1 = q.1 ∧ y.2.1.vs = q.2) ∧ y.2.1.vs.length ≤ y.2.1.c
    nx2 := 3 }]

def asksS : FSpec where
  X := Mo × Mv
  args x := [.ptr 0 0, .agg x.2.cells]
  hp x := x.1.hp 0 1
  pp x := x.1.ok
  nx := 2
  outs := [{
    Y := Mo
    ret := fun _ _ => [.nils]
    hq := fun _ y => y.hp 0 2
    qp := fun x y => (y.ab = x.1.ab.know x.2 ∧ y.ok) ∧ y.ab.ask x.2 = none
    nx2 := 3 }, {
    Y := Mo × Ak × Sl × Nat × Nat × List Value
    ret := fun _ y => [.sub 3 0 1 y.2.2.2.1]
    hq := fun _ y => y.1.hp 0 2 ++ [(3, .cells (y.2.1.cells (y.2.2.1.sv 4) ++ [.many y.2.2.2.2.1 y.2.2.2.2.2])), y.2.2.1.blk 4]
    qp := fun x y => (y.1.ab = x.1.ab.know x.2 ∧ y.1.ok) ∧ y.1.ab.ask x.2 = some (y.2.1, y.2.2.1.vs) ∧ y.2.2.1.vs.length ≤ y.2.2.1.c
    nx2 := 5 }]

abbrev cmdCells (p : Bool) (x : Mv) : List Seg := [I (bif p then 2 else 0), I 0, I 0, I (bif p then x.n else 0), I (bif p then x.ph else 0)]
structure TX where
  m : Mo
  x : Mv
  a : Ak
  ad : Sl
  r : Rs
  rd : Sl
def toldS : FSpec where
  X := TX
  args t := [.ptr 0 0, .agg t.x.cells, .agg (t.a.cells (t.ad.sv 2)), .agg (t.r.cells .nils (t.rd.sv 3))]
  hp t := t.m.hp 0 1 ++ [t.ad.blk 2, t.rd.blk 3]
  pp t := t.m.ok ∧ (∀ v ∈ t.rd.vs, isU8 v) ∧ t.rd.vs.length ≤ 140737488355328 ∧ t.ad.vs.length ≤ 140737488355328
  nx := 4
  outs := [{
    Y := Mo × Bool
    ret := fun t y => [.agg (cmdCells y.2 t.x), .b y.2]
    hq := fun t y => y.1.hp 0 4 ++ [t.ad.blk 2, t.rd.blk 3]
    qp := fun t y => (y.1.ab, y.2) = t.m.ab.told t.x t.a t.ad.vs.length t.r.why t.rd.vs ∧ y.1.ok
    nx2 := 5 }]

def hearS : FSpec where
  X := TX
  args t := [.ptr 0 0, .agg t.x.cells, .agg (t.a.c.cells (t.ad.sv 2)), .agg (t.r.cells .nils (t.rd.sv 3))]
  hp t := t.m.hp 0 1 ++ [t.ad.blk 2, t.rd.blk 3]
  pp t := t.m.ok ∧ (∀ v ∈ t.rd.vs, isU8 v) ∧ t.rd.vs.length ≤ 140737488355328 ∧ t.ad.vs.length ≤ 140737488355328
  nx := 4
  outs := [{
    Y := Mo × Bool
    ret := fun t y => [.b y.2]
    hq := fun t y => y.1.hp 0 4 ++ [t.ad.blk 2, t.rd.blk 3]
    qp := fun t y => (y.1.ab, y.2) = t.m.ab.hear t.x t.a.c t.ad.vs.length t.r.why t.rd.vs ∧ y.1.ok
    nx2 := 5 }]

def hasS : FSpec where
  X := Mo
  args _ := [.ptr 0 0]
  hp x := x.hp 0 1
  nx := 2
  outs := [{
    Y := Int
    ret := fun _ y => [.v (.int .i64 y)]
    hq := fun x _ => x.hp 0 1
    qp := fun x y => y = if x.ab.has then (x.ab.vs.length : Int) else -1
    nx2 := 2 }]

/-! ### The reference -/
structure Rm where
  n : Int
  has : Bool
  d : Sl
  at_ : Int
abbrev Rm.cells (m : Rm) (i : Nat) : List Seg := [I m.n, B m.has, .one (m.d.sv i), I m.at_]
abbrev Rm.hp (m : Rm) (i j : Nat) : List (Nat × SB) := [(i, .cells (m.cells j)), m.d.blk j]
def Rm.ab (m : Rm) : Ab := ⟨m.n, m.has, m.d.vs, m.at_⟩
def Rm.ok (m : Rm) : Prop := m.ab.ok ∧ m.d.vs.length ≤ m.d.c

def rknowS : FSpec where
  X := Rm × Mv
  args x := [.ptr 0 0, .agg x.2.cells]
  hp x := x.1.hp 0 1
  pp x := x.1.ok
  nx := 2
  outs := [{
    Y := Rm
    ret := fun _ _ => []
    hq := fun _ y => y.hp 0 2
    qp := fun x y => y.ab = x.1.ab.know x.2 ∧ y.ok
    nx2 := 3 }]

def rasksS : FSpec where
  X := Rm × Mv
  args x := [.ptr 0 0, .agg x.2.cells]
  hp x := x.1.hp 0 1
  pp x := x.1.ok
  nx := 2
  outs := [{
    Y := Rm
    ret := fun _ _ => [.nils]
    hq := fun _ y => y.hp 0 2
    qp := fun x y => (y.ab = x.1.ab.know x.2 ∧ y.ok) ∧ y.ab.ask x.2 = none
    nx2 := 3 }, {
    Y := Rm × Ak × Sl
    ret := fun _ y => [.sub 3 0 1 1]
    hq := fun _ y => y.1.hp 0 2 ++ [(3, .cells (y.2.1.cells (y.2.2.sv 4))), y.2.2.blk 4]
    qp := fun x y => (y.1.ab = x.1.ab.know x.2 ∧ y.1.ok) ∧ y.1.ab.ask x.2 = some (y.2.1, y.2.2.vs)
    nx2 := 5 }]

/-- Told: the ask's data stand in such memory, too. -/
structure RY where
  m : Rm
  x : Mv
  a : Ak
  aa : Option Addr
  ac : Nat
  al : Nat
  r : Rs
  rn : Nat
  ra : Option Addr
  rc : Nat
  da : Option Addr
  dc : Nat
  d : List Value
def rtoldT : FSpec where
  X := RY
  args t := [.ptr 0 0, .agg t.x.cells, .agg (t.a.cells (.v (.slice t.aa t.al t.ac))), .agg (t.r.cells (.v (.slice t.ra t.rn t.rc)) (.v (.slice t.da t.d.length t.dc)))]
  hp t := t.m.hp 0 1
  pp t := t.m.ok ∧ (∀ v ∈ t.d, isU8 v) ∧ t.d.length ≤ 140737488355328 ∧ t.al ≤ 140737488355328
  pf t w := RowAt w t.da t.d
  nx := 2
  outs := [{
    Y := Rm × Bool
    ret := fun t y => [.agg (cmdCells y.2 t.x), .b y.2]
    hq := fun t y => y.1.hp 0 2
    qp := fun t y => (y.1.ab, y.2) = t.m.ab.told t.x t.a t.al t.r.why t.d ∧ y.1.ok
    nx2 := 3 }]
def rcountS : FSpec where
  X := Rm
  args _ := [.ptr 0 0]
  hp x := x.hp 0 1
  nx := 2
  outs := [{
    Y := Int
    ret := fun _ y => [.v (.int .i64 y)]
    hq := fun x _ => x.hp 0 1
    qp := fun x y => y = if x.ab.has then (x.ab.vs.length : Int) else -1
    nx2 := 2 }]

/-- Two asks that are alike. -/
def sameS : FSpec where
  X := Ak × Ak × Sl × Sl
  args x := [.agg (x.1.cells (x.2.2.1.sv 0)), .agg (x.2.1.cells (x.2.2.2.sv 1))]
  hp x := [x.2.2.1.blk 0, x.2.2.2.blk 1]
  pp x := x.1 = x.2.1 ∧ x.2.2.1.vs = x.2.2.2.vs ∧ ∀ v ∈ x.2.2.1.vs, isU8 v
  nx := 2
  outs := [{
    Y := Bool
    ret := fun _ y => [.b y]
    hq := fun x _ => [x.2.2.1.blk 0, x.2.2.2.blk 1]
    qp := fun x y => y = true
    nx2 := 2 }]

/-- What is spoiled is lost. -/
def spoilS : FSpec where
  X := Sl
  args x := [x.sv 0]
  hp x := [x.blk 0]
  pp x := x.vs.length + 1 ≤ 140737488355328 ∧ (∀ v ∈ x.vs, isU8 v) ∧ x.vs.length ≤ x.c
  nx := 1
  outs := [{
    Y := Unit
    ret := fun _ _ => []
    hq := fun _ _ => []
    qp := fun _ _ => True
    nx2 := 1 }]

def knownS : FSpec where
  X := Unit
  args _ := []
  hp _ := []
  nx := 0
  outs := [{
    Y := Bool
    ret := fun _ y => [.b y]
    hq := fun _ _ => []
    qp := fun _ y => y = true
    nx2 := 0 }]

def Γ22 : Env := { Γ0 with N := 21, F := 2, dr := lk dr22 }
def Γ27 : Env := { Γ0 with N := 8 }
def Γ26 : Env := { Γ0 with N := 90, F := 2, dr := lk dr26, fs := lk [(27, inl Γ27 c27 r27)] }
def Γ20 : Env := { Γ0 with N := 30, F := 2, dr := lk dr20 }
def Γ23 : Env := { Γ0 with N := 113, F := 4, dr := lk dr23 }
def Γ15 : Env := { Γ0 with N := 17, F := 2 }
def Γ16 : Env := { Γ0 with N := 13, F := 2 }
def Γ21 : Env := { Γ0 with N := 82 }
def Γ8 : Env := { Γ0 with N := 17, F := 2, fs := lk [(21, inl Γ21 c21 r21)] }
def Γ19 : Env := { Γ0 with N := 6 }
def Γ25 : Env := { Γ0 with N := 21, fs := lk [(22, fnS knowS), (26, fnS nextS)], ur := fun _ => 1 }
def Γ5 : Env := { Γ0 with N := 20, F := 2, fs := lk [(19, inl Γ19 c19 r19)], it := lk [(25, itOf Γ25 c25)] }
def Γ12 : Env := { Γ0 with N := 59, F := 4, fs := lk [(22, fnS knowS), (23, fnS hearS)] }
def Γ7 : Env := { Γ0 with N := 93, F := 2, dr := lk dr7, fs := lk [(20, fnS rknowS)] }
def Γ24 : Env := { Γ0 with N := 9 }
/-- Where Told has looked at whom it was asked. -/
abbrev q8 (x : RY) : Bool := x.a.c.kind == 8 && (x.x.ph == 1 || x.x.ph == 2) && x.r.why == 0
abbrev q9 (x : RY) (m : Rm) : Bool := x.a.c.kind == 9 && x.x.ph == 2 && m.has && x.a.c.at_ == m.at_
abbrev q10 (x : RY) : Bool := x.a.c.kind == 10 && x.x.ph == 3 && x.r.why == 0
def L14 (x : RY) (t : Nat) (q : Rm → Bool → Prop) : LoopAnn where
  X := Rm × Bool
  tm y := [(0, .ptr 0 0), (5, .ptr 4 0), (6, .ptr 5 0), (7, .ptr 6 0), (8, .ptr 7 0), (10, .ptr 8 0), (t, .b y.2)]
  hp y := y.1.hp 0 3 ++ [(4, .cells x.x.cells), (5, .cells (x.a.cells (.v (.slice x.aa x.al x.ac)))), (6, .cells (x.r.cells (.v (.slice x.ra x.rn x.rc)) (.v (.slice x.da x.d.length x.dc)))), (7, .cells [I 0, I 0, I 0, I 0, I 0]), (8, .cells (x.a.c.cells (.v (.slice x.aa x.al x.ac))))]
  nx := 9
  ok y := (y.1.ab = x.m.ab.know x.x ∧ y.1.ok) ∧ x.m.ab.told x.x x.a x.al x.r.why x.d = y.1.ab.hear x.x x.a.c x.al x.r.why x.d ∧ q y.1 y.2
  fx _ _ := True
  μ _ := 0
def L14r (x : RY) : LoopAnn where
  X := Rm
  tm _ := [(8, .ptr 4 0)]
  hp y := y.hp 0 3 ++ [(4, .cells [I 0, I 0, I 0, I 0, I 0])]
  nx := 5
  ok y := (y.ab, false) = x.m.ab.told x.x x.a x.al x.r.why x.d ∧ y.ok
  fx _ _ := True
  μ _ := 0
def Γ14 (x : RY) : Env := { Γ0 with N := 198, F := 2, dr := lk dr14, fs := lk [(20, fnS rknowS), (24, inl Γ24 c24 r24)], ct := fun k _ => lk [(9, L14 x 43 (fun _ p => p = q8 x)), (19, L14 x 106 (fun m p => q8 x = false ∧ p = q9 x m)), (28, L14 x 179 (fun m p => q8 x = false ∧ q9 x m = false ∧ p = q10 x)), (29, L14r x)] k }
def L10 : LoopAnn where
  X := Int × Sl
  tm x := [(0, x.2.sv 0), (2, .v (.int .i64 x.1))]
  hp x := [x.2.blk 0]
  nx := 1
  ok x := 0 ≤ x.1 ∧ x.1 ≤ x.2.vs.length ∧ x.2.vs.length + 1 ≤ 140737488355328 ∧ (∀ v ∈ x.2.vs, isU8 v) ∧ x.2.vs.length ≤ x.2.c
  fx _ _ := True
  μ x := x.2.vs.length - x.1.toNat
def Γ10 : Env := { Γ0 with N := 20, F := 1, lp := fun _ => some L10 }
def Γ4 : Env := { Γ0 with N := 3 }
def Γ17 : Env := { Γ0 with N := 9 }
def Γ18 : Env := { Γ0 with N := 123, dr := lk dr18, fs := lk [(4, inl Γ4 c4 r4), (5, fnS asksS), (12, fnS toldS), (15, fnS hasS), (17, inl Γ17 c17 r17)] }
end Go.Proofs.Ytgjoileoekbkoaa
