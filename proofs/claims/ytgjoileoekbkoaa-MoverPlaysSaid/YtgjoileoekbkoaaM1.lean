/-
  The law: its loop, its contract.
-/
import Derived.Test.YtgjoileoekbkoaaM0
set_option linter.unusedVariables false
namespace Go.Proofs.Ytgjoileoekbkoaa
open Go Go.SX

/-- A call, as it is handed in. -/
structure OpD where
  kind : Int
  mv : Mv
  a : Ak
  aa : Option Addr
  al : Nat
  ac : Nat
  r : Rs
  ra : Option Addr
  rn : Nat
  rc : Nat
  da : Option Addr
  dc : Nat
  d : List Value
def OpD.vals (o : OpD) : List Value := [.int .i64 o.kind, .int .i64 o.mv.slot, .int .i64 o.mv.frm, .int .i64 o.mv.to, .int .i64 o.mv.ep, .int .i64 o.mv.ph, .int .i64 o.mv.n,
  .int .i64 o.a.g, .int .i64 o.a.c.kind, .int .i64 o.a.c.ok, .string o.a.c.ofr, .string o.a.c.oto, .int .i64 o.a.c.oam, .string o.a.c.okey, .int .i64 o.a.c.osl, .int .i64 o.a.c.osh, .string o.a.c.id, .string o.a.c.name, .int .i64 o.a.c.n, .int .i64 o.a.c.why, .int .i64 o.a.c.slot, .int .i64 o.a.c.ep, .int .i64 o.a.c.at_, .bool o.a.c.last, .slice o.aa o.al o.ac,
  .int .i64 o.r.why, .bool o.r.wait, .int .i64 o.r.rwhy, .int .i64 o.r.ram, .slice o.ra o.rn o.rc, .slice o.da o.d.length o.dc]
structure LX where
  a : Option Addr
  c : Nat
  l : List OpD
  /-- what the asks' data hold -/
  ad : OpD → List Value
def LX.ok (x : LX) : Prop := ∀ o ∈ x.l, (∀ v ∈ o.d, isU8 v) ∧ o.d.length ≤ 140737488355327 ∧ (∀ v ∈ x.ad o, isU8 v) ∧ (x.ad o).length = o.al ∧ o.al ≤ 140737488355327
def LX.in (x : LX) (w : World) : Prop := ∀ i o, x.l[i]? = some o → RowAt w (x.a.map (·.add (i * 31))) o.vals ∧ RowAt w o.da o.d ∧ RowAt w o.aa (x.ad o)

def lawS : FSpec where
  X := LX
  args x := [.v (.slice x.a x.l.length x.c)]
  hp _ := []
  pp x := x.ok
  pf x w := x.in w
  nx := 0
  outs := [{
    Y := Bool
    ret := fun _ y => [.b y]
    hq := fun _ _ => []
    qp := fun _ y => y = true
    nx2 := 0 }]

structure LL where
  i : Int
  m : Mo
  r : Rm
  a : Ak
  la : Option Addr
  lc : Nat
  ld : List Value
abbrev OpD.cells (o : OpD) : List Seg := [I o.kind, I o.mv.slot, I o.mv.frm, I o.mv.to, I o.mv.ep, I o.mv.ph, I o.mv.n,
  I o.a.g, I o.a.c.kind, I o.a.c.ok, T o.a.c.ofr, T o.a.c.oto, I o.a.c.oam, T o.a.c.okey, I o.a.c.osl, I o.a.c.osh, T o.a.c.id, T o.a.c.name, I o.a.c.n, I o.a.c.why, I o.a.c.slot, I o.a.c.ep, I o.a.c.at_, B o.a.c.last, .one (.v (.slice o.aa o.al o.ac)),
  I o.r.why, B o.r.wait, I o.r.rwhy, I o.r.ram, .one (.v (.slice o.ra o.rn o.rc)), .one (.v (.slice o.da o.d.length o.dc))]
abbrev LL.tm (x : LX) (y : LL) : List (Nat × SV) := [(0, .v (.slice x.a x.l.length x.c)), (3, .ptr 0 0), (4, .ptr 1 0), (5, .ptr 2 0), (6, .v (.int .i64 y.i))]
abbrev LL.hp (y : LL) : List (Nat × SB) := y.m.hp 0 3 ++ (y.r.hp 1 4 ++ [(2, .cells (y.a.cells (.v (.slice y.la y.ld.length y.lc))))])
structure LL.ok (x : LX) (y : LL) : Prop where
  i0 : 0 ≤ y.i
  i1 : y.i ≤ x.l.length
  m : y.m.ok
  r : y.r.ok
  u8 : ∀ v ∈ y.ld, isU8 v
  len : y.ld.length ≤ 140737488355327
def sl2 (st : SState) : List Nat := match lk st.hp 2 with
  | some (SB.cells l) => idsS l
  | _ => []
def L3 (x : LX) : LoopAnn where
  X := LL
  tm y := y.tm x
  hp y := y.hp
  nx := 5
  ok y := y.ok x ∧ y.m.ab = y.r.ab
  fx y w := RowAt w y.la y.ld
  μ y := x.l.length - y.i.toNat
  sl := sl2
def wix (st : SState) (f : Int → Option LoopAnn) : Option LoopAnn := match lk st.tm 6 with
  | some (.v (.int .i64 i)) => f i
  | _ => none
/-- A call is at hand. -/
def LA (x : LX) (i : Int) : LoopAnn where
  X := LL × OpD
  tm y := y.1.tm x ++ [(7, .ptr 5 0)]
  hp y := y.1.hp ++ [(5, .cells y.2.cells)]
  nx := 6
  ok y := (y.1.ok x ∧ y.1.i = i ∧ y.1.m.ab = y.1.r.ab) ∧ x.l[y.1.i.toNat]? = some y.2
  fx y w := RowAt w y.1.la y.1.ld
  μ _ := 0
def LB (x : LX) (i : Int) : LoopAnn where
  X := LL × OpD × Bool
  tm y := y.1.tm x ++ [(7, .ptr 5 0), (103, .b y.2.2)]
  hp y := y.1.hp ++ [(5, .cells y.2.1.cells)]
  nx := 6
  ok y := (y.1.ok x ∧ y.1.i = i ∧ y.1.m.ab = y.1.r.ab) ∧ x.l[y.1.i.toNat]? = some y.2.1
  fx y w := RowAt w y.1.la y.1.ld
  μ _ := 0
/-- What is told of: an ask; its data. -/
structure AD where
  a : Ak
  p : Option Addr
  c : Nat
  d : List Value
abbrev AD.sg (y : AD) : List Seg := y.a.cells (.v (.slice y.p y.d.length y.c))
structure AD.ok (y : AD) : Prop where
  u8 : ∀ v ∈ y.d, isU8 v
  len : y.d.length ≤ 140737488355327
def LD (x : LX) (i : Int) : LoopAnn where
  X := LL × OpD × AD
  tm y := y.1.tm x ++ [(7, .ptr 5 0), (11, .ptr 6 0)]
  hp y := y.1.hp ++ [(5, .cells y.2.1.cells), (6, .cells y.2.2.sg)]
  nx := 7
  ok y := (y.1.ok x ∧ y.1.i = i ∧ y.1.m.ab = y.1.r.ab) ∧ x.l[y.1.i.toNat]? = some y.2.1 ∧ y.2.2.ok
  fx y w := RowAt w y.1.la y.1.ld ∧ RowAt w y.2.2.p y.2.2.d
  μ _ := 0
/-- The mover has been told. -/
def LE (x : LX) (i : Int) : LoopAnn where
  X := LL × OpD × AD × Sl × Bool
  tm y := y.1.tm x ++ [(7, .ptr 5 0), (11, .ptr 6 0), (12, .ptr 7 0), (13, .ptr 9 0), (14, .b y.2.2.2.2)]
  hp y := y.1.hp ++ [(5, .cells y.2.1.cells), (6, .cells y.2.2.1.sg), (7, .cells ((⟨y.2.1.r.why, y.2.1.r.wait, 0, 0⟩ : Rs).cells .nils (y.2.2.2.1.sv 8))), y.2.2.2.1.blk 8, (9, .cells (cmdCells y.2.2.2.2 y.2.1.mv))]
  nx := 10
  ok y := (y.1.ok x ∧ y.1.i = i ∧ (y.1.m.ab, y.2.2.2.2) = y.1.r.ab.told y.2.1.mv y.2.2.1.a y.2.2.1.d.length y.2.1.r.why y.2.1.d) ∧ x.l[y.1.i.toNat]? = some y.2.1 ∧ y.2.2.1.ok ∧ y.2.2.2.1.vs = y.2.1.d ∧ y.2.2.2.1.vs.length ≤ y.2.2.2.1.c
  fx y w := RowAt w y.1.la y.1.ld ∧ RowAt w y.2.2.1.p y.2.2.1.d
  μ _ := 0
/-- The call has been made. -/
def LC (x : LX) (i : Int) : LoopAnn where
  X := LL
  tm y := y.tm x
  hp y := y.hp
  nx := 5
  ok y := (y.ok x ∧ y.i = i ∧ y.m.ab = y.r.ab) ∧ y.i < x.l.length
  fx y w := RowAt w y.la y.ld
  μ _ := 0
  sl := sl2
def Γ6 : Env := { Γ0 with N := 16 }
def Γ9 : Env := { Γ0 with N := 26 }
def Γ11 : Env := { Γ0 with N := 16 }
def Γ13 : Env := { Γ0 with N := 32 }
def fs3 : List (Nat × FT) := [(4, inl Γ4 c4 r4), (5, fnS asksS), (6, inl Γ6 c6 r6), (7, fnS rasksS), (8, fnS sameS), (9, inl Γ9 c9 r9), (10, fnS spoilS), (11, inl Γ11 c11 r11), (12, fnS toldS), (13, inl Γ13 c13 r13), (14, fnS rtoldT), (15, fnS hasS), (16, fnS rcountS), (17, inl Γ17 c17 r17), (18, fnS knownS)]
def Γ3 (x : LX) : Env := { Γ0 with N := 197, F := 0, dr := lk dr3, fs := lk fs3, lp := lk [(7, L3 x)], ct := fun k st => wix st (fun i => lk [(10, LA x i), (28, LB x i), (31, LD x i), (33, LE x i), (37, LC x i)] k), ur := fun k => bif Nat.beq k 17 then 2 else 0 }
end Go.Proofs.Ytgjoileoekbkoaa
