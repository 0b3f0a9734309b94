/-
  SX, part B: the executor: what a code does to a symbolic state, as a proposition: the obligations that are left.
-/
import Derived.Test.YtgjoileoekbkoaaSXA
set_option linter.unusedVariables false
namespace Go.SX

/-! ### Types -/
inductive CK where
  | int (k : IntKind)
  | bool
  | str
  | slc
  | ptr
inductive TK where
  | int (k : IntKind)
  | bool
  | str
  | ptr
  | slice (e : TypeId)
  | struct (fs : List (Nat × TypeId))
  | arr (n : Nat) (e : TypeId)
  | func
  | oth
structure TI where
  k : TK
  size : Nat
  zero : List Seg
  bytes : Nat
  ck : List CK
def TI.agg (ti : TI) : Bool := match ti.k with
  | .struct _ => true
  | .arr _ _ => true
  | _ => false

def ikN : IntKind → Nat
  | .i8 => 0 | .i16 => 1 | .i32 => 2 | .i64 => 3 | .u8 => 4 | .u16 => 5 | .u32 => 6 | .u64 => 7

/-! ### Cells -/
def dropS : List Seg → Nat → Option (List Seg)
  | [], o => match o with
    | 0 => some []
    | _ + 1 => none
  | s :: r, o => match o with
    | 0 => some (s :: r)
    | o' + 1 => match s with
      | .one _ => dropS r o'
      | .many n _ => match Nat.ble n (o' + 1) with
        | true => dropS r (o' + 1 - n)
        | false => none
def takeS : List Seg → Nat → Option (List Seg)
  | [], o => match o with
    | 0 => some []
    | _ + 1 => none
  | s :: r, o => match o with
    | 0 => some []
    | o' + 1 => match s with
      | .one x => match takeS r o' with
        | some l => some (.one x :: l)
        | none => none
      | .many n vs => match Nat.ble n (o' + 1) with
        | true => match takeS r (o' + 1 - n) with
          | some l => some (.many n vs :: l)
          | none => none
        | false => none
def getS (l : List Seg) (o n : Nat) : Option (List Seg) := match dropS l o with
  | some r => takeS r n
  | none => none
def setS (l : List Seg) (o : Nat) (new : List Seg) (n : Nat) : Option (List Seg) := match takeS l o with
  | some a => match dropS l (o + n) with
    | some b => some (a ++ new ++ b)
    | none => none
  | none => none
def lenS : List Seg → Nat
  | [] => 0
  | .one _ :: r => lenS r + 1
  | .many n _ :: r => n + lenS r
/-- The list within which a place lies; and the place in it. -/
def locM : List Seg → Nat → Option (Nat × List Value)
  | [], _ => none
  | s :: r, o => match s with
    | .one _ => match o with
      | 0 => none
      | o' + 1 => locM r o'
    | .many n vs => match Nat.ble n o with
      | true => locM r (o - n)
      | false => some (o, vs)
def setM : List Seg → Nat → List Value → List Seg
  | [], _, _ => []
  | s :: r, o, new => match s with
    | .one x => match o with
      | 0 => .one x :: r
      | o' + 1 => .one x :: setM r o' new
    | .many n vs => match Nat.ble n o with
      | true => .many n vs :: setM r (o - n) new
      | false => .many n new :: r
def updL : List Value → Nat → List Value → List Value
  | vs, _, [] => vs
  | vs, j, x :: xs => updL (vs.set j x) (j + 1) xs

def cellsOf : SV → Option (List Seg)
  | .agg l => some l
  | .tup _ => none
  | .v x => match one1 x with
    | true => some [.one (.v x)]
    | false => none
  | x => some [.one x]
/-- A symbolic value that names no tracked block, as a value. -/
def valOf : SV → Option Value
  | .v x => match one1 x with
    | true => some x
    | false => none
  | .b p => some (.bool p)
  | .nils => some (.slice none 0 0)
  | .nilp => some (.pointer none)
  | .nilf => some .nilFunc
  | .optr a k => some (.pointer (a.map (·.add k)))
  | _ => none
def valsOf : List Seg → Option (List Value)
  | [] => some []
  | s :: r => match s with
    | .one x => match valOf x with
      | some u => match valsOf r with
        | some l => some (u :: l)
        | none => none
      | none => none
    | .many _ vs => match valsOf r with
      | some l => some (vs ++ l)
      | none => none

/-- The cell k places behind a. -/
def CellAt (w : World) (a : Option Addr) (k : Nat) (x : Value) : Prop := ∃ ad, a = some ad ∧ w.cell? (ad.add k) = some x
/-- The cells from a on. -/
def RowAt (w : World) (a : Option Addr) (vs : List Value) : Prop := ∀ k x, vs[k]? = some x → CellAt w a k x

def ldv (c : CK) (R : Value → Prop) (K : SV → Prop) : Prop := match c with
  | .int k => ∃ n : Int, R (.int k n) ∧ K (.v (.int k n))
  | .bool => ∃ p : Bool, R (.bool p) ∧ K (.b p)
  | .str => ∃ s : ByteArray, R (.string s) ∧ K (.v (.string s))
  | .slc => ∃ (a : Option Addr) (n c : Nat), R (.slice a n c) ∧ K (.v (.slice a n c))
  | .ptr => ∃ a : Option Addr, R (.pointer a) ∧ K (.optr a 0)
def ldCells : List CK → Nat → (Nat → Value → Prop) → (List Seg → Prop) → Prop
  | [], _, _, K => K []
  | c :: r, i, R, K => ldv c (R i) (fun x => ldCells r (i + 1) R (fun l => K (.one x :: l)))
def unS (ti : TI) (r : List Seg) (K : SV → Prop) : Prop := match ti.agg with
  | true => K (.agg r)
  | false => match r with
    | [.one x] => K x
    | _ => False
def ldMany (ti : TI) (R : Nat → Value → Prop) (K : SV → Prop) : Prop := match Nat.beq ti.ck.length ti.size with
  | true => match ti.ck with
    | [] => False
    | c :: r => ldCells (c :: r) 0 R (fun r => unS ti r K)
  | false => False

def loadS (ti : TI) (hp : List (Nat × SB)) (fx : World → Prop) (p : SV) (K : SV → Prop) : Prop := match p with
  | .ptr id o => match lk hp id with
    | some (.cells l) => match getS l o ti.size with
      | some r => unS ti r K
      | none => match locM l o with
        | some (j, vs) => ldMany ti (fun i x => vs[j + i]? = some x) K
        | none => False
    | some (.orow vs _ _ _) => ldMany ti (fun i x => vs[o + i]? = some x) K
    | none => False
  | .ptrx id o ix => match lk hp id with
    | some (.cells l) => match locM l o with
      | some (j, vs) => ldMany ti (fun i x => vs[j + ix + i]? = some x) K
      | none => False
    | some (.orow vs _ _ _) => ldMany ti (fun i x => vs[o + ix + i]? = some x) K
    | none => False
  | .optr a k => ldMany ti (fun i x => ∀ w, fx w → CellAt w a (k + i) x) K
  | _ => False

def storeS (ti : TI) (hp : List (Nat × SB)) (p x : SV) (K : List (Nat × SB) → Prop) : Prop := match cellsOf x with
  | none => False
  | some r => match Nat.beq (lenS r) ti.size with
    | false => False
    | true => match p with
      | .ptr id o => match lk hp id with
        | some (.cells l) => match setS l o r ti.size with
          | some l' => K ((id, .cells l') :: rm hp id)
          | none => match locM l o with
            | some (j, vs) => match valsOf r with
              | some xs => j + ti.size ≤ vs.length ∧ K ((id, .cells (setM l o (updL vs j xs))) :: rm hp id)
              | none => False
            | none => False
        | some (.orow vs len cap sz) => match valsOf r with
          | some xs => o + ti.size ≤ vs.length ∧ 0 < ti.size ∧ K ((id, .orow (updL vs o xs) len cap sz) :: rm hp id)
          | none => False
        | none => False
      | .ptrx id o ix => match lk hp id with
        | some (.cells l) => match locM l o with
          | some (j, vs) => match valsOf r with
            | some xs => j + ix + ti.size ≤ vs.length ∧ K ((id, .cells (setM l o (updL vs (j + ix) xs))) :: rm hp id)
            | none => False
          | none => False
        | some (.orow vs len cap sz) => match valsOf r with
          | some xs => o + ix + ti.size ≤ vs.length ∧ 0 < ti.size ∧ K ((id, .orow (updL vs (o + ix) xs) len cap sz) :: rm hp id)
          | none => False
        | none => False
      | _ => False

/-! ### Matching a template -/
abbrev Sub := List (Nat × Nat)
def bindS (σ : Sub) (i j : Nat) (K : Sub → Prop) : Prop := match lk σ i with
  | some j' => match Nat.beq j j' with
    | true => K σ
    | false => False
  | none => K ((i, j) :: σ)
def mVal (x : Value) (y : SV) (K : Prop) : Prop := match x with
  | .int k n => match y with
    | .v (.int k' m) => match Nat.beq (ikN k) (ikN k') with
      | true => n = m ∧ K
      | false => False
    | _ => False
  | .bool p => match y with
    | .v (.bool q) => p = q ∧ K
    | .b q => p = q ∧ K
    | _ => False
  | .string s => match y with
    | .v (.string t) => s = t ∧ K
    | _ => False
  | .slice a n c => match y with
    | .v (.slice a' n' c') => (a = a' ∧ n = n' ∧ c = c') ∧ K
    | .nils => (a = none ∧ n = 0 ∧ c = 0) ∧ K
    | _ => False
  | x => match y with
    | .v y => x = y ∧ K
    | _ => False
def mZB (z z' : ZB) (K : Prop) : Prop := z = z' ∧ K
def ZB.isNil : ZB → Bool
  | .nil => true
  | .own => false
  | .src a => a.isNone
mutual
def mSV (nx : Nat) (t y : SV) (σ : Sub) (K : Sub → Prop) : Prop := match t with
  | .v x => mVal x y (K σ)
  | .b p => match y with
    | .b q => p = q ∧ K σ
    | .v (.bool q) => p = q ∧ K σ
    | _ => False
  | .nils => match y with
    | .nils => K σ
    | .v (.slice a n c) => (a = none ∧ n = 0 ∧ c = 0) ∧ K σ
    | _ => False
  | .nilp => match y with
    | .nilp => K σ
    | .optr a k => a = none ∧ K σ
    | _ => False
  | .nilf => match y with
    | .nilf => K σ
    | _ => False
  | .ptr i o => match y with
    | .ptr j o' => match Nat.beq o o' with
      | true => bindS σ i j K
      | false => False
    | _ => False
  | .ptrx i o x => match y with
    | .ptrx j o' x' => match Nat.beq o o' with
      | true => x = x' ∧ bindS σ i j K
      | false => False
    | _ => False
  | .optr a k => match y with
    | .optr a' k' => a.map (·.add k) = a'.map (·.add k') ∧ K σ
    | .nilp => a = none ∧ K σ
    | _ => False
  | .osl i n c z => match y with
    | .osl j n' c' z' => (n = n' ∧ c = c') ∧ mZB z z' (bindS σ i j K)
    | .nils => (z = .nil ∧ n = 0 ∧ c = 0) ∧ bindS σ i (nx + i) K
    | _ => False
  | .sub i lo n c => match y with
    | .sub j lo' n' c' => (lo = lo' ∧ n = n' ∧ c = c') ∧ bindS σ i j K
    | _ => False
  | .clo f l => match y with
    | .clo f' l' => match Nat.beq f f' with
      | true => mL nx l l' σ K
      | false => False
    | _ => False
  | .agg l => match y with
    | .agg l' => mS nx l l' σ K
    | _ => False
  | .tup l => match y with
    | .tup l' => mL nx l l' σ K
    | _ => False
  termination_by structural t
def mL (nx : Nat) (t ys : List SV) (σ : Sub) (K : Sub → Prop) : Prop := match t with
  | [] => match ys with
    | [] => K σ
    | _ :: _ => False
  | x :: r => match ys with
    | [] => False
    | y :: r' => mSV nx x y σ (fun σ' => mL nx r r' σ' K)
  termination_by structural t
def mS (nx : Nat) (t ys : List Seg) (σ : Sub) (K : Sub → Prop) : Prop := match t with
  | [] => match ys with
    | [] => K σ
    | _ :: _ => False
  | x :: r => match ys with
    | [] => False
    | y :: r' => mG nx x y σ (fun σ' => mS nx r r' σ' K)
  termination_by structural t
def mG (nx : Nat) (t y : Seg) (σ : Sub) (K : Sub → Prop) : Prop := match t with
  | .one x => match y with
    | .one y => mSV nx x y σ K
    | .many _ _ => False
  | .many n vs => match y with
    | .one _ => False
    | .many n' vs' => (n = n' ∧ vs = vs') ∧ K σ
  termination_by structural t
end
def mTm (nx : Nat) : List (Nat × SV) → List (Nat × SV) → Sub → (Sub → Prop) → Prop
  | [], _, σ, K => K σ
  | (s, x) :: r, tm, σ, K => match lk tm s with
    | some y => mSV nx x y σ (fun σ' => mTm nx r tm σ' K)
    | none => False
def mSB (nx : Nat) (x y : SB) (σ : Sub) (K : Sub → Prop) : Prop := match x with
  | .cells l => match y with
    | .cells l' => mS nx l l' σ K
    | _ => False
  | .orow vs n c s => match y with
    | .orow vs' n' c' s' => (vs = vs' ∧ n = n' ∧ c = c' ∧ s = s') ∧ K σ
    | _ => False
def mHp (nx : Nat) : List (Nat × SB) → List (Nat × SB) → Sub → (Sub → Prop) → Prop
  | [], _, σ, K => K σ
  | (i, x) :: r, hp, σ, K => match lk σ i with
    | none => False
    | some j => match lk hp j with
      | some y => mSB nx x y σ (fun σ' => mHp nx r hp σ' K)
      | none => match x with
        | .orow vs n c s => match Nat.ble nx j with
          | true => (vs = [] ∧ n = 0 ∧ c = 0) ∧ mHp nx r hp σ K
          | false => False
        | _ => False
def mem1 (j : Nat) : List Nat → Bool
  | [] => false
  | k :: r => match Nat.beq j k with
    | true => true
    | false => mem1 j r
def dist1 : List Nat → Bool
  | [] => true
  | k :: r => match mem1 k r with
    | true => false
    | false => dist1 r
def imgs (σ : Sub) : List (Nat × SB) → List Nat
  | [] => []
  | (i, _) :: r => match lk σ i with
    | some j => j :: imgs σ r
    | none => imgs σ r
def rms (hp : List (Nat × SB)) : List Nat → List (Nat × SB)
  | [] => hp
  | j :: r => rms (rm hp j) r

mutual
def SV.ren (ρ : Nat → Nat) : SV → SV
  | .ptr i o => .ptr (ρ i) o
  | .ptrx i o x => .ptrx (ρ i) o x
  | .osl i n c z => .osl (ρ i) n c z
  | .sub i lo n c => .sub (ρ i) lo n c
  | .clo f l => .clo f (renL ρ l)
  | .agg l => .agg (renS ρ l)
  | .tup l => .tup (renL ρ l)
  | .v x => .v x
  | .b p => .b p
  | .nils => .nils
  | .nilp => .nilp
  | .nilf => .nilf
  | .optr a k => .optr a k
def renL (ρ : Nat → Nat) : List SV → List SV
  | [] => []
  | x :: r => x.ren ρ :: renL ρ r
def renS (ρ : Nat → Nat) : List Seg → List Seg
  | [] => []
  | x :: r => x.ren ρ :: renS ρ r
def Seg.ren (ρ : Nat → Nat) : Seg → Seg
  | .one x => .one (x.ren ρ)
  | .many n vs => .many n vs
end
def SB.ren (ρ : Nat → Nat) : SB → SB
  | .cells l => .cells (renS ρ l)
  | .orow vs n c s => .orow vs n c s
def renH (ρ : Nat → Nat) : List (Nat × SB) → List (Nat × SB)
  | [] => []
  | (i, x) :: r => (ρ i, x.ren ρ) :: renH ρ r

/-! ### Contracts and loops -/
/-- A way in which a function ends. -/
structure FOut (X : Type) where
  Y : Type
  ret : X → Y → List SV
  hq : X → Y → List (Nat × SB)
  qp : X → Y → Prop
  qf : X → Y → World → Prop := fun _ _ _ => True
  nx2 : Nat
structure FSpec where
  X : Type
  args : X → List SV
  hp : X → List (Nat × SB)
  pp : X → Prop := fun _ => True
  pf : X → World → Prop := fun _ _ => True
  nx : Nat
  outs : List (FOut X)

def resSV : List SV → SV
  | [x] => x
  | l => .tup l

/-- The ids of a contract, in the caller's own: those that are bound; the new ones behind all. -/
def rho (σ : Sub) (nx : Nat) (i : Nat) : Nat := match lk σ i with
  | some j => j
  | none => nx + i
def ltH (n : Nat) : List (Nat × SB) → Bool
  | [] => true
  | (i, s) :: r => match Nat.blt i n with
    | true => match s.lt n with
      | true => ltH n r
      | false => false
    | false => false
def ltT (n : Nat) : List (Nat × SV) → Bool
  | [] => true
  | (_, s) :: r => match s.lt n with
    | true => ltT n r
    | false => false

def noTup : List SV → Bool
  | [] => true
  | x :: r => match x with
    | .tup _ => false
    | _ => noTup r

/-- Whatever way it ends. -/
def outsS {X : Type} (K : (o : FOut X) → o.Y → Prop) (x : X) : List (FOut X) → Prop
  | [] => True
  | o :: r => match r with
    | [] => ∀ y : o.Y, o.qp x y → K o y
    | p :: q => (∀ y : o.Y, o.qp x y → K o y) ∧ outsS K x (p :: q)

def callS (S : FSpec) (as : List SV) (st : SState) (K : SState → SV → Prop) : Prop :=
  ∃ x : S.X, match ltL S.nx (S.args x) with
    | false => False
    | true => match ltH S.nx (S.hp x) with
      | false => False
      | true => match noTup as with
       | false => False
       | true => mL st.nx (S.args x) as [] fun σ => mHp st.nx (S.hp x) st.hp σ fun σ => match dist1 (imgs σ (S.hp x)) with
        | false => False
        | true => S.pp x ∧ (∀ w, st.fx w → S.pf x w) ∧ outsS (fun o y => K { st with hp := renH (rho σ st.nx) (o.hq x y) ++ rms st.hp (imgs σ (S.hp x)), nx := st.nx + o.nx2, fx := fun w => st.fx w ∧ o.qf x y w } ((resSV (o.ret x y)).ren (rho σ st.nx))) x S.outs

/-- sl: what is sealed ahead. -/
structure LoopAnn where
  X : Type
  tm : X → List (Nat × SV)
  hp : X → List (Nat × SB)
  nx : Nat
  ok : X → Prop
  fx : X → World → Prop
  μ : X → Nat
  sl : SState → List Nat := fun _ => []

/-- How a region that draws its order is run: an eager operation; one out of those that may come next, those that are looked at again behind it. -/
inductive DT where
  | done
  | eag (i : Nat) (r : DT)
  | alt (i : Nat) (ag : List Nat) (r more : DT)
  | stop

/-- What a yield does: the run of the loop's body; how the body is left, if for good. -/
abbrev Yd := List SV → SState → (Option SExit → SState → Prop) → Prop
/-- What a function does, as a transformer. -/
abbrev FT := Option (Nat × Yd) → List SV → SState → (SState → SV → Prop) → Prop
structure Env where
  N : Nat
  F : Nat
  ty : TypeId → Option TI
  eq : TypeId → Option (List CK) := fun _ => none
  fs : FuncId → Option FT
  lp : Nat → Option LoopAnn
  ct : Nat → SState → Option LoopAnn
  ur : Nat → Nat
  dr : Nat → Option (List Nat × DT)
  yd : Option (Nat × Yd)
  it : FuncId → Option (Yd → Nat → List SV → SState → (SState → Prop) → Prop)

/-! ### What is the call's own becomes memory that stays as it is -/
def ZB.at (z : ZB) (a0 : Addr) : Option Addr := match z with
  | .nil => none
  | .own => some a0
  | .src a => a
mutual
def SV.slv (i : Nat) (a0 : Addr) : SV → SV
  | .ptr j o => match Nat.beq j i with
    | true => .optr (some a0) o
    | false => .ptr j o
  | .ptrx j o x => match Nat.beq j i with
    | true => .optr (some a0) (o + x)
    | false => .ptrx j o x
  | .osl j n c z => match Nat.beq j i with
    | true => .v (.slice (if c = 0 then z.at a0 else some a0) n c)
    | false => .osl j n c z
  | .sub j lo n c => match Nat.beq j i with
    | true => .v (.slice (some (a0.add lo)) n c)
    | false => .sub j lo n c
  | .clo f l => .clo f (sealVs i a0 l)
  | .agg l => .agg (sealSs i a0 l)
  | .tup l => .tup (sealVs i a0 l)
  | .v x => .v x
  | .b p => .b p
  | .nils => .nils
  | .nilp => .nilp
  | .nilf => .nilf
  | .optr a k => .optr a k
def sealVs (i : Nat) (a0 : Addr) : List SV → List SV
  | [] => []
  | x :: r => x.slv i a0 :: sealVs i a0 r
def sealSs (i : Nat) (a0 : Addr) : List Seg → List Seg
  | [] => []
  | x :: r => x.slv i a0 :: sealSs i a0 r
def Seg.slv (i : Nat) (a0 : Addr) : Seg → Seg
  | .one x => .one (x.slv i a0)
  | .many n vs => .many n vs
end
def SB.slv (i : Nat) (a0 : Addr) : SB → SB
  | .cells l => .cells (sealSs i a0 l)
  | .orow vs n c s => .orow vs n c s
def sealT (i : Nat) (a0 : Addr) : List (Nat × SV) → List (Nat × SV)
  | [] => []
  | (s, x) :: r => (s, x.slv i a0) :: sealT i a0 r
def sealH (i : Nat) (a0 : Addr) : List (Nat × SB) → List (Nat × SB)
  | [] => []
  | (s, x) :: r => (s, x.slv i a0) :: sealH i a0 r
mutual
def SV.ids : SV → List Nat
  | .ptr j _ => [j]
  | .ptrx j _ _ => [j]
  | .osl j _ _ _ => [j]
  | .sub j _ _ _ => [j]
  | .clo _ l => idsL l
  | .agg l => idsS l
  | .tup l => idsL l
  | .v _ => []
  | .b _ => []
  | .nils => []
  | .nilp => []
  | .nilf => []
  | .optr _ _ => []
def idsL : List SV → List Nat
  | [] => []
  | x :: r => x.ids ++ idsL r
def idsS : List Seg → List Nat
  | [] => []
  | x :: r => x.ids ++ idsS r
def Seg.ids : Seg → List Nat
  | .one x => x.ids
  | .many _ _ => []
end
def sealSt (i : Nat) (a0 : Addr) (live : Prop) (vs : List Value) (st : SState) : SState :=
  { st with tm := sealT i a0 st.tm, hp := sealH i a0 (rm st.hp i), fx := fun w => st.fx w ∧ (live → RowAt w (some a0) vs) }
/-- Blocks sealed, what stands in them first. -/
def sealN : Nat → List Nat → SState → (SV → SV) → (SState → (SV → SV) → Prop) → Prop
  | n, [], st, f, K => K st f
  | 0, _ :: _, _, _, _ => False
  | n + 1, i :: r, st, f, K => match lk st.hp i with
    | none => sealN n r st f K
    | some (.orow vs len cap sz) => ∀ a0 : Addr, sealN n r (sealSt i a0 (cap ≠ 0) vs st) (fun x => (f x).slv i a0) K
    | some (.cells l) => match valsOf l with
      | some vs => ∀ a0 : Addr, sealN n r (sealSt i a0 True vs st) (fun x => (f x).slv i a0) K
      | none => sealN n (idsS l ++ (i :: r)) st f K
def mapL (f : SV → SV) : List SV → List SV
  | [] => []
  | x :: r => f x :: mapL f r
def pickL (js : List Nat) (as : List SV) : List SV := match js with
  | [] => []
  | j :: r => match as[j]? with
    | some x => x :: pickL r as
    | none => pickL r as
def sealS (ids : List Nat) (st : SState) (K : SState → (SV → SV) → Prop) : Prop := sealN 64 ids st (fun x => x) K

def idS : Nat → Sub
  | 0 => []
  | n + 1 => (n, n) :: idS n
/-- The first ids stay what they are. -/
def fixB (F : Nat) : Sub → Bool
  | [] => true
  | (i, j) :: r => match Nat.blt i F with
    | true => match Nat.beq i j with
      | true => fixB F r
      | false => false
    | false => fixB F r

def exEq : SExit → SExit → Bool
  | .normal, .normal => true
  | .ret, .ret => true
  | .exit i, .exit j => Nat.beq i j
  | _, _ => false
def peEq : List (Option SExit) → List (Option SExit) → Bool
  | [], [] => true
  | none :: l, none :: r => peEq l r
  | some x :: l, some y :: r => match exEq x y with
    | true => peEq l r
    | false => false
  | _, _ => false

/-- The state is one of the annotation's. -/
def entS (F : Nat) (L : LoopAnn) (f0 : World → Prop) (pe0 : List (Option SExit)) (x : L.X) (st : SState) : Prop := match peEq pe0 st.pe with
 | false => False
 | true => match ltT L.nx (L.tm x) with
  | false => False
  | true => match ltH L.nx (L.hp x) with
    | false => False
    | true => match Nat.ble F L.nx with
     | false => False
     | true => mTm st.nx (L.tm x) st.tm (idS F) fun σ => mHp st.nx (L.hp x) st.hp σ fun σ => match dist1 (imgs σ (L.hp x)) with
      | false => False
      | true => match fixB F σ with
       | false => False
       | true => L.ok x ∧ ∀ w, st.fx w → f0 w ∧ L.fx x w

/-! ### Regions that draw their order -/


/-- Operations that leave the world alone. -/
def eagerOp : Op → Bool
  | .move _ => true
  | .assign _ => true
  | .pick _ _ _ => true
  | .build _ _ => true
  | .load _ _ => true
  | .nilCheck _ => true
  | .binOp _ _ _ _ _ => true
  | .unOp _ _ _ => true
  | .convert _ _ _ => true
  | .makeFunc _ _ _ => true
  | .slice _ _ _ _ _ => true
  | .fieldAddr _ _ _ => true
  | .field _ _ _ => true
  | .indexAddr _ _ _ => true
  | .index _ _ _ => true
  | .extract _ _ => true
  | .call c => match c.callee with
    | .builtin .len => true
    | .builtin .cap => true
    | .builtin .min => true
    | .builtin .max => true
    | _ => false
  | _ => false
def plainOp : Op → Bool
  | .defer _ => false
  | .select _ _ => false
  | .go _ => false
  | _ => true

section
variable (ops : Array Oper)
def eag (i : Nat) : Bool := match ops[i]? with
  | some o => eagerOp o.op
  | none => false
def dstO (i : Nat) : Option Tmp := match ops[i]? with
  | some o => o.dst
  | none => none
def lks (i : Nat) : List Tmp := match ops[i]? with
  | some o => o.looksAt ops
  | none => []
def memN (d : Option Tmp) (l : List Tmp) : Bool := match d with
  | none => false
  | some d => mem1 d l
def sameD (d e : Option Tmp) : Bool := match d with
  | none => false
  | some d => match e with
    | none => false
    | some e => Nat.beq d e
def preds (i : Nat) : List Nat := match ops[i]? with
  | some o => (o.after.toList.filter (Region.binds .any)).map (·.on)
  | none => []
def rdy (c : List Nat) (i : Nat) : Bool := (preds ops i).all (fun k => !mem1 k c)
def er (i : Nat) : List Nat → List Nat
  | [] => []
  | k :: r => match Nat.beq i k with
    | true => r
    | false => k :: er i r
/-- Are d's number's bits in i's mask? -/
def anc (A : List Nat) (d i : Nat) : Bool := Nat.beq (Nat.land (Nat.shiftRight (A.getD i 0) d) 1) 1
def msk (A : List Nat) : List Nat → Nat
  | [] => 0
  | j :: r => Nat.lor (Nat.lor (Nat.shiftLeft 1 j) (A.getD j 0)) (msk A r)
def mskOk (A : List Nat) : List Nat → Bool
  | [] => true
  | i :: r => match Nat.beq (A.getD i 0) (msk A (preds ops i)) with
    | true => match (preds ops i).all (fun k => Nat.blt k i) with
      | true => mskOk A r
      | false => false
    | false => false
def oneOk (N i : Nat) : Bool := (match ops[i]? with | some o => plainOp o.op | none => false) && (preds ops i).all (fun j => Nat.blt j ops.size) && !memN (dstO ops i) (lks ops i) && (match dstO ops i with | some d => Nat.blt d N | none => true)
def pairOk (i d : Nat) : Bool := Nat.beq i d || (!sameD (dstO ops i) (dstO ops d) && (!memN (dstO ops i) (lks ops d) || mem1 i (preds ops d)))
def statOk (N : Nat) (A : List Nat) : Bool := mskOk ops A (List.range ops.size) && (List.range ops.size).all (oneOk ops N) && (List.range ops.size).all (fun i => (List.range ops.size).all (pairOk ops i))
def dtOk (A : List Nat) : DT → List Nat → List Nat → List Nat → Bool
  | .done, c, _, seen => c.isEmpty && seen.isEmpty
  | .eag i r, c, ex, seen => seen.isEmpty && mem1 i c && eag ops i && rdy ops c i && dtOk A r (er i c) (i :: ex) []
  | .alt i ag r more, c, ex, seen => mem1 i c && !eag ops i && rdy ops c i && ex.all (fun j => mem1 j ag || anc A j i) && dtOk A r (er i c) ex [] && dtOk A more c ex (i :: seen) && (match more with | .alt _ _ _ _ => true | .stop => true | _ => false)
  | .stop, c, _, seen => !seen.isEmpty && c.all (fun j => mem1 j seen || !rdy ops c j)
end

/-! ### Operations -/
def cst : Value → SV
  | .slice none 0 0 => .nils
  | .pointer none => .nilp
  | .nilFunc => .nilf
  | x => .v x
def ev (tm : List (Nat × SV)) : Operand → Option SV
  | .tmp t => lk tm t
  | .const x => some (cst x)
  | .func f => some (.clo f [])
  | .global _ => none
def evL (tm : List (Nat × SV)) : List Operand → Option (List SV)
  | [] => some []
  | x :: r => match ev tm x with
    | some y => match evL tm r with
      | some l => some (y :: l)
      | none => none
    | none => none

def putS (N : Nat) (dst : Option Tmp) (r : SV) (st : SState) (K : SState → Prop) : Prop := match dst with
  | none => K st
  | some d => match Nat.blt d N with
    | true => K { st with tm := (d, r) :: st.tm }
    | false => False

def bitsI (op : BinOp) (k : IntKind) (x y : Int) : Int :=
  let a := BitVec.ofInt k.bits x
  let b := BitVec.ofInt k.bits y
  k.wrap ((match op with
    | .and => a &&& b
    | .or => a ||| b
    | .xor => a ^^^ b
    | _ => a &&& ~~~b).toNat : Int)
def shlI (k : IntKind) (x y : Int) : Int := k.wrap (x * 2 ^ (min y.toNat k.bits))
def shrI (k : IntKind) (x y : Int) : Int := x.fdiv (2 ^ (min y.toNat k.bits))

def binInt (op : BinOp) (k : IntKind) (x y : Int) (K : SV → Prop) : Prop := match op with
  | .add => K (.v (.int k (k.wrap (x + y))))
  | .sub => K (.v (.int k (k.wrap (x - y))))
  | .mul => K (.v (.int k (k.wrap (x * y))))
  | .quo => y ≠ 0 ∧ K (.v (.int k (k.wrap (x.tdiv y))))
  | .rem => y ≠ 0 ∧ K (.v (.int k (x.tmod y)))
  | .and => K (.v (.int k (bitsI .and k x y)))
  | .or => K (.v (.int k (bitsI .or k x y)))
  | .xor => K (.v (.int k (bitsI .xor k x y)))
  | .andNot => K (.v (.int k (bitsI .andNot k x y)))
  | .eql => K (.b (x == y))
  | .neq => K (.b (x != y))
  | .lss => K (.b (decide (x < y)))
  | .leq => K (.b (decide (x ≤ y)))
  | .gtr => K (.b (decide (x > y)))
  | .geq => K (.b (decide (x ≥ y)))
  | _ => False
def binStr (op : BinOp) (x y : ByteArray) (K : SV → Prop) : Prop := match op with
  | .add => (((x.size + y.size : Nat) : Int) ≤ 9223372036854775807) ∧ K (.v (.string (x ++ y)))
  | .eql => K (.b (x.toList == y.toList))
  | .neq => K (.b (!(x.toList == y.toList)))
  | .lss => K (.b (Op.bytesLess x.toList y.toList))
  | .leq => K (.b (Op.bytesLess x.toList y.toList || x.toList == y.toList))
  | .gtr => K (.b (!(Op.bytesLess x.toList y.toList || x.toList == y.toList)))
  | .geq => K (.b (!(Op.bytesLess x.toList y.toList)))
  | _ => False
def boolOf : SV → Option Bool
  | .b p => some p
  | .v (.bool p) => some p
  | _ => none
/-- Is a pointer, a slice, a function nil? -/
def nilPtr : SV → Option Bool
  | .nilp => some true
  | .ptr _ _ => some false
  | .ptrx _ _ _ => some false
  | .optr a _ => some a.isNone
  | _ => none
def nilSlc : SV → Option Bool
  | .nils => some true
  | .sub _ _ _ _ => some false
  | .v (.slice a _ _) => some a.isNone
  | .osl _ _ c z => some (c == 0 && z.isNil)
  | _ => none
def nilFun : SV → Option Bool
  | .nilf => some true
  | .clo _ _ => some false
  | _ => none
def eqRes (op : BinOp) (p : Bool) (K : SV → Prop) : Prop := match op with
  | .eql => K (.b p)
  | .neq => K (.b (!p))
  | _ => False
def binS (tk : TK) (op : BinOp) (x y : SV) (K : SV → Prop) : Prop := match tk with
  | .int k => match x with
    | .v (.int k1 n) => match y with
      | .v (.int k2 m) => match op with
        | .shl => 0 ≤ m ∧ K (.v (.int k1 (shlI k1 n m)))
        | .shr => 0 ≤ m ∧ K (.v (.int k1 (shrI k1 n m)))
        | _ => match Nat.beq (ikN k1) (ikN k2) with
          | true => binInt op k1 n m K
          | false => False
      | _ => False
    | _ => False
  | .str => match x with
    | .v (.string s) => match y with
      | .v (.string t) => binStr op s t K
      | _ => False
    | _ => False
  | .bool => match boolOf x with
    | some p => match boolOf y with
      | some q => eqRes op (p == q) K
      | none => False
    | none => False
  | .ptr => match y with
    | .nilp => match nilPtr x with
      | some p => eqRes op p K
      | none => False
    | _ => False
  | .slice _ => match y with
    | .nils => match nilSlc x with
      | some p => eqRes op p K
      | none => False
    | _ => False
  | .func => match y with
    | .nilf => match nilFun x with
      | some p => eqRes op p K
      | none => False
    | _ => False
  | _ => False

def unS1 (op : UnOp) (x : SV) (K : SV → Prop) : Prop := match op with
  | .not => match boolOf x with
    | some p => K (.b (!p))
    | none => False
  | .neg => match x with
    | .v (.int k n) => K (.v (.int k (k.wrap (0 - n))))
    | _ => False
  | .xor => match x with
    | .v (.int k n) => K (.v (.int k (bitsI .xor k (if k.signed then -1 else k.max) n)))
    | _ => False
  | _ => False

/-- How many elements a slice or a string has. -/
def lenOfS (k : TK) (x : SV) : Option Nat := match k with
  | .slice _ => match x with
    | .nils => some 0
    | .v (.slice _ n _) => some n
    | .osl _ n _ _ => some n
    | .sub _ _ n _ => some n
    | _ => none
  | .str => match x with
    | .v (.string s) => some s.size
    | _ => none
  | _ => none

/-- The place of a field or an element behind a pointer. -/
def plusP (fx : World → Prop) (p : SV) (k : Nat) (K : SV → Prop) : Prop := match p with
  | .ptr id o => K (.ptr id (o + k))
  | .ptrx id o x => K (.ptrx id (o + k) x)
  | .optr a j => (∀ w, fx w → a.isSome = true) ∧ K (.optr a (j + k))
  | _ => False
def nilChkS (fx : World → Prop) (p : SV) (K : SV → Prop) : Prop := match p with
  | .ptr id o => K p
  | .ptrx id o x => K p
  | .optr a k => (∀ w, fx w → a.isSome = true) ∧ K p
  | .clo _ _ => K p
  | _ => False

def fieldAt (ty : TypeId → Option TI) (t : TypeId) (i : Nat) : Option (Nat × TI) := match ty t with
  | some ti => match ti.k with
    | .struct fs => match fs[i]? with
      | some (o, ft) => match ty ft with
        | some fi => some (o, fi)
        | none => none
      | none => none
    | _ => none
  | none => none

def elemAt (ty : TypeId → Option TI) (t : TypeId) : Option TI := match ty t with
  | some ti => match ti.k with
    | .slice e => ty e
    | .arr _ e => ty e
    | _ => none
  | none => none

/-- One of so many places. -/
def oneOfS (id lo sz : Nat) (i : Int) (K : SV → Prop) : Nat → Nat → Prop
  | 0, _ => True
  | n + 1, j => (i = (j : Int) → K (.ptr id (lo + j * sz))) ∧ oneOfS id lo sz i K n (j + 1)

def indexAddrS (ty : TypeId → Option TI) (hp : List (Nat × SB)) (fx : World → Prop) (t : TypeId) (x : SV) (i : Int) (K : SV → Prop) : Prop := match ty t with
  | none => False
  | some ti => match ti.k with
    | .slice e => match ty e with
      | none => False
      | some ei => match x with
        | .v (.slice a n c) => (0 ≤ i ∧ i < (n : Int)) ∧ (∀ w, fx w → a.isSome = true) ∧ K (.optr a (i.toNat * ei.size))
        | .osl id n c z => (0 ≤ i ∧ i < (n : Int) ∧ c ≠ 0) ∧ K (.ptrx id 0 (i.toNat * ei.size))
        | .sub id lo n c => match lk hp id with
          | some (.cells l) => match locM l lo with
            | some _ => (0 ≤ i ∧ i < (n : Int)) ∧ K (.ptrx id lo (i.toNat * ei.size))
            | none => (0 ≤ i ∧ i < (n : Int)) ∧ oneOfS id lo ei.size i K n 0
          | _ => (0 ≤ i ∧ i < (n : Int)) ∧ K (.ptrx id lo (i.toNat * ei.size))
        | _ => False
    | .arr n e => match ty e with
      | none => False
      | some ei => match x with
        | .ptr id o => (0 ≤ i ∧ i < (n : Int)) ∧ K (.ptrx id o (i.toNat * ei.size))
        | _ => False
    | _ => False

/-- Parts set into cells. -/
def fillS (ty : TypeId → Option TI) (ti : TI) : List (Nat × SV) → List Seg → Option (List Seg)
  | [], l => some l
  | (i, x) :: r, l => match cellsOf x with
    | none => none
    | some c => match ti.k with
      | .struct fs => match fs[i]? with
        | some (o, ft) => match ty ft with
          | some fi => match Nat.beq (lenS c) fi.size with
            | true => match setS l o c fi.size with
              | some l' => fillS ty ti r l'
              | none => none
            | false => none
          | none => none
        | none => none
      | .arr _ e => match ty e with
        | some fi => match Nat.beq (lenS c) fi.size with
          | true => match setS l (i * fi.size) c fi.size with
            | some l' => fillS ty ti r l'
            | none => none
          | false => none
        | none => none
      | _ => none
def evP (tm : List (Nat × SV)) : List (Nat × Operand) → Option (List (Nat × SV))
  | [] => some []
  | (i, x) :: r => match ev tm x with
    | some y => match evP tm r with
      | some l => some ((i, y) :: l)
      | none => none
    | none => none

def buildOk (ty : TypeId → Option TI) (ti : TI) : Bool := match ti.k with
  | .struct _ => true
  | .arr _ e => (ty e).isSome
  | _ => false

def newS (st : SState) (b : SB) : SState := { st with hp := (st.nx, b) :: st.hp, nx := st.nx + 1 }

/-! ### Slices -/
/-- What an append takes from its second argument: so many elements, their cells. -/
def srcS (k : TK) (hp : List (Nat × SB)) (fx : World → Prop) (sz : Nat) (x : SV) (K : Nat → List Value → Prop) : Prop := match k with
  | .slice _ => match x with
    | .nils => K 0 []
    | .v (.slice a n _) => ∃ news : List Value, news.length = n * sz ∧ (∀ v ∈ news, one1 v = true) ∧ (∀ w, fx w → RowAt w a news) ∧ K n news
    | .osl id n c _ => match lk hp id with
      | some (.orow vs len cap s) => match Nat.beq s sz with
        | true => ∃ news : List Value, news = vs.take (n * sz) ∧ n ≤ len ∧ c = cap ∧ (∀ v ∈ news, one1 v = true) ∧ K n news
        | false => False
      | _ => False
    | .sub id lo n _ => match lk hp id with
      | some (.orow vs _ cap _) => ∃ news : List Value, news = (vs.drop lo).take (n * sz) ∧ lo + n * sz ≤ vs.length ∧ cap ≠ 0 ∧ (∀ v ∈ news, one1 v = true) ∧ K n news
      | some (.cells l) => match getS l lo (n * sz) with
        | some r => match valsOf r with
          | some news => match Nat.beq (lenS r) (n * sz) with
            | true => K n news
            | false => False
          | none => False
        | none => False
      | none => False
    | _ => False
  | .str => match x with
    | .v (.string s) => match Nat.beq sz 1 with
      | true => K s.size (byteCells s)
      | false => False
    | _ => False
  | _ => False

def isSlc (ty : TypeId → Option TI) (t : TypeId) : Bool := match ty t with
  | some ti => match ti.k with
    | .slice _ => true
    | _ => false
  | none => false
/-- append. -/
def appS (Γ : Env) (hp : List (Nat × SB)) (fx : World → Prop) (nx : Nat) (t tx : TypeId) (d x : SV) (K : List (Nat × SB) → SV → Prop) : Prop := match isSlc Γ.ty t with
 | false => False
 | true => match elemAt Γ.ty t with
  | none => False
  | some ei => match Γ.ty tx with
    | none => False
    | some ti => match Nat.blt 0 ei.bytes with
      | false => False
      | true => match Nat.blt 0 ei.size with
       | false => False
       | true => match d with
        | .nils => match x with
          | .sub id lo n _ => match lk hp id with
            | some (.cells l) => match isSlc Γ.ty tx with
             | false => False
             | true => match getS l lo (n * ei.size) with
              | some r => match valsOf r with
                | some news => match Nat.beq (lenS r) (n * ei.size) with
                  | true => n * ei.bytes ≤ 140737488355328 ∧ ∀ c', n ≤ c' → (n = 0 → c' = 0) → K ((nx, .orow news n c' ei.size) :: hp) (.osl nx n c' .nil)
                  | false => False
                | none => match Nat.blt 0 n with
                  | true => match Nat.beq (lenS r) (n * ei.size) with
                    | true => n * ei.bytes ≤ 140737488355328 ∧ ∀ c' zs, n ≤ c' → zs.length = (c' - n) * ei.size → K ((nx, .cells (r ++ [.many ((c' - n) * ei.size) zs])) :: hp) (.sub nx 0 n c')
                    | false => False
                  | false => False
              | none => False
            | _ => srcS ti.k hp fx ei.size x (fun n news => n * ei.bytes ≤ 140737488355328 ∧ ∀ c', n ≤ c' → (n = 0 → c' = 0) → K ((nx, .orow news n c' ei.size) :: hp) (.osl nx n c' .nil))
          | _ => srcS ti.k hp fx ei.size x (fun n news => n * ei.bytes ≤ 140737488355328 ∧ ∀ c', n ≤ c' → (n = 0 → c' = 0) → K ((nx, .orow news n c' ei.size) :: hp) (.osl nx n c' .nil))
        | .osl id m c z => match lk hp id with
          | some (.orow vs len cap s) => match Nat.beq s ei.size with
            | true => m = len ∧ c = cap ∧ (∀ v ∈ vs, one1 v = true) ∧ srcS ti.k hp fx ei.size x (fun n news => (len + n) * ei.bytes ≤ 140737488355328 ∧ ∀ c', len + n ≤ c' → (len + n ≤ cap → c' = cap) →
                K ((nx, .orow (vs ++ news) (len + n) c' ei.size) :: rm hp id) (.osl nx (len + n) c' z))
            | false => False
          | _ => False
        | _ => False

def zerosS (z : List Seg) : Nat → List Seg
  | 0 => []
  | n + 1 => z ++ zerosS z n
def zerosV (z : List Value) : Nat → List Value
  | 0 => []
  | n + 1 => z ++ zerosV z n

/-- The bounds of a slice expression: where it begins, ends; what its capacity ends at. -/
def bndS (tm : List (Nat × SV)) (len cap : Nat) (lo hi mx : Option Operand) (K : Nat → Nat → Nat → Prop) : Prop :=
  match (match mx with
    | none => some none
    | some x => match ev tm x with
      | some (.v (.int _ n)) => some (some n)
      | _ => none) with
  | none => False
  | some m => match (match hi with
    | none => some none
    | some x => match ev tm x with
      | some (.v (.int _ n)) => some (some n)
      | _ => none) with
    | none => False
    | some h => match (match lo with
      | none => some none
      | some x => match ev tm x with
        | some (.v (.int _ n)) => some (some n)
        | _ => none) with
      | none => False
      | some l => match m with
        | none => match h with
          | none => match l with
            | none => K 0 len cap
            | some l => (0 ≤ l ∧ l ≤ (len : Int)) ∧ K l.toNat len cap
          | some h => match l with
            | none => (0 ≤ h ∧ h ≤ (cap : Int)) ∧ K 0 h.toNat cap
            | some l => (0 ≤ l ∧ l ≤ h ∧ h ≤ (cap : Int)) ∧ K l.toNat h.toNat cap
        | some m => match h with
          | none => False
          | some h => match l with
            | none => (0 ≤ h ∧ h ≤ m ∧ m ≤ (cap : Int)) ∧ K 0 h.toNat m.toNat
            | some l => (0 ≤ l ∧ l ≤ h ∧ h ≤ m ∧ m ≤ (cap : Int)) ∧ K l.toNat h.toNat m.toNat

/-- A slice of a slice or of a string. -/
def sliS (Γ : Env) (st : SState) (t : TypeId) (x : SV) (lo hi mx : Option Operand) (K : SState → SV → Prop) : Prop := match Γ.ty t with
  | none => False
  | some ti => match ti.k with
    | .slice e => match Γ.ty e with
      | none => False
      | some ei => match x with
        | .nils => bndS st.tm 0 0 lo hi mx (fun l h m => K st .nils)
        | .v (.slice a n c) => bndS st.tm n c lo hi mx (fun l h m => K st (.v (.slice (if m = l then a else a.map (·.add (l * ei.size))) (h - l) (m - l))))
        | .osl id n c z => match lo with
          | none => match mx with
            | none => bndS st.tm n c lo hi mx (fun l h m => K st (.osl id h c z))
            | some _ => bndS st.tm n c lo hi mx (fun l h m => h ≤ m ∧ (m = 0 → ∀ a : Option Addr, (a.isNone = (c == 0 && z.isNil)) → K (newS st (.orow [] 0 0 ei.size)) (.osl st.nx 0 0 (.src a))) ∧ (m ≠ 0 → K st (.sub id 0 h m)))
          | some _ => bndS st.tm n c lo hi mx (fun l h m => h ≤ m ∧ (m = l → ∀ a : Option Addr, (a.isNone = (c == 0 && z.isNil)) → K (newS st (.orow [] 0 0 ei.size)) (.osl st.nx 0 0 (.src a))) ∧ (m ≠ l → K st (.sub id (l * ei.size) (h - l) (m - l))))
        | .sub id b n c => bndS st.tm n c lo hi mx (fun l h m => h ≤ m ∧ (m = l → ∀ a : Option Addr, a.isSome = true → K (newS st (.orow [] 0 0 ei.size)) (.osl st.nx 0 0 (.src a))) ∧ (m ≠ l → K st (.sub id (b + l * ei.size) (h - l) (m - l))))
        | _ => False
    | .str => match x with
      | .v (.string s) => match mx with
        | none => bndS st.tm s.size s.size lo hi none (fun l h _ => K st (.v (.string (s.extract l h))))
        | some _ => False
      | _ => False
    | _ => False


/-! ### Structs that are compared -/
def eqSV (c : CK) (x y : SV) : Option Bool := match c with
  | .int k => match x with
    | .v (.int k1 n) => match y with
      | .v (.int k2 m) => match Nat.beq (ikN k1) (ikN k) with
        | true => match Nat.beq (ikN k2) (ikN k) with
          | true => some (n == m)
          | false => none
        | false => none
      | _ => none
    | _ => none
  | .bool => match boolOf x with
    | some p => match boolOf y with
      | some q => some (p == q)
      | none => none
    | none => none
  | .str => match x with
    | .v (.string s) => match y with
      | .v (.string t) => some (s == t)
      | _ => none
    | _ => none
  | _ => none
def eqSegs : List CK → List Seg → List Seg → Option (List Bool)
  | [], [], [] => some []
  | c :: ks, s :: l, t :: l' => match s with
    | .one x => match t with
      | .one y => match eqSV c x y with
        | some b => match eqSegs ks l l' with
          | some bs => some (b :: bs)
          | none => none
        | none => none
      | .many _ _ => none
    | .many _ _ => none
  | _, _, _ => none
def andL : List Bool → Bool
  | [] => true
  | b :: r => match r with
    | [] => b
    | c :: s => b && andL (c :: s)
def eqAgg (Γ : Env) (t : TypeId) (op : BinOp) (x y : SV) (K : SV → Prop) : Prop := match Γ.eq t with
  | none => False
  | some ks => match x with
    | .agg l => match y with
      | .agg l' => match eqSegs ks l l' with
        | some bs => eqRes op (andL bs) K
        | none => False
      | _ => False
    | _ => False

/-! ### Bytes and strings -/
def isU8 (v : Value) : Prop := ∃ n : Int, v = .int .u8 n
def byteV : Value → UInt8
  | .int _ n => UInt8.ofNat n.toNat
  | _ => 0
def strOf (vs : List Value) : ByteArray := ⟨(vs.map byteV).toArray⟩
/-- What a slice of bytes is as a string. -/
def strS (hp : List (Nat × SB)) (fx : World → Prop) (x : SV) (K : ByteArray → Prop) : Prop := match x with
  | .nils => K (strOf [])
  | .v (.slice a n _) => ∃ vs : List Value, vs.length = n ∧ (∀ v ∈ vs, isU8 v) ∧ (∀ w, fx w → RowAt w a vs) ∧ K (strOf vs)
  | .osl id n c _ => match lk hp id with
    | some (.orow vs len cap s) => match Nat.beq s 1 with
      | true => (n = len ∧ c = cap ∧ (∀ v ∈ vs, isU8 v)) ∧ K (strOf vs)
      | false => False
    | _ => False
  | .sub id lo n _ => match lk hp id with
    | some (.orow vs _ cap _) => (lo + n ≤ vs.length ∧ cap ≠ 0 ∧ (∀ v ∈ vs, isU8 v)) ∧ K (strOf ((vs.drop lo).take n))
    | _ => False
  | _ => False
def isU8T (ty : TypeId → Option TI) (e : TypeId) : Bool := match ty e with
  | some ei => match ei.k with
    | .int k => Nat.beq (ikN k) 4
    | _ => false
  | none => false
/-- Does a conversion make a new array? -/
def acv (Γ : Env) (o : Oper) : Bool := match o.op with
  | .convert _ d _ => isSlc Γ.ty d
  | _ => false

/-- Does a pointer lead into a row? -/
def rowP (hp : List (Nat × SB)) : SV → Bool
  | .ptr id o => match lk hp id with
    | some (.orow _ _ _ _) => true
    | some (.cells l) => match locM l o with
      | some _ => true
      | none => false
    | none => false
  | .ptrx _ _ _ => true
  | _ => false
/-- What is sealed ahead of an append. -/
def appIds (hp : List (Nat × SB)) (d x : SV) : List Nat := match d with
  | .osl _ _ _ _ => match x with
    | .sub id _ _ _ => match lk hp id with
      | some (.cells l) => idsS l
      | _ => []
    | _ => []
  | _ => []

def opS (Γ : Env) (o : Oper) (st : SState) (K : SState → Prop) : Prop := match o.op with
  | .move x => match ev st.tm x with
    | some r => putS Γ.N o.dst r st K
    | none => False
  | .assign x => match ev st.tm x with
    | some r => putS Γ.N o.dst r st K
    | none => False
  | .pick c x y => match ev st.tm c with
    | some (.v (.bool true)) => match ev st.tm x with
      | some r => putS Γ.N o.dst r st K
      | none => False
    | some (.v (.bool false)) => match ev st.tm y with
      | some r => putS Γ.N o.dst r st K
      | none => False
    | some (.b p) => match ev st.tm x with
      | some x => match boolOf x with
        | some u => match ev st.tm y with
          | some y => match boolOf y with
            | some v => putS Γ.N o.dst (.b (bif p then u else v)) st K
            | none => False
          | none => False
        | none => False
      | none => False
    | _ => False
  | .alloc t => match Γ.ty t with
    | some ti => putS Γ.N o.dst (.ptr st.nx 0) (newS st (.cells ti.zero)) K
    | none => False
  | .box t x => match ev st.tm x with
    | some x => match cellsOf x with
      | some l => putS Γ.N o.dst (.ptr st.nx 0) (newS st (.cells l)) K
      | none => False
    | none => False
  | .build t ps => match Γ.ty t with
    | some ti => match evP st.tm ps.toList with
      | some ps => match fillS Γ.ty ti ps ti.zero with
        | some l => match buildOk Γ.ty ti with
          | true => putS Γ.N o.dst (.agg l) st K
          | false => False
        | none => False
      | none => False
    | none => False
  | .load t x => match Γ.ty t with
    | some ti => match ev st.tm x with
      | some p => loadS ti st.hp st.fx p (fun r => putS Γ.N o.dst r st K)
      | none => False
    | none => False
  | .store t x y => match Γ.ty t with
    | some ti => match ev st.tm x with
      | some p => match ev st.tm y with
        | some u => match o.dst with
          | none => match rowP st.hp p with
            | false => storeS ti st.hp p u (fun hp => K { st with hp := hp })
            | true => sealS u.ids st (fun st f => storeS ti st.hp (f p) (f u) (fun hp => K { st with hp := hp }))
          | some _ => False
        | none => False
      | none => False
    | none => False
  | .nilCheck x => match ev st.tm x with
    | some p => nilChkS st.fx p (fun r => putS Γ.N o.dst r st K)
    | none => False
  | .binOp op t x y _ => match Γ.ty t with
    | some ti => match ev st.tm x with
      | some x => match ev st.tm y with
        | some y => match ti.k with
          | .struct _ => eqAgg Γ t op x y (fun r => putS Γ.N o.dst r st K)
          | k => binS k op x y (fun r => putS Γ.N o.dst r st K)
        | none => False
      | none => False
    | none => False
  | .unOp op _ x => match ev st.tm x with
    | some x => unS1 op x (fun r => putS Γ.N o.dst r st K)
    | none => False
  | .convert s d x => match Γ.ty s with
    | some si => match Γ.ty d with
      | some ti => match ti.k with
        | .int k => match ev st.tm x with
          | some (.v (.int _ n)) => putS Γ.N o.dst (.v (.int k (k.wrap n))) st K
          | _ => False
        | .str => match si.k with
          | .slice e => match isU8T Γ.ty e with
            | true => match ev st.tm x with
              | some x => strS st.hp st.fx x (fun s => putS Γ.N o.dst (.v (.string s)) st K)
              | none => False
            | false => False
          | _ => False
        | .slice e => match si.k with
          | .str => match isU8T Γ.ty e with
            | true => match ev st.tm x with
              | some (.v (.string s)) => ∀ c', s.size ≤ c' → putS Γ.N o.dst (.osl st.nx s.size c' .own) (newS st (.orow (byteCells s) s.size c' 1)) K
              | _ => False
            | false => False
          | _ => False
        | _ => False
      | none => False
    | none => False
  | .makeFunc f fst caps => match f with
    | .func g => match fst.toList with
      | [] => match evL st.tm caps.toList with
        | some l => match smplL l with
          | true => putS Γ.N o.dst (.clo g l) st K
          | false => False
        | none => False
      | _ => False
    | _ => False
  | .fieldAddr t x i => match fieldAt Γ.ty t i with
    | some (off, fi) => match Nat.beq fi.size 0 with
      | true => False
      | false => match ev st.tm x with
        | some p => plusP st.fx p off (fun r => putS Γ.N o.dst r st K)
        | none => False
    | none => False
  | .field t x i => match fieldAt Γ.ty t i with
    | some (off, fi) => match ev st.tm x with
      | some (.agg l) => match getS l off fi.size with
        | some r => unS fi r (fun r => putS Γ.N o.dst r st K)
        | none => False
      | _ => False
    | none => False
  | .indexAddr t x i => match ev st.tm x with
    | some x => match ev st.tm i with
      | some (.v (.int _ i)) => indexAddrS Γ.ty st.hp st.fx t x i (fun r => putS Γ.N o.dst r st K)
      | _ => False
    | none => False
  | .buildSlice t len ps => match elemAt Γ.ty t with
    | some ei => match Γ.ty t with
      | some ti => match ti.k with
        | .slice e => match evP st.tm ps.toList with
          | some ps => match len with
            | 0 => match ps with
              | [] => putS Γ.N o.dst (.osl st.nx 0 0 .own) (newS st (.orow [] 0 0 ei.size)) K
              | _ => False
            | n + 1 => match fillS Γ.ty { ti with k := .arr (n + 1) e } ps (zerosS ei.zero (n + 1)) with
              | some l => match Nat.ble ((n + 1) * ei.size) 16777216 with
                | true => match Nat.blt 0 ei.size with
                  | true => putS Γ.N o.dst (.sub st.nx 0 (n + 1) (n + 1)) (newS st (.cells l)) K
                  | false => False
                | false => False
              | none => False
          | none => False
        | _ => False
      | none => False
    | none => False
  | .makeSlice t l c => match elemAt Γ.ty t with
    | some ei => match Γ.ty t with
      | some ti => match ti.k with
        | .slice _ => match ev st.tm l with
          | some (.v (.int _ l)) => match ev st.tm c with
            | some (.v (.int _ c)) => match valsOf ei.zero with
              | some zv => (0 ≤ l ∧ l ≤ c ∧ (ei.bytes : Int) * c ≤ 281474976710656 ∧ c ≤ 9223372036854775807) ∧ putS Γ.N o.dst (.osl st.nx l.toNat c.toNat .own) (newS st (.orow (zerosV zv l.toNat) l.toNat c.toNat ei.size)) K
              | none => False
            | _ => False
          | _ => False
        | _ => False
      | none => False
    | none => False
  | .slice t x lo hi mx => match ev st.tm x with
    | some x => sliS Γ st t x lo hi mx (fun st r => putS Γ.N o.dst r st K)
    | none => False
  | .extract x i => match ev st.tm x with
    | some (.tup l) => match l[i]? with
      | some r => putS Γ.N o.dst r st K
      | none => False
    | _ => False
  | .call c => match c.callee with
    | .value f => match ev st.tm f with
      | some (.clo g caps) => match Γ.fs g with
        | some I => match evL st.tm c.args.toList with
          | some as => I Γ.yd (as ++ caps) st (fun st' r => putS Γ.N o.dst r st' K)
          | none => False
        | none => False
      | some (.v (.func (.yield l) u v)) => match Γ.yd with
        | some (l0, Y) => match evL st.tm c.args.toList with
          | some as => match u.toList with
            | [] => match v.toList with
              | [] => l = l0 ∧ Y as st (fun e st' => putS Γ.N o.dst (.v (.bool e.isNone)) { st' with tm := st.tm } K)
              | _ => False
            | _ => False
          | none => False
        | none => False
      | _ => False
    | .builtin .len => match c.args.toList with
      | [x] => match c.argTypes[0]? with
        | some t => match Γ.ty t with
          | some ti => match ev st.tm x with
            | some x => match lenOfS ti.k x with
              | some n => putS Γ.N o.dst (.v (.int .i64 (n : Int))) st K
              | none => False
            | none => False
          | none => False
        | none => False
      | _ => False
    | .builtin .append => match c.args.toList with
      | [d, x] => match c.argTypes.toList with
        | [t, tx] => match ev st.tm d with
          | some d => match ev st.tm x with
            | some x => sealS (appIds st.hp d x) st (fun st f => appS Γ st.hp st.fx st.nx t tx (f d) (f x) (fun hp r => putS Γ.N o.dst r { st with hp := hp, nx := st.nx + 1 } K))
            | none => False
          | none => False
        | _ => False
      | _ => False
    | .builtin .min => match evL st.tm c.args.toList with
      | some [.v (.int k x), .v (.int k' y)] => putS Γ.N o.dst (.v (.int k (if y < x then y else x))) st K
      | _ => False
    | .builtin .max => match evL st.tm c.args.toList with
      | some [.v (.int k x), .v (.int k' y)] => putS Γ.N o.dst (.v (.int k (if y > x then y else x))) st K
      | _ => False
    | _ => False
  | _ => False

/-- An operation that leaves the world alone. -/
def opE (Γ : Env) (o : Oper) (st : SState) (K : SState → Prop) : Prop := match acv Γ o with
  | true => False
  | false => opS Γ o st K
def skipS (N : Nat) (dst : Option Tmp) (st : SState) (K : SState → Prop) : Prop := match dst with
  | none => K st
  | some d => match Nat.blt d N with
    | true => K { st with tm := (d, .tup []) :: st.tm }
    | false => K { st with tm := rm st.tm d }

def sxOps (Γ : Env) (all : Array Oper) : List Oper → SState → (SState → Prop) → Prop
  | [], st, K => K st
  | o :: r, st, K => match o.guard with
    | none => opS Γ o st (fun st' => sxOps Γ all r st' K)
    | some (j, want) => match all[j]? with
      | some oj => match oj.dst with
        | some s => match lk st.tm s with
          | some (.v (.bool true)) => match want with
            | true => opS Γ o st (fun st' => sxOps Γ all r st' K)
            | false => skipS Γ.N o.dst st (fun st' => sxOps Γ all r st' K)
          | some (.v (.bool false)) => match want with
            | true => skipS Γ.N o.dst st (fun st' => sxOps Γ all r st' K)
            | false => opS Γ o st (fun st' => sxOps Γ all r st' K)
          | some (.tup _) => skipS Γ.N o.dst st (fun st' => sxOps Γ all r st' K)
          | some (.b p) => (p = want → opS Γ o { st with tm := (s, .v (.bool want)) :: st.tm } (fun st' => sxOps Γ all r st' K)) ∧
              (p = (!want) → skipS Γ.N o.dst { st with tm := (s, .v (.bool (!want))) :: st.tm } (fun st' => sxOps Γ all r st' K))
          | _ => False
        | none => False
      | none => False

/-- An operation, its guard looked at. -/
def guardS (all : Array Oper) (o : Oper) (st : SState) (yes no : SState → Prop) : Prop := match o.guard with
  | none => yes st
  | some (j, want) => match all[j]? with
    | some oj => match oj.dst with
      | some s => match lk st.tm s with
        | some (.v (.bool true)) => match want with
          | true => yes st
          | false => no st
        | some (.v (.bool false)) => match want with
          | true => no st
          | false => yes st
        | some (.tup _) => no st
        | some (.b p) => (p = want → yes { st with tm := (s, .v (.bool want)) :: st.tm }) ∧ (p = (!want) → no { st with tm := (s, .v (.bool (!want))) :: st.tm })
        | _ => False
      | none => False
    | none => False

def eqVal (x y : Value) : Prop := match x with
  | .int k n => match y with
    | .int k' m => match Nat.beq (ikN k) (ikN k') with
      | true => n = m
      | false => False
    | _ => False
  | .bool p => match y with
    | .bool q => p = q
    | _ => False
  | .string s => match y with
    | .string t => s = t
    | _ => False
  | .slice a n c => match y with
    | .slice a' n' c' => a = a' ∧ n = n' ∧ c = c'
    | _ => False
  | x => x = y
def beq2 (i j o p : Nat) (K : Prop) : Prop := match Nat.beq i j with
  | true => match Nat.beq o p with
    | true => K
    | false => False
  | false => False
mutual
/-- Two values are the same. -/
def eqS (x y : SV) : Prop := match x with
  | .v u => match y with
    | .v v => eqVal u v
    | _ => False
  | .b p => match y with
    | .b q => p = q
    | _ => False
  | .nils => match y with
    | .nils => True
    | _ => False
  | .nilp => match y with
    | .nilp => True
    | _ => False
  | .nilf => match y with
    | .nilf => True
    | _ => False
  | .ptr i o => match y with
    | .ptr j p => beq2 i j o p True
    | _ => False
  | .ptrx i o x => match y with
    | .ptrx j p x' => beq2 i j o p (x = x')
    | _ => False
  | .optr a k => match y with
    | .optr a' k' => a = a' ∧ k = k'
    | _ => False
  | .osl i n c z => match y with
    | .osl j n' c' z' => beq2 i j 0 0 (n = n' ∧ c = c' ∧ z = z')
    | _ => False
  | .sub i lo n c => match y with
    | .sub j lo' n' c' => beq2 i j 0 0 (lo = lo' ∧ n = n' ∧ c = c')
    | _ => False
  | .clo f l => match y with
    | .clo g l' => beq2 f g 0 0 (eqLs l l')
    | _ => False
  | .agg l => match y with
    | .agg l' => eqG l l'
    | _ => False
  | .tup l => match y with
    | .tup l' => eqLs l l'
    | _ => False
  termination_by structural x
def eqLs (l r : List SV) : Prop := match l with
  | [] => match r with
    | [] => True
    | _ :: _ => False
  | x :: l => match r with
    | [] => False
    | y :: r => eqS x y ∧ eqLs l r
  termination_by structural l
def eqG (l r : List Seg) : Prop := match l with
  | [] => match r with
    | [] => True
    | _ :: _ => False
  | x :: l => match r with
    | [] => False
    | y :: r => eqGs x y ∧ eqG l r
  termination_by structural l
def eqGs (x y : Seg) : Prop := match x with
  | .one x => match y with
    | .one y => eqS x y
    | .many _ _ => False
  | .many n vs => match y with
    | .one _ => False
    | .many n' vs' => n = n' ∧ vs = vs'
  termination_by structural x
end
/-- Once more, it would yield the same. -/
def againS (Γ : Env) (all : Array Oper) (j : Nat) (st : SState) : Prop := match all[j]? with
  | some o => guardS all o st (fun st => match o.dst with
    | none => opE Γ o st (fun _ => True)
    | some d => match lk st.tm d with
      | some x => opE Γ o st (fun st' => match lk st'.tm d with
        | some y => eqS y x
        | none => False)
      | none => False) (fun _ => True)
  | none => False
def againsS (Γ : Env) (all : Array Oper) : List Nat → SState → Prop
  | [], _ => True
  | j :: r, st => againS Γ all j st ∧ againsS Γ all r st

def sxDraw (Γ : Env) (all : Array Oper) : DT → SState → (SState → Prop) → Prop
  | .done, st, K => K st
  | .stop, _, _ => True
  | .eag i r, st, K => match all[i]? with
    | some o => guardS all o st (fun st => opE Γ o st (fun st' => sxDraw Γ all r st' K)) (fun st => skipS Γ.N o.dst st (fun st' => sxDraw Γ all r st' K))
    | none => False
  | .alt i ag r more, st, K => (match all[i]? with
    | some o => guardS all o st (fun st => opS Γ o st (fun st' => againsS Γ all ag st' ∧ sxDraw Γ all r st' K)) (fun st => skipS Γ.N o.dst st (fun st' => againsS Γ all ag st' ∧ sxDraw Γ all r st' K))
    | none => False) ∧ (match more with
    | .stop => True
    | _ => sxDraw Γ all more st K)

/-- The first region of a code: by its number a loop is known. -/
def fstReg : Code → Nat
  | .region id _ _ => id
  | .seq a _ => fstReg a
  | .block _ b => fstReg b
  | .scope b => fstReg b
  | .loop b => fstReg b
  | .cond _ a _ => fstReg a
  | _ => 100000

/-- The loop's variables set. -/
def setPs (N : Nat) : List Tmp → List SV → List (Nat × SV) → Option (List (Nat × SV))
  | [], [], tm => some tm
  | p :: r, x :: l, tm => match Nat.blt p N with
    | true => match x with
      | .tup _ => none
      | x => setPs N r l ((p, x) :: tm)
    | false => none
  | _, _, _ => none

/-- A loop, so many rounds of it. -/
def iterS (f : SState → (SExit → SState → Prop) → Prop) : Nat → SState → (SExit → SState → Prop) → Prop
  | 0, _, _ => False
  | n + 1, st, K => f st (fun e st' => match e with
    | .normal => iterS f n st' K
    | .ret => K .ret st'
    | .exit j => K (.exit j) st')

def sxC (Γ : Env) : Code → SState → (SExit → SState → Prop) → Prop
  | .skip, st, K => K .normal st
  | .region id ops draw, st, K => match draw with
    | false => sxOps Γ ops ops.toList st (fun st' => K .normal st')
    | true => match Γ.dr id with
      | some (A, T) => match statOk ops Γ.N A with
        | true => match dtOk ops A T (List.range ops.size) [] [] with
          | true => sxDraw Γ ops T st (fun st' => K .normal st')
          | false => False
        | false => False
      | none => False
  | .seq a b, st, K => match Γ.ct (fstReg b) st with
    | none => sxC Γ a st (fun e st' => match e with
      | .normal => sxC Γ b st' K
      | .ret => K .ret st'
      | .exit j => K (.exit j) st')
    | some L => sxC Γ a st (fun e st' => match e with
      | .normal => sealS (L.sl st') st' (fun st' _ => ∃ x, entS Γ.F L st.fx st.pe x st')
      | .ret => K .ret st'
      | .exit j => K (.exit j) st') ∧ ∀ x, L.ok x → sxC Γ b { tm := L.tm x, hp := L.hp x, nx := L.nx, fx := fun w => st.fx w ∧ L.fx x w, pe := st.pe } K
  | .cond c a b, st, K => match c with
    | .tmp s => match lk st.tm s with
      | some (.v (.bool true)) => sxC Γ a st K
      | some (.v (.bool false)) => sxC Γ b st K
      | some (.b p) => (p = true → sxC Γ a { st with tm := (s, .v (.bool true)) :: st.tm } K) ∧ (p = false → sxC Γ b { st with tm := (s, .v (.bool false)) :: st.tm } K)
      | _ => False
    | _ => False
  | .block id a, st, K => sxC Γ a st (fun e st' => match e with
    | .normal => K .normal st'
    | .ret => K .ret st'
    | .exit j => match Nat.beq j id with
      | true => K .normal st'
      | false => K (.exit j) st')
  | .loop a, st, K => match Γ.lp (fstReg a) with
    | none => iterS (fun st K => sxC Γ a st K) (Γ.ur (fstReg a)) st K
    | some L => (sealS (L.sl st) st (fun st' _ => ∃ x, entS Γ.F L st.fx st.pe x st')) ∧ ∀ x, L.ok x →
      sxC Γ a { tm := L.tm x, hp := L.hp x, nx := L.nx, fx := fun w => st.fx w ∧ L.fx x w, pe := st.pe } (fun e st' => match e with
        | .normal => sealS (L.sl st') st' (fun st' _ => ∃ x', entS Γ.F L st.fx st.pe x' st' ∧ L.μ x' < L.μ x)
        | .ret => K .ret st'
        | .exit j => K (.exit j) st')
  | .exit id, st, K => K (.exit id) st
  | .scope a, st, K => sxC Γ a st K
  | .label _, st, K => K .normal st
  | .goto _, _, _ => False
  | .ret, st, K => K .ret st
  | .refuse _, _, _ => False
  | .rangeFunc g ps assign body, st, K => match ev st.tm g with
    | some (.clo f caps) => match Γ.it f with
      | some I => ∀ l : Nat, I (fun as st1 K1 => match st1.pe with
          | none :: pe1 => match setPs Γ.N ps.toList as st.tm with
            | some tm => sxC { Γ with F := st1.nx } assign { st1 with tm := tm, pe := pe1 } (fun e st2 => match e with
              | .normal => sxC { Γ with F := st1.nx } body st2 (fun e st3 => match e with
                | .normal => K1 none { st3 with pe := none :: st3.pe }
                | .ret => K1 (some .ret) { st3 with pe := some .ret :: st3.pe }
                | .exit j => K1 (some (.exit j)) { st3 with pe := some (.exit j) :: st3.pe })
              | _ => False)
            | none => False
          | _ => False) l (.v (.func (.yield l) #[] #[]) :: caps) { st with pe := none :: st.pe } (fun st' => match st'.pe with
            | none :: pe1 => K .normal { st' with tm := st.tm, pe := pe1 }
            | some e :: pe1 => match e with
              | .normal => False
              | .ret => K .ret { st' with tm := st.tm, pe := pe1 }
              | .exit j => K (.exit j) { st' with tm := st.tm, pe := pe1 }
            | [] => False)
      | none => False
    | _ => False

end Go.SX
