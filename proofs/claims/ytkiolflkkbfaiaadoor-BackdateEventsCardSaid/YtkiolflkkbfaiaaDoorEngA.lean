/- The engine, part 1: pure data, states of the symbolic run, the executor, its trees. No program in sight. Conditions: none. -/
import Derived.Orders
import Derived.Below
import Derived.Maps.AppendAt
import Derived.WalkKit
set_option linter.unusedVariables false
namespace Go.Eng
open Go.RowKit

/-- Pure data: what a value reads as, to the bottom. -/
inductive D where
  | int (k : IntKind) (n : Int)
  | bool (b : Bool)
  | str (s : ByteArray)
  | slice (rows : List (List D))
  | agg (cells : List D)
  | fn (f : FuncId) (caps : List (List D))
  deriving Inhabited
def D.isCell : D → Bool
  | .agg _ => false
  | _ => true
def D.cells : D → List D
  | .agg cs => cs
  | d => [d]
/-- No slice and no function inside: nothing that memory could bear. -/
def D.flat1 : D → Bool
  | .int _ _ => true
  | .bool _ => true
  | .str _ => true
  | _ => false
def allB {α : Type} (p : α → Bool) : List α → Bool
  | [] => true
  | a :: r => match p a with
    | true => allB p r
    | false => false
def D.flat : D → Bool
  | .agg cs => allB D.flat1 cs
  | d => d.flat1

/-- What a slot of a result, a tuple or a box holds. -/
inductive RV where
  | val (d : D)
  | own (nm : Nat)
  | nils
  | any
  deriving Inhabited
/-- What a temporary holds. -/
inductive Slot where
  | unit
  | rv (r : RV)
  | gval (lits : List (Nat × Bool)) (s : Slot)
  | tup (l : List RV)
  | box (nm off : Nat)
  | row (cells : List D) (off : Nat)
  | vel (nm i sz off : Nat)
  deriving Inhabited
/-- A block of the call's own. -/
inductive Blk where
  | box (cells : List RV)
  | vec (e : TypeId) (rows : List (List D))
  | fro (rows : List (List D))
  | frob (cells : List D)
  deriving Inhabited

/-! ### Types, as the executor sees them -/
inductive TK where
  | int (k : IntKind)
  | bool
  | str
  | slice (e : TypeId)
  | struct (fs : List (TypeId × Nat × Nat))
  | array (n : Nat) (e : TypeId)
  | ptr (e : TypeId)
  | other
  deriving Inhabited
structure TI where
  kind : TK
  size : Nat
  bytes : Nat
  zero : List RV
  eqok : Bool
  deriving Inhabited
def zeroRV : Value → RV
  | .int k n => .val (.int k n)
  | .bool b => .val (.bool b)
  | .string s => match s.size with
    | 0 => .val (.str s)
    | _ => .any
  | .slice none 0 0 => .nils
  | _ => .any
def szOf (P : Program) (t : TypeId) : Nat := match P.info? t with
  | some i => i.size
  | none => 0
def kindOf (P : Program) (t : TypeId) : TK := match P.underlying t with
  | some (.int k) => .int k
  | some .bool => .bool
  | some .string => .str
  | some (.slice e) => .slice e
  | some (.array n e) => .array n e
  | some (.pointer e) => .ptr e
  | some (.struct fs) => .struct (fs.toList.map fun f => (f.type, f.offset, szOf P f.type))
  | _ => .other
/-- '==' at a struct type whose fields all count. -/
def eqOk (P : Program) (t : TypeId) : Bool := match P.underlying t with
  | some (.struct fs) => !P.stoodInHeld t && !P.eqGuardType P.depth t && fs.toList.all fun f => f.name != "_"
  | _ => false
def tiOf (P : Program) (t : TypeId) : Option TI := match P.info? t, P.underlying t with
  | some i, some _ => match i.zero with
    | some z => some { kind := kindOf P t, size := i.size, bytes := i.bytes, zero := z.cells.toList.map zeroRV, eqok := eqOk P t }
    | none => none
  | _, _ => none
def TK.isAgg : TK → Bool
  | .struct _ => true
  | .array _ _ => true
  | _ => false

/-! ### States -/
def lookS : List (Nat × Slot) → Nat → Slot
  | [], _ => .unit
  | (j, s) :: r, i => match Nat.beq i j with
    | true => s
    | false => lookS r i
def lookB : List (Nat × Option Blk) → Nat → Option Blk
  | [], _ => none
  | (j, s) :: r, i => match Nat.beq i j with
    | true => s
    | false => lookB r i
structure St where
  slots : List (Nat × Slot)
  blks : List (Nat × Option Blk)
  next : Nat
  deriving Inhabited
structure Patch where
  slot : Slot
  blks : List (Nat × Option Blk)
  deriving Inhabited
/-- What a call hands back. -/
inductive RR where
  | val (d : D)
  | own (e : TypeId) (rows : List (List D))
  deriving Inhabited
/-- What a call is handed: data, or a pointer to a frozen row (what a closure has captured). -/
inductive Arg where
  | val (d : D)
  | row (cells : List D)
  deriving Inhabited

/-- One operation's tree. -/
inductive PT where
  | fail
  | ok (p : Patch)
  | need (p : Prop) (k : PT)
  | opt (o : Option (List D)) (k : List D → PT)
  | call (f : FuncId) (args : List Arg) (k : List RR → PT)
  | anyNil (rows : List (List D)) (k : Bool → PT)
inductive Ex where
  | normal
  | exit (id : Nat)
  deriving Inhabited
inductive T where
  | fail
  | ret (rs : List RR)
  | done (e : Ex) (st : St)
  | ite (c : Bool) (t e : T)
  | need (c : Bool) (p : Prop) (k : T)
  | opt (c : Bool) (o : Option (List D)) (k : List D → T)
  | call (c : Bool) (f : FuncId) (args : List Arg) (k : List RR → T)
  | anyNil (rows : List (List D)) (k : Bool → T)
  | loop (body : Code) (st : St) (k : Ex → St → T)
  | cut (rest : Code) (st : St) (k : Ex → St → T)

/-! ### The operations -/
def wrapK (k : IntKind) (n : Int) : Int := k.wrap n
def bitsI (op : BinOp) (k : IntKind) (x y : Int) : Int :=
  let a := BitVec.ofInt k.bits x
  let b := BitVec.ofInt k.bits y
  match op with
  | .and => k.wrap (a &&& b).toNat
  | .or => k.wrap (a ||| b).toNat
  | .xor => k.wrap (a ^^^ b).toNat
  | _ => k.wrap (a &&& ~~~b).toNat
def bt (s : ByteArray) (i : Int) : Int := if h : i.toNat < s.size then ((s[i.toNat]'h).toNat : Int) else 0
def getRow (rows : List (List D)) (i : Int) : Option (List D) := if 0 ≤ i then rows[i.toNat]? else none
def getPart (cs : List D) (off n : Nat) : Option (List D) := if off + n ≤ cs.length then some ((cs.drop off).take n) else none

def PT.valOk (d : D) : PT := .ok ⟨.rv (.val d), []⟩
/-- An int operation. -/
def binI (op : BinOp) (k : IntKind) (a b : Int) : PT :=
  match op with
  | .add => .valOk (.int k (k.wrap (a + b)))
  | .sub => .valOk (.int k (k.wrap (a - b)))
  | .mul => .valOk (.int k (k.wrap (a * b)))
  | .quo => .need (b ≠ 0) (.valOk (.int k (k.wrap (a.tdiv b))))
  | .rem => .need (b ≠ 0) (.valOk (.int k (a.tmod b)))
  | .and => .valOk (.int k (bitsI .and k a b))
  | .or => .valOk (.int k (bitsI .or k a b))
  | .xor => .valOk (.int k (bitsI .xor k a b))
  | .andNot => .valOk (.int k (bitsI .andNot k a b))
  | .eql => .valOk (.bool (a == b))
  | .neq => .valOk (.bool (a != b))
  | .lss => .valOk (.bool (a < b))
  | .leq => .valOk (.bool (a ≤ b))
  | .gtr => .valOk (.bool (a > b))
  | .geq => .valOk (.bool (a ≥ b))
  | _ => .fail
def binS (op : BinOp) (a b : ByteArray) : PT :=
  match op with
  | .add => .need (a.size + b.size ≤ 9223372036854775807) (.valOk (.str (a ++ b)))
  | .eql => .valOk (.bool (a.toList == b.toList))
  | .neq => .valOk (.bool (!(a.toList == b.toList)))
  | .lss => .valOk (.bool (Op.bytesLess a.toList b.toList))
  | .leq => .valOk (.bool (Op.bytesLess a.toList b.toList || a.toList == b.toList))
  | .gtr => .valOk (.bool (!(Op.bytesLess a.toList b.toList || a.toList == b.toList)))
  | .geq => .valOk (.bool (!(Op.bytesLess a.toList b.toList)))
  | _ => .fail
/-! ### What an operand and a row of cells read as -/
abbrev Blks := Nat → Option Blk
abbrev Pch := List (Nat × Option Blk)
def toD (bl : Blks) : RV → Option (D × Pch)
  | .val d => some (d, [])
  | .own nm => match bl nm with
    | some (.vec _ rows) => some (.slice rows, [(nm, some (.fro rows))])
    | some (.fro rows) => some (.slice rows, [])
    | _ => none
  | .nils => some (.slice [], [])
  | .any => none
def cellsD (bl : Blks) : List RV → Option (List D × Pch)
  | [] => some ([], [])
  | r :: rs => match toD bl r with
    | some (d, p) => match d.isCell with
      | true => match cellsD bl rs with
        | some (ds, q) => some (d :: ds, p ++ q)
        | none => none
      | false => none
    | none => none
def partAt {α : Type} (cs : List α) (off n : Nat) : Option (List α) := match Nat.ble (off + n) cs.length with
  | true => some ((cs.drop off).take n)
  | false => none
def splice {α : Type} (cs : List α) (off : Nat) (new : List α) : Option (List α) := match Nat.ble (off + new.length) cs.length with
  | true => some (cs.take off ++ new ++ cs.drop (off + new.length))
  | false => none
def valsOf (bl : Blks) : Slot → Option (D × Pch)
  | .rv r => toD bl r
  | _ => none
def rvCells (bl : Blks) : RV → Option (List RV)
  | .val d => some (d.cells.map .val)
  | .own nm => match bl nm with
    | some (.vec _ _) => some [.own nm]
    | some (.fro _) => some [.own nm]
    | _ => none
  | .nils => some [.nils]
  | .any => none
def kindEq : IntKind → IntKind → Bool
  | .i8, .i8 | .i16, .i16 | .i32, .i32 | .i64, .i64 | .u8, .u8 | .u16, .u16 | .u32, .u32 | .u64, .u64 => true
  | _, _ => false

/-! ### One operation -/
section
variable (ti : TypeId → Option TI) (ev : Operand → Slot) (bl : Blks) (nm : Nat)

def ptLoad (t : TypeId) (a : Slot) : PT := match ti t with
  | none => .fail
  | some i => match a with
    | .box n off => match bl n with
      | some (.box cs) => match i.kind.isAgg with
        | true => match partAt cs off i.size with
          | some rs => match cellsD bl rs with
            | some (ds, p) => .ok ⟨.rv (.val (.agg ds)), p⟩
            | none => .fail
          | none => .fail
        | false => match partAt cs off 1 with
          | some [.any] => .fail
          | some [r] => .ok ⟨.rv r, []⟩
          | _ => .fail
      | some (.frob cs) => match i.kind.isAgg with
        | true => match partAt cs off i.size with
          | some ds => .ok ⟨.rv (.val (.agg ds)), []⟩
          | none => .fail
        | false => match partAt cs off 1 with
          | some [d] => .ok ⟨.rv (.val d), []⟩
          | _ => .fail
      | _ => .fail
    | .row cs off => match i.kind.isAgg with
      | true => match partAt cs off i.size with
        | some ds => .ok ⟨.rv (.val (.agg ds)), []⟩
        | none => .fail
      | false => match partAt cs off 1 with
        | some [d] => .ok ⟨.rv (.val d), []⟩
        | _ => .fail
    | .vel n j sz off => match bl n with
      | some (.vec _ rows) => .opt rows[j]? fun cs => match Nat.beq cs.length sz, i.kind.isAgg with
        | true, true => match partAt cs off i.size with
          | some ds => .ok ⟨.rv (.val (.agg ds)), []⟩
          | none => .fail
        | true, false => match partAt cs off 1 with
          | some [d] => .ok ⟨.rv (.val d), []⟩
          | _ => .fail
        | _, _ => .fail
      | _ => .fail
    | _ => .fail

def ptStore (t : TypeId) (a v : Slot) : PT := match ti t with
  | none => .fail
  | some i => match a, v with
    | .box n off, .rv r => match bl n, rvCells bl r with
      | some (.box cs), some new => match Nat.beq new.length i.size, splice cs off new with
        | true, some cs' => .ok ⟨.unit, [(n, some (.box cs'))]⟩
        | _, _ => .fail
      | _, _ => .fail
    | .vel n j sz off, .rv (.val d) => match bl n with
      | some (.vec e rows) => match Nat.beq d.cells.length i.size with
        | true => .opt rows[j]? fun cs => match Nat.beq cs.length sz, splice cs off d.cells with
          | true, some cs' => .ok ⟨.unit, [(n, some (.vec e (rows.set j cs')))]⟩
          | _, _ => .fail
        | false => .fail
      | _ => .fail
    | _, _ => .fail

def ptBox (cells : List RV) : PT := .ok ⟨.box nm 0, [(nm, some (.box cells))]⟩

/-- The parts of a struct or an array, put in their places. -/
def fillD (bl : Blks) (place : Nat → Option (Nat × Nat)) : List D → List (Nat × Slot) → Option (List D × Pch)
  | cs, [] => some (cs, [])
  | cs, (i, s) :: rest => match place i, valsOf bl s with
    | some (off, sz), some (d, p) => match Nat.beq d.cells.length sz, splice cs off d.cells with
      | true, some cs' => match fillD bl place cs' rest with
        | some (r, q) => some (r, p ++ q)
        | none => none
      | _, _ => none
    | _, _ => none
def placeS (fs : List (TypeId × Nat × Nat)) (i : Nat) : Option (Nat × Nat) := match fs[i]? with
  | some (_, off, sz) => some (off, sz)
  | none => none
def ptBuild (t : TypeId) (parts : List (Nat × Slot)) : PT := match ti t with
  | none => .fail
  | some i => match cellsD bl i.zero with
    | some (z, _) => match i.kind with
      | .struct fs => match allB (fun f => (ti f.1).isSome) fs, fillD bl (placeS fs) z parts with
        | true, some (ds, p) => .ok ⟨.rv (.val (.agg ds)), p⟩
        | _, _ => .fail
      | .array _ e => match ti e with
        | some ie => match fillD bl (fun j => some (j * ie.size, ie.size)) z parts with
          | some (ds, p) => .ok ⟨.rv (.val (.agg ds)), p⟩
          | none => .fail
        | none => .fail
      | _ => .fail
    | none => .fail
def chunk (sz : Nat) : Nat → List D → List (List D)
  | 0, _ => []
  | n + 1, cs => cs.take sz :: chunk sz n (cs.drop sz)
def repeatD (z : List D) : Nat → List D
  | 0 => []
  | n + 1 => z ++ repeatD z n
def ptBuildSlice (t : TypeId) (len : Nat) (parts : List (Nat × Slot)) : PT := match ti t with
  | none => .fail
  | some i => match i.kind with
    | .slice e => match ti e with
      | some ie => match cellsD bl ie.zero, Nat.ble 1 ie.size, Nat.ble (len * ie.size) 16777216 with
        | some (z, _), true, true => match Nat.beq z.length ie.size, fillD bl (fun j => some (j * ie.size, ie.size)) (repeatD z len) parts with
          | true, some (ds, p) => .ok ⟨.rv (.own nm), (nm, some (.vec e (chunk ie.size len ds))) :: p⟩
          | _, _ => .fail
        | _, _, _ => .fail
      | none => .fail
    | _ => .fail
def ptMakeSlice (t : TypeId) (l c : Slot) : PT := match ti t with
  | none => .fail
  | some i => match i.kind with
    | .slice e => match ti e, l, c with
      | some ie, .rv (.val (.int _ a)), .rv (.val (.int _ b)) => match cellsD bl ie.zero, Nat.ble 1 ie.size, Nat.ble 1 ie.bytes with
        | some (z, _), true, true => match Nat.beq z.length ie.size with
          | true => .need (0 ≤ a ∧ a ≤ b ∧ b * ie.bytes ≤ 140737488355328) (.ok ⟨.rv (.own nm), [(nm, some (.vec e (List.replicate a.toNat z)))]⟩)
          | false => .fail
        | _, _, _ => .fail
      | _, _, _ => .fail
    | _ => .fail
def ptFieldAddr (s : TypeId) (x : Slot) (f : Nat) : PT := match ti s with
  | none => .fail
  | some i => match i.kind with
    | .struct fs => match fs[f]? with
      | some (_, off, _ + 1) => match x with
        | .box n o => match bl n with
          | some _ => .ok ⟨.box n (o + off), []⟩
          | none => .fail
        | .row cs o => .ok ⟨.row cs (o + off), []⟩
        | .vel n j sz o => match bl n with
          | some _ => .ok ⟨.vel n j sz (o + off), []⟩
          | none => .fail
        | _ => .fail
      | _ => .fail
    | _ => .fail
def ptField (s : TypeId) (x : Slot) (f : Nat) : PT := match ti s, x with
  | some i, .rv (.val (.agg cs)) => match i.kind with
    | .struct fs => match fs[f]? with
      | some (ty, off, sz) => match ti ty with
        | some it => match it.kind.isAgg with
          | true => match partAt cs off it.size with
            | some ds => .valOk (.agg ds)
            | none => .fail
          | false => match partAt cs off 1 with
            | some [d] => .valOk d
            | _ => .fail
        | none => .fail
      | none => .fail
    | _ => .fail
  | _, _ => .fail
def rowPT (sz : Nat) (cs : List D) : PT := match Nat.beq cs.length sz with
  | true => .ok ⟨.row cs 0, []⟩
  | false => .fail
def isConst : Operand → Bool
  | .const _ => true
  | _ => false
def ptIndexAddr (lit : Bool) (t : TypeId) (x ix : Slot) : PT := match ti t, ix with
  | some i, .rv (.val (.int _ n)) => match i.kind with
    | .slice e => match ti e with
      | some ie => match x with
        | .rv (.val (.slice rows)) => .opt (getRow rows n) (rowPT ie.size)
        | .rv (.own m) => match bl m with
          | some (.vec e' rows) => match Nat.beq e e' with
            | true => .opt (getRow rows n) fun _ => .ok ⟨.vel m n.toNat ie.size 0, []⟩
            | false => .fail
          | some (.fro rows) => .opt (getRow rows n) (rowPT ie.size)
          | _ => .fail
        | _ => .fail
      | none => .fail
    | .array len e => match ti e with
      | some ie => match x with
        | .row cs off => .need (0 ≤ n ∧ n < len) (.opt (getPart cs (off + n.toNat * ie.size) ie.size) fun r => .ok ⟨.row r 0, []⟩)
        | .box m off => match lit with
         | true => match bl m with
          | some _ => .need (0 ≤ n ∧ n < len) (.ok ⟨.box m (off + n.toNat * ie.size), []⟩)
          | none => .fail
         | false => match bl m with
          | some (.box rs) => match cellsD bl rs with
            | some (cs, p) => .need (0 ≤ n ∧ n < len) (.opt (getPart cs (off + n.toNat * ie.size) ie.size) fun r => .ok ⟨.row r 0, (m, some (.frob cs)) :: p⟩)
            | none => .fail
          | some (.frob cs) => .need (0 ≤ n ∧ n < len) (.opt (getPart cs (off + n.toNat * ie.size) ie.size) fun r => .ok ⟨.row r 0, []⟩)
          | _ => .fail
        | _ => .fail
      | none => .fail
    | _ => .fail
  | _, _ => .fail
def ptIndex (t : TypeId) (x ix : Slot) : PT := match ti t, x, ix with
  | some i, .rv (.val (.str s)), .rv (.val (.int _ n)) => match i.kind with
    | .str => .need (0 ≤ n ∧ n < s.size) (.valOk (.int .u8 (bt s n)))
    | _ => .fail
  | some i, .rv (.val (.agg cs)), .rv (.val (.int _ n)) => match i.kind with
    | .array len e => match ti e with
      | some ie => match ie.kind.isAgg with
        | true => .need (0 ≤ n ∧ n < len) (.opt (getPart cs (n.toNat * ie.size) ie.size) fun r => .valOk (.agg r))
        | false => .need (0 ≤ n ∧ n < len) (.opt (getPart cs (n.toNat * ie.size) 1) fun r => match r with
          | [d] => .valOk d
          | _ => .fail)
      | none => .fail
    | _ => .fail
  | _, _, _ => .fail
def intOr (x : Option Slot) (dflt : Int) : Option Int := match x with
  | none => some dflt
  | some (.rv (.val (.int _ n))) => some n
  | _ => none
def sliceRows (rows : List (List D)) (lo hi : Int) : List (List D) := (rows.take hi.toNat).drop lo.toNat
def ptSlice (t : TypeId) (x : Slot) (lo hi mx : Option Slot) : PT := match ti t with
  | none => .fail
  | some i => match i.kind with
    | .str => match x, mx with
      | .rv (.val (.str s)), none => match intOr lo 0, intOr hi s.size with
        | some l, some h => .need (0 ≤ l ∧ l ≤ h ∧ h ≤ s.size) (.valOk (.str (s.extract l.toNat h.toNat)))
        | _, _ => .fail
      | _, _ => .fail
    | .slice e => match ti e, valsOf bl x with
      | some ie, some (.slice rows, p) => match intOr lo 0, intOr hi rows.length, mx with
        | some l, some h, none => .need ((0 ≤ l ∧ l ≤ h ∧ h ≤ rows.length) ∧ ∀ r ∈ rows, r.length = ie.size) (.ok ⟨.rv (.val (.slice (sliceRows rows l h))), p⟩)
        | some l, some h, some (.rv (.val (.int _ m))) => match hi with
          | some _ => .need ((0 ≤ l ∧ l ≤ h ∧ h ≤ m ∧ m ≤ rows.length) ∧ ∀ r ∈ rows, r.length = ie.size) (.ok ⟨.rv (.val (.slice (sliceRows rows l h))), p⟩)
          | none => .fail
        | _, _, _ => .fail
      | _, _ => .fail
    | _ => .fail
def eqFs (f : TypeId → List D → List D → Option Bool) : List (TypeId × Nat × Nat) → List D → List D → Option Bool
  | [], _, _ => some true
  | (ty, off, sz) :: r, xs, ys => match partAt xs off sz, partAt ys off sz with
    | some p, some q => match f ty p q, eqFs f r xs ys with
      | some b, some c => some (b && c)
      | _, _ => none
    | _, _ => none
/-- '==' by the type. -/
def eqT : Nat → TypeId → List D → List D → Option Bool
  | 0, _, _, _ => none
  | n + 1, t, xs, ys => match ti t with
    | none => none
    | some i => match i.kind, xs, ys with
      | .int _, [.int k a], [.int k' b] => match kindEq k k' with
        | true => some (a == b)
        | false => none
      | .bool, [.bool a], [.bool b] => some (a == b)
      | .str, [.str a], [.str b] => some (a.toList == b.toList)
      | .struct fs, xs, ys => match i.eqok with
        | true => eqFs (eqT n) fs xs ys
        | false => none
      | _, _, _ => none
def ptBin (t : TypeId) (op : BinOp) (x y : Slot) : PT := match x, y with
  | .rv (.val (.int k a)), .rv (.val (.int k' b)) => match op with
    | .shl => .need (0 ≤ b) (.valOk (.int k (k.wrap (a * 2 ^ (min b.toNat k.bits)))))
    | .shr => .need (0 ≤ b) (.valOk (.int k (a.fdiv (2 ^ (min b.toNat k.bits)))))
    | op => match kindEq k k' with
      | true => binI op k a b
      | false => .fail
  | .rv (.val (.str a)), .rv (.val (.str b)) => binS op a b
  | .rv (.val (.bool a)), .rv (.val (.bool b)) => match ti t, op with
    | some i, .eql => match i.kind with
      | .bool => .valOk (.bool (a == b))
      | _ => .fail
    | some i, .neq => match i.kind with
      | .bool => .valOk (.bool (!(a == b)))
      | _ => .fail
    | _, _ => .fail
  | .rv (.val (.slice rows)), .rv .nils => match ti t, op with
    | some i, .eql => match i.kind with
      | .slice _ => .anyNil rows fun b => .valOk (.bool b)
      | _ => .fail
    | some i, .neq => match i.kind with
      | .slice _ => .anyNil rows fun b => .valOk (.bool (!b))
      | _ => .fail
    | _, _ => .fail
  | .rv (.val (.agg xs)), .rv (.val (.agg ys)) => match ti t, op with
    | some i, .eql => match i.kind, eqT ti 20 t xs ys with
      | .struct _, some b => .valOk (.bool b)
      | _, _ => .fail
    | some i, .neq => match i.kind, eqT ti 20 t xs ys with
      | .struct _, some b => .valOk (.bool (!b))
      | _, _ => .fail
    | _, _ => .fail
  | _, _ => .fail
def ptUn (op : UnOp) (x : Slot) : PT := match op, x with
  | .not, .rv (.val (.bool b)) => .valOk (.bool (!b))
  | .neg, .rv (.val (.int k n)) => .valOk (.int k (k.wrap (0 - n)))
  | .xor, .rv (.val (.int k n)) => .valOk (.int k (bitsI .xor k (if k.signed then -1 else k.max) n))
  | _, _ => .fail
def ptConvert (s d : TypeId) (x : Slot) : PT := match ti s, ti d, x with
  | some _, some i, .rv (.val (.int _ n)) => match i.kind with
    | .int k => .valOk (.int k (k.wrap n))
    | _ => .fail
  | _, _, _ => .fail
def ptExtract (x : Slot) (i : Nat) : PT := match x with
  | .tup rs => match rs[i]? with
    | some r => .ok ⟨.rv r, []⟩
    | none => .fail
  | _ => .fail
/-- What a closure captures: boxes, frozen. -/
def capsOf : List Slot → Option (List (List D) × Pch)
  | [] => some ([], [])
  | .box n 0 :: r => match bl n with
    | some (.box cs) => match cellsD bl cs, capsOf r with
      | some (ds, p), some (rest, q) => some (ds :: rest, (n, some (.frob ds)) :: p ++ q)
      | _, _ => none
    | some (.frob ds) => match capsOf r with
      | some (rest, q) => some (ds :: rest, q)
      | none => none
    | _ => none
  | .row cs 0 :: r => match capsOf r with
    | some (rest, q) => some (cs :: rest, q)
    | none => none
  | _ => none
def ptMakeFunc (f : FuncId) (caps : List Slot) : PT := match capsOf bl caps with
  | some (cs, p) => .ok ⟨.rv (.val (.fn f cs)), p⟩
  | none => .fail
/-! #### Calls -/
def argsOf : List Slot → Option (List Arg × Pch)
  | [] => some ([], [])
  | s :: r => match valsOf bl s, argsOf r with
    | some (d, p), some (rest, q) => some (.val d :: rest, p ++ q)
    | _, _ => none
def RR.flat : RR → Bool
  | .val d => d.flat
  | .own _ _ => false
def resRV (nm : Nat) : List RR → List RV × Pch
  | [] => ([], [])
  | .val d :: r => let x := resRV (nm + 1) r; (.val d :: x.1, x.2)
  | .own e rows :: r => let x := resRV (nm + 1) r; (.own nm :: x.1, (nm, some (.vec e rows)) :: x.2)
def resSlot : List RV → Slot
  | [r] => .rv r
  | rs => .tup rs
def afterCall (p : Pch) (rs : List RR) : PT := match Nat.ble rs.length 8, allB RR.flat rs with
  | true, true => .ok ⟨resSlot (resRV nm rs).1, (resRV nm rs).2⟩
  | true, false => .ok ⟨resSlot (resRV nm rs).1, (resRV nm rs).2 ++ p⟩
  | false, _ => .fail
def ptCall (f : Slot) (args : List Slot) : PT := match f with
  | .rv (.val (.fn g caps)) => match argsOf bl args with
    | some (as, p) => .call g (as ++ caps.map .row) (afterCall nm p)
    | none => .fail
  | _ => .fail
def rowsOf (bl : Blks) : Slot → Option (List (List D))
  | .rv (.val (.slice rows)) => some rows
  | .rv (.own m) => match bl m with
    | some (.vec _ rows) => some rows
    | some (.fro rows) => some rows
    | _ => none
  | .rv .nils => some []
  | _ => none
/-- What is appended: its rows, and what must be known of their width. -/
def newRows (bl : Blks) (e : TypeId) (sz : Nat) : Slot → Option (List (List D) × Option Prop)
  | .rv (.val (.slice rows)) => some (rows, some (∀ r ∈ rows, r.length = sz))
  | .rv (.own m) => match bl m with
    | some (.vec e' rows) => match Nat.beq e e' with
      | true => some (rows, none)
      | false => none
    | some (.fro rows) => some (rows, some (∀ r ∈ rows, r.length = sz))
    | _ => none
  | .rv .nils => some ([], none)
  | _ => none
def sameOwn : Slot → Nat → Bool
  | .rv (.own m), n => Nat.beq m n
  | _, _ => false
def needO (p : Option Prop) (q : Prop) (k : PT) : PT := match p with
  | some p => .need (p ∧ q) k
  | none => .need q k
def ptAppend (t : TypeId) (s x : Slot) : PT := match ti t with
  | none => .fail
  | some i => match i.kind with
    | .slice e => match ti e with
      | some ie => match newRows bl e ie.size x, (match Nat.ble 1 ie.size, Nat.ble 1 ie.bytes with | true, true => Nat.beq ie.zero.length ie.size | _, _ => false), s with
        | some (new, c), true, .rv .nils => needO c (new.length * ie.bytes ≤ 140737488355328) (.ok ⟨.rv (.own nm), [(nm, some (.vec e new))]⟩)
        | some (new, c), true, .rv (.own m) => match bl m, sameOwn x m with
          | some (.vec e' rows), false => match Nat.beq e e' with
            | true => needO c ((rows.length + new.length) * ie.bytes ≤ 140737488355328) (.ok ⟨.rv (.own nm), [(m, none), (nm, some (.vec e (rows ++ new)))]⟩)
            | false => .fail
          | _, _ => .fail
        | _, _, _ => .fail
      | none => .fail
    | _ => .fail
def ptLen (t : TypeId) (x : Slot) : PT := match ti t with
  | none => .fail
  | some i => match i.kind, x with
    | .str, .rv (.val (.str s)) => .valOk (.int .i64 s.size)
    | .slice _, x => match rowsOf bl x with
      | some rows => .valOk (.int .i64 rows.length)
      | none => .fail
    | .array n _, _ => .valOk (.int .i64 n)
    | _, _ => .fail
def foldMin (isMax : Bool) (k : IntKind) : Int → List Slot → Option Int
  | a, [] => some a
  | a, .rv (.val (.int _ b)) :: r => foldMin isMax k (match isMax with
    | true => if b > a then b else a
    | false => if b < a then b else a) r
  | _, _ => none
def ptMin (isMax : Bool) : List Slot → PT
  | .rv (.val (.int k a)) :: r => match foldMin isMax k a r with
    | some n => .valOk (.int k n)
    | none => .fail
  | _ => .fail
def ptBuiltin (b : Builtin) (argTypes : List TypeId) (args : List Slot) : PT := match b, argTypes, args with
  | .len, [t], [x] => ptLen ti bl t x
  | .append, [t, u], [s, x] => match Nat.beq t u with
    | true => ptAppend ti bl nm t s x
    | false => .fail
  | .min, _, xs => ptMin false xs
  | .max, _, xs => ptMin true xs
  | _, _, _ => .fail
def ptAssign (ty : TypeId) (s : Slot) : PT := match s with
  | .rv .nils => match ti ty with
    | some i => match i.kind with
      | .slice e => match ti e with
        | some ie => match Nat.ble 1 ie.size with
          | true => .ok ⟨.rv (.own nm), [(nm, some (.vec e []))]⟩
          | false => .fail
        | none => .fail
      | _ => .fail
    | none => .fail
  | .gval _ _ => .fail
  | s => .ok ⟨s, []⟩
def ptPick (c a b : Slot) : PT := match c, a, b with
  | .rv (.val (.bool x)), .rv (.val (.bool y)), .rv (.val (.bool z)) => .valOk (.bool (bif x then y else z))
  | _, _, _ => .fail

def ptAlloc (t : TypeId) : PT := match ti t with
  | some i => ptBox nm i.zero
  | none => .fail
def ptBoxOp (t : TypeId) (x : Slot) : PT := match ti t, x with
  | some i, .rv r => match rvCells bl r with
    | some cs => match Nat.beq cs.length i.size with
      | true => ptBox nm cs
      | false => .fail
    | none => .fail
  | _, _ => .fail
def ptNilCheck (x : Slot) : PT := match x with
  | .box n o => match bl n with
    | some _ => .ok ⟨.box n o, []⟩
    | none => .fail
  | .row c o => .ok ⟨.row c o, []⟩
  | _ => .fail
def opPT (o : Oper) : PT := match o.op with
  | .move x => match ev x with
    | .gval _ _ => .fail
    | s => .ok ⟨s, []⟩
  | .assign x => ptAssign ti nm o.type (ev x)
  | .pick c a b => ptPick (ev c) (ev a) (ev b)
  | .alloc t => ptAlloc ti nm t
  | .box t x => ptBoxOp ti bl nm t (ev x)
  | .build t ps => ptBuild ti bl t (ps.toList.map fun p => (p.1, ev p.2))
  | .buildSlice t n ps => ptBuildSlice ti bl nm t n (ps.toList.map fun p => (p.1, ev p.2))
  | .load t a => ptLoad ti bl t (ev a)
  | .store t a v => ptStore ti bl t (ev a) (ev v)
  | .nilCheck x => ptNilCheck bl (ev x)
  | .binOp op t x y _ => ptBin ti t op (ev x) (ev y)
  | .unOp op _ x => ptUn op (ev x)
  | .convert s d x => ptConvert ti s d (ev x)
  | .makeSlice t l c => ptMakeSlice ti bl nm t (ev l) (ev c)
  | .slice t x lo hi mx => ptSlice ti bl t (ev x) (lo.map ev) (hi.map ev) (mx.map ev)
  | .fieldAddr s x f => ptFieldAddr ti bl s (ev x) f
  | .field s x f => ptField ti s (ev x) f
  | .indexAddr t x i => ptIndexAddr ti bl (isConst i) t (ev x) (ev i)
  | .index t x i => ptIndex ti t (ev x) (ev i)
  | .extract x i => ptExtract (ev x) i
  | .makeFunc (.func f) first captured => match first.toList with
    | [] => ptMakeFunc bl f (captured.toList.map ev)
    | _ => .fail
  | .call c => match c.callee with
    | .builtin b => ptBuiltin ti bl nm b c.argTypes.toList (c.args.toList.map ev)
    | .value f => ptCall bl nm (ev f) (c.args.toList.map ev)
    | _ => .fail
  | _ => .fail
end

/-! ### Regions and code -/
def constSlot : Value → Slot
  | .int k n => .rv (.val (.int k n))
  | .bool b => .rv (.val (.bool b))
  | .string s => match Nat.ble s.size 9223372036854775807 with
    | true => .rv (.val (.str s))
    | false => .unit
  | .slice none 0 0 => .rv .nils
  | _ => .unit
def evOp (gt : Nat → Option (List D)) (sl : Nat → Slot) : Operand → Slot
  | .tmp t => sl t
  | .const v => constSlot v
  | .global g => match gt g with
    | some cs => .row cs 0
    | none => .unit
  | .func f => .rv (.val (.fn f []))
def litB (x : Nat × Bool) : List (Nat × Bool) → Bool
  | [] => false
  | y :: r => match Nat.beq x.1 y.1, x.2, y.2 with
    | true, true, true => true
    | true, false, false => true
    | _, _, _ => litB x r
def subL : List (Nat × Bool) → List (Nat × Bool) → Bool
  | [], _ => true
  | x :: r, l => match litB x l with
    | true => subL r l
    | false => false
/-- An operand under the tests that are known to hold. -/
def evG (gt : Nat → Option (List D)) (sl : Nat → Slot) (lits : List (Nat × Bool)) (x : Operand) : Slot := match evOp gt sl x with
  | .gval l s => match subL l lits with
    | true => s
    | false => .unit
  | s => s
/-- For 'pick': each arm under the test that leads to it. -/
def pickPT (gt : Nat → Option (List D)) (sl : Nat → Slot) (lits : List (Nat × Bool)) (c a b : Operand) : PT := match c with
  | .tmp t => ptPick (evG gt sl lits c) (evG gt sl ((t, true) :: lits) a) (evG gt sl ((t, false) :: lits) b)
  | c => ptPick (evG gt sl lits c) (evG gt sl lits a) (evG gt sl lits b)
def stepPT (ti : TypeId → Option TI) (gt : Nat → Option (List D)) (sl : Nat → Slot) (bl : Blks) (nm : Nat) (lits : List (Nat × Bool)) (o : Oper) : PT := match o.op with
  | .pick c a b => pickPT gt sl lits c a b
  | _ => opPT ti (evG gt sl lits) bl nm o
/-- The tests that a guard asks. -/
def condOf (sl : Nat → Slot) : List (Nat × Bool) → Option Bool
  | [] => some true
  | (t, b) :: r => match condOf sl r with
    | none => none
    | some c => match sl t with
      | .rv (.val (.bool x)) => some ((x == b) && c)
      | .gval l (.rv (.val (.bool x))) => match subL l r with
        | true => some ((x == b) && c)
        | false => none
      | _ => none
def guardLits (ops : Array Oper) (sl : Nat → Slot) (o : Oper) : Option (List (Nat × Bool)) := match o.guard with
  | none => some []
  | some (j, b) => match (ops[j]?).bind (·.dst) with
    | some t => match sl t with
      | .gval l _ => some ((t, b) :: l)
      | _ => some [(t, b)]
    | none => none
/-- The tree of one operation, under its tests. -/
def T.ofPT : PT → (Patch → T) → T
  | .fail, _ => .fail
  | .ok p, k => k p
  | .need p pt, k => .need true p (T.ofPT pt k)
  | .opt o f, k => .opt true o fun x => T.ofPT (f x) k
  | .call f args g, k => .call true f args fun rs => T.ofPT (g rs) k
  | .anyNil rows g, k => .anyNil rows fun b => T.ofPT (g b) k
def T.ofPTg (c : Bool) : PT → (Patch → T) → T
  | .fail, _ => .fail
  | .ok p, k => k p
  | .need p pt, k => .need c p (T.ofPTg c pt k)
  | .opt o f, k => .opt c o fun x => T.ofPTg c (f x) k
  | .call f args g, k => .call c f args fun rs => T.ofPTg c (g rs) k
  | .anyNil _ _, _ => .fail
def St.put (st : St) (dst : Option Nat) (p : Patch) : St :=
  { slots := match dst with
      | some d => (d, p.slot) :: st.slots
      | none => st.slots
    blks := p.blks ++ st.blks
    next := st.next + 8 }
/-- Does a guarded slot lean on temporary d? -/
def litOn (d : Nat) : List (Nat × Bool) → Bool
  | [] => false
  | x :: r => match Nat.beq x.1 d with
    | true => true
    | false => litOn d r
def mentions (d : Nat) : List (Nat × Slot) → Bool
  | [] => false
  | (_, .gval l _) :: r => match litOn d l with
    | true => true
    | false => mentions d r
  | _ :: r => mentions d r
def leans (nt : Nat) (dst : Option Nat) (s : List (Nat × Slot)) : Bool := match dst with
  | some d => match Nat.ble (d + 1) nt with
    | true => mentions d s
    | false => true
  | none => false
def Slot.isG : Slot → Bool
  | .gval _ _ => true
  | _ => false
def refsR : RV → List Nat
  | .own n => [n]
  | _ => []
def refsS : Slot → List Nat
  | .rv r => refsR r
  | .gval _ s => refsS s
  | .tup l => l.flatMap refsR
  | .box n _ => [n]
  | .vel n _ _ _ => [n]
  | _ => []
def litOnO (dst : Option Nat) (l : List (Nat × Bool)) : Bool := match dst with
  | some d => litOn d l
  | none => false
def gPatch (dst : Option Nat) (bl : Blks) (lits : List (Nat × Bool)) (p : Patch) : Option Patch := match p.blks, litOnO dst lits, p.slot.isG, allB (fun n => (bl n).isSome) (refsS p.slot) with
  | [], false, false, true => some ⟨.gval lits p.slot, []⟩
  | _, _, _, _ => none
/-- One operation of a region. -/
def exOp (ti : TypeId → Option TI) (gt : Nat → Option (List D)) (ops : Array Oper) (o : Oper) (st : St) (bl : Blks) (k : Patch → T) : T :=
  match o.guard with
  | none => T.ofPT (stepPT ti gt (lookS st.slots) bl st.next [] o) k
  | some _ => match guardLits ops (lookS st.slots) o with
    | none => .fail
    | some lits => match condOf (lookS st.slots) lits with
      | none => .fail
      | some c => T.ofPTg c (stepPT ti gt (lookS st.slots) bl st.next lits o) fun p => match gPatch o.dst bl lits p with
        | some q => k q
        | none => .fail
/-- The same, in a region that draws its order: nothing that turns on the run itself. -/
def exOpD (ti : TypeId → Option TI) (gt : Nat → Option (List D)) (ops : Array Oper) (o : Oper) (st : St) (bl : Blks) (k : Patch → T) : T :=
  match o.guard with
  | none => T.ofPTg true (stepPT ti gt (lookS st.slots) bl st.next [] o) fun p => match p.slot.isG with
    | true => .fail
    | false => k p
  | some _ => exOp ti gt ops o st bl k
def exOps (nt : Nat) (ti : TypeId → Option TI) (gt : Nat → Option (List D)) (ops : Array Oper) : List Oper → St → (St → T) → T
  | [], st, k => k st
  | o :: r, st, k => match leans nt o.dst st.slots with
    | true => .fail
    | false => exOp ti gt ops o st (lookB st.blks) fun p => exOps nt ti gt ops r (st.put o.dst p) k
/-- What was guarded is forgotten behind the region. -/
def clearG : List Oper → List (Nat × Slot) → List (Nat × Slot)
  | [], s => s
  | o :: r, s => match o.guard, o.dst with
    | some _, some d => clearG r ((d, .unit) :: s)
    | _, _ => clearG r s
def St.clear (ops : List Oper) (st : St) : St := { st with slots := clearG ops st.slots }
/-! #### A region that draws its order -/
def natIn (n : Nat) : List Nat → Bool
  | [] => false
  | m :: r => match Nat.beq n m with
    | true => true
    | false => natIn n r
def meets : List Nat → List Nat → Bool
  | [], _ => false
  | n :: r, l => match natIn n l with
    | true => true
    | false => meets r l
def tmpsOf : List Operand → List Nat
  | [] => []
  | .tmp t :: r => t :: tmpsOf r
  | _ :: r => tmpsOf r
/-- What an operation has done: its number, the slots that it read and wrote, the names that it read and wrote. -/
structure Done where
  i : Nat
  rs : List Nat
  ws : List Nat
  rn : List Nat
  wn : List Nat
def clash (before : Nat) (x y : Done) : Bool := match before.testBit x.i with
  | true => false
  | false => meets x.ws y.rs || meets x.ws y.ws || meets x.rs y.ws || meets x.wn y.rn || meets x.wn y.wn || meets x.rn y.wn
def clashes (before : Nat) (y : Done) : List Done → Bool
  | [] => false
  | x :: r => match clash before x y with
    | true => true
    | false => clashes before y r
def restrict (bl : Blks) (l : List Nat) : Blks := fun n => match natIn n l with
  | true => bl n
  | false => none
def namesOf (gt : Nat → Option (List D)) (sl : Nat → Slot) (o : Oper) : List Nat := o.op.operands.toList.flatMap fun x => refsS (evOp gt sl x)
def readsOf (ops : Array Oper) (sl : Nat → Slot) (o : Oper) : List Nat := tmpsOf o.op.operands.toList ++ (match guardLits ops sl o with
  | some l => l.map (·.1)
  | none => [])
def doneOf (gt : Nat → Option (List D)) (ops : Array Oper) (st : St) (i : Nat) (o : Oper) (p : Patch) : Done :=
  { i, rs := readsOf ops (lookS st.slots) o, ws := o.dst.toList, rn := namesOf gt (lookS st.slots) o, wn := p.blks.map (·.1) }
def exDraw (nt : Nat) (ti : TypeId → Option TI) (gt : Nat → Option (List D)) (ops : Array Oper) (bs : Array Nat) : List Oper → Nat → List Done → St → (St → T) → T
  | [], _, _, st, k => k st
  | o :: r, i, ds, st, k => match leans nt o.dst st.slots with
   | true => .fail
   | false => exOpD ti gt ops o st (restrict (lookB st.blks) (namesOf gt (lookS st.slots) o)) fun p => match clashes (bs.getD i 0) (doneOf gt ops st i o p) ds with
    | true => .fail
    | false => exDraw nt ti gt ops bs r (i + 1) (doneOf gt ops st i o p :: ds) (st.put o.dst p) k
/-! #### Results -/
def retRR (bl : Blks) : RV → Option RR
  | .val d => some (.val d)
  | .own n => match bl n with
    | some (.vec e rows) => some (.own e rows)
    | some (.fro rows) => some (.val (.slice rows))
    | _ => none
  | .nils => some (.val (.slice []))
  | .any => none
/-- The names that are handed back as the call's own. -/
def ownNames : List RV → List Nat
  | [] => []
  | .own n :: r => n :: ownNames r
  | _ :: r => ownNames r
def distinct : List Nat → Bool
  | [] => true
  | n :: r => match natIn n r with
    | true => false
    | false => distinct r
def resOf (ti : TypeId → Option TI) (st : St) : ResultVar → Option (RV × Pch)
  | .tmp t => match lookS st.slots t with
    | .rv r => some (r, [])
    | _ => none
  | .cell a t => match ptLoad ti (lookB st.blks) t (lookS st.slots a) with
    | .ok ⟨.rv r, p⟩ => some (r, p)
    | _ => none
def mapO {α β : Type} (f : α → Option β) : List α → Option (List β)
  | [] => some []
  | a :: r => match f a, mapO f r with
    | some b, some bs => some (b :: bs)
    | _, _ => none
def retT (ti : TypeId → Option TI) (st : St) (rs : List ResultVar) : T := match mapO (resOf ti st) rs with
  | none => .fail
  | some l => match distinct (ownNames (l.map (·.1))), mapO (retRR (lookB (l.flatMap (·.2) ++ st.blks))) (l.map (·.1)) with
    | true, some rr => .ret rr
    | _, _ => .fail
/-- Every edge that binds leads back. -/
def backs : Nat → List Oper → Bool
  | _, [] => true
  | i, o :: r => match allB (fun e => match Region.binds .any e with | true => Nat.ble (e.on + 1) i | false => true) o.after.toList with
    | true => backs (i + 1) r
    | false => false
/-- How many ways lead to the end (none), or to an exit. -/
def outs : Code → Option Nat → Nat
  | .skip, none => 1
  | .region _ _ _, none => 1
  | .seq a b, none => match outs a none with
    | 0 => 0
    | _ => outs b none
  | .seq a b, some i => match outs a none with
    | 0 => outs a (some i)
    | _ => outs a (some i) + outs b (some i)
  | .cond _ a b, x => outs a x + outs b x
  | .block id c, none => outs c none + outs c (some id)
  | .block id c, some i => match Nat.beq i id with
    | true => 0
    | false => outs c (some i)
  | .loop c, some i => outs c (some i)
  | .exit id, some i => match Nat.beq i id with
    | true => 1
    | false => 0
  | _, _ => 0
def joins (c : Code) : Bool := Nat.ble 2 (outs c none)
/-- The executor. -/
def exec (nt : Nat) (ti : TypeId → Option TI) (gt : Nat → Option (List D)) (rs : List ResultVar) : Code → St → (Ex → St → T) → T
  | .skip, st, k => k .normal st
  | .region _ ops false, st, k => exOps nt ti gt ops ops.toList st fun st' => k .normal (st'.clear ops.toList)
  | .region _ ops true, st, k => match backs 0 ops.toList with
    | false => .fail
    | true => exDraw nt ti gt ops (Region.before ops) ops.toList 0 [] st fun st' => k .normal (st'.clear ops.toList)
  | .seq a b, st, k => exec nt ti gt rs a st fun e s => match e with
    | .normal => match joins a with
      | true => .cut b s k
      | false => exec nt ti gt rs b s k
    | .exit id => k (.exit id) s
  | .cond c x y, st, k => match evOp gt (lookS st.slots) c with
    | .rv (.val (.bool b)) => .ite b (exec nt ti gt rs x st k) (exec nt ti gt rs y st k)
    | _ => .fail
  | .block id body, st, k => exec nt ti gt rs body st fun e s => match e with
    | .normal => k .normal s
    | .exit j => match Nat.beq j id with
      | true => k .normal s
      | false => k (.exit j) s
  | .loop body, st, k => .loop body st k
  | .exit id, st, k => k (.exit id) st
  | .ret, st, _ => retT ti st rs
  | _, _, _ => .fail
end Go.Eng
