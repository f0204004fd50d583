/- Parts of a proof, merged: The engine, part 1: pure data, states of the symbolic run, the executor, its trees. No program in sight. · The engine, part 2: what a value in memory reads as; when a symbolic state fits the machine's; frames. · The engine, part 3: one step of a state; freezing. · The engine, part 4: what a call is handed and hands back; one operation's run. · The engine, part 5: each operation, run from a state that fits. · The engine, part 6: operations that make no memory of their own. · The engine, part 7: cuts, lengths, literals, closures. · The engine, part 8: a step that writes memory. · The engine, part 9: stores, literals, new rows. · The engine, part 10: new rows, literals, appends. · The engine, part 11: literals, make, append, closures as operations. · The engine, part 12: closures made, calls. · The engine, part 13: calls. Conditions: none. -/
import Derived.Orders
import Derived.Below
import Derived.Maps.AppendAt
import Derived.WalkKit
import Derived.Laws.CopyRow
import Derived.Laws.Cells
import Derived.Laws.Tables
import Derived.Great.BuildSlice
import Derived.Laws.MakeOwn
import Derived.Laws.StructEq
import Derived.Laws.BytesString
set_option linter.unusedVariables false
namespace Go.Eng
open Go.RowKit
inductive D where
  | int (k : IntKind) (n : Int)
  | bool (b : Bool)
  | str (s : ByteArray)
  | slice (rows : List (List D))
  | agg (cells : List D)
  | fn (f : FuncId) (caps : List (List D))
  deriving Inhabited
def D.isCell : D → Bool
  | .agg _ => false
  | _ => true
def D.cells : D → List D
  | .agg cs => cs
  | d => [d]
def D.flat1 : D → Bool
  | .int _ _ => true
  | .bool _ => true
  | .str _ => true
  | _ => false
def allB {α : Type} (p : α → Bool) : List α → Bool
  | [] => true
  | a :: r => match p a with
    | true => allB p r
    | false => false
def D.flat : D → Bool
  | .agg cs => allB D.flat1 cs
  | d => d.flat1
inductive RV where
  | val (d : D)
  | own (nm : Nat)
  | nils
  | any
  deriving Inhabited
inductive Slot where
  | unit
  | rv (r : RV)
  | gval (lits : List (Nat × Bool)) (s : Slot)
  | tup (l : List RV)
  | box (nm off : Nat)
  | row (cells : List D) (off : Nat)
  | vel (nm i sz off : Nat)
  deriving Inhabited
inductive Blk where
  | box (cells : List RV)
  | vec (e : TypeId) (rows : List (List D))
  | fro (rows : List (List D))
  | frob (cells : List D)
  deriving Inhabited
inductive TK where
  | int (k : IntKind)
  | bool
  | str
  | slice (e : TypeId)
  | struct (fs : List (TypeId × Nat × Nat))
  | array (n : Nat) (e : TypeId)
  | ptr (e : TypeId)
  | other
  deriving Inhabited
structure TI where
  kind : TK
  size : Nat
  bytes : Nat
  zero : List RV
  eqok : Bool
  deriving Inhabited
def zeroRV : Value → RV
  | .int k n => .val (.int k n)
  | .bool b => .val (.bool b)
  | .string s => match s.size with
    | 0 => .val (.str s)
    | _ => .any
  | .slice none 0 0 => .nils
  | _ => .any
def szOf (P : Program) (t : TypeId) : Nat := match P.info? t with
  | some i => i.size
  | none => 0
def kindOf (P : Program) (t : TypeId) : TK := match P.underlying t with
  | some (.int k) => .int k
  | some .bool => .bool
  | some .string => .str
  | some (.slice e) => .slice e
  | some (.array n e) => .array n e
  | some (.pointer e) => .ptr e
  | some (.struct fs) => .struct (fs.toList.map fun f => (f.type, f.offset, szOf P f.type))
  | _ => .other
def eqOk (P : Program) (t : TypeId) : Bool := match P.underlying t with
  | some (.struct fs) => !P.stoodInHeld t && !P.eqGuardType P.depth t && fs.toList.all fun f => f.name != "_"
  | _ => false
def tiOf (P : Program) (t : TypeId) : Option TI := match P.info? t, P.underlying t with
  | some i, some _ => match i.zero with
    | some z => some { kind := kindOf P t, size := i.size, bytes := i.bytes, zero := z.cells.toList.map zeroRV, eqok := eqOk P t }
    | none => none
  | _, _ => none
def TK.isAgg : TK → Bool
  | .struct _ => true
  | .array _ _ => true
  | _ => false
def lookS : List (Nat × Slot) → Nat → Slot
  | [], _ => .unit
  | (j, s) :: r, i => match Nat.beq i j with
    | true => s
    | false => lookS r i
def lookB : List (Nat × Option Blk) → Nat → Option Blk
  | [], _ => none
  | (j, s) :: r, i => match Nat.beq i j with
    | true => s
    | false => lookB r i
structure St where
  slots : List (Nat × Slot)
  blks : List (Nat × Option Blk)
  next : Nat
  deriving Inhabited
structure Patch where
  slot : Slot
  blks : List (Nat × Option Blk)
  deriving Inhabited
inductive RR where
  | val (d : D)
  | own (e : TypeId) (rows : List (List D))
  deriving Inhabited
inductive Arg where
  | val (d : D)
  | row (cells : List D)
  deriving Inhabited
inductive PT where
  | fail
  | ok (p : Patch)
  | need (p : Prop) (k : PT)
  | opt (o : Option (List D)) (k : List D → PT)
  | call (f : FuncId) (args : List Arg) (k : List RR → PT)
  | anyNil (rows : List (List D)) (k : Bool → PT)
inductive Ex where
  | normal
  | exit (id : Nat)
  deriving Inhabited
inductive T where
  | fail
  | ret (rs : List RR)
  | done (e : Ex) (st : St)
  | ite (c : Bool) (t e : T)
  | need (c : Bool) (p : Prop) (k : T)
  | opt (c : Bool) (o : Option (List D)) (k : List D → T)
  | call (c : Bool) (f : FuncId) (args : List Arg) (k : List RR → T)
  | anyNil (rows : List (List D)) (k : Bool → T)
  | loop (body : Code) (st : St) (k : Ex → St → T)
  | cut (rest : Code) (st : St) (k : Ex → St → T)
def wrapK (k : IntKind) (n : Int) : Int := k.wrap n
def bitsI (op : BinOp) (k : IntKind) (x y : Int) : Int :=
  let a := BitVec.ofInt k.bits x
  let b := BitVec.ofInt k.bits y
  match op with
  | .and => k.wrap (a &&& b).toNat
  | .or => k.wrap (a ||| b).toNat
  | .xor => k.wrap (a ^^^ b).toNat
  | _ => k.wrap (a &&& ~~~b).toNat
def bt (s : ByteArray) (i : Int) : Int := if h : i.toNat < s.size then ((s[i.toNat]'h).toNat : Int) else 0
def getRow (rows : List (List D)) (i : Int) : Option (List D) := if 0 ≤ i then rows[i.toNat]? else none
def getPart (cs : List D) (off n : Nat) : Option (List D) := if off + n ≤ cs.length then some ((cs.drop off).take n) else none
def PT.valOk (d : D) : PT := .ok ⟨.rv (.val d), []⟩
def binI (op : BinOp) (k : IntKind) (a b : Int) : PT :=
  match op with
  | .add => .valOk (.int k (k.wrap (a + b)))
  | .sub => .valOk (.int k (k.wrap (a - b)))
  | .mul => .valOk (.int k (k.wrap (a * b)))
  | .quo => .need (b ≠ 0) (.valOk (.int k (k.wrap (a.tdiv b))))
  | .rem => .need (b ≠ 0) (.valOk (.int k (a.tmod b)))
  | .and => .valOk (.int k (bitsI .and k a b))
  | .or => .valOk (.int k (bitsI .or k a b))
  | .xor => .valOk (.int k (bitsI .xor k a b))
  | .andNot => .valOk (.int k (bitsI .andNot k a b))
  | .eql => .valOk (.bool (a == b))
  | .neq => .valOk (.bool (a != b))
  | .lss => .valOk (.bool (a < b))
  | .leq => .valOk (.bool (a ≤ b))
  | .gtr => .valOk (.bool (a > b))
  | .geq => .valOk (.bool (a ≥ b))
  | _ => .fail
def binS (op : BinOp) (a b : ByteArray) : PT :=
  match op with
  | .add => .need (a.size + b.size ≤ 9223372036854775807) (.valOk (.str (a ++ b)))
  | .eql => .valOk (.bool (a.toList == b.toList))
  | .neq => .valOk (.bool (!(a.toList == b.toList)))
  | .lss => .valOk (.bool (Op.bytesLess a.toList b.toList))
  | .leq => .valOk (.bool (Op.bytesLess a.toList b.toList || a.toList == b.toList))
  | .gtr => .valOk (.bool (!(Op.bytesLess a.toList b.toList || a.toList == b.toList)))
  | .geq => .valOk (.bool (!(Op.bytesLess a.toList b.toList)))
  | _ => .fail
abbrev Blks := Nat → Option Blk
abbrev Pch := List (Nat × Option Blk)
def toD (bl : Blks) : RV → Option (D × Pch)
  | .val d => some (d, [])
  | .own nm => match bl nm with
    | some (.vec _ rows) => some (.slice rows, [(nm, some (.fro rows))])
    | some (.fro rows) => some (.slice rows, [])
    | _ => none
  | .nils => some (.slice [], [])
  | .any => none
def cellsD (bl : Blks) : List RV → Option (List D × Pch)
  | [] => some ([], [])
  | r :: rs => match toD bl r with
    | some (d, p) => match d.isCell with
      | true => match cellsD bl rs with
        | some (ds, q) => some (d :: ds, p ++ q)
        | none => none
      | false => none
    | none => none
def partAt {α : Type} (cs : List α) (off n : Nat) : Option (List α) := match Nat.ble (off + n) cs.length with
  | true => some ((cs.drop off).take n)
  | false => none
def splice {α : Type} (cs : List α) (off : Nat) (new : List α) : Option (List α) := match Nat.ble (off + new.length) cs.length with
  | true => some (cs.take off ++ new ++ cs.drop (off + new.length))
  | false => none
def valsOf (bl : Blks) : Slot → Option (D × Pch)
  | .rv r => toD bl r
  | _ => none
def rvCells (bl : Blks) : RV → Option (List RV)
  | .val d => some (d.cells.map .val)
  | .own nm => match bl nm with
    | some (.vec _ _) => some [.own nm]
    | some (.fro _) => some [.own nm]
    | _ => none
  | .nils => some [.nils]
  | .any => none
def kindEq : IntKind → IntKind → Bool
  | .i8, .i8 | .i16, .i16 | .i32, .i32 | .i64, .i64 | .u8, .u8 | .u16, .u16 | .u32, .u32 | .u64, .u64 => true
  | _, _ => false
section
variable (ti : TypeId → Option TI) (ev : Operand → Slot) (bl : Blks) (nm : Nat)
def ptLoad (t : TypeId) (a : Slot) : PT := match ti t with
  | none => .fail
  | some i => match a with
    | .box n off => match bl n with
      | some (.box cs) => match i.kind.isAgg with
        | true => match partAt cs off i.size with
          | some rs => match cellsD bl rs with
            | some (ds, p) => .ok ⟨.rv (.val (.agg ds)), p⟩
            | none => .fail
          | none => .fail
        | false => match partAt cs off 1 with
          | some [.any] => .fail
          | some [r] => .ok ⟨.rv r, []⟩
          | _ => .fail
      | some (.frob cs) => match i.kind.isAgg with
        | true => match partAt cs off i.size with
          | some ds => .ok ⟨.rv (.val (.agg ds)), []⟩
          | none => .fail
        | false => match partAt cs off 1 with
          | some [d] => .ok ⟨.rv (.val d), []⟩
          | _ => .fail
      | _ => .fail
    | .row cs off => match i.kind.isAgg with
      | true => match partAt cs off i.size with
        | some ds => .ok ⟨.rv (.val (.agg ds)), []⟩
        | none => .fail
      | false => match partAt cs off 1 with
        | some [d] => .ok ⟨.rv (.val d), []⟩
        | _ => .fail
    | .vel n j sz off => match bl n with
      | some (.vec _ rows) => .opt rows[j]? fun cs => match Nat.beq cs.length sz, i.kind.isAgg with
        | true, true => match partAt cs off i.size with
          | some ds => .ok ⟨.rv (.val (.agg ds)), []⟩
          | none => .fail
        | true, false => match partAt cs off 1 with
          | some [d] => .ok ⟨.rv (.val d), []⟩
          | _ => .fail
        | _, _ => .fail
      | _ => .fail
    | _ => .fail
def ptStore (t : TypeId) (a v : Slot) : PT := match ti t with
  | none => .fail
  | some i => match a, v with
    | .box n off, .rv r => match bl n, rvCells bl r with
      | some (.box cs), some new => match Nat.beq new.length i.size, splice cs off new with
        | true, some cs' => .ok ⟨.unit, [(n, some (.box cs'))]⟩
        | _, _ => .fail
      | _, _ => .fail
    | .vel n j sz off, .rv (.val d) => match bl n with
      | some (.vec e rows) => match Nat.beq d.cells.length i.size with
        | true => .opt rows[j]? fun cs => match Nat.beq cs.length sz, splice cs off d.cells with
          | true, some cs' => .ok ⟨.unit, [(n, some (.vec e (rows.set j cs')))]⟩
          | _, _ => .fail
        | false => .fail
      | _ => .fail
    | _, _ => .fail
def ptBox (cells : List RV) : PT := .ok ⟨.box nm 0, [(nm, some (.box cells))]⟩
def fillD (bl : Blks) (place : Nat → Option (Nat × Nat)) : List D → List (Nat × Slot) → Option (List D × Pch)
  | cs, [] => some (cs, [])
  | cs, (i, s) :: rest => match place i, valsOf bl s with
    | some (off, sz), some (d, p) => match Nat.beq d.cells.length sz, splice cs off d.cells with
      | true, some cs' => match fillD bl place cs' rest with
        | some (r, q) => some (r, p ++ q)
        | none => none
      | _, _ => none
    | _, _ => none
def placeS (fs : List (TypeId × Nat × Nat)) (i : Nat) : Option (Nat × Nat) := match fs[i]? with
  | some (_, off, sz) => some (off, sz)
  | none => none
def ptBuild (t : TypeId) (parts : List (Nat × Slot)) : PT := match ti t with
  | none => .fail
  | some i => match cellsD bl i.zero with
    | some (z, _) => match i.kind with
      | .struct fs => match allB (fun f => (ti f.1).isSome) fs, fillD bl (placeS fs) z parts with
        | true, some (ds, p) => .ok ⟨.rv (.val (.agg ds)), p⟩
        | _, _ => .fail
      | .array _ e => match ti e with
        | some ie => match fillD bl (fun j => some (j * ie.size, ie.size)) z parts with
          | some (ds, p) => .ok ⟨.rv (.val (.agg ds)), p⟩
          | none => .fail
        | none => .fail
      | _ => .fail
    | none => .fail
def chunk (sz : Nat) : Nat → List D → List (List D)
  | 0, _ => []
  | n + 1, cs => cs.take sz :: chunk sz n (cs.drop sz)
def repeatD (z : List D) : Nat → List D
  | 0 => []
  | n + 1 => z ++ repeatD z n
def ptBuildSlice (t : TypeId) (len : Nat) (parts : List (Nat × Slot)) : PT := match ti t with
  | none => .fail
  | some i => match i.kind with
    | .slice e => match ti e with
      | some ie => match cellsD bl ie.zero, Nat.ble 1 ie.size, Nat.ble (len * ie.size) 16777216 with
        | some (z, _), true, true => match Nat.beq z.length ie.size, fillD bl (fun j => some (j * ie.size, ie.size)) (repeatD z len) parts with
          | true, some (ds, p) => .ok ⟨.rv (.own nm), (nm, some (.vec e (chunk ie.size len ds))) :: p⟩
          | _, _ => .fail
        | _, _, _ => .fail
      | none => .fail
    | _ => .fail
def ptMakeSlice (t : TypeId) (l c : Slot) : PT := match ti t with
  | none => .fail
  | some i => match i.kind with
    | .slice e => match ti e, l, c with
      | some ie, .rv (.val (.int _ a)), .rv (.val (.int _ b)) => match cellsD bl ie.zero, Nat.ble 1 ie.size, Nat.ble 1 ie.bytes with
        | some (z, _), true, true => match Nat.beq z.length ie.size with
          | true => .need (0 ≤ a ∧ a ≤ b ∧ b * ie.bytes ≤ 140737488355328) (.ok ⟨.rv (.own nm), [(nm, some (.vec e (List.replicate a.toNat z)))]⟩)
          | false => .fail
        | _, _, _ => .fail
      | _, _, _ => .fail
    | _ => .fail
def ptFieldAddr (s : TypeId) (x : Slot) (f : Nat) : PT := match ti s with
  | none => .fail
  | some i => match i.kind with
    | .struct fs => match fs[f]? with
      | some (_, off, _ + 1) => match x with
        | .box n o => match bl n with
          | some _ => .ok ⟨.box n (o + off), []⟩
          | none => .fail
        | .row cs o => .ok ⟨.row cs (o + off), []⟩
        | .vel n j sz o => match bl n with
          | some _ => .ok ⟨.vel n j sz (o + off), []⟩
          | none => .fail
        | _ => .fail
      | _ => .fail
    | _ => .fail
def ptField (s : TypeId) (x : Slot) (f : Nat) : PT := match ti s, x with
  | some i, .rv (.val (.agg cs)) => match i.kind with
    | .struct fs => match fs[f]? with
      | some (ty, off, sz) => match ti ty with
        | some it => match it.kind.isAgg with
          | true => match partAt cs off it.size with
            | some ds => .valOk (.agg ds)
            | none => .fail
          | false => match partAt cs off 1 with
            | some [d] => .valOk d
            | _ => .fail
        | none => .fail
      | none => .fail
    | _ => .fail
  | _, _ => .fail
def rowPT (sz : Nat) (cs : List D) : PT := match Nat.beq cs.length sz with
  | true => .ok ⟨.row cs 0, []⟩
  | false => .fail
def isConst : Operand → Bool
  | .const _ => true
  | _ => false
def ptIndexAddr (lit : Bool) (t : TypeId) (x ix : Slot) : PT := match ti t, ix with
  | some i, .rv (.val (.int _ n)) => match i.kind with
    | .slice e => match ti e with
      | some ie => match x with
        | .rv (.val (.slice rows)) => .opt (getRow rows n) (rowPT ie.size)
        | .rv (.own m) => match bl m with
          | some (.vec e' rows) => match Nat.beq e e' with
            | true => .opt (getRow rows n) fun _ => .ok ⟨.vel m n.toNat ie.size 0, []⟩
            | false => .fail
          | some (.fro rows) => .opt (getRow rows n) (rowPT ie.size)
          | _ => .fail
        | _ => .fail
      | none => .fail
    | .array len e => match ti e with
      | some ie => match x with
        | .row cs off => .need (0 ≤ n ∧ n < len) (.opt (getPart cs (off + n.toNat * ie.size) ie.size) fun r => .ok ⟨.row r 0, []⟩)
        | .box m off => match lit with
         | true => match bl m with
          | some _ => .need (0 ≤ n ∧ n < len) (.ok ⟨.box m (off + n.toNat * ie.size), []⟩)
          | none => .fail
         | false => match bl m with
          | some (.box rs) => match cellsD bl rs with
            | some (cs, p) => .need (0 ≤ n ∧ n < len) (.opt (getPart cs (off + n.toNat * ie.size) ie.size) fun r => .ok ⟨.row r 0, (m, some (.frob cs)) :: p⟩)
            | none => .fail
          | some (.frob cs) => .need (0 ≤ n ∧ n < len) (.opt (getPart cs (off + n.toNat * ie.size) ie.size) fun r => .ok ⟨.row r 0, []⟩)
          | _ => .fail
        | _ => .fail
      | none => .fail
    | _ => .fail
  | _, _ => .fail
def ptIndex (t : TypeId) (x ix : Slot) : PT := match ti t, x, ix with
  | some i, .rv (.val (.str s)), .rv (.val (.int _ n)) => match i.kind with
    | .str => .need (0 ≤ n ∧ n < s.size) (.valOk (.int .u8 (bt s n)))
    | _ => .fail
  | some i, .rv (.val (.agg cs)), .rv (.val (.int _ n)) => match i.kind with
    | .array len e => match ti e with
      | some ie => match ie.kind.isAgg with
        | true => .need (0 ≤ n ∧ n < len) (.opt (getPart cs (n.toNat * ie.size) ie.size) fun r => .valOk (.agg r))
        | false => .need (0 ≤ n ∧ n < len) (.opt (getPart cs (n.toNat * ie.size) 1) fun r => match r with
          | [d] => .valOk d
          | _ => .fail)
      | none => .fail
    | _ => .fail
  | _, _, _ => .fail
def intOr (x : Option Slot) (dflt : Int) : Option Int := match x with
  | none => some dflt
  | some (.rv (.val (.int _ n))) => some n
  | _ => none
def sliceRows (rows : List (List D)) (lo hi : Int) : List (List D) := (rows.take hi.toNat).drop lo.toNat
def ptSlice (t : TypeId) (x : Slot) (lo hi mx : Option Slot) : PT := match ti t with
  | none => .fail
  | some i => match i.kind with
    | .str => match x, mx with
      | .rv (.val (.str s)), none => match intOr lo 0, intOr hi s.size with
        | some l, some h => .need (0 ≤ l ∧ l ≤ h ∧ h ≤ s.size) (.valOk (.str (s.extract l.toNat h.toNat)))
        | _, _ => .fail
      | _, _ => .fail
    | .slice e => match ti e, valsOf bl x with
      | some ie, some (.slice rows, p) => match intOr lo 0, intOr hi rows.length, mx with
        | some l, some h, none => .need ((0 ≤ l ∧ l ≤ h ∧ h ≤ rows.length) ∧ ∀ r ∈ rows, r.length = ie.size) (.ok ⟨.rv (.val (.slice (sliceRows rows l h))), p⟩)
        | some l, some h, some (.rv (.val (.int _ m))) => match hi with
          | some _ => .need ((0 ≤ l ∧ l ≤ h ∧ h ≤ m ∧ m ≤ rows.length) ∧ ∀ r ∈ rows, r.length = ie.size) (.ok ⟨.rv (.val (.slice (sliceRows rows l h))), p⟩)
          | none => .fail
        | _, _, _ => .fail
      | _, _ => .fail
    | _ => .fail
def eqFs (f : TypeId → List D → List D → Option Bool) : List (TypeId × Nat × Nat) → List D → List D → Option Bool
  | [], _, _ => some true
  | (ty, off, sz) :: r, xs, ys => match partAt xs off sz, partAt ys off sz with
    | some p, some q => match f ty p q, eqFs f r xs ys with
      | some b, some c => some (b && c)
      | _, _ => none
    | _, _ => none
def eqT : Nat → TypeId → List D → List D → Option Bool
  | 0, _, _, _ => none
  | n + 1, t, xs, ys => match ti t with
    | none => none
    | some i => match i.kind, xs, ys with
      | .int _, [.int k a], [.int k' b] => match kindEq k k' with
        | true => some (a == b)
        | false => none
      | .bool, [.bool a], [.bool b] => some (a == b)
      | .str, [.str a], [.str b] => some (a.toList == b.toList)
      | .struct fs, xs, ys => match i.eqok with
        | true => eqFs (eqT n) fs xs ys
        | false => none
      | _, _, _ => none
def ptBin (t : TypeId) (op : BinOp) (x y : Slot) : PT := match x, y with
  | .rv (.val (.int k a)), .rv (.val (.int k' b)) => match op with
    | .shl => .need (0 ≤ b) (.valOk (.int k (k.wrap (a * 2 ^ (min b.toNat k.bits)))))
    | .shr => .need (0 ≤ b) (.valOk (.int k (a.fdiv (2 ^ (min b.toNat k.bits)))))
    | op => match kindEq k k' with
      | true => binI op k a b
      | false => .fail
  | .rv (.val (.str a)), .rv (.val (.str b)) => binS op a b
  | .rv (.val (.bool a)), .rv (.val (.bool b)) => match ti t, op with
    | some i, .eql => match i.kind with
      | .bool => .valOk (.bool (a == b))
      | _ => .fail
    | some i, .neq => match i.kind with
      | .bool => .valOk (.bool (!(a == b)))
      | _ => .fail
    | _, _ => .fail
  | .rv (.val (.slice rows)), .rv .nils => match ti t, op with
    | some i, .eql => match i.kind with
      | .slice _ => .anyNil rows fun b => .valOk (.bool b)
      | _ => .fail
    | some i, .neq => match i.kind with
      | .slice _ => .anyNil rows fun b => .valOk (.bool (!b))
      | _ => .fail
    | _, _ => .fail
  | .rv (.val (.agg xs)), .rv (.val (.agg ys)) => match ti t, op with
    | some i, .eql => match i.kind, eqT ti 20 t xs ys with
      | .struct _, some b => .valOk (.bool b)
      | _, _ => .fail
    | some i, .neq => match i.kind, eqT ti 20 t xs ys with
      | .struct _, some b => .valOk (.bool (!b))
      | _, _ => .fail
    | _, _ => .fail
  | _, _ => .fail
def ptUn (op : UnOp) (x : Slot) : PT := match op, x with
  | .not, .rv (.val (.bool b)) => .valOk (.bool (!b))
  | .neg, .rv (.val (.int k n)) => .valOk (.int k (k.wrap (0 - n)))
  | .xor, .rv (.val (.int k n)) => .valOk (.int k (bitsI .xor k (if k.signed then -1 else k.max) n))
  | _, _ => .fail
def ptConvert (s d : TypeId) (x : Slot) : PT := match ti s, ti d, x with
  | some _, some i, .rv (.val (.int _ n)) => match i.kind with
    | .int k => .valOk (.int k (k.wrap n))
    | _ => .fail
  | _, _, _ => .fail
def allU8 (rows : List (List D)) : Prop := ∀ r ∈ rows, ∃ n, r = [D.int .u8 n]
def byteOf : List D → Int
  | [.int _ n] => n
  | _ => 0
def bytesOf (rows : List (List D)) : ByteArray := (rows.map byteOf).foldl (fun r n => r.push (UInt8.ofNat n.toNat)) ByteArray.empty
def isBytes (s d : TypeId) : Bool := match ti s, ti d with
  | some i, some j => match i.kind, j.kind with
    | .slice _, .str => true
    | _, _ => false
  | _, _ => false
def ptConvB (s d : TypeId) (x : Slot) : PT := match ti s, ti d with
  | some i, some j => match i.kind, j.kind with
    | .slice e, .str => match ti e with
      | some ie => match ie.kind with
        | .int .u8 => match valsOf bl x with
          | some (.slice rows, p) => .need (allU8 rows) (.ok ⟨.rv (.val (.str (bytesOf rows))), p⟩)
          | _ => .fail
        | _ => .fail
      | none => .fail
    | _, _ => .fail
  | _, _ => .fail
def ptExtract (x : Slot) (i : Nat) : PT := match x with
  | .tup rs => match rs[i]? with
    | some r => .ok ⟨.rv r, []⟩
    | none => .fail
  | _ => .fail
def capsOf : List Slot → Option (List (List D) × Pch)
  | [] => some ([], [])
  | .box n 0 :: r => match bl n with
    | some (.box cs) => match cellsD bl cs, capsOf r with
      | some (ds, p), some (rest, q) => some (ds :: rest, (n, some (.frob ds)) :: p ++ q)
      | _, _ => none
    | some (.frob ds) => match capsOf r with
      | some (rest, q) => some (ds :: rest, q)
      | none => none
    | _ => none
  | .row cs 0 :: r => match capsOf r with
    | some (rest, q) => some (cs :: rest, q)
    | none => none
  | _ => none
def ptMakeFunc (f : FuncId) (caps : List Slot) : PT := match capsOf bl caps with
  | some (cs, p) => .ok ⟨.rv (.val (.fn f cs)), p⟩
  | none => .fail
def argsOf : List Slot → Option (List Arg × Pch)
  | [] => some ([], [])
  | s :: r => match valsOf bl s, argsOf r with
    | some (d, p), some (rest, q) => some (.val d :: rest, p ++ q)
    | _, _ => none
def RR.flat : RR → Bool
  | .val d => d.flat
  | .own _ _ => false
def resRV (nm : Nat) : List RR → List RV × Pch
  | [] => ([], [])
  | .val d :: r => let x := resRV (nm + 1) r; (.val d :: x.1, x.2)
  | .own e rows :: r => let x := resRV (nm + 1) r; (.own nm :: x.1, (nm, some (.vec e rows)) :: x.2)
def resSlot : List RV → Slot
  | [r] => .rv r
  | rs => .tup rs
def afterCall (p : Pch) (rs : List RR) : PT := match Nat.ble rs.length 8, allB RR.flat rs with
  | true, true => .ok ⟨resSlot (resRV nm rs).1, (resRV nm rs).2⟩
  | true, false => .ok ⟨resSlot (resRV nm rs).1, (resRV nm rs).2 ++ p⟩
  | false, _ => .fail
def ptCall (f : Slot) (args : List Slot) : PT := match f with
  | .rv (.val (.fn g caps)) => match argsOf bl args with
    | some (as_, p) => .call g (as_ ++ caps.map .row) (afterCall nm p)
    | none => .fail
  | _ => .fail
def rowsOf (bl : Blks) : Slot → Option (List (List D))
  | .rv (.val (.slice rows)) => some rows
  | .rv (.own m) => match bl m with
    | some (.vec _ rows) => some rows
    | some (.fro rows) => some rows
    | _ => none
  | .rv .nils => some []
  | _ => none
def newRows (bl : Blks) (e : TypeId) (sz : Nat) : Slot → Option (List (List D) × Option Prop)
  | .rv (.val (.slice rows)) => some (rows, some (∀ r ∈ rows, r.length = sz))
  | .rv (.own m) => match bl m with
    | some (.vec e' rows) => match Nat.beq e e' with
      | true => some (rows, none)
      | false => none
    | some (.fro rows) => some (rows, some (∀ r ∈ rows, r.length = sz))
    | _ => none
  | .rv .nils => some ([], none)
  | _ => none
def sameOwn : Slot → Nat → Bool
  | .rv (.own m), n => Nat.beq m n
  | _, _ => false
def needO (p : Option Prop) (q : Prop) (k : PT) : PT := match p with
  | some p => .need (p ∧ q) k
  | none => .need q k
def ptAppend (t : TypeId) (s x : Slot) : PT := match ti t with
  | none => .fail
  | some i => match i.kind with
    | .slice e => match ti e with
      | some ie => match newRows bl e ie.size x, (match Nat.ble 1 ie.size, Nat.ble 1 ie.bytes with | true, true => Nat.beq ie.zero.length ie.size | _, _ => false), s with
        | some (new, c), true, .rv .nils => needO c (new.length * ie.bytes ≤ 140737488355328) (.ok ⟨.rv (.own nm), [(nm, some (.vec e new))]⟩)
        | some (new, c), true, .rv (.own m) => match bl m, sameOwn x m with
          | some (.vec e' rows), false => match Nat.beq e e' with
            | true => needO c ((rows.length + new.length) * ie.bytes ≤ 140737488355328) (.ok ⟨.rv (.own nm), [(m, none), (nm, some (.vec e (rows ++ new)))]⟩)
            | false => .fail
          | _, _ => .fail
        | _, _, _ => .fail
      | none => .fail
    | _ => .fail
def ptLen (t : TypeId) (x : Slot) : PT := match ti t with
  | none => .fail
  | some i => match i.kind, x with
    | .str, .rv (.val (.str s)) => .valOk (.int .i64 s.size)
    | .slice _, x => match rowsOf bl x with
      | some rows => .valOk (.int .i64 rows.length)
      | none => .fail
    | .array n _, _ => .valOk (.int .i64 n)
    | _, _ => .fail
def foldMin (isMax : Bool) (k : IntKind) : Int → List Slot → Option Int
  | a, [] => some a
  | a, .rv (.val (.int _ b)) :: r => foldMin isMax k (match isMax with
    | true => if b > a then b else a
    | false => if b < a then b else a) r
  | _, _ => none
def ptMin (isMax : Bool) : List Slot → PT
  | .rv (.val (.int k a)) :: r => match foldMin isMax k a r with
    | some n => .valOk (.int k n)
    | none => .fail
  | _ => .fail
def ptBuiltin (b : Builtin) (argTypes : List TypeId) (args : List Slot) : PT := match b, argTypes, args with
  | .len, [t], [x] => ptLen ti bl t x
  | .append, [t, u], [s, x] => match Nat.beq t u with
    | true => ptAppend ti bl nm t s x
    | false => .fail
  | .min, _, xs => ptMin false xs
  | .max, _, xs => ptMin true xs
  | _, _, _ => .fail
def ptAssign (ty : TypeId) (s : Slot) : PT := match s with
  | .rv .nils => match ti ty with
    | some i => match i.kind with
      | .slice e => match ti e with
        | some ie => match Nat.ble 1 ie.size with
          | true => .ok ⟨.rv (.own nm), [(nm, some (.vec e []))]⟩
          | false => .fail
        | none => .fail
      | _ => .fail
    | none => .fail
  | .gval _ _ => .fail
  | s => .ok ⟨s, []⟩
def ptPick (c a b : Slot) : PT := match c, a, b with
  | .rv (.val (.bool x)), .rv (.val (.bool y)), .rv (.val (.bool z)) => .valOk (.bool (bif x then y else z))
  | _, _, _ => .fail
def ptAlloc (t : TypeId) : PT := match ti t with
  | some i => ptBox nm i.zero
  | none => .fail
def ptBoxOp (t : TypeId) (x : Slot) : PT := match ti t, x with
  | some i, .rv r => match rvCells bl r with
    | some cs => match Nat.beq cs.length i.size with
      | true => ptBox nm cs
      | false => .fail
    | none => .fail
  | _, _ => .fail
def ptNilCheck (x : Slot) : PT := match x with
  | .box n o => match bl n with
    | some _ => .ok ⟨.box n o, []⟩
    | none => .fail
  | .row c o => .ok ⟨.row c o, []⟩
  | _ => .fail
def opPT (o : Oper) : PT := match o.op with
  | .move x => match ev x with
    | .gval _ _ => .fail
    | s => .ok ⟨s, []⟩
  | .assign x => ptAssign ti nm o.type (ev x)
  | .pick c a b => ptPick (ev c) (ev a) (ev b)
  | .alloc t => ptAlloc ti nm t
  | .box t x => ptBoxOp ti bl nm t (ev x)
  | .build t ps => ptBuild ti bl t (ps.toList.map fun p => (p.1, ev p.2))
  | .buildSlice t n ps => ptBuildSlice ti bl nm t n (ps.toList.map fun p => (p.1, ev p.2))
  | .load t a => ptLoad ti bl t (ev a)
  | .store t a v => ptStore ti bl t (ev a) (ev v)
  | .nilCheck x => ptNilCheck bl (ev x)
  | .binOp op t x y _ => ptBin ti t op (ev x) (ev y)
  | .unOp op _ x => ptUn op (ev x)
  | .convert s d x => match isBytes ti s d with
    | true => ptConvB ti bl s d (ev x)
    | false => ptConvert ti s d (ev x)
  | .makeSlice t l c => ptMakeSlice ti bl nm t (ev l) (ev c)
  | .slice t x lo hi mx => ptSlice ti bl t (ev x) (lo.map ev) (hi.map ev) (mx.map ev)
  | .fieldAddr s x f => ptFieldAddr ti bl s (ev x) f
  | .field s x f => ptField ti s (ev x) f
  | .indexAddr t x i => ptIndexAddr ti bl (isConst i) t (ev x) (ev i)
  | .index t x i => ptIndex ti t (ev x) (ev i)
  | .extract x i => ptExtract (ev x) i
  | .makeFunc (.func f) first captured => match first.toList with
    | [] => ptMakeFunc bl f (captured.toList.map ev)
    | _ => .fail
  | .call c => match c.callee with
    | .builtin b => ptBuiltin ti bl nm b c.argTypes.toList (c.args.toList.map ev)
    | .value f => ptCall bl nm (ev f) (c.args.toList.map ev)
    | _ => .fail
  | _ => .fail
end
def constSlot : Value → Slot
  | .int k n => .rv (.val (.int k n))
  | .bool b => .rv (.val (.bool b))
  | .string s => match Nat.ble s.size 9223372036854775807 with
    | true => .rv (.val (.str s))
    | false => .unit
  | .slice none 0 0 => .rv .nils
  | _ => .unit
def evOp (gt : Nat → Option (List D)) (sl : Nat → Slot) : Operand → Slot
  | .tmp t => sl t
  | .const v => constSlot v
  | .global g => match gt g with
    | some cs => .row cs 0
    | none => .unit
  | .func f => .rv (.val (.fn f []))
def litB (x : Nat × Bool) : List (Nat × Bool) → Bool
  | [] => false
  | y :: r => match Nat.beq x.1 y.1, x.2, y.2 with
    | true, true, true => true
    | true, false, false => true
    | _, _, _ => litB x r
def subL : List (Nat × Bool) → List (Nat × Bool) → Bool
  | [], _ => true
  | x :: r, l => match litB x l with
    | true => subL r l
    | false => false
def evG (gt : Nat → Option (List D)) (sl : Nat → Slot) (lits : List (Nat × Bool)) (x : Operand) : Slot := match evOp gt sl x with
  | .gval l s => match subL l lits with
    | true => s
    | false => .unit
  | s => s
def pickPT (gt : Nat → Option (List D)) (sl : Nat → Slot) (lits : List (Nat × Bool)) (c a b : Operand) : PT := match c with
  | .tmp t => ptPick (evG gt sl lits c) (evG gt sl ((t, true) :: lits) a) (evG gt sl ((t, false) :: lits) b)
  | c => ptPick (evG gt sl lits c) (evG gt sl lits a) (evG gt sl lits b)
def stepPT (ti : TypeId → Option TI) (gt : Nat → Option (List D)) (sl : Nat → Slot) (bl : Blks) (nm : Nat) (lits : List (Nat × Bool)) (o : Oper) : PT := match o.op with
  | .pick c a b => pickPT gt sl lits c a b
  | _ => opPT ti (evG gt sl lits) bl nm o
def condOf (sl : Nat → Slot) : List (Nat × Bool) → Option Bool
  | [] => some true
  | (t, b) :: r => match condOf sl r with
    | none => none
    | some c => match sl t with
      | .rv (.val (.bool x)) => some ((x == b) && c)
      | .gval l (.rv (.val (.bool x))) => match subL l r with
        | true => some ((x == b) && c)
        | false => none
      | _ => none
def guardLits (ops : Array Oper) (sl : Nat → Slot) (o : Oper) : Option (List (Nat × Bool)) := match o.guard with
  | none => some []
  | some (j, b) => match (ops[j]?).bind (·.dst) with
    | some t => match sl t with
      | .gval l _ => some ((t, b) :: l)
      | _ => some [(t, b)]
    | none => none
def T.ofPT : PT → (Patch → T) → T
  | .fail, _ => .fail
  | .ok p, k => k p
  | .need p pt, k => .need true p (T.ofPT pt k)
  | .opt o f, k => .opt true o fun x => T.ofPT (f x) k
  | .call f args g, k => .call true f args fun rs => T.ofPT (g rs) k
  | .anyNil rows g, k => .anyNil rows fun b => T.ofPT (g b) k
def T.ofPTg (c : Bool) : PT → (Patch → T) → T
  | .fail, _ => .fail
  | .ok p, k => k p
  | .need p pt, k => .need c p (T.ofPTg c pt k)
  | .opt o f, k => .opt c o fun x => T.ofPTg c (f x) k
  | .call f args g, k => .call c f args fun rs => T.ofPTg c (g rs) k
  | .anyNil _ _, _ => .fail
def St.put (st : St) (dst : Option Nat) (p : Patch) : St :=
  { slots := match dst with
      | some d => (d, p.slot) :: st.slots
      | none => st.slots
    blks := p.blks ++ st.blks
    next := st.next + 8 }
def litOn (d : Nat) : List (Nat × Bool) → Bool
  | [] => false
  | x :: r => match Nat.beq x.1 d with
    | true => true
    | false => litOn d r
def mentions (d : Nat) : List (Nat × Slot) → Bool
  | [] => false
  | (_, .gval l _) :: r => match litOn d l with
    | true => true
    | false => mentions d r
  | _ :: r => mentions d r
def leans (nt : Nat) (dst : Option Nat) (s : List (Nat × Slot)) : Bool := match dst with
  | some d => match Nat.ble (d + 1) nt with
    | true => mentions d s
    | false => true
  | none => false
def Slot.isG : Slot → Bool
  | .gval _ _ => true
  | _ => false
def refsR : RV → List Nat
  | .own n => [n]
  | _ => []
def refsS : Slot → List Nat
  | .rv r => refsR r
  | .gval _ s => refsS s
  | .tup l => l.flatMap refsR
  | .box n _ => [n]
  | .vel n _ _ _ => [n]
  | _ => []
def litOnO (dst : Option Nat) (l : List (Nat × Bool)) : Bool := match dst with
  | some d => litOn d l
  | none => false
def gPatch (dst : Option Nat) (bl : Blks) (lits : List (Nat × Bool)) (p : Patch) : Option Patch := match p.blks, litOnO dst lits, p.slot.isG, allB (fun n => (bl n).isSome) (refsS p.slot) with
  | [], false, false, true => some ⟨.gval lits p.slot, []⟩
  | _, _, _, _ => none
def exOp (ti : TypeId → Option TI) (gt : Nat → Option (List D)) (ops : Array Oper) (o : Oper) (st : St) (bl : Blks) (k : Patch → T) : T :=
  match o.guard with
  | none => T.ofPT (stepPT ti gt (lookS st.slots) bl st.next [] o) k
  | some _ => match guardLits ops (lookS st.slots) o with
    | none => .fail
    | some lits => match condOf (lookS st.slots) lits with
      | none => .fail
      | some c => T.ofPTg c (stepPT ti gt (lookS st.slots) bl st.next lits o) fun p => match gPatch o.dst bl lits p with
        | some q => k q
        | none => .fail
def exOpD (ti : TypeId → Option TI) (gt : Nat → Option (List D)) (ops : Array Oper) (o : Oper) (st : St) (bl : Blks) (k : Patch → T) : T :=
  match o.guard with
  | none => T.ofPTg true (stepPT ti gt (lookS st.slots) bl st.next [] o) fun p => match p.slot.isG with
    | true => .fail
    | false => k p
  | some _ => exOp ti gt ops o st bl k
def exOps (nt : Nat) (ti : TypeId → Option TI) (gt : Nat → Option (List D)) (ops : Array Oper) : List Oper → St → (St → T) → T
  | [], st, k => k st
  | o :: r, st, k => match leans nt o.dst st.slots with
    | true => .fail
    | false => exOp ti gt ops o st (lookB st.blks) fun p => exOps nt ti gt ops r (st.put o.dst p) k
def clearG : List Oper → List (Nat × Slot) → List (Nat × Slot)
  | [], s => s
  | o :: r, s => match o.guard, o.dst with
    | some _, some d => clearG r ((d, .unit) :: s)
    | _, _ => clearG r s
def St.clear (ops : List Oper) (st : St) : St := { st with slots := clearG ops st.slots }
def natIn (n : Nat) : List Nat → Bool
  | [] => false
  | m :: r => match Nat.beq n m with
    | true => true
    | false => natIn n r
def meets : List Nat → List Nat → Bool
  | [], _ => false
  | n :: r, l => match natIn n l with
    | true => true
    | false => meets r l
def tmpsOf : List Operand → List Nat
  | [] => []
  | .tmp t :: r => t :: tmpsOf r
  | _ :: r => tmpsOf r
structure Done where
  i : Nat
  rs : List Nat
  ws : List Nat
  rn : List Nat
  wn : List Nat
def clash (before : Nat) (x y : Done) : Bool := match before.testBit x.i with
  | true => false
  | false => meets x.ws y.rs || meets x.ws y.ws || meets x.rs y.ws || meets x.wn y.rn || meets x.wn y.wn || meets x.rn y.wn
def clashes (before : Nat) (y : Done) : List Done → Bool
  | [] => false
  | x :: r => match clash before x y with
    | true => true
    | false => clashes before y r
def restrict (bl : Blks) (l : List Nat) : Blks := fun n => match natIn n l with
  | true => bl n
  | false => none
def namesOf (gt : Nat → Option (List D)) (sl : Nat → Slot) (o : Oper) : List Nat := o.op.operands.toList.flatMap fun x => refsS (evOp gt sl x)
def readsOf (ops : Array Oper) (sl : Nat → Slot) (o : Oper) : List Nat := tmpsOf o.op.operands.toList ++ (match guardLits ops sl o with
  | some l => l.map (·.1)
  | none => [])
def doneOf (gt : Nat → Option (List D)) (ops : Array Oper) (st : St) (i : Nat) (o : Oper) (p : Patch) : Done :=
  { i, rs := readsOf ops (lookS st.slots) o, ws := o.dst.toList, rn := namesOf gt (lookS st.slots) o, wn := p.blks.map (·.1) }
def exDraw (nt : Nat) (ti : TypeId → Option TI) (gt : Nat → Option (List D)) (ops : Array Oper) (bs : Array Nat) : List Oper → Nat → List Done → St → (St → T) → T
  | [], _, _, st, k => k st
  | o :: r, i, ds, st, k => match leans nt o.dst st.slots with
   | true => .fail
   | false => exOpD ti gt ops o st (restrict (lookB st.blks) (namesOf gt (lookS st.slots) o)) fun p => match clashes (bs.getD i 0) (doneOf gt ops st i o p) ds with
    | true => .fail
    | false => exDraw nt ti gt ops bs r (i + 1) (doneOf gt ops st i o p :: ds) (st.put o.dst p) k
def retRR (bl : Blks) : RV → Option RR
  | .val d => some (.val d)
  | .own n => match bl n with
    | some (.vec e rows) => some (.own e rows)
    | some (.fro rows) => some (.val (.slice rows))
    | _ => none
  | .nils => some (.val (.slice []))
  | .any => none
def ownNames : List RV → List Nat
  | [] => []
  | .own n :: r => n :: ownNames r
  | _ :: r => ownNames r
def distinct : List Nat → Bool
  | [] => true
  | n :: r => match natIn n r with
    | true => false
    | false => distinct r
def resOf (ti : TypeId → Option TI) (st : St) : ResultVar → Option (RV × Pch)
  | .tmp t => match lookS st.slots t with
    | .rv r => some (r, [])
    | _ => none
  | .cell a t => match ptLoad ti (lookB st.blks) t (lookS st.slots a) with
    | .ok ⟨.rv r, p⟩ => some (r, p)
    | _ => none
def mapO {α β : Type} (f : α → Option β) : List α → Option (List β)
  | [] => some []
  | a :: r => match f a, mapO f r with
    | some b, some bs => some (b :: bs)
    | _, _ => none
def retT (ti : TypeId → Option TI) (st : St) (rs : List ResultVar) : T := match mapO (resOf ti st) rs with
  | none => .fail
  | some l => match distinct (ownNames (l.map (·.1))), mapO (retRR (lookB (l.flatMap (·.2) ++ st.blks))) (l.map (·.1)) with
    | true, some rr => .ret rr
    | _, _ => .fail
def backs : Nat → List Oper → Bool
  | _, [] => true
  | i, o :: r => match allB (fun e => match Region.binds .any e with | true => Nat.ble (e.on + 1) i | false => true) o.after.toList with
    | true => backs (i + 1) r
    | false => false
def outs : Code → Option Nat → Nat
  | .skip, none => 1
  | .region _ _ _, none => 1
  | .seq a b, none => match outs a none with
    | 0 => 0
    | _ => outs b none
  | .seq a b, some i => match outs a none with
    | 0 => outs a (some i)
    | _ => outs a (some i) + outs b (some i)
  | .cond _ a b, x => outs a x + outs b x
  | .block id c, none => outs c none + outs c (some id)
  | .block id c, some i => match Nat.beq i id with
    | true => 0
    | false => outs c (some i)
  | .loop c, some i => outs c (some i)
  | .exit id, some i => match Nat.beq i id with
    | true => 1
    | false => 0
  | _, _ => 0
def joins (c : Code) : Bool := Nat.ble 2 (outs c none)
def exec (nt : Nat) (ti : TypeId → Option TI) (gt : Nat → Option (List D)) (rs : List ResultVar) : Code → St → (Ex → St → T) → T
  | .skip, st, k => k .normal st
  | .region _ ops false, st, k => exOps nt ti gt ops ops.toList st fun st' => k .normal (st'.clear ops.toList)
  | .region _ ops true, st, k => match backs 0 ops.toList with
    | false => .fail
    | true => exDraw nt ti gt ops (Region.before ops) ops.toList 0 [] st fun st' => k .normal (st'.clear ops.toList)
  | .seq a b, st, k => exec nt ti gt rs a st fun e s => match e with
    | .normal => match joins a with
      | true => .cut b s k
      | false => exec nt ti gt rs b s k
    | .exit id => k (.exit id) s
  | .cond c x y, st, k => match evOp gt (lookS st.slots) c with
    | .rv (.val (.bool b)) => .ite b (exec nt ti gt rs x st k) (exec nt ti gt rs y st k)
    | _ => .fail
  | .block id body, st, k => exec nt ti gt rs body st fun e s => match e with
    | .normal => k .normal s
    | .exit j => match Nat.beq j id with
      | true => k .normal s
      | false => k (.exit j) s
  | .loop body, st, k => .loop body st k
  | .exit id, st, k => k (.exit id) st
  | .ret, st, _ => retT ti st rs
  | _, _, _ => .fail
end Go.Eng
set_option linter.unusedVariables false
namespace Go.Eng
open Go.RowKit
inductive Rep (w : World) (ok : Nat → Prop) : Value → D → Prop where
  | int (k : IntKind) (n : Int) : Rep w ok (.int k n) (.int k n)
  | bool (b : Bool) : Rep w ok (.bool b) (.bool b)
  | str (s : ByteArray) (h : s.size ≤ 9223372036854775807) : Rep w ok (.string s) (.str s)
  | slice (A : Option Addr) (n c : Nat) (rows : List (List D)) (sz : Nat) (ad : Addr) (vs : Nat → Nat → Value)
      (hl : rows.length = n) (hc : n ≤ c) (hm : c ≤ 9223372036854775807) (hsz : ∀ r ∈ rows, r.length = sz) (hcell : ∀ r ∈ rows, ∀ d ∈ r, D.isCell d = true)
      (hA : 0 < n → A = some ad ∧ ok ad.block)
      (hv : ∀ (i : Nat) (r : List D) (j : Nat) (d : D), rows[i]? = some r → r[j]? = some d → w.cell? (ad.add (i * sz + j)) = some (vs i j))
      (hr : ∀ (i : Nat) (r : List D) (j : Nat) (d : D), rows[i]? = some r → r[j]? = some d → Rep w ok (vs i j) d) : Rep w ok (.slice A n c) (.slice rows)
  | agg (cs : Array Value) (ds : List D) (hl : cs.size = ds.length) (hcell : ∀ d ∈ ds, D.isCell d = true)
      (h : ∀ (i : Nat) (d : D), ds[i]? = some d → Rep w ok (cs.getD i undef) d) : Rep w ok (.agg cs) (.agg ds)
  | fn (f : FuncId) (caps : List (List D)) (cap : Array Value) (ads : Nat → Addr) (vs : Nat → Nat → Value) (hl : cap.size = caps.length)
      (hcell : ∀ r ∈ caps, ∀ d ∈ r, D.isCell d = true) (hp : ∀ i, i < caps.length → cap[i]? = some (.pointer (some (ads i))) ∧ ok (ads i).block)
      (hv : ∀ (i : Nat) (r : List D) (j : Nat) (d : D), caps[i]? = some r → r[j]? = some d → w.cell? ((ads i).add j) = some (vs i j))
      (hr : ∀ (i : Nat) (r : List D) (j : Nat) (d : D), caps[i]? = some r → r[j]? = some d → Rep w ok (vs i j) d) : Rep w ok (.func (.func f) #[] cap) (.fn f caps)
theorem cell?_heap {w w' : World} {a : Addr} (h : w'.heap[a.block]? = w.heap[a.block]?) : w'.cell? a = w.cell? a := World.cell?_of_block h
theorem add_block (a : Addr) (n : Nat) : (a.add n).block = a.block := by unfold Addr.add; split <;> rfl
theorem add_add (a : Addr) (n m : Nat) : (a.add n).add m = a.add (n + m) := by
  unfold Addr.add
  by_cases h1 : n = 0 <;> by_cases h2 : m = 0 <;> simp [h1, h2, Nat.add_assoc]
theorem add_plain (b o n : Nat) : (⟨b, o, none⟩ : Addr).add n = ⟨b, o + n, none⟩ := by
  unfold Addr.add
  by_cases h : n = 0 <;> simp [h]
theorem Rep.mono {w w' : World} {ok ok' : Nat → Prop} (hh : ∀ b, ok b → w'.heap[b]? = w.heap[b]?) (ho : ∀ b, ok b → ok' b) {v : Value} {d : D} (h : Rep w ok v d) : Rep w' ok' v d := by
  induction h with
  | int k n => exact .int k n
  | bool b => exact .bool b
  | str s h => exact .str s h
  | slice A n c rows sz ad vs hl hc hm hsz hcell hA hv _ ih =>
    refine .slice A n c rows sz ad vs hl hc hm hsz hcell (fun h => ⟨(hA h).1, ho _ (hA h).2⟩) (fun i r j d h1 h2 => ?_) ih
    have hn : 0 < n := by have := (List.getElem?_eq_some_iff.1 h1).1; omega
    exact (cell?_heap (a := ad.add (i * sz + j)) (by rw [add_block]; exact hh _ (hA hn).2)).trans (hv i r j d h1 h2)
  | agg cs ds hl hcell _ ih => exact .agg cs ds hl hcell ih
  | fn f caps cap ads vs hl hcell hp hv _ ih =>
    refine .fn f caps cap ads vs hl hcell (fun i hi => ⟨(hp i hi).1, ho _ (hp i hi).2⟩) (fun i r j d h1 h2 => ?_) ih
    exact (cell?_heap (a := (ads i).add j) (by rw [add_block]; exact hh _ (hp i (List.getElem?_eq_some_iff.1 h1).1).2)).trans (hv i r j d h1 h2)
theorem allB_mem {α : Type} {p : α → Bool} : ∀ {l : List α}, allB p l = true → ∀ a ∈ l, p a = true
  | [], _, _, h => by cases h
  | b :: r, h, a, ha => by
    unfold allB at h
    split at h
    · rename_i hb
      rcases List.mem_cons.1 ha with rfl | ha
      · exact hb
      · exact allB_mem h a ha
    · cases h
theorem Rep.flat1 {w w' : World} {ok ok' : Nat → Prop} {v : Value} {d : D} (hd : d.flat1 = true) (h : Rep w ok v d) : Rep w' ok' v d := by
  cases h with
  | int k n => exact .int k n
  | bool b => exact .bool b
  | str s h => exact .str s h
  | _ => simp [D.flat1] at hd
theorem Rep.flat {w w' : World} {ok ok' : Nat → Prop} {v : Value} {d : D} (hd : d.flat = true) (h : Rep w ok v d) : Rep w' ok' v d := by
  cases h with
  | int k n => exact .int k n
  | bool b => exact .bool b
  | str s h => exact .str s h
  | agg cs ds hl hcell hr =>
    refine .agg cs ds hl hcell (fun i d hi => (hr i d hi).flat1 ?_)
    exact allB_mem (p := D.flat1) (by simpa [D.flat] using hd) d (List.mem_of_getElem? hi)
  | slice => simp [D.flat, D.flat1] at hd
  | fn => simp [D.flat, D.flat1] at hd
theorem Rep.one {w : World} {ok : Nat → Prop} {v : Value} {d : D} (h : Rep w ok v d) (hd : d.isCell = true) : v.cells = #[v] ∧ v.oneCell' = true := by
  cases h with
  | agg => simp [D.isCell] at hd
  | _ => exact ⟨rfl, rfl⟩
theorem Rep.cells {w : World} {ok : Nat → Prop} {v : Value} {d : D} (h : Rep w ok v d) :
    v.cells.size = d.cells.length ∧ (∀ e ∈ d.cells, e.isCell = true) ∧ ∀ (i : Nat) (e : D), d.cells[i]? = some e → Rep w ok (v.cells.getD i undef) e := by
  cases h with
  | agg cs ds hl hcell hr => exact ⟨hl, hcell, hr⟩
  | int k n => exact ⟨rfl, by simp [D.cells, D.isCell], fun i e h => by cases i <;> simp [D.cells] at h; subst h; exact .int k n⟩
  | bool b => exact ⟨rfl, by simp [D.cells, D.isCell], fun i e h => by cases i <;> simp [D.cells] at h; subst h; exact .bool b⟩
  | str s hs => exact ⟨rfl, by simp [D.cells, D.isCell], fun i e h => by cases i <;> simp [D.cells] at h; subst h; exact .str s hs⟩
  | slice A n c rows sz ad vs hl hc hm hsz hcell hA hv hr => exact ⟨rfl, by simp [D.cells, D.isCell], fun i e h => by cases i <;> simp [D.cells] at h; subst h; exact .slice A n c rows sz ad vs hl hc hm hsz hcell hA hv hr⟩
  | fn f caps cap ads vs hl hcell hp hv hr => exact ⟨rfl, by simp [D.cells, D.isCell], fun i e h => by cases i <;> simp [D.cells] at h; subst h; exact .fn f caps cap ads vs hl hcell hp hv hr⟩
structure Env where
  P : Program
  gt : Nat → Option (List D)
  w0 : World
  ok0 : Nat → Prop
  n : Nat
def GlobOK (gt : Nat → Option (List D)) (w : World) (ok : Nat → Prop) : Prop :=
  ∀ g cs, gt g = some cs → ok g ∧ (∀ d ∈ cs, D.isCell d = true) ∧ ∀ (j : Nat) (d : D), cs[j]? = some d → ∃ v, w.cell? ⟨g, j, none⟩ = some v ∧ Rep w ok v d
structure Env.Good (E : Env) : Prop where
  ok : ∀ b, E.ok0 b → b < E.w0.heap.size
  glob : GlobOK E.gt E.w0 E.ok0
def ptrBlock : Value → Option Nat
  | .pointer (some a) => some a.block
  | .slice (some a) _ _ => some a.block
  | _ => none
def Blk.live : Blk → Bool
  | .box _ => true
  | .vec _ _ => true
  | _ => false
def okS (E : Env) (bl : Blks) (ψ : Nat → Value) (w : World) (b : Nat) : Prop :=
  (b < E.w0.heap.size → E.ok0 b) ∧ b < w.heap.size ∧ ∀ nm k, bl nm = some k → k.live = true → ptrBlock (ψ nm) ≠ some b
def RVRep (w : World) (ok : Nat → Prop) (ψ : Nat → Value) (bl : Blks) : RV → Value → Prop
  | .val d, v => Rep w ok v d
  | .own nm, v => (bl nm).isSome = true → v = ψ nm
  | .nils, v => v = .slice none 0 0
  | .any, _ => True
def litsHold (tm : Array Value) (l : List (Nat × Bool)) : Prop := ∀ x ∈ l, tm.getD x.1 undef = .bool x.2
def SlotRep (w : World) (ok : Nat → Prop) (ψ : Nat → Value) (bl : Blks) (tm : Array Value) : Slot → Value → Prop
  | .unit, _ => True
  | .rv r, v => RVRep w ok ψ bl r v
  | .gval l s, v => (litsHold tm l → SlotRep w ok ψ bl tm s v) ∧ (¬ litsHold tm l → v = undef)
  | .tup rs, v => ∃ vs : Array Value, v = .tuple vs ∧ vs.size = rs.length ∧ ∀ (i : Nat) (r : RV), rs[i]? = some r → RVRep w ok ψ bl r (vs.getD i undef)
  | .box nm off, v => (bl nm).isSome = true → ∃ b, ψ nm = .pointer (some ⟨b, 0, none⟩) ∧ v = .pointer (some ⟨b, off, none⟩)
  | .row cs off, v => ∃ ad : Addr, v = .pointer (some (ad.add off)) ∧ ok ad.block ∧ (∀ d ∈ cs, D.isCell d = true) ∧ ∀ (j : Nat) (d : D), cs[j]? = some d → ∃ u, w.cell? (ad.add j) = some u ∧ Rep w ok u d
  | .vel nm i sz off, v => (bl nm).isSome = true → ∃ b n c, ψ nm = .slice (some ⟨b, 0, none⟩) n c ∧ v = .pointer (some ⟨b, i * sz + off, none⟩)
def BlkRep (E : Env) (w : World) (ok : Nat → Prop) (ψ : Nat → Value) (bl : Blks) (nm : Nat) : Blk → Prop
  | .box cs => ∃ b vs t, ψ nm = .pointer (some ⟨b, 0, none⟩) ∧ E.w0.heap.size ≤ b ∧ w.heap[b]? = some (.cells vs t (0, 0)) ∧ vs.size = cs.length ∧
      ∀ (j : Nat) (r : RV), cs[j]? = some r → RVRep w ok ψ bl r (vs.getD j undef) ∧ (∀ d, r = .val d → d.isCell = true)
  | .vec e rows => ∃ xs : List Value, 0 < szOf E.P e ∧ w.ownsRow E.w0.heap.size e (szOf E.P e) (ψ nm) rows.length xs ∧ (∀ r ∈ rows, r.length = szOf E.P e) ∧ (∀ r ∈ rows, ∀ d ∈ r, D.isCell d = true) ∧
      ∀ (i : Nat) (r : List D) (j : Nat) (d : D), rows[i]? = some r → r[j]? = some d → ∃ u, xs[i * szOf E.P e + j]? = some u ∧ Rep w ok u d
  | .fro rows => Rep w ok (ψ nm) (.slice rows)
  | .frob cs => ∃ b, ψ nm = .pointer (some ⟨b, 0, none⟩) ∧ ok b ∧ (∀ d ∈ cs, D.isCell d = true) ∧ ∀ (j : Nat) (d : D), cs[j]? = some d → ∃ u, w.cell? ⟨b, j, none⟩ = some u ∧ Rep w ok u d
structure SimP (E : Env) (ψ : Nat → Value) (sl : Nat → Slot) (bl : Blks) (U : Nat → Prop) (a : Act) (w : World) : Prop where
  size : a.tmps.size = E.n
  defers : a.defers = []
  below : Below E.w0.heap.size E.w0 w
  slots : ∀ i, SlotRep w (okS E bl ψ w) ψ bl a.tmps (sl i) (a.tmps.getD i undef)
  blks : ∀ nm k, bl nm = some k → BlkRep E w (okS E bl ψ w) ψ bl nm k
  apart : ∀ nm nm' k k', bl nm = some k → bl nm' = some k' → k.live = true → k'.live = true → nm ≠ nm' → ptrBlock (ψ nm) = none ∨ ptrBlock (ψ nm) ≠ ptrBlock (ψ nm')
  names : ∀ nm, ¬ U nm → bl nm = none
  refs : ∀ i nm, nm ∈ refsS (sl i) → U nm
  brefs : ∀ nm cs, bl nm = some (.box cs) → ∀ r ∈ cs, ∀ m ∈ refsR r, U m
  gg : ∀ i l l' s', sl i ≠ .gval l (.gval l' s')
def Sim (E : Env) (sl : Nat → Slot) (bl : Blks) (U : Nat → Prop) (a : Act) (w : World) : Prop := ∃ ψ, SimP E ψ sl bl U a w
structure Keeps (E : Env) (ψ ψ' : Nat → Value) (bl bl' : Blks) (U : Nat → Prop) (w w' : World) : Prop where
  heap : ∀ b, okS E bl ψ w b → w'.heap[b]? = w.heap[b]?
  ok : ∀ b, okS E bl ψ w b → okS E bl' ψ' w' b
  own : ∀ nm, U nm → (bl' nm).isSome = true → (bl nm).isSome = true ∧ ψ' nm = ψ nm
section
variable {E : Env} {ψ ψ' : Nat → Value} {bl bl' : Blks} {U : Nat → Prop} {w w' : World}
theorem Keeps.rep (h : Keeps E ψ ψ' bl bl' U w w') {v : Value} {d : D} (hr : Rep w (okS E bl ψ w) v d) : Rep w' (okS E bl' ψ' w') v d := hr.mono h.heap h.ok
theorem Keeps.rv (h : Keeps E ψ ψ' bl bl' U w w') {r : RV} {v : Value} (hn : ∀ m ∈ refsR r, U m) (hr : RVRep w (okS E bl ψ w) ψ bl r v) : RVRep w' (okS E bl' ψ' w') ψ' bl' r v := by
  cases r with
  | val d => exact h.rep hr
  | own m =>
    intro hs
    obtain ⟨h1, h2⟩ := h.own m (hn m (by simp [refsR])) hs
    rw [h2]
    exact hr h1
  | nils => exact hr
  | any => trivial
theorem Keeps.slot (h : Keeps E ψ ψ' bl bl' U w w') {tm tm' : Array Value} : ∀ {s : Slot} {v : Value}, (∀ l s', s = .gval l s' → (litsHold tm' l ↔ litsHold tm l)) → (∀ m ∈ refsS s, U m) → (∀ l l' s', s ≠ .gval l (.gval l' s')) →
    SlotRep w (okS E bl ψ w) ψ bl tm s v → SlotRep w' (okS E bl' ψ' w') ψ' bl' tm' s v := by
  have key : ∀ {s : Slot} {v : Value}, (∀ l s', s ≠ .gval l s') → (∀ m ∈ refsS s, U m) → SlotRep w (okS E bl ψ w) ψ bl tm s v → SlotRep w' (okS E bl' ψ' w') ψ' bl' tm' s v := by
    intro s v hg hn hr
    cases s with
    | unit => trivial
    | rv r => exact h.rv hn hr
    | gval l s => exact absurd rfl (hg l s)
    | tup rs =>
      obtain ⟨vs, h1, h2, h3⟩ := hr
      refine ⟨vs, h1, h2, fun i r hi => h.rv (fun m hm => hn m ?_) (h3 i r hi)⟩
      exact List.mem_flatMap.2 ⟨r, List.mem_of_getElem? hi, hm⟩
    | box nm off =>
      intro hs
      obtain ⟨h1, h2⟩ := h.own nm (hn nm (by simp [refsS])) hs
      rw [h2]
      exact hr h1
    | row cs off =>
      obtain ⟨ad, h1, h2, h3, h4⟩ := hr
      refine ⟨ad, h1, h.ok _ h2, h3, fun j d hj => ?_⟩
      obtain ⟨u, h5, h6⟩ := h4 j d hj
      exact ⟨u, (cell?_heap (a := ad.add j) (by rw [add_block]; exact h.heap _ h2)).trans h5, h.rep h6⟩
    | vel nm i sz off =>
      intro hs
      obtain ⟨h1, h2⟩ := h.own nm (hn nm (by simp [refsS])) hs
      rw [h2]
      exact hr h1
  intro s v hl hn hgg hr
  cases s with
  | gval l s =>
    have e := hl l s rfl
    refine ⟨fun hh => key (fun l' s' e' => hgg l l' s' (by rw [e'])) hn (hr.1 (e.1 hh)), fun hh => hr.2 (fun h' => hh (e.2 h'))⟩
  | _ => exact key (by simp) hn hr
end
def setS (sl : Nat → Slot) (dst : Option Nat) (s : Slot) : Nat → Slot := fun i => match dst with
  | some d => if i = d then s else sl i
  | none => sl i
def setB (bl : Blks) (p : Pch) : Blks := fun n => match p.find? (fun x => Nat.beq n x.1) with
  | some x => x.2
  | none => bl n
theorem lookS_put (st : St) (dst : Option Nat) (p : Patch) : lookS (st.put dst p).slots = setS (lookS st.slots) dst p.slot := by
  funext i
  cases dst with
  | none => rfl
  | some d =>
    show lookS ((d, p.slot) :: st.slots) i = _
    unfold lookS setS
    by_cases h : i = d
    · subst h; simp
    · have : Nat.beq i d = false := by rw [Bool.eq_false_iff]; exact fun e => h (Nat.eq_of_beq_eq_true e)
      simp [this, h]
theorem lookB_append (p : Pch) (l : List (Nat × Option Blk)) : lookB (p ++ l) = setB (lookB l) p := by
  funext n
  induction p with
  | nil => rfl
  | cons x r ih =>
    obtain ⟨m, b⟩ := x
    show lookB ((m, b) :: (r ++ l)) n = _
    unfold lookB setB
    by_cases h : Nat.beq n m = true
    · simp [h, List.find?]
    · have h' : Nat.beq n m = false := by rw [Bool.eq_false_iff]; exact h
      simp only [h', List.find?]
      rw [ih]
      rfl
theorem put_getD (a : Act) (dst : Option Nat) (v : Value) (i : Nat) : (a.put dst v).tmps.getD i undef = match dst with
    | some d => if i = d ∧ d < a.tmps.size then v else a.tmps.getD i undef
    | none => a.tmps.getD i undef := by
  cases dst with
  | none => rfl
  | some d =>
    simp only [Act.put, Array.getD_eq_getD_getElem?]
    by_cases h : i = d
    · subst h
      by_cases hs : i < a.tmps.size
      · simp [hs]
      · simp [hs]
    · have : d ≠ i := fun e => h e.symm
      simp [h, Array.getElem?_setIfInBounds_ne this]
theorem litOn_spec {d : Nat} : ∀ {l : List (Nat × Bool)}, litOn d l = false → ∀ x ∈ l, x.1 ≠ d
  | [], _, _, h => by cases h
  | y :: r, h, x, hx => by
    unfold litOn at h
    split at h
    · cases h
    · rename_i hy
      rcases List.mem_cons.1 hx with rfl | hx
      · intro e
        rw [e] at hy
        simp at hy
      · exact litOn_spec h x hx
theorem mentions_spec {d : Nat} : ∀ {s : List (Nat × Slot)}, mentions d s = false → ∀ i l s', lookS s i = .gval l s' → ∀ x ∈ l, x.1 ≠ d
  | [], _, i, l, s', h => by simp [lookS] at h
  | (j, t) :: r, hm, i, l, s', h => by
    have hr : mentions d r = false ∧ ∀ l' s'', t = .gval l' s'' → litOn d l' = false := by
      unfold mentions at hm
      split at hm
      · rename_i e; cases e
      · rename_i e
        obtain ⟨e1, e2⟩ := List.cons.inj e
        obtain ⟨_, e3⟩ := Prod.mk.inj e1
        subst e3 e2
        split at hm
        · cases hm
        · rename_i hl
          refine ⟨hm, fun l' s'' e => ?_⟩
          obtain ⟨e1, _⟩ := Slot.gval.inj e
          subst e1
          simpa using hl
      · rename_i hne e
        obtain ⟨e1, e2⟩ := List.cons.inj e
        obtain ⟨_, e3⟩ := Prod.mk.inj e1
        subst e3 e2
        exact ⟨hm, fun l' s'' e => (hne j l' s'' (by rw [← e1, e])).elim⟩
    unfold lookS at h
    split at h
    · subst h
      exact litOn_spec (hr.2 _ _ rfl)
    · exact mentions_spec hr.1 i l s' h
end Go.Eng
set_option linter.unusedVariables false
namespace Go.Eng
open Go.RowKit
section
variable {E : Env} {ψ ψ' : Nat → Value} {sl : Nat → Slot} {bl bl' : Blks} {U U' : Nat → Prop} {a : Act} {w w' : World} {dst : Option Nat} {v : Value} {s : Slot}
theorem ownsRow_same {w w' : World} {base : Nat} {e : TypeId} {size n : Nat} {v : Value} {xs : List Value} (h : w.ownsRow base e size v n xs) (hh : ∀ b, ptrBlock v = some b → w'.heap[b]? = w.heap[b]?) : w'.ownsRow base e size v n xs := by
  refine ⟨h.1, ?_⟩
  rcases h.2 with h | ⟨g, cap, cur, rfl, hb, hg, hr⟩
  · exact .inl h
  · exact .inr ⟨g, cap, cur, rfl, hb, (hh g rfl).trans hg, hr⟩
theorem BlkRep.keep (hk : Keeps E ψ ψ' bl bl' U w w') {nm : Nat} {k : Blk} (hn : U nm) (hb : (bl' nm).isSome = true)
    (hbr : ∀ cs, k = .box cs → ∀ r ∈ cs, ∀ m ∈ refsR r, U m) (hs : ∀ b, k.live = true → ptrBlock (ψ nm) = some b → w'.heap[b]? = w.heap[b]?)
    (h : BlkRep E w (okS E bl ψ w) ψ bl nm k) : BlkRep E w' (okS E bl' ψ' w') ψ' bl' nm k := by
  have hψ : ψ' nm = ψ nm := (hk.own nm hn hb).2
  cases k with
  | box cs =>
    obtain ⟨b, vs, t, h1, h2, h3, h4, h5⟩ := h
    refine ⟨b, vs, t, hψ.trans h1, h2, (hs b rfl (by rw [h1]; rfl)).trans h3, h4, fun j r hj => ⟨hk.rv (hbr cs rfl r (List.mem_of_getElem? hj)) (h5 j r hj).1, (h5 j r hj).2⟩⟩
  | vec e rows =>
    obtain ⟨xs, h1, h2, h3, h4, h5⟩ := h
    refine ⟨xs, h1, ?_, h3, h4, fun i r j d hi hj => ?_⟩
    · rw [hψ]; exact ownsRow_same h2 (fun b e => hs b rfl e)
    · obtain ⟨u, h6, h7⟩ := h5 i r j d hi hj
      exact ⟨u, h6, hk.rep h7⟩
  | fro rows =>
    show Rep w' _ (ψ' nm) _
    rw [hψ]; exact hk.rep h
  | frob cs =>
    obtain ⟨b, h1, h2, h3, h4⟩ := h
    refine ⟨b, hψ.trans h1, hk.ok b h2, h3, fun j d hj => ?_⟩
    obtain ⟨u, h5, h6⟩ := h4 j d hj
    exact ⟨u, (cell?_heap (a := ⟨b, j, none⟩) (hk.heap b h2)).trans h5, hk.rep h6⟩
theorem SimP.next (h : SimP E ψ sl bl U a w) (hU : ∀ m, U m → U' m) (hk : Keeps E ψ ψ' bl bl' U w w') (hb : Below E.w0.heap.size w w')
    (hblk : ∀ nm k, bl' nm = some k → (U nm ∧ bl nm = some k ∧ ∀ b, k.live = true → ptrBlock (ψ nm) = some b → w'.heap[b]? = w.heap[b]?) ∨ BlkRep E w' (okS E bl' ψ' w') ψ' bl' nm k)
    (hap : ∀ nm nm' k k', bl' nm = some k → bl' nm' = some k' → k.live = true → k'.live = true → nm ≠ nm' → ptrBlock (ψ' nm) = none ∨ ptrBlock (ψ' nm) ≠ ptrBlock (ψ' nm'))
    (hnm : ∀ nm, ¬ U' nm → bl' nm = none) (hrefs : ∀ m ∈ refsS s, U' m)
    (hbr : ∀ nm cs, bl' nm = some (.box cs) → ∀ r ∈ cs, ∀ m ∈ refsR r, U' m) (hgg : ∀ l l' s', s ≠ .gval l (.gval l' s'))
    (hmen : ∀ d, dst = some d → ∀ i l s', sl i = .gval l s' → ∀ x ∈ l, x.1 ≠ d) (hds : ∀ d, dst = some d → d < E.n)
    (hs : SlotRep w' (okS E bl' ψ' w') ψ' bl' (a.put dst v).tmps s v) : SimP E ψ' (setS sl dst s) bl' U' (a.put dst v) w' := by
  have hlit : ∀ i l s', sl i = .gval l s' → (litsHold (a.put dst v).tmps l ↔ litsHold a.tmps l) := by
    intro i l s' he
    have hx : ∀ x ∈ l, (a.put dst v).tmps.getD x.1 undef = a.tmps.getD x.1 undef := by
      intro x hx
      rw [put_getD]
      cases dst with
      | none => rfl
      | some d =>
        have := hmen d rfl i l s' he x hx
        simp [this]
    constructor
    · intro hh x hm; rw [← hx x hm]; exact hh x hm
    · intro hh x hm; rw [hx x hm]; exact hh x hm
  refine ⟨?_, ?_, h.below.trans hb, ?_, ?_, hap, hnm, ?_, hbr, ?_⟩
  · cases dst with
    | none => exact h.size
    | some d => simpa [Act.put] using h.size
  · cases dst with
    | none => exact h.defers
    | some d => exact h.defers
  · intro i
    rw [put_getD]
    have old : SlotRep w' (okS E bl' ψ' w') ψ' bl' (a.put dst v).tmps (sl i) (a.tmps.getD i undef) :=
      hk.slot (tm := a.tmps) (fun l s' e => hlit i l s' e) (h.refs i) (fun l l' s' => h.gg i l l' s') (h.slots i)
    cases dst with
    | none => exact old
    | some d =>
      have hd := hds d rfl
      by_cases e : i = d
      · subst e
        rw [show setS sl (some i) s i = s from by simp [setS]]
        show SlotRep _ _ _ _ _ s (if i = i ∧ i < a.tmps.size then v else a.tmps.getD i undef)
        rw [if_pos ⟨rfl, by rw [h.size]; exact hd⟩]
        exact hs
      · rw [show setS sl (some d) s i = sl i from by simp [setS, e]]
        show SlotRep _ _ _ _ _ _ (if i = d ∧ d < a.tmps.size then v else a.tmps.getD i undef)
        rw [if_neg (fun h => e h.1)]
        exact old
  · intro nm k hk'
    rcases hblk nm k hk' with ⟨h1, h2, h3⟩ | h4
    · exact BlkRep.keep hk h1 (by rw [hk']; rfl) (fun cs e => by subst e; exact h.brefs nm cs h2) h3 (h.blks nm k h2)
    · exact h4
  · intro i m hm
    cases dst with
    | none => exact hU _ (h.refs i m hm)
    | some d =>
      simp only [setS] at hm
      split at hm
      · exact hrefs m hm
      · exact hU _ (h.refs i m hm)
  · intro i l l' s'
    cases dst with
    | none => exact h.gg i l l' s'
    | some d =>
      simp only [setS]
      split
      · exact hgg l l' s'
      · exact h.gg i l l' s'
theorem SimP.name_lt (h : SimP E ψ sl bl U a w) {nm : Nat} {k : Blk} (hk : bl nm = some k) : U nm := by
  refine Classical.byContradiction fun h1 => ?_
  rw [h.names nm h1] at hk; cases hk
theorem Keeps.refl : Keeps E ψ ψ bl bl U w w := ⟨fun _ _ => rfl, fun _ h => h, fun _ _ h => ⟨h, rfl⟩⟩
theorem SimP.pure (h : SimP E ψ sl bl U a w) (hU : ∀ m, U m → U' m) (hrefs : ∀ m ∈ refsS s, U' m) (hgg : ∀ l l' s', s ≠ .gval l (.gval l' s'))
    (hmen : ∀ d, dst = some d → ∀ i l s', sl i = .gval l s' → ∀ x ∈ l, x.1 ≠ d) (hds : ∀ d, dst = some d → d < E.n)
    (hs : SlotRep w (okS E bl ψ w) ψ bl (a.put dst v).tmps s v) : SimP E ψ (setS sl dst s) bl U' (a.put dst v) w :=
  h.next hU Keeps.refl (Below.refl _ _) (fun nm k hk => .inl ⟨h.name_lt hk, hk, fun _ _ _ => rfl⟩) h.apart (fun nm hn => h.names nm (fun e => hn (hU _ e))) hrefs
    (fun nm cs hb r hr m hm => hU _ (h.brefs nm cs hb r hr m hm)) hgg hmen hds hs
def Frz (bl : Blks) (p : Pch) : Prop := ∀ x ∈ p, (∃ e rows, bl x.1 = some (.vec e rows) ∧ x.2 = some (.fro rows)) ∨ (∃ cs ds q, bl x.1 = some (.box cs) ∧ x.2 = some (.frob ds) ∧ cellsD bl cs = some (ds, q) ∧ ∀ y ∈ q, y ∈ p)
theorem Frz.nil : Frz bl [] := fun _ h => by cases h
theorem Frz.append {p q : Pch} (h : Frz bl p) (k : Frz bl q) : Frz bl (p ++ q) := by
  intro x hx
  rcases List.mem_append.1 hx with hx | hx
  · rcases h x hx with h1 | ⟨cs, ds, q', h1, h2, h3, h4⟩
    · exact .inl h1
    · exact .inr ⟨cs, ds, q', h1, h2, h3, fun y hy => List.mem_append_left _ (h4 y hy)⟩
  · rcases k x hx with h1 | ⟨cs, ds, q', h1, h2, h3, h4⟩
    · exact .inl h1
    · exact .inr ⟨cs, ds, q', h1, h2, h3, fun y hy => List.mem_append_right _ (h4 y hy)⟩
theorem toD_frz {r : RV} {d : D} {p : Pch} (h : toD bl r = some (d, p)) : Frz bl p := by
  cases r with
  | val d' => simp [toD] at h; obtain ⟨_, rfl⟩ := h; exact Frz.nil
  | nils => simp [toD] at h; obtain ⟨_, rfl⟩ := h; exact Frz.nil
  | any => simp [toD] at h
  | own n =>
    simp only [toD] at h
    split at h
    · rename_i e rows hb
      simp at h
      obtain ⟨_, rfl⟩ := h
      intro x hx
      simp at hx
      subst hx
      exact .inl ⟨e, rows, hb, rfl⟩
    · simp at h; obtain ⟨_, rfl⟩ := h; exact Frz.nil
    · cases h
theorem cellsD_frz : ∀ {rs : List RV} {ds : List D} {p : Pch}, cellsD bl rs = some (ds, p) → Frz bl p
  | [], _, _, h => by simp [cellsD] at h; obtain ⟨_, rfl⟩ := h; exact Frz.nil
  | r :: rs, ds, p, h => by
    unfold cellsD at h
    split at h
    · rename_i d p1 h1
      split at h
      · split at h
        · rename_i ds' q h2
          simp at h
          obtain ⟨_, rfl⟩ := h
          exact (toD_frz h1).append (cellsD_frz h2)
        · cases h
      · cases h
    · cases h
theorem setB_frz {p : Pch} (h : Frz bl p) (n : Nat) : setB bl p n = bl n ∨ (∃ e rows, bl n = some (.vec e rows) ∧ setB bl p n = some (.fro rows)) ∨ (∃ cs ds q, bl n = some (.box cs) ∧ setB bl p n = some (.frob ds) ∧ cellsD bl cs = some (ds, q) ∧ ∀ y ∈ q, y ∈ p) := by
  unfold setB
  split
  · rename_i x hx
    have hm := List.mem_of_find?_eq_some hx
    have he : n = x.1 := Nat.eq_of_beq_eq_true (by have := List.find?_some hx; exact this)
    subst he
    exact .inr (h x hm)
  · exact .inl rfl
theorem setB_frz_some {p : Pch} (h : Frz bl p) (n : Nat) : (setB bl p n).isSome = (bl n).isSome := by
  rcases setB_frz h n with e | ⟨_, _, e1, e2⟩ | ⟨_, _, _, e1, e2, _⟩
  · rw [e]
  · rw [e1, e2]; rfl
  · rw [e1, e2]; rfl
theorem setB_frz_live {p : Pch} (h : Frz bl p) {n : Nat} {k : Blk} (hk : setB bl p n = some k) (hl : k.live = true) : bl n = some k := by
  rcases setB_frz h n with e | ⟨_, _, e1, e2⟩ | ⟨_, _, _, e1, e2, _⟩
  · rw [← e]; exact hk
  · rw [e2] at hk; injection hk with hk; subst hk; simp [Blk.live] at hl
  · rw [e2] at hk; injection hk with hk; subst hk; simp [Blk.live] at hl
theorem setB_mem {p : Pch} {n : Nat} {k : Option Blk} (h : (n, k) ∈ p) (hu : ∀ x ∈ p, x.1 = n → x.2 = k) : setB bl p n = k := by
  unfold setB
  cases hf : p.find? (fun x => Nat.beq n x.1) with
  | none => have := List.find?_eq_none.1 hf _ h; simp at this
  | some x =>
    have he : n = x.1 := Nat.eq_of_beq_eq_true (by have := List.find?_some hf; exact this)
    exact hu x (List.mem_of_find?_eq_some hf) he.symm
theorem frz_own {p : Pch} (h : Frz bl p) {n : Nat} {e : TypeId} {rows : List (List D)} (hb : bl n = some (.vec e rows)) (hm : (n, some (.fro rows)) ∈ p) : setB bl p n = some (.fro rows) := by
  refine setB_mem hm (fun x hx e => ?_)
  rcases h x hx with ⟨e', rows', h1, h2⟩ | ⟨cs, ds, q, h1, _⟩
  · rw [e, hb] at h1; injection h1 with h1; injection h1 with _ h1; rw [h2, h1]
  · rw [e, hb] at h1; cases h1
theorem rep_of_row {ok : Nat → Prop} {base sz : Nat} {e : TypeId} {v : Value} {xs : List Value} {rows : List (List D)} (hsz : 0 < sz) (h : w.ownsRow base e sz v rows.length xs) (hr : ∀ r ∈ rows, r.length = sz) (hc : ∀ r ∈ rows, ∀ d ∈ r, D.isCell d = true)
    (hx : ∀ (i : Nat) (r : List D) (j : Nat) (d : D), rows[i]? = some r → r[j]? = some d → ∃ u, xs[i * sz + j]? = some u ∧ Rep w ok u d) (hok : ∀ b, ptrBlock v = some b → ok b) : Rep w ok v (.slice rows) := by
  rcases h.2 with ⟨rfl, hn⟩ | ⟨g, cap, cur, rfl, hb, hg, h1, h2, h3, h4⟩
  · have hnil : rows = [] := List.eq_nil_of_length_eq_zero hn
    subst hnil
    exact .slice none 0 0 [] sz ⟨0, 0, none⟩ (fun _ _ => undef) rfl (Nat.le_refl _) (by omega) (by simp) (by simp) (fun h => by omega) (fun i r j d hi => by simp at hi) (fun i r j d hi => by simp at hi)
  · have hcell : ∀ (i : Nat) (r : List D) (j : Nat) (d : D), rows[i]? = some r → r[j]? = some d → xs[i * sz + j]? = some (xs.getD (i * sz + j) undef) ∧ Rep w ok (xs.getD (i * sz + j) undef) d ∧ w.cell? ((⟨g, 0, none⟩ : Addr).add (i * sz + j)) = some (xs.getD (i * sz + j) undef) := by
      intro i r j d hi hj
      obtain ⟨u, hu, hrep⟩ := hx i r j d hi hj
      have hgd : xs.getD (i * sz + j) undef = u := by simp [List.getD_eq_getElem?_getD, hu]
      refine ⟨by rw [hgd]; exact hu, by rw [hgd]; exact hrep, ?_⟩
      rw [hgd, add_plain, Nat.zero_add]
      have hcur : cur[i * sz + j]? = some u := by
        rw [← h4] at hu
        rw [List.getElem?_take] at hu
        split at hu
        · simpa using hu
        · cases hu
      simp [World.cell?, hg, hcur]
    exact .slice _ _ cap rows sz ⟨g, 0, none⟩ (fun i j => xs.getD (i * sz + j) undef) rfl h1 (by simpa [maxLen] using h2) hr hc (fun _ => ⟨rfl, hok g rfl⟩) (fun i r j d hi hj => (hcell i r j d hi hj).2.2) (fun i r j d hi hj => (hcell i r j d hi hj).2.1)
theorem SimP.frz (h : SimP E ψ sl bl U a w) {p : Pch} (hp : Frz bl p) : Keeps E ψ ψ bl (setB bl p) U w w ∧ SimP E ψ sl (setB bl p) U a w := by
  have hok : ∀ b, okS E bl ψ w b → okS E (setB bl p) ψ w b := fun b hb => ⟨hb.1, hb.2.1, fun nm k hk hl => hb.2.2 nm k (setB_frz_live hp hk hl) hl⟩
  have hk : Keeps E ψ ψ bl (setB bl p) U w w := ⟨fun _ _ => rfl, hok, fun nm _ hs => ⟨by rw [← setB_frz_some hp]; exact hs, rfl⟩⟩
  have hblk : ∀ nm k, setB bl p nm = some k → (U nm ∧ bl nm = some k ∧ ∀ b, k.live = true → ptrBlock (ψ nm) = some b → w.heap[b]? = w.heap[b]?) ∨ BlkRep E w (okS E (setB bl p) ψ w) ψ (setB bl p) nm k := by
    have free : ∀ nm k0, bl nm = some k0 → k0.live = true → (∀ k, setB bl p nm = some k → k.live = false) → ∀ b, ptrBlock (ψ nm) = some b → E.w0.heap.size ≤ b → b < w.heap.size → okS E (setB bl p) ψ w b := by
      intro nm k0 hb0 hl0 hdead b hpb hge hlt
      refine ⟨fun h' => by omega, hlt, fun nm' k' hk' hl' e => ?_⟩
      have hb' := setB_frz_live hp hk' hl'
      by_cases hne : nm = nm'
      · subst hne
        rw [hdead k' hk'] at hl'; cases hl'
      · rcases h.apart nm nm' k0 k' hb0 hb' hl0 hl' hne with h1 | h1
        · rw [hpb] at h1; cases h1
        · exact h1 (hpb.trans e.symm)
    have heap_lt : ∀ b o, w.heap[b]? = some o → b < w.heap.size := fun b o ho => (Array.getElem?_eq_some_iff.1 ho).1
    intro nm k hk'
    rcases setB_frz hp nm with e | ⟨e, rows, e1, e2⟩ | ⟨cs, ds, q, e1, e2, e3, e4⟩
    · exact .inl ⟨h.name_lt (e ▸ hk'), e ▸ hk', fun _ _ _ => rfl⟩
    · right
      rw [e2] at hk'
      injection hk' with hk'
      subst hk'
      obtain ⟨xs, h1, h2, h3, h4, h5⟩ := h.blks nm _ e1
      refine rep_of_row (base := E.w0.heap.size) (e := e) h1 h2 h3 h4 (fun i r j d hi hj => ?_) (fun b hb => ?_)
      · obtain ⟨u, hu, hr⟩ := h5 i r j d hi hj
        exact ⟨u, hu, hr.mono (fun _ _ => rfl) hok⟩
      · refine free nm _ e1 rfl (fun k hk => by rw [e2] at hk; injection hk with hk; subst hk; rfl) b hb ?_ ?_
        · rcases h2.2 with ⟨hv, _⟩ | ⟨g, cap, cur, hv, hge, _⟩
          · rw [hv] at hb; cases hb
          · rw [hv] at hb; injection hb with hb; subst hb; exact hge
        · rcases h2.2 with ⟨hv, _⟩ | ⟨g, cap, cur, hv, hge, hg, _⟩
          · rw [hv] at hb; cases hb
          · rw [hv] at hb; injection hb with hb; subst hb; exact heap_lt _ _ hg
    · right
      rw [e2] at hk'
      injection hk' with hk'
      subst hk'
      obtain ⟨b, vs, t, h1, h2, h3, h4, h5⟩ := h.blks nm _ e1
      have hfree : okS E (setB bl p) ψ w b := free nm _ e1 rfl (fun k hk => by rw [e2] at hk; injection hk with hk; subst hk; rfl) b (by rw [h1]; rfl) h2 (heap_lt _ _ h3)
      have cell : ∀ (cs : List RV) (ds : List D) (q : Pch), cellsD bl cs = some (ds, q) → (∀ y ∈ q, y ∈ p) → ∀ (vf : Nat → Value), (∀ (j : Nat) (r : RV), cs[j]? = some r → RVRep w (okS E bl ψ w) ψ bl r (vf j)) →
          (∀ d ∈ ds, D.isCell d = true) ∧ ds.length = cs.length ∧ ∀ (j : Nat) (d : D), ds[j]? = some d → ∃ r, cs[j]? = some r ∧ (∃ q', toD bl r = some (d, q') ∧ ∀ y ∈ q', y ∈ p) := by
        intro cs
        induction cs with
        | nil =>
          intro ds q hc _ _ _
          simp [cellsD] at hc
          obtain ⟨rfl, rfl⟩ := hc
          exact ⟨by simp, rfl, fun j d hj => by simp at hj⟩
        | cons r rs ih =>
          intro ds q hc hq vf hv
          unfold cellsD at hc
          split at hc
          · rename_i d1 p1 h1
            split at hc
            · rename_i hcl
              split at hc
              · rename_i ds' q' h2
                simp at hc
                obtain ⟨rfl, rfl⟩ := hc
                obtain ⟨i1, i2, i3⟩ := ih ds' q' h2 (fun y hy => hq y (List.mem_append_right _ hy)) (fun j => vf (j + 1)) (fun j r hj => hv (j + 1) r (by simpa using hj))
                refine ⟨fun d hd => ?_, by simp [i2], fun j d hj => ?_⟩
                · rcases List.mem_cons.1 hd with rfl | hd
                  · exact hcl
                  · exact i1 d hd
                · cases j with
                  | zero =>
                    simp at hj
                    subst hj
                    exact ⟨r, rfl, p1, h1, fun y hy => hq y (List.mem_append_left _ hy)⟩
                  | succ j =>
                    obtain ⟨r', hr', hx⟩ := i3 j d (by simpa using hj)
                    exact ⟨r', by simpa using hr', hx⟩
              · cases hc
            · cases hc
          · cases hc
      obtain ⟨c1, c2, c3⟩ := cell cs ds q e3 e4 (fun j => vs.getD j undef) (fun j r hj => (h5 j r hj).1)
      refine ⟨b, h1, hfree, c1, fun j d hj => ?_⟩
      obtain ⟨r, hr, q', hq', hy⟩ := c3 j d hj
      have hjl : j < vs.size := by rw [h4]; exact (List.getElem?_eq_some_iff.1 hr).1
      refine ⟨vs.getD j undef, by simp [World.cell?, h3, Array.getD_eq_getD_getElem?, hjl], ?_⟩
      have hrv := (h5 j r hr).1
      cases r with
      | val d' => simp [toD] at hq'; obtain ⟨rfl, _⟩ := hq'; exact hrv.mono (fun _ _ => rfl) hok
      | nils =>
        simp [toD] at hq'
        obtain ⟨rfl, _⟩ := hq'
        have hv : vs.getD j undef = .slice none 0 0 := hrv
        rw [hv]
        exact .slice none 0 0 [] 0 ⟨0, 0, none⟩ (fun _ _ => undef) rfl (Nat.le_refl _) (by omega) (by simp) (by simp) (fun h => by omega) (fun i r j d hi => by simp at hi) (fun i r j d hi => by simp at hi)
      | any => simp [toD] at hq'
      | own n =>
        simp only [toD] at hq'
        split at hq'
        · rename_i e rows hb
          simp at hq'
          obtain ⟨rfl, rfl⟩ := hq'
          have hfz := frz_own hp hb (hy _ (by simp))
          have hv : vs.getD j undef = ψ n := hrv (by rw [hb]; rfl)
          rw [hv]
          obtain ⟨xs, g1, g2, g3, g4, g5⟩ := h.blks n _ hb
          refine rep_of_row (base := E.w0.heap.size) (e := e) g1 g2 g3 g4 (fun i r j d hi hj => ?_) (fun b' hb' => ?_)
          · obtain ⟨u, hu, hr'⟩ := g5 i r j d hi hj
            exact ⟨u, hu, hr'.mono (fun _ _ => rfl) hok⟩
          · refine free n _ hb rfl (fun k hk => by rw [hfz] at hk; injection hk with hk; subst hk; rfl) b' hb' ?_ ?_
            · rcases g2.2 with ⟨hv', _⟩ | ⟨g, cap, cur, hv', hge, _⟩
              · rw [hv'] at hb'; cases hb'
              · rw [hv'] at hb'; injection hb' with hb'; subst hb'; exact hge
            · rcases g2.2 with ⟨hv', _⟩ | ⟨g, cap, cur, hv', hge, hg, _⟩
              · rw [hv'] at hb'; cases hb'
              · rw [hv'] at hb'; injection hb' with hb'; subst hb'; exact heap_lt _ _ hg
        · rename_i rows hb
          simp at hq'
          obtain ⟨rfl, rfl⟩ := hq'
          have hv : vs.getD j undef = ψ n := hrv (by rw [hb]; rfl)
          rw [hv]
          exact Rep.mono (fun _ _ => rfl) hok (h.blks n _ hb)
        · cases hq'
  refine ⟨hk, ⟨h.size, h.defers, h.below, fun i => ?_, fun nm k hk' => ?_, fun nm nm' k k' h1 h2 h3 h4 h5 => ?_, fun nm hn => ?_, h.refs, fun nm cs hb => ?_, h.gg⟩⟩
  · exact hk.slot (tm := a.tmps) (fun _ _ _ => Iff.rfl) (h.refs i) (fun l l' s' => h.gg i l l' s') (h.slots i)
  · rcases hblk nm k hk' with ⟨h1, h2, h3⟩ | h4
    · exact BlkRep.keep hk h1 (by rw [hk']; rfl) (fun cs e => by subst e; exact h.brefs nm cs h2) h3 (h.blks nm k h2)
    · exact h4
  · exact h.apart nm nm' k k' (setB_frz_live hp h1 h3) (setB_frz_live hp h2 h4) h3 h4 h5
  · have := setB_frz_some hp nm
    rw [h.names nm hn] at this
    simpa using this
  · exact h.brefs nm cs (setB_frz_live hp hb rfl)
theorem SimP.toD (h : SimP E ψ sl bl U a w) {p : Pch} (hp : Frz bl p) {r : RV} {d : D} {q : Pch} (hd : toD bl r = some (d, q)) (hq : ∀ y ∈ q, y ∈ p) {v : Value} (hr : RVRep w (okS E bl ψ w) ψ bl r v) : Rep w (okS E (setB bl p) ψ w) v d := by
  obtain ⟨hk, hs⟩ := h.frz hp
  cases r with
  | val d' => simp [Eng.toD] at hd; obtain ⟨rfl, _⟩ := hd; exact hk.rep hr
  | nils =>
    simp [Eng.toD] at hd
    obtain ⟨rfl, _⟩ := hd
    have hv : v = .slice none 0 0 := hr
    rw [hv]
    exact .slice none 0 0 [] 0 ⟨0, 0, none⟩ (fun _ _ => undef) rfl (Nat.le_refl _) (by omega) (by simp) (by simp) (fun h => by omega) (fun i r j d hi => by simp at hi) (fun i r j d hi => by simp at hi)
  | any => simp [Eng.toD] at hd
  | own n =>
    simp only [Eng.toD] at hd
    split at hd
    · rename_i e rows hb
      simp at hd
      obtain ⟨rfl, rfl⟩ := hd
      have hfz := frz_own hp hb (hq _ (by simp))
      have hv : v = ψ n := hr (by rw [hb]; rfl)
      rw [hv]
      exact hs.blks n _ hfz
    · rename_i rows hb
      simp at hd
      obtain ⟨rfl, rfl⟩ := hd
      have hv : v = ψ n := hr (by rw [hb]; rfl)
      rw [hv]
      exact hk.rep (h.blks n _ hb)
    · cases hd
end
end Go.Eng
set_option linter.unusedVariables false
set_option linter.unusedSimpArgs false
namespace Go.Eng
open Go.RowKit
def ArgRep (w : World) (ok : Nat → Prop) : Arg → Value → Prop
  | .val d, v => Rep w ok v d
  | .row cs, v => ∃ ad : Addr, v = .pointer (some ad) ∧ ok ad.block ∧ (∀ d ∈ cs, D.isCell d = true) ∧ ∀ (j : Nat) (d : D), cs[j]? = some d → ∃ u, w.cell? (ad.add j) = some u ∧ Rep w ok u d
def RRRep (P : Program) (B : Nat) (w : World) (ok : Nat → Prop) : RR → Value → Prop
  | .val d, v => Rep w ok v d
  | .own e rows, v => ∃ xs : List Value, 0 < szOf P e ∧ w.ownsRow B e (szOf P e) v rows.length xs ∧ (∀ r ∈ rows, r.length = szOf P e) ∧ (∀ r ∈ rows, ∀ d ∈ r, D.isCell d = true) ∧
      (∀ (i : Nat) (r : List D) (j : Nat) (d : D), rows[i]? = some r → r[j]? = some d → ∃ u, xs[i * szOf P e + j]? = some u ∧ Rep w ok u d) ∧ ∀ b, ptrBlock v = some b → ¬ ok b
def RR.isOwn : RR → Bool
  | .own _ _ => true
  | _ => false
def tupV (vs : List Value) : Value := match vs with
  | [u] => u
  | vs => .tuple vs.toArray
def RetRep (P : Program) (B : Nat) (w : World) (ok : Nat → Prop) (rs : List RR) (v : Value) : Prop :=
  ∃ vs : List Value, vs.length = rs.length ∧ v = tupV vs ∧ (∀ (i : Nat) (r : RR), rs[i]? = some r → RRRep P B w ok r (vs.getD i undef)) ∧
    ∀ (i j : Nat) (r s : RR), rs[i]? = some r → rs[j]? = some s → r.isOwn = true → s.isOwn = true → i ≠ j → ptrBlock (vs.getD i undef) = none ∨ ptrBlock (vs.getD i undef) ≠ ptrBlock (vs.getD j undef)
def Does (P : Program) (f : FuncId) (vs : Array Value) (w : World) (R : Value → World → Prop) : Prop :=
  ((∃ fn, P.funcs[f]? = some fn ∧ fn.body.isSome = true ∧ (fn.name == "runtime.NumGoroutine") = false) ∧ Calls P f vs w fun e w' => ∃ v, e = .returned v ∧ R v w') ∨
  ∃ v, (callFunc f vs).run P w = .ok (.value v) w ∧ R v w
def Spec (P : Program) (gt : Nat → Option (List D)) (f : FuncId) (args : List Arg) (rs : List RR) : Prop :=
  ∀ (w : World) (vs : Array Value) (ok : Nat → Prop), (∀ b, ok b → b < w.heap.size) → GlobOK gt w ok → vs.size = args.length → (∀ (i : Nat) (a : Arg), args[i]? = some a → ArgRep w ok a (vs.getD i undef)) →
    Does P f vs w fun v w' => Below w.heap.size w w' ∧ ∃ okr : Nat → Prop, (∀ b, okr b → (ok b ∨ w.heap.size ≤ b) ∧ b < w'.heap.size) ∧ RetRep P w.heap.size w' okr rs v
def PT.All (P : Program) (gt : Nat → Option (List D)) : PT → (Patch → Prop) → Prop
  | .fail, _ => False
  | .ok p, R => R p
  | .need h k, R => h ∧ PT.All P gt k R
  | .opt o k, R => ∃ x, o = some x ∧ PT.All P gt (k x) R
  | .call f as_ k, R => ∃ rs, Spec P gt f as_ rs ∧ PT.All P gt (k rs) R
  | .anyNil rows k, R => ∀ b, (b = true → rows = []) → PT.All P gt (k b) R
section
variable {P : Program} {ti : TypeId → Option TI}
theorem ti_info (hti : ∀ t i, ti t = some i → tiOf P t = some i) {t : TypeId} {i : TI} (h : ti t = some i) :
    ∃ info z d, P.info? t = some info ∧ P.underlying t = some d ∧ info.zero = some z ∧ i.kind = kindOf P t ∧ i.size = info.size ∧ i.bytes = info.bytes ∧ i.zero = z.cells.toList.map zeroRV ∧ i.eqok = eqOk P t := by
  have := hti t i h
  unfold tiOf at this
  split at this
  · rename_i info d hi hd
    split at this
    · rename_i z hz
      injection this with this
      subst this
      exact ⟨info, z, d, hi, hd, hz, rfl, rfl, rfl, rfl, rfl⟩
    · cases this
  · cases this
theorem kind_slice {t e : TypeId} (h : kindOf P t = .slice e) : P.underlying t = some (.slice e) := by
  unfold kindOf at h
  split at h <;> simp_all
theorem kind_str {t : TypeId} (h : kindOf P t = .str) : P.underlying t = some .string := by
  unfold kindOf at h
  split at h <;> simp_all
theorem kind_int {t : TypeId} {k : IntKind} (h : kindOf P t = .int k) : P.underlying t = some (.int k) := by
  unfold kindOf at h
  split at h <;> simp_all
theorem kind_bool {t : TypeId} (h : kindOf P t = .bool) : P.underlying t = some .bool := by
  unfold kindOf at h
  split at h <;> simp_all
theorem kind_array {t e : TypeId} {n : Nat} (h : kindOf P t = .array n e) : P.underlying t = some (.array n e) := by
  unfold kindOf at h
  split at h <;> simp_all
theorem kind_struct {t : TypeId} {fs : List (TypeId × Nat × Nat)} (h : kindOf P t = .struct fs) : ∃ fields, P.underlying t = some (.struct fields) ∧ fs = fields.toList.map fun f => (f.type, f.offset, szOf P f.type) := by
  unfold kindOf at h
  split at h <;> simp_all
theorem run_isAgg {t : TypeId} {d : TypeDesc} (hd : P.underlying t = some d) (w : World) : (isAgg t).run P w = .ok (kindOf P t).isAgg w := by
  simp only [isAgg, Sem.run_bind, run_underlying hd, Result.andThen_ok]
  unfold kindOf
  rw [hd]
  cases d <;> rfl
theorem run_size {t : TypeId} {info : TypeInfo} (h : P.info? t = some info) (w : World) : (sizeOf t).run P w = .ok info.size w := by
  simp [sizeOf, typeInfo, h]
theorem szOf_info {t : TypeId} {info : TypeInfo} (h : P.info? t = some info) : szOf P t = info.size := by simp [szOf, h]
variable {w : World} {ok : Nat → Prop}
theorem load_cells {ds : List D} {ad : Addr} (hc : ∀ d ∈ ds, D.isCell d = true) (h : ∀ (j : Nat) (d : D), ds[j]? = some d → ∃ u, w.cell? (ad.add j) = some u ∧ Rep w ok u d) :
    ∃ cs : Array Value, (loadCells ad ds.length).run P w = .ok cs w ∧ Rep w ok (.agg cs) (.agg ds) := by
  have hex : ∀ j : Nat, ∃ u, ∀ d, ds[j]? = some d → w.cell? (ad.add j) = some u ∧ Rep w ok u d := by
    intro j
    cases hj : ds[j]? with
    | none => exact ⟨undef, fun d hd => by cases hd⟩
    | some d =>
      obtain ⟨u, hu⟩ := h j d hj
      exact ⟨u, fun d' hd' => by injection hd' with hd'; subst hd'; exact hu⟩
  let f : Nat → Value := fun j => Classical.choose (hex j)
  have hf : ∀ j d, ds[j]? = some d → w.cell? (ad.add j) = some (f j) ∧ Rep w ok (f j) d := fun j => Classical.choose_spec (hex j)
  refine ⟨((List.range ds.length).map f).toArray, run_loadCells w ad ds.length f (fun j hj => (hf j ds[j] (List.getElem?_eq_getElem hj)).1), ?_⟩
  refine .agg _ _ (by simp) hc (fun i d hi => ?_)
  have hl := (List.getElem?_eq_some_iff.1 hi).1
  have : (((List.range ds.length).map f).toArray).getD i undef = f i := by simp [Array.getD_eq_getD_getElem?, hl]
  rw [this]
  exact (hf i d hi).2
theorem partAt_spec {α : Type} {cs ds : List α} {off n : Nat} (h : partAt cs off n = some ds) : ds.length = n ∧ off + n ≤ cs.length ∧ (∀ j, j < n → ds[j]? = cs[off + j]?) ∧ ∀ d ∈ ds, d ∈ cs := by
  unfold partAt at h
  split at h
  · rename_i hb
    have hle := Nat.le_of_ble_eq_true hb
    injection h with h
    subst h
    refine ⟨by simp; omega, hle, fun j hj => ?_, fun d hd => List.mem_of_mem_drop (List.mem_of_mem_take hd)⟩
    rw [List.getElem?_take, if_pos hj, List.getElem?_drop]
  · cases h
theorem load_row {t : TypeId} {info : TypeInfo} {d0 : TypeDesc} (hi : P.info? t = some info) (hu : P.underlying t = some d0) {cs : List D} {ad : Addr} {off : Nat} (hc : ∀ d ∈ cs, D.isCell d = true)
    (h : ∀ (j : Nat) (d : D), cs[j]? = some d → ∃ u, w.cell? (ad.add j) = some u ∧ Rep w ok u d) :
    (∀ ds, (kindOf P t).isAgg = true → partAt cs off info.size = some ds → ∃ v, (loadVar t (ad.add off)).run P w = .ok v w ∧ Rep w ok v (.agg ds)) ∧
    (∀ d, (kindOf P t).isAgg = false → partAt cs off 1 = some [d] → ∃ v, (loadVar t (ad.add off)).run P w = .ok v w ∧ Rep w ok v d) := by
  constructor
  · intro ds ha hp
    obtain ⟨h1, h2, h3, h4⟩ := partAt_spec hp
    obtain ⟨vs, hr, hrep⟩ := load_cells (P := P) (w := w) (ok := ok) (ds := ds) (ad := ad.add off) (fun d hd => hc d (h4 d hd)) (fun j d hj => by
      have hjl := (List.getElem?_eq_some_iff.1 hj).1
      rw [h3 j (by omega)] at hj
      rw [add_add]
      exact h _ d hj)
    refine ⟨.agg vs, ?_, hrep⟩
    simp only [loadVar, Sem.run_bind, run_isAgg hu, ha, Result.andThen_ok, if_true, run_size hi]
    rw [h1] at hr
    simp [hr]
  · intro d ha hp
    obtain ⟨h1, h2, h3, h4⟩ := partAt_spec hp
    have hj : cs[off]? = some d := by
      have := h3 0 (by omega)
      simpa using this.symm
    obtain ⟨u, hu', hr⟩ := h off d hj
    refine ⟨u, ?_, hr⟩
    simp only [loadVar, Sem.run_bind, run_isAgg hu, ha, Result.andThen_ok, Bool.false_eq_true, if_false]
    simp [hu']
end
end Go.Eng
set_option linter.unusedVariables false
set_option linter.unusedSimpArgs false
namespace Go.Eng
open Go.RowKit
structure Ctx (E : Env) (ti : TypeId → Option TI) (ψ : Nat → Value) (sl : Nat → Slot) (bl : Blks) (U : Nat → Prop) (nx : Nat) (a : Act) (w : World) (dst : Option Nat) : Prop where
  fresh : ∀ m, nx ≤ m → m < nx + 8 → ¬ U m
  good : E.Good
  hti : ∀ t i, ti t = some i → tiOf E.P t = some i
  sim : SimP E ψ sl bl U a w
  hmen : ∀ d, dst = some d → ∀ i l s', sl i = .gval l s' → ∀ x ∈ l, x.1 ≠ d
  hds : ∀ d, dst = some d → d < E.n
def Un (U : Nat → Prop) (nx : Nat) (m : Nat) : Prop := U m ∨ (nx ≤ m ∧ m < nx + 8)
theorem Un.old {U : Nat → Prop} {U : Nat → Prop} {nx : Nat} : ∀ m, U m → Un U nx m := fun _ h => .inl h
def Next (E : Env) (sl : Nat → Slot) (bl : Blks) (U : Nat → Prop) (nx : Nat) (dst : Option Nat) (R : Patch → Prop) (a' : Act) (w' : World) : Prop :=
  ∃ p, R p ∧ Sim E (setS sl dst p.slot) (setB bl p.blks) (Un U nx) a' w' ∧ ∀ l s, p.slot ≠ .gval l s
section
variable {E : Env} {ti : TypeId → Option TI} {ψ : Nat → Value} {sl : Nat → Slot} {bl : Blks} {U : Nat → Prop} {nx : Nat} {a : Act} {w : World} {dst : Option Nat} {o : Oper} {R : Patch → Prop} {Q : Exit → Act → World → Prop}
theorem wp_val {P : Program} {K : Act → World → Prop} {v : Value} {w' : World} (hrun : (execOp a.eval o).run P w = .ok (.value v) w') (h : K (a.put o.dst v) w') : o.wp P a w K Q := by
  unfold Oper.wp; rw [hrun]; exact h
theorem wp_skipv {P : Program} {K : Act → World → Prop} {w' : World} (hrun : (execOp a.eval o).run P w = .ok .skip w') (h : K (a.put o.dst undef) w') : o.wp P a w K Q := by
  unfold Oper.wp; rw [hrun]; exact h
theorem setB_nil (bl : Blks) : setB bl [] = bl := rfl
theorem SlotRep.tm {ok : Nat → Prop} {tm tm' : Array Value} {s : Slot} {v : Value} (hg : ∀ l s', s ≠ .gval l s') (h : SlotRep w ok ψ bl tm s v) : SlotRep w ok ψ bl tm' s v := by
  cases s with
  | gval l s => exact absurd rfl (hg l s)
  | _ => exact h
theorem Ctx.pure (c : Ctx E ti ψ sl bl U nx a w dst) {s : Slot} {v : Value} (hR : R ⟨s, []⟩) (hr : ∀ m ∈ refsS s, U m) (hg : ∀ l s', s ≠ .gval l s') (hs : SlotRep w (okS E bl ψ w) ψ bl a.tmps s v) : Next E sl bl U nx dst R (a.put dst v) w :=
  ⟨_, hR, ⟨ψ, c.sim.pure (Un.old (U := U) (nx := nx)) (fun m hm => .inl (hr m hm)) (fun l l' s' => hg l _) c.hmen c.hds (hs.tm hg)⟩, hg⟩
theorem Ctx.data (c : Ctx E ti ψ sl bl U nx a w dst) {d : D} {v : Value} (hR : R ⟨.rv (.val d), []⟩) (hs : Rep w (okS E bl ψ w) v d) : Next E sl bl U nx dst R (a.put dst v) w :=
  c.pure hR (fun m hm => by cases hm) (by simp) hs
theorem Ctx.pureFrz (c : Ctx E ti ψ sl bl U nx a w dst) {s : Slot} {v : Value} {p : Pch} (hp : Frz bl p) (hR : R ⟨s, p⟩) (hr : ∀ m ∈ refsS s, U m) (hg : ∀ l s', s ≠ .gval l s') (hs : SlotRep w (okS E (setB bl p) ψ w) ψ (setB bl p) a.tmps s v) : Next E sl bl U nx dst R (a.put dst v) w :=
  ⟨_, hR, ⟨ψ, (c.sim.frz hp).2.pure (Un.old (U := U) (nx := nx)) (fun m hm => .inl (hr m hm)) (fun l l' s' => hg l _) c.hmen c.hds (hs.tm hg)⟩, hg⟩
theorem wp_data {d : D} {v : Value} (c : Ctx E ti ψ sl bl U nx a w o.dst) (hrun : (execOp a.eval o).run E.P w = .ok (.value v) w) (hR : R ⟨.rv (.val d), []⟩) (hs : Rep w (okS E bl ψ w) v d) : o.wp E.P a w (Next E sl bl U nx o.dst R) Q :=
  wp_val hrun (c.data hR hs)
theorem run_bin_int {P : Program} {op : BinOp} {t : TypeId} {k : IntKind} {m n : Int} (w : World) (hop : op ≠ .shl) (hop' : op ≠ .shr) (h : (binI op k m n).All P E.gt R) :
    ∃ d v, R ⟨.rv (.val d), []⟩ ∧ Rep w (okS E bl ψ w) v d ∧ (binOp op t (.int k m) (.int k n)).run P w = .ok v w := by
  cases op <;> simp only [binI, PT.valOk, PT.All] at h <;> first
    | exact absurd rfl hop
    | exact absurd rfl hop'
    | exact ⟨_, _, h, .int _ _, by simp [binOp, Op.intArith, Op.intBits, Op.intCmp, bitsI]⟩
    | exact ⟨_, _, h, .bool _, by simp [binOp, Op.intArith, Op.intBits, Op.intCmp, bitsI]⟩
    | (obtain ⟨h0, h⟩ := h; exact ⟨_, _, h, .int _ _, by simp [binOp, Op.intDiv, h0]⟩)
theorem eqGuard_int {P : Program} (w : World) (op : BinOp) (t : TypeId) (x y : Operand) (k k' : IntKind) (m n : Int) : (eqGuard op t x y (.int k m) (.int k' n)).run P w = .ok () w := by
  unfold eqGuard; split <;> simp
theorem eqGuard_bool {P : Program} (w : World) (op : BinOp) (t : TypeId) (x y : Operand) (m n : Bool) : (eqGuard op t x y (.bool m) (.bool n)).run P w = .ok () w := by
  unfold eqGuard; split <;> simp
theorem eqGuard_str {P : Program} (w : World) (op : BinOp) (t : TypeId) (x y : Operand) (m n : ByteArray) : (eqGuard op t x y (.string m) (.string n)).run P w = .ok () w := by
  unfold eqGuard; split <;> simp
theorem eqGuard_slice {P : Program} (w : World) (op : BinOp) (t : TypeId) (x y : Operand) (A B : Option Addr) (n c m e : Nat) : (eqGuard op t x y (.slice A n c) (.slice B m e)).run P w = .ok () w := by
  unfold eqGuard; split <;> simp
theorem run_bin_str {P : Program} {op : BinOp} {t : TypeId} {m n : ByteArray} (w : World) (h : (binS op m n).All P E.gt R) :
    ∃ d v, R ⟨.rv (.val d), []⟩ ∧ Rep w (okS E bl ψ w) v d ∧ (binOp op t (.string m) (.string n)).run P w = .ok v w := by
  cases op <;> simp only [binS, PT.valOk, PT.All] at h
  case add =>
    obtain ⟨h0, h⟩ := h
    refine ⟨_, _, h, .str _ (by rw [ByteArray.size_append]; exact h0), ?_⟩
    have : ¬ (((m.size + n.size : Nat) : Int) > IntKind.i64.max) := by
      have e : IntKind.i64.max = 9223372036854775807 := by decide
      rw [e]; omega
    simp only [binOp, Op.stringOp]
    rw [if_neg this]
    rfl
  all_goals first
    | exact h.elim
    | exact ⟨_, _, h, .bool _, by simp [binOp, Op.stringOp]⟩
theorem kindEq_spec {k k' : IntKind} (h : kindEq k k' = true) : k = k' := by
  cases k <;> cases k' <;> simp [kindEq] at h <;> rfl
def PartRep (w : World) (ok : Nat → Prop) (agg : Bool) (p : List D) (v : Value) : Prop := match agg with
  | true => Rep w ok v (.agg p)
  | false => ∃ d, p = [d] ∧ Rep w ok v d
theorem run_part {ok : Nat → Prop} {P : Program} {ty : TypeId} {info : TypeInfo} {d0 : TypeDesc} (hi : P.info? ty = some info) (hu : P.underlying ty = some d0) {xs : Array Value} {ds p : List D} {off : Nat} (hx : Rep w ok (.agg xs) (.agg ds)) (hp : partAt ds off info.size = some p)
    (h1 : (kindOf P ty).isAgg = false → info.size = 1) : ∃ v, (part ty xs off).run P w = .ok v w ∧ PartRep w ok (kindOf P ty).isAgg p v := by
  obtain ⟨q1, q2, q3, q4⟩ := partAt_spec hp
  cases hx with
  | agg _ _ hl hc hr =>
    simp only [part, Sem.run_bind, run_isAgg hu, Result.andThen_ok]
    cases ha : (kindOf P ty).isAgg with
    | true =>
      simp only [if_true, Sem.run_bind, run_size hi, Result.andThen_ok]
      refine ⟨.agg (xs.extract off (off + info.size)), rfl, .agg _ _ ?_ (fun d hd => hc d (q4 d hd)) (fun i d hd => ?_)⟩
      · simp; omega
      · have hil := (List.getElem?_eq_some_iff.1 hd).1
        rw [q3 i (by omega)] at hd
        have := hr (off + i) d hd
        have e : (xs.extract off (off + info.size)).getD i undef = xs.getD (off + i) undef := by
          simp only [Array.getD_eq_getD_getElem?]
          rw [Array.getElem?_extract, if_pos (by omega)]
        rw [e]; exact this
    | false =>
      have hs := h1 ha
      rw [hs] at q1 q2 q3
      have hlt : off < xs.size := by omega
      simp only [Bool.false_eq_true, if_false]
      obtain ⟨d, rfl⟩ : ∃ d, p = [d] := by
        match p, q1 with
        | [d], _ => exact ⟨d, rfl⟩
      have hd : ds[off]? = some d := by have := q3 0 (by omega); simpa using this.symm
      have := hr off d hd
      refine ⟨xs.getD off undef, ?_, d, rfl, this⟩
      simp [Array.getD_eq_getD_getElem?, hlt]
theorem eqT_run (hti : ∀ t i, ti t = some i → tiOf E.P t = some i) {ok : Nat → Prop} : ∀ (n m : Nat) (t : TypeId) (p q : List D) (b : Bool) (u v : Value), eqT ti n t p q = some b → PartRep w ok (kindOf E.P t).isAgg p u → PartRep w ok (kindOf E.P t).isAgg q v →
    (Op.equalIn (n + m) t u v).run E.P w = .ok b w := by
  intro n
  induction n with
  | zero => intro m t p q b u v h; simp [eqT] at h
  | succ n ih =>
    intro m t p q b u v h hu hv
    rw [show n + 1 + m = (n + m) + 1 by omega]
    unfold eqT at h
    split at h
    · cases h
    · rename_i i hi
      obtain ⟨info, z, d0, g1, g2, g3, g4, g5, g6, g7, g8⟩ := ti_info hti hi
      split at h
      · rename_i kk k a k' b' hk
        split at h
        · rename_i hkk
          have hkk := kindEq_spec hkk
          subst hkk
          injection h with h
          subst h
          rw [← g4, hk] at hu hv
          obtain ⟨_, e1, r1⟩ := hu
          obtain ⟨_, e2, r2⟩ := hv
          injection e1 with e1; subst e1
          injection e2 with e2; subst e2
          cases r1; cases r2
          exact run_equalIn_int w _ t _ kk _ _ (kind_int (g4 ▸ hk))
        · cases h
      · rename_i a b' hk
        injection h with h
        subst h
        rw [← g4, hk] at hu hv
        obtain ⟨_, e1, r1⟩ := hu
        obtain ⟨_, e2, r2⟩ := hv
        injection e1 with e1; subst e1
        injection e2 with e2; subst e2
        cases r1; cases r2
        exact run_equalIn_bool' w _ t _ _ (kind_bool (g4 ▸ hk))
      · rename_i a b' hk
        injection h with h
        subst h
        rw [← g4, hk] at hu hv
        obtain ⟨_, e1, r1⟩ := hu
        obtain ⟨_, e2, r2⟩ := hv
        injection e1 with e1; subst e1
        injection e2 with e2; subst e2
        cases r1; cases r2
        exact run_equalIn_string w _ t _ _ (kind_str (g4 ▸ hk))
      · rename_i fs hk
        split at h
        · rename_i hq
          obtain ⟨fields, f1, f2⟩ := kind_struct (g4 ▸ hk)
          rw [← g4, hk] at hu hv
          have hu : Rep w ok u (.agg _) := hu
          have hv : Rep w ok v (.agg _) := hv
          rw [g8] at hq
          unfold eqOk at hq
          rw [f1] at hq
          simp only [Bool.and_eq_true, Bool.not_eq_true'] at hq
          obtain ⟨⟨hq1, _⟩, hq2⟩ := hq
          have hf : E.P.fieldsOf t = fields := by simp [Program.fieldsOf, f1]
          cases hu with
          | agg xs _ hl hc hr =>
            cases hv with
            | agg ys _ hl' hc' hr' =>
              rw [run_equalIn_struct w _ t xs ys (by rw [hf]; exact f1) hq1, hf]
              subst f2
              have hx : Rep w ok (.agg xs) (.agg _) := .agg xs _ hl hc hr
              have hy : Rep w ok (.agg ys) (.agg _) := .agg ys _ hl' hc' hr'
              clear hl hc hr hl' hc' hr' f1 hf hk
              generalize fields.toList = fl at h hq2
              revert b h
              induction fl with
              | nil => intro b h; simp [eqFs] at h; subst h; simp [Op.eqFields]
              | cons f r ihf =>
                intro b h
                simp only [List.all_cons, Bool.and_eq_true] at hq2
                simp only [List.map_cons, eqFs] at h
                split at h
                · rename_i p1 q1 hp1 hq1'
                  split at h
                  · rename_i b1 c1 hb1 hc1
                    injection h with h
                    subst h
                    have ht : ∃ it, ti f.type = some it := by
                      cases n with
                      | zero => simp [eqT] at hb1
                      | succ n => unfold eqT at hb1; split at hb1; cases hb1; exact ⟨_, by assumption⟩
                    obtain ⟨it, hit⟩ := ht
                    obtain ⟨inf, z', d', k1, k2, k3, k4, k5, k6, k7, k8⟩ := ti_info hti hit
                    rw [szOf_info k1] at hp1 hq1'
                    have hone : (kindOf E.P f.type).isAgg = false → inf.size = 1 := by
                      intro ha
                      have e1 : p1.length = inf.size := (partAt_spec hp1).1
                      rw [← e1]
                      cases n with
                      | zero => simp [eqT] at hb1
                      | succ n =>
                        unfold eqT at hb1
                        rw [hit] at hb1
                        simp only at hb1
                        split at hb1
                        · rfl
                        · rfl
                        · rfl
                        · rename_i hkk; rw [← k4, hkk] at ha; simp [TK.isAgg] at ha
                        · cases hb1
                    obtain ⟨u1, hu1, hr1⟩ := run_part k1 k2 hx hp1 hone
                    obtain ⟨v1, hv1, hr2⟩ := run_part k1 k2 hy hq1' hone
                    have he := ih m f.type p1 q1 b1 u1 v1 hb1 hr1 hr2
                    have hne : f.name ≠ "_" := by simpa using hq2.1
                    simp only [Op.eqFields, if_pos hne, Sem.run_bind, hu1, hv1, he, Result.andThen_ok, Sem.run_ite, Sem.run_pure]
                    cases b1
                    · simp
                    · simp only [Bool.not_true, Bool.false_eq_true, if_false, Bool.true_and]
                      exact ihf hq2.2 c1 hc1
                  · cases h
                · cases h
        · cases h
      · cases h
theorem run_eq_slice {P : Program} {t e : TypeId} (hb : P.underlying t = some (.slice e)) (w : World) (A : Option Addr) (n c d : Nat) : (Op.equalIn (d + 1) t (.slice A n c) (.slice none 0 0)).run P w = .ok A.isNone w := by
  cases A <;> simp only [Op.equalIn, Sem.run_bind, run_underlying hb, Result.andThen_ok] <;> rfl
theorem run_binOp_eql {P : Program} {t : TypeId} {x y : Value} {b : Bool} (w : World) (h : (Op.equalIn 10000 t x y).run P w = .ok b w) (hx : (∃ b c, x = .bool b ∧ y = .bool c) ∨ (∃ A n c, x = .slice A n c ∧ y = .slice none 0 0)) :
    (binOp .eql t x y).run P w = .ok (.bool b) w ∧ (binOp .neq t x y).run P w = .ok (.bool (!b)) w := by
  rcases hx with ⟨b', c', rfl, rfl⟩ | ⟨A, n, c, rfl, rfl⟩ <;> constructor <;> simp only [binOp, Op.equal, Op.maxDepth, Sem.run_bind, h, Result.andThen_ok, Sem.run_pure]
theorem op_bin (hE : ∀ t i, ti t = some i → tiOf E.P t = some i) {op : BinOp} {t u : TypeId} {x y : Operand} {X Y : Slot} (ho : o.op = .binOp op t x y u) (c : Ctx E ti ψ sl bl U nx a w o.dst)
    (hX : SlotRep w (okS E bl ψ w) ψ bl a.tmps X (a.eval x)) (hY : SlotRep w (okS E bl ψ w) ψ bl a.tmps Y (a.eval y)) (h : (ptBin ti t op X Y).All E.P E.gt R) :
    o.wp E.P a w (Next E sl bl U nx o.dst R) Q := by
  have run : ∀ v, (eqGuard op t x y (a.eval x) (a.eval y)).run E.P w = .ok () w → (binOp op t (a.eval x) (a.eval y)).run E.P w = .ok v w → (execOp a.eval o).run E.P w = .ok (.value v) w := by
    intro v h1 h2
    simp [execOp, ho, h1, h2]
  unfold ptBin at h
  split at h
  · rename_i k m k' n
    generalize hx : a.eval x = vx at *
    generalize hy : a.eval y = vy at *
    cases hX; cases hY
    split at h
    · obtain ⟨h0, h⟩ := h
      refine wp_data (d := .int k (k.wrap (m * 2 ^ (min n.toNat k.bits)))) c (run (.int k (k.wrap (m * 2 ^ (min n.toNat k.bits)))) (eqGuard_int w _ _ _ _ _ _ _ _) ?_) h (.int _ _)
      simp [binOp, Op.shift, show ¬ n < 0 by omega]
    · obtain ⟨h0, h⟩ := h
      refine wp_data (d := .int k (m.fdiv (2 ^ (min n.toNat k.bits)))) c (run (.int k (m.fdiv (2 ^ (min n.toNat k.bits)))) (eqGuard_int w _ _ _ _ _ _ _ _) ?_) h (.int _ _)
      simp [binOp, Op.shift, show ¬ n < 0 by omega]
    · rename_i h1 h2
      split at h
      · rename_i hk
        have hk := kindEq_spec hk
        subst hk
        obtain ⟨d, v, hR, hrep, hrun⟩ := run_bin_int (E := E) (bl := bl) (ψ := ψ) (t := t) (P := E.P) w h1 h2 h
        exact wp_data c (run _ (eqGuard_int w _ _ _ _ _ _ _ _) hrun) hR hrep
      · exact h.elim
  · rename_i m n
    generalize hx : a.eval x = vx at *
    generalize hy : a.eval y = vy at *
    cases hX; cases hY
    obtain ⟨d, v, hR, hrep, hrun⟩ := run_bin_str (E := E) (bl := bl) (ψ := ψ) (t := t) (P := E.P) w h
    exact wp_data c (run _ (eqGuard_str w _ _ _ _ _ _) hrun) hR hrep
  · rename_i m n
    generalize hx : a.eval x = vx at *
    generalize hy : a.eval y = vy at *
    cases hX; cases hY
    split at h
    · rename_i i hi
      split at h
      · rename_i hk
        obtain ⟨info, z, d0, g1, g2, g3, g4, _⟩ := ti_info hE hi
        have hb : E.P.underlying t = some .bool := kind_bool (g4 ▸ hk)
        refine wp_data (d := .bool (m == n)) c (run (.bool (m == n)) (eqGuard_bool w _ _ _ _ _ _) ?_) h (.bool _)
        exact (run_binOp_eql w (run_equalIn_bool' w 9999 t m n hb) (.inl ⟨_, _, rfl, rfl⟩)).1
      · exact h.elim
    · rename_i i hi
      split at h
      · rename_i hk
        obtain ⟨info, z, d0, g1, g2, g3, g4, _⟩ := ti_info hE hi
        have hb : E.P.underlying t = some .bool := kind_bool (g4 ▸ hk)
        refine wp_data (d := .bool (!(m == n))) c (run (.bool (!(m == n))) (eqGuard_bool w _ _ _ _ _ _) ?_) h (.bool _)
        exact (run_binOp_eql w (run_equalIn_bool' w 9999 t m n hb) (.inl ⟨_, _, rfl, rfl⟩)).2
      · exact h.elim
    · exact h.elim
  · rename_i rows
    generalize hx : a.eval x = vx at *
    generalize hy : a.eval y = vy at *
    have hY : vy = .slice none 0 0 := hY
    subst hY
    cases hX with
    | slice A n cc _ sz ad vs hl hc hm hsz hcell hA hv hr =>
    split at h
    · rename_i i hi
      split at h
      · rename_i e hk
        obtain ⟨info, z, d0, g1, g2, g3, g4, _⟩ := ti_info hE hi
        have hb : E.P.underlying t = some (.slice e) := kind_slice (g4 ▸ hk)
        have hnil : A.isNone = true → rows = [] := by
          intro hA'
          cases A with
          | some x => simp at hA'
          | none =>
            rcases Nat.eq_zero_or_pos n with h0 | h0
            · exact List.eq_nil_of_length_eq_zero (by omega)
            · have := (hA h0).1; cases this
        refine wp_data (d := .bool A.isNone) c (run (.bool A.isNone) (eqGuard_slice w _ _ _ _ _ _ _ _ _ _) ?_) (h _ hnil) (.bool _)
        exact (run_binOp_eql w (run_eq_slice hb w A n cc 9999) (.inr ⟨_, _, _, rfl, rfl⟩)).1
      · exact h.elim
    · rename_i i hi
      split at h
      · rename_i e hk
        obtain ⟨info, z, d0, g1, g2, g3, g4, _⟩ := ti_info hE hi
        have hb : E.P.underlying t = some (.slice e) := kind_slice (g4 ▸ hk)
        have hnil : A.isNone = true → rows = [] := by
          intro hA'
          cases A with
          | some x => simp at hA'
          | none =>
            rcases Nat.eq_zero_or_pos n with h0 | h0
            · exact List.eq_nil_of_length_eq_zero (by omega)
            · have := (hA h0).1; cases this
        refine wp_data (d := .bool (!A.isNone)) c (run (.bool (!A.isNone)) (eqGuard_slice w _ _ _ _ _ _ _ _ _ _) ?_) (h _ hnil) (.bool _)
        exact (run_binOp_eql w (run_eq_slice hb w A n cc 9999) (.inr ⟨_, _, _, rfl, rfl⟩)).2
      · exact h.elim
    · exact h.elim
  · rename_i xs ys
    generalize hx : a.eval x = vx at *
    generalize hy : a.eval y = vy at *
    have hX : Rep w (okS E bl ψ w) vx (.agg xs) := hX
    have hY : Rep w (okS E bl ψ w) vy (.agg ys) := hY
    split at h
    · rename_i i hi
      split at h
      · rename_i fs b hk he
        obtain ⟨info, z, d0, g1, g2, g3, g4, g5, g6, g7, g8⟩ := ti_info hE hi
        have hq := eqT_run (w := w) (ok := okS E bl ψ w) hE 20 9980 t xs ys b vx vy he (by rw [← g4, hk]; exact hX) (by rw [← g4, hk]; exact hY)
        have heq : i.eqok = true := by
          unfold eqT at he
          rw [hi] at he
          simp only [hk] at he
          split at he
          · assumption
          · cases he
        rw [g8] at heq
        unfold eqOk at heq
        obtain ⟨fields, f1, f2⟩ := kind_struct (g4 ▸ hk)
        rw [f1] at heq
        simp only [Bool.and_eq_true, Bool.not_eq_true'] at heq
        cases hX with
        | agg cx _ _ _ _ =>
          cases hY with
          | agg cy _ _ _ _ =>
            refine wp_data (d := .bool b) c (run (.bool b) (run_eqGuard_agg w _ _ _ _ _ _ heq.1.2) ?_) h (.bool _)
            rw [run_eql_struct, hq]; rfl
      · exact h.elim
    · rename_i i hi
      split at h
      · rename_i fs b hk he
        obtain ⟨info, z, d0, g1, g2, g3, g4, g5, g6, g7, g8⟩ := ti_info hE hi
        have hq := eqT_run (w := w) (ok := okS E bl ψ w) hE 20 9980 t xs ys b vx vy he (by rw [← g4, hk]; exact hX) (by rw [← g4, hk]; exact hY)
        have heq : i.eqok = true := by
          unfold eqT at he
          rw [hi] at he
          simp only [hk] at he
          split at he
          · assumption
          · cases he
        rw [g8] at heq
        unfold eqOk at heq
        obtain ⟨fields, f1, f2⟩ := kind_struct (g4 ▸ hk)
        rw [f1] at heq
        simp only [Bool.and_eq_true, Bool.not_eq_true'] at heq
        cases hX with
        | agg cx _ _ _ _ =>
          cases hY with
          | agg cy _ _ _ _ =>
            refine wp_data (d := .bool (!b)) c (run (.bool (!b)) (run_eqGuard_agg w _ _ _ _ _ _ heq.1.2) ?_) h (.bool _)
            rw [run_neq_struct, hq]; rfl
      · exact h.elim
    · exact h.elim
  · exact h.elim
end
end Go.Eng
set_option linter.unusedVariables false
set_option linter.unusedSimpArgs false
namespace Go.Eng
open Go.RowKit
def Sub (bl0 bl : Blks) : Prop := ∀ n k, bl0 n = some k → bl n = some k
section
variable {E : Env} {ti : TypeId → Option TI} {ψ : Nat → Value} {sl : Nat → Slot} {bl bl0 : Blks} {U : Nat → Prop} {nx : Nat} {a : Act} {w : World} {dst : Option Nat} {o : Oper} {R : Patch → Prop} {Q : Exit → Act → World → Prop}
theorem toD_sub (hs : Sub bl0 bl) {r : RV} {x : D × Pch} (h : toD bl0 r = some x) : toD bl r = some x := by
  cases r with
  | own n =>
    simp only [toD] at h ⊢
    split at h
    · rename_i e rows hb; rw [hs _ _ hb]; exact h
    · rename_i rows hb; rw [hs _ _ hb]; exact h
    · cases h
  | _ => exact h
theorem cellsD_spec : ∀ {cs : List RV} {ds : List D} {q : Pch}, cellsD bl cs = some (ds, q) →
    (∀ d ∈ ds, D.isCell d = true) ∧ ds.length = cs.length ∧ ∀ (j : Nat) (d : D), ds[j]? = some d → ∃ r q', cs[j]? = some r ∧ toD bl r = some (d, q') ∧ ∀ y ∈ q', y ∈ q
  | [], ds, q, h => by
    simp [cellsD] at h
    obtain ⟨rfl, rfl⟩ := h
    exact ⟨by simp, rfl, fun j d hj => by simp at hj⟩
  | r :: rs, ds, q, h => by
    unfold cellsD at h
    split at h
    · rename_i d1 p1 h1
      split at h
      · rename_i hcl
        split at h
        · rename_i ds' q' h2
          simp at h
          obtain ⟨rfl, rfl⟩ := h
          obtain ⟨i1, i2, i3⟩ := cellsD_spec h2
          refine ⟨fun d hd => ?_, by simp [i2], fun j d hj => ?_⟩
          · rcases List.mem_cons.1 hd with rfl | hd
            · exact hcl
            · exact i1 d hd
          · cases j with
            | zero =>
              simp at hj
              subst hj
              exact ⟨r, p1, rfl, h1, fun y hy => List.mem_append_left _ hy⟩
            | succ j =>
              obtain ⟨r', q'', hr', hx, hy⟩ := i3 j d (by simpa using hj)
              exact ⟨r', q'', by simpa using hr', hx, fun y h => List.mem_append_right _ (hy y h)⟩
        · cases h
      · cases h
    · cases h
theorem cellsD_sub (hs : Sub bl0 bl) : ∀ {cs : List RV} {x : List D × Pch}, cellsD bl0 cs = some x → cellsD bl cs = some x
  | [], x, h => h
  | r :: rs, x, h => by
    unfold cellsD at h ⊢
    split at h
    · rename_i d1 p1 h1
      rw [toD_sub hs h1]
      split at h
      · rename_i hcl
        simp only [hcl]
        split at h
        · rename_i ds' q' h2
          rw [cellsD_sub hs h2]
          exact h
        · cases h
      · cases h
    · cases h
theorem valsOf_spec (hs : Sub bl0 bl) {s : Slot} {d : D} {p : Pch} (h : valsOf bl0 s = some (d, p)) : ∃ r, s = .rv r ∧ toD bl r = some (d, p) := by
  cases s with
  | rv r => exact ⟨r, rfl, toD_sub hs h⟩
  | _ => simp [valsOf] at h
theorem name_some {n : Nat} {k : Blk} (h : bl n = some k) : (bl n).isSome = true := by rw [h]; rfl
theorem Rep.int_inv {ok : Nat → Prop} {v : Value} {k : IntKind} {n : Int} (h : Rep w ok v (.int k n)) : v = .int k n := by cases h; rfl
theorem Rep.bool_inv {ok : Nat → Prop} {v : Value} {b : Bool} (h : Rep w ok v (.bool b)) : v = .bool b := by cases h; rfl
theorem Rep.str_inv {ok : Nat → Prop} {v : Value} {s : ByteArray} (h : Rep w ok v (.str s)) : v = .string s ∧ s.size ≤ 9223372036854775807 := by cases h; exact ⟨rfl, by assumption⟩
theorem Rep.agg_inv {ok : Nat → Prop} {v : Value} {cs : List D} (h : Rep w ok v (.agg cs)) : ∃ vx, v = .agg vx := by cases h; exact ⟨_, rfl⟩
theorem op_un {op : UnOp} {t : TypeId} {x : Operand} {X : Slot} (ho : o.op = .unOp op t x) (c : Ctx E ti ψ sl bl U nx a w o.dst) (hX : SlotRep w (okS E bl ψ w) ψ bl a.tmps X (a.eval x)) (h : (ptUn op X).All E.P E.gt R) :
    o.wp E.P a w (Next E sl bl U nx o.dst R) Q := by
  unfold ptUn at h
  split at h
  · rename_i b
    generalize hx : a.eval x = vx at *
    cases hX
    exact wp_data (d := .bool (!b)) (v := .bool (!b)) c (by simp [execOp, ho, hx, Op.unary]) h (.bool _)
  · rename_i k n
    generalize hx : a.eval x = vx at *
    cases hX
    exact wp_data (d := .int k (k.wrap (0 - n))) (v := .int k (k.wrap (0 - n))) c (by simp [execOp, ho, hx, Op.unary, Op.intArith]) h (.int _ _)
  · rename_i k n
    generalize hx : a.eval x = vx at *
    cases hX
    exact wp_data (d := .int k (bitsI .xor k (if k.signed then -1 else k.max) n)) (v := .int k (bitsI .xor k (if k.signed then -1 else k.max) n)) c (by simp [execOp, ho, hx, Op.unary, Op.intBits, bitsI]) h (.int _ _)
  · exact h.elim
theorem op_convert (hE : ∀ t i, ti t = some i → tiOf E.P t = some i) {s t : TypeId} {x : Operand} {X : Slot} (ho : o.op = .convert s t x) (c : Ctx E ti ψ sl bl U nx a w o.dst) (hX : SlotRep w (okS E bl ψ w) ψ bl a.tmps X (a.eval x)) (h : (ptConvert ti s t X).All E.P E.gt R) :
    o.wp E.P a w (Next E sl bl U nx o.dst R) Q := by
  unfold ptConvert at h
  split at h
  · rename_i is it k0 n hs ht
    split at h
    · rename_i k hk
      obtain ⟨_, _, ds, _, gs, _⟩ := ti_info hE hs
      obtain ⟨_, _, dt, _, gt, _, g4, _⟩ := ti_info hE ht
      have hu := kind_int (g4 ▸ hk)
      generalize hx : a.eval x = vx at *
      cases hX
      refine wp_data (d := .int k (k.wrap n)) (v := .int k (k.wrap n)) c ?_ h (.int _ _)
      have hr : (convert s t (.int k0 n)).run E.P w = .ok (.int k (k.wrap n)) w := by
        simp only [convert, Sem.run_bind, run_underlying gs, run_underlying hu, Result.andThen_ok]
        cases ds <;> rfl
      simp [execOp, ho, hx, hr]
    · exact h.elim
  · exact h.elim
theorem op_extract {x : Operand} {i : Nat} {X : Slot} (ho : o.op = .extract x i) (c : Ctx E ti ψ sl bl U nx a w o.dst) (hX : SlotRep w (okS E bl ψ w) ψ bl a.tmps X (a.eval x)) (hr : ∀ m ∈ refsS X, U m) (h : (ptExtract X i).All E.P E.gt R) :
    o.wp E.P a w (Next E sl bl U nx o.dst R) Q := by
  unfold ptExtract at h
  split at h
  · rename_i rs
    split at h
    · rename_i r hi
      obtain ⟨vs, e1, e2, e3⟩ := hX
      have hlt : i < vs.size := by rw [e2]; exact (List.getElem?_eq_some_iff.1 hi).1
      refine wp_val (v := vs.getD i undef) ?_ (c.pure h (fun m hm => hr m (List.mem_flatMap.2 ⟨r, List.mem_of_getElem? hi, hm⟩)) (by simp) (e3 i r hi))
      simp [execOp, ho, e1, Instr.extract, Array.getD_eq_getD_getElem?, hlt]
    · exact h.elim
  · exact h.elim
theorem op_move {x : Operand} {X : Slot} (ho : o.op = .move x) (c : Ctx E ti ψ sl bl U nx a w o.dst) (hX : SlotRep w (okS E bl ψ w) ψ bl a.tmps X (a.eval x)) (hr : ∀ m ∈ refsS X, U m) (hg : ∀ l s, X ≠ .gval l s) (h : R ⟨X, []⟩) :
    o.wp E.P a w (Next E sl bl U nx o.dst R) Q :=
  wp_val (v := a.eval x) (by simp [execOp, ho]) (c.pure h hr hg hX)
theorem op_pick {x y z : Operand} {X Y Z : Slot} (ho : o.op = .pick x y z) (c : Ctx E ti ψ sl bl U nx a w o.dst) (hX : SlotRep w (okS E bl ψ w) ψ bl a.tmps X (a.eval x))
    (hY : a.eval x = .bool true → SlotRep w (okS E bl ψ w) ψ bl a.tmps Y (a.eval y)) (hZ : a.eval x = .bool false → SlotRep w (okS E bl ψ w) ψ bl a.tmps Z (a.eval z)) (h : (ptPick X Y Z).All E.P E.gt R) :
    o.wp E.P a w (Next E sl bl U nx o.dst R) Q := by
  unfold ptPick at h
  split at h
  · rename_i p q r
    have hX : Rep w (okS E bl ψ w) (a.eval x) (.bool p) := hX
    have hx : a.eval x = .bool p := hX.bool_inv
    cases p with
    | true =>
      have hY : Rep w (okS E bl ψ w) (a.eval y) (.bool q) := hY hx
      exact wp_data (d := .bool q) (v := a.eval y) c (by simp [execOp, ho, hx, asBool]) h hY
    | false =>
      have hZ : Rep w (okS E bl ψ w) (a.eval z) (.bool r) := hZ hx
      exact wp_data (d := .bool r) (v := a.eval z) c (by simp [execOp, ho, hx, asBool]) h hZ
  · exact h.elim
theorem op_load (hE : ∀ t i, ti t = some i → tiOf E.P t = some i) (hsub : Sub bl0 bl) {t : TypeId} {x : Operand} {X : Slot} (ho : o.op = .load t x) (c : Ctx E ti ψ sl bl U nx a w o.dst) (hX : SlotRep w (okS E bl ψ w) ψ bl a.tmps X (a.eval x)) (h : (ptLoad ti bl0 t X).All E.P E.gt R) :
    o.wp E.P a w (Next E sl bl U nx o.dst R) Q := by
  have fin : ∀ (ad : Addr) (v : Value), a.eval x = .pointer (some ad) → (loadVar t ad).run E.P w = .ok v w → (execOp a.eval o).run E.P w = .ok (.value v) w := by
    intro ad v h1 h2
    simp [execOp, ho, h1, Instr.loadAt, Instr.sureAddr, h2]
  unfold ptLoad at h
  split at h
  · exact h.elim
  · rename_i i hi
    obtain ⟨info, z, d0, g1, g2, g3, g4, g5, g6, g7, g8⟩ := ti_info hE hi
    split at h
    · -- a box
      rename_i n off
      split at h
      · rename_i cs hb
        have hb := hsub _ _ hb
        obtain ⟨b, vs, tt, k1, k2, k3, k4, k5⟩ := c.sim.blks n _ hb
        obtain ⟨b', e1, e2⟩ := hX (name_some hb)
        rw [k1] at e1
        injection e1 with e1; injection e1 with e1; injection e1 with e1
        subst e1
        have cellAt : ∀ j, j < vs.size → w.cell? ((⟨b, 0, none⟩ : Addr).add j) = some (vs.getD j undef) := by
          intro j hj
          rw [add_plain, Nat.zero_add]
          simp [World.cell?, k3, Array.getD_eq_getD_getElem?, hj]
        split at h
        · rename_i ha
          split at h
          · rename_i rs hp
            split at h
            · rename_i ds p hc
              have hc := cellsD_sub hsub hc
              have hfz := cellsD_frz hc
              obtain ⟨f1, f2, f3⟩ := cellsD_spec hc
              obtain ⟨q1, q2, q3, q4⟩ := partAt_spec hp
              obtain ⟨vs', hr', hrep⟩ := load_cells (P := E.P) (w := w) (ok := okS E (setB bl p) ψ w) (ds := ds) (ad := ⟨b, off, none⟩) f1 (fun j d hj => by
                obtain ⟨r, q', h1, h2, h3⟩ := f3 j d hj
                have hjl := (List.getElem?_eq_some_iff.1 h1).1
                rw [q3 j (by omega)] at h1
                have hv := (k5 (off + j) r h1).1
                refine ⟨vs.getD (off + j) undef, ?_, c.sim.toD hfz h2 h3 hv⟩
                have := cellAt (off + j) (by omega)
                rw [add_plain] at this ⊢
                rw [Nat.zero_add] at this
                exact this)
              refine wp_val (v := .agg vs') (fin _ _ e2 ?_) (c.pureFrz hfz h (fun m hm => by cases hm) (by simp) hrep)
              simp only [loadVar, Sem.run_bind, run_isAgg g2, ← g4, ha, Result.andThen_ok, if_true, run_size g1]
              rw [f2, q1, g5] at hr'
              simp [hr']
            · exact h.elim
          · exact h.elim
        · rename_i ha
          split at h
          · exact h.elim
          · rename_i r hne hp
            obtain ⟨q1, q2, q3, q4⟩ := partAt_spec hp
            have hr : cs[off]? = some r := by have := q3 0 (by omega); simpa using this.symm
            have hv := (k5 off r hr).1
            refine wp_val (v := vs.getD off undef) (fin _ _ e2 ?_) (c.pure h (fun m hm => c.sim.brefs n cs hb r (List.mem_of_getElem? hr) m hm) (by simp) hv)
            have := cellAt off (by rw [k4]; omega)
            rw [add_plain, Nat.zero_add] at this
            simp only [loadVar, Sem.run_bind, run_isAgg g2, ← g4, ha, Result.andThen_ok, Bool.false_eq_true, if_false]
            simp [this]
          · exact h.elim
      · rename_i cs hb
        have hb := hsub _ _ hb
        obtain ⟨b, k1, k2, k3, k4⟩ := c.sim.blks n _ hb
        obtain ⟨b', e1, e2⟩ := hX (name_some hb)
        rw [k1] at e1
        injection e1 with e1; injection e1 with e1; injection e1 with e1
        subst e1
        obtain ⟨l1, l2⟩ := load_row (w := w) (ok := okS E bl ψ w) g1 g2 (cs := cs) (ad := ⟨b, 0, none⟩) (off := off) k3 (fun j d hj => by
          rw [add_plain, Nat.zero_add]; exact k4 j d hj)
        rw [add_plain, Nat.zero_add] at l1 l2
        split at h
        · rename_i ha
          split at h
          · rename_i ds hp
            obtain ⟨v, hv1, hv2⟩ := l1 ds (by rw [← g4]; exact ha) (by rw [← g5]; exact hp)
            exact wp_val (fin _ _ e2 hv1) (c.data h hv2)
          · exact h.elim
        · rename_i ha
          split at h
          · rename_i d hp
            obtain ⟨v, hv1, hv2⟩ := l2 d (by rw [← g4]; exact ha) hp
            exact wp_val (fin _ _ e2 hv1) (c.data h hv2)
          · exact h.elim
      · exact h.elim
    · -- a frozen row
      rename_i cs off
      obtain ⟨ad, e1, e2, e3, e4⟩ := hX
      obtain ⟨l1, l2⟩ := load_row (w := w) (ok := okS E bl ψ w) g1 g2 (cs := cs) (ad := ad) (off := off) e3 e4
      split at h
      · rename_i ha
        split at h
        · rename_i ds hp
          obtain ⟨v, hv1, hv2⟩ := l1 ds (by rw [← g4]; exact ha) (by rw [← g5]; exact hp)
          exact wp_val (fin _ _ e1 hv1) (c.data h hv2)
        · exact h.elim
      · rename_i ha
        split at h
        · rename_i d hp
          obtain ⟨v, hv1, hv2⟩ := l2 d (by rw [← g4]; exact ha) hp
          exact wp_val (fin _ _ e1 hv1) (c.data h hv2)
        · exact h.elim
    · -- an element of a row of the call's own
      rename_i n j sz off
      split at h
      · rename_i e rows hb
        have hb := hsub _ _ hb
        obtain ⟨cs, hj, h⟩ := h
        dsimp only at h
        obtain ⟨xs, k1, k2, k3, k4, k5⟩ := c.sim.blks n _ hb
        obtain ⟨b, m, cc, e1, e2⟩ := hX (name_some hb)
        have hsz : cs.length = szOf E.P e := k3 cs (List.mem_of_getElem? hj)
        have hcur : ∃ cur, w.heap[b]? = some (.cells cur e (0, 0)) ∧ cur.toList.take (rows.length * szOf E.P e) = xs := by
          rcases k2.2 with ⟨hv, hn⟩ | ⟨g, cap, cur, hv, _, hg, _, _, _, ht⟩
          · rw [hv] at e1; cases e1
          · rw [hv] at e1
            injection e1 with e1; injection e1 with e1; injection e1 with e1
            subst e1
            exact ⟨cur, hg, ht⟩
        obtain ⟨cur, hg, ht⟩ := hcur
        have lr := fun off' => load_row (w := w) (ok := okS E bl ψ w) g1 g2 (cs := cs) (ad := ⟨b, j * szOf E.P e, none⟩) (off := off') (k4 cs (List.mem_of_getElem? hj)) (fun i d hi => by
          obtain ⟨u, hu, hr⟩ := k5 j cs i d hj hi
          refine ⟨u, ?_, hr⟩
          rw [add_plain]
          rw [← ht, List.getElem?_take] at hu
          split at hu
          · simp only [World.cell?, hg]
            simpa using hu
          · cases hu)
        split at h
        · rename_i hz ha
          have hz : cs.length = sz := Nat.eq_of_beq_eq_true hz
          split at h
          · rename_i ds hp
            obtain ⟨v, hv1, hv2⟩ := (lr off).1 ds (by rw [← g4]; exact ha) (by rw [← g5]; exact hp)
            rw [add_plain, ← hsz, hz] at hv1
            exact wp_val (fin _ _ e2 hv1) (c.data h hv2)
          · exact h.elim
        · rename_i hz ha
          have hz : cs.length = sz := Nat.eq_of_beq_eq_true hz
          split at h
          · rename_i d hp
            obtain ⟨v, hv1, hv2⟩ := (lr off).2 d (by rw [← g4]; exact ha) hp
            rw [add_plain, ← hsz, hz] at hv1
            exact wp_val (fin _ _ e2 hv1) (c.data h hv2)
          · exact h.elim
        · exact h.elim
      · exact h.elim
    · exact h.elim
theorem op_nilCheck (hsub : Sub bl0 bl) {x : Operand} {X : Slot} (ho : o.op = .nilCheck x) (c : Ctx E ti ψ sl bl U nx a w o.dst) (hX : SlotRep w (okS E bl ψ w) ψ bl a.tmps X (a.eval x)) (hr : ∀ m ∈ refsS X, U m)
    (h : (ptNilCheck bl0 X).All E.P E.gt R) : o.wp E.P a w (Next E sl bl U nx o.dst R) Q := by
  unfold ptNilCheck at h
  split at h
  · rename_i n off
    split at h
    · rename_i k hb
      obtain ⟨b, e1, e2⟩ := hX (name_some (hsub _ _ hb))
      refine wp_val (v := a.eval x) ?_ (c.pure h hr (by simp) hX)
      simp [execOp, ho, e2]
    · exact h.elim
  · rename_i cs off
    have hX' := hX
    obtain ⟨ad, e1, e2, e3, e4⟩ := hX
    refine wp_val (v := a.eval x) ?_ (c.pure h hr (by simp) hX')
    simp [execOp, ho, e1]
  · exact h.elim
theorem run_fieldAt {P : Program} {s : TypeId} {fields : Array Field} (hu : P.underlying s = some (.struct fields)) {f : Nat} {ty : TypeId} {off k : Nat} (hf : (fields.toList.map fun f => (f.type, f.offset, szOf P f.type))[f]? = some (ty, off, k + 1)) (w : World) (ad : Addr) :
    (Instr.fieldAt s (.pointer (some ad)) f).run P w = .ok (.pointer (some (ad.add off))) w := by
  rw [List.getElem?_map, Option.map_eq_some_iff] at hf
  obtain ⟨fd, h1, h2⟩ := hf
  simp only [Prod.mk.injEq] at h2
  obtain ⟨h2, h3, h4⟩ := h2
  have hsz : (sizeOf fd.type).run P w = .ok (k + 1) w := by
    unfold szOf at h4
    split at h4
    · rename_i i hi; rw [run_size hi, h4]
    · cases h4
  have h1' : fields[f]? = some fd := by simpa using h1
  simp [Instr.fieldAt, run_underlying hu, h1', Instr.sureAddr, fieldPlace, hsz, h3]
theorem op_fieldAddr (hE : ∀ t i, ti t = some i → tiOf E.P t = some i) (hsub : Sub bl0 bl) {s : TypeId} {f : Nat} {x : Operand} {X : Slot} (ho : o.op = .fieldAddr s x f) (c : Ctx E ti ψ sl bl U nx a w o.dst) (hX : SlotRep w (okS E bl ψ w) ψ bl a.tmps X (a.eval x)) (hr : ∀ m ∈ refsS X, U m) (h : (ptFieldAddr ti bl0 s X f).All E.P E.gt R) :
    o.wp E.P a w (Next E sl bl U nx o.dst R) Q := by
  unfold ptFieldAddr at h
  split at h
  · exact h.elim
  · rename_i i hi
    obtain ⟨info, z, d0, g1, g2, g3, g4, _⟩ := ti_info hE hi
    split at h
    · rename_i fs hk
      obtain ⟨fields, f1, f2⟩ := kind_struct (g4 ▸ hk)
      split at h
      · rename_i ty off k hf
        have run : ∀ ad : Addr, a.eval x = .pointer (some ad) → (execOp a.eval o).run E.P w = .ok (.value (.pointer (some (ad.add off)))) w := by
          intro ad e
          simp [execOp, ho, e, run_fieldAt f1 (f2 ▸ hf) w ad]
        split at h
        · rename_i n o'
          split at h
          · rename_i k' hb
            have hb := hsub _ _ hb
            obtain ⟨b, e1, e2⟩ := hX (name_some hb)
            refine wp_val (run _ e2) (c.pure h hr (by simp) (fun _ => ⟨b, e1, ?_⟩))
            rw [add_plain]
          · exact h.elim
        · rename_i cs o'
          obtain ⟨ad, e1, e2, e3, e4⟩ := hX
          refine wp_val (run _ e1) (c.pure h (fun m hm => by cases hm) (by simp) ⟨ad, ?_, e2, e3, e4⟩)
          rw [add_add]
        · rename_i n j sz o'
          split at h
          · rename_i k' hb
            have hb := hsub _ _ hb
            obtain ⟨b, m, cc, e1, e2⟩ := hX (name_some hb)
            refine wp_val (run _ e2) (c.pure h hr (by simp) (fun _ => ⟨b, m, cc, e1, ?_⟩))
            rw [add_plain, Nat.add_assoc]
          · exact h.elim
        · exact h.elim
      · exact h.elim
    · exact h.elim
theorem op_field (hE : ∀ t i, ti t = some i → tiOf E.P t = some i) {s : TypeId} {f : Nat} {x : Operand} {X : Slot} (ho : o.op = .field s x f) (c : Ctx E ti ψ sl bl U nx a w o.dst) (hX : SlotRep w (okS E bl ψ w) ψ bl a.tmps X (a.eval x)) (h : (ptField ti s X f).All E.P E.gt R) :
    o.wp E.P a w (Next E sl bl U nx o.dst R) Q := by
  unfold ptField at h
  split at h
  · rename_i i cs hi
    obtain ⟨info, z, d0, g1, g2, g3, g4, _⟩ := ti_info hE hi
    split at h
    · rename_i fs hk
      obtain ⟨fields, f1, f2⟩ := kind_struct (g4 ▸ hk)
      split at h
      · rename_i ty off sz hf
        split at h
        · rename_i it hit
          obtain ⟨info', z', d0', k1, k2, k3, k4, k5, _⟩ := ti_info hE hit
          subst f2
          rw [List.getElem?_map, Option.map_eq_some_iff] at hf
          obtain ⟨fd, h1, h2⟩ := hf
          simp only [Prod.mk.injEq] at h2
          obtain ⟨h2, h3, h4⟩ := h2
          have h1' : fields[f]? = some fd := by simpa using h1
          have hX : Rep w (okS E bl ψ w) (a.eval x) (.agg cs) := hX
          obtain ⟨vx, hvx⟩ : ∃ vx, a.eval x = .agg vx := hX.agg_inv
          rw [hvx] at hX
          split at h
          · rename_i ha
            split at h
            · rename_i ds hp
              obtain ⟨v, hv1, hv2⟩ := run_part k1 k2 hX (k5 ▸ hp) (fun h => by rw [← k4, ha] at h; cases h)
              rw [← k4, ha] at hv2
              refine wp_val (v := v) ?_ (c.data h hv2)
              simp [execOp, ho, hvx, Instr.field, run_underlying f1, h1', asAgg, h2, h3, hv1]
            · exact h.elim
          · rename_i ha
            split at h
            · rename_i d hp
              have hd : cs[off]? = some d := by have := (partAt_spec hp).2.2.1 0 (by omega); simpa using this.symm
              cases hX with
              | agg _ _ hl hc hrr =>
                have hlt : off < vx.size := by rw [hl]; exact (List.getElem?_eq_some_iff.1 hd).1
                refine wp_val (v := vx.getD off undef) ?_ (c.data h (hrr off d hd))
                have hpart : (part ty vx off).run E.P w = .ok (vx.getD off undef) w := by
                  simp only [part, Sem.run_bind, run_isAgg k2, ← k4, ha, Result.andThen_ok, Bool.false_eq_true, if_false]
                  simp [Array.getD_eq_getD_getElem?, hlt]
                simp [execOp, ho, hvx, Instr.field, run_underlying f1, h1', asAgg, h2, h3, hpart]
            · exact h.elim
        · exact h.elim
      · exact h.elim
    · exact h.elim
  · exact h.elim
theorem getRow_spec {rows : List (List D)} {n : Int} {r : List D} (h : getRow rows n = some r) : 0 ≤ n ∧ rows[n.toNat]? = some r ∧ n.toNat < rows.length := by
  unfold getRow at h
  split at h
  · exact ⟨by assumption, h, (List.getElem?_eq_some_iff.1 h).1⟩
  · cases h
theorem getPart_spec {cs ds : List D} {off n : Nat} (h : getPart cs off n = some ds) : partAt cs off n = some ds := by
  unfold getPart at h
  unfold partAt
  split at h
  · rename_i hle
    rw [show Nat.ble (off + n) cs.length = true from Nat.ble_eq_true_of_le hle]
    exact h
  · cases h
theorem Frz.box {m : Nat} {rs : List RV} {cs : List D} {p : Pch} (hb : bl m = some (.box rs)) (hc : cellsD bl rs = some (cs, p)) : Frz bl ((m, some (.frob cs)) :: p) := by
  intro x hx
  rcases List.mem_cons.1 hx with rfl | hx
  · exact .inr ⟨rs, cs, p, hb, rfl, hc, fun y hy => List.mem_cons_of_mem _ hy⟩
  · rcases cellsD_frz hc x hx with h1 | ⟨cs', ds, q', h1, h2, h3, h4⟩
    · exact .inl h1
    · exact .inr ⟨cs', ds, q', h1, h2, h3, fun y hy => List.mem_cons_of_mem _ (h4 y hy)⟩
theorem frz_box {m : Nat} {rs : List RV} {cs : List D} {p q : Pch} (h : Frz bl p) (hb : bl m = some (.box rs)) (hc : cellsD bl rs = some (cs, q)) (hm : (m, some (.frob cs)) ∈ p) : setB bl p m = some (.frob cs) := by
  refine setB_mem hm (fun x hx e => ?_)
  rcases h x hx with ⟨e', rows', h1, h2⟩ | ⟨cs', ds', q', h1, h2, h3, h4⟩
  · rw [e, hb] at h1; cases h1
  · rw [e, hb] at h1
    injection h1 with h1; injection h1 with h1
    subst h1
    rw [hc] at h3
    injection h3 with h3
    rw [h2, (Prod.mk.inj h3).1]
theorem op_indexAddr {lit : Bool} (hE : ∀ t i, ti t = some i → tiOf E.P t = some i) (hsub : Sub bl0 bl) {t : TypeId} {x y : Operand} {X Y : Slot} (ho : o.op = .indexAddr t x y) (c : Ctx E ti ψ sl bl U nx a w o.dst) (hX : SlotRep w (okS E bl ψ w) ψ bl a.tmps X (a.eval x)) (hY : SlotRep w (okS E bl ψ w) ψ bl a.tmps Y (a.eval y)) (hr : ∀ m ∈ refsS X, U m)
    (h : (ptIndexAddr ti bl0 lit t X Y).All E.P E.gt R) : o.wp E.P a w (Next E sl bl U nx o.dst R) Q := by
  unfold ptIndexAddr at h
  split at h
  · rename_i i k n hi
    obtain ⟨info, z, d0, g1, g2, g3, g4, _⟩ := ti_info hE hi
    have hy : a.eval y = .int k n := by
      have hY : Rep w (okS E bl ψ w) (a.eval y) (.int k n) := hY
      exact hY.int_inv
    split at h
    · rename_i e hk
      have hu := kind_slice (g4 ▸ hk)
      split at h
      · rename_i ie hie
        obtain ⟨info', z', d0', k1, k2, k3, k4, k5, _⟩ := ti_info hE hie
        have run : ∀ (A : Addr) (len cap : Nat), a.eval x = .slice (some A) len cap → 0 ≤ n → n < len → (execOp a.eval o).run E.P w = .ok (.value (.pointer (some (A.add (n.toNat * ie.size))))) w := by
          intro A len cap e1 e3 e4
          simp [execOp, ho, e1, hy, Instr.indexAt, asIntOf, run_underlying hu, run_size k1, ← k5, e3, e4]
        have frz : ∀ (rows : List (List D)), Rep w (okS E bl ψ w) (a.eval x) (.slice rows) → (PT.opt (getRow rows n) (rowPT ie.size)).All E.P E.gt R → o.wp E.P a w (Next E sl bl U nx o.dst R) Q := by
          intro rows hrep h
          obtain ⟨cs, hrow, h⟩ := h
          obtain ⟨n0, hrow, hlt⟩ := getRow_spec hrow
          unfold rowPT at h
          split at h
          · rename_i hz
            have hz : cs.length = ie.size := Nat.eq_of_beq_eq_true hz
            generalize hx : a.eval x = vx at *
            cases hrep with
            | slice A m cc _ sz ad vs hl hc hm hsz hcell hA hv hrr =>
              obtain ⟨hA1, hA2⟩ := hA (by omega)
              subst hA1
              have hs : sz = ie.size := by rw [← hsz cs (List.mem_of_getElem? hrow)]; exact hz
              subst hs
              refine wp_val (run ad m cc rfl n0 (by omega)) (c.pure h (fun m hm => by cases hm) (by simp) ⟨ad.add (n.toNat * ie.size), by rw [add_add, Nat.add_zero], by rw [add_block]; exact hA2, fun d hd => hcell cs (List.mem_of_getElem? hrow) d hd, fun j d hj => ⟨vs n.toNat j, ?_, hrr _ _ _ _ hrow hj⟩⟩)
              rw [add_add]
              exact hv _ _ _ _ hrow hj
          · exact h.elim
        split at h
        · rename_i rows
          exact frz rows hX h
        · rename_i m
          split at h
          · rename_i e' rows hb
            have hb := hsub _ _ hb
            split at h
            · rename_i he
              have he : e = e' := Nat.eq_of_beq_eq_true he
              subst he
              obtain ⟨cs, hrow, h⟩ := h
              obtain ⟨n0, hrow, hlt⟩ := getRow_spec hrow
              obtain ⟨xs, b1, b2, _⟩ := c.sim.blks m _ hb
              have hv : a.eval x = ψ m := hX (name_some hb)
              rcases b2.2 with ⟨hv', hn⟩ | ⟨g, cap, cur, hv', _⟩
              · omega
              · refine wp_val (run ⟨g, 0, none⟩ rows.length cap (hv.trans hv') n0 (by omega)) (c.pure h hr (by simp) (fun _ => ⟨g, rows.length, cap, hv', ?_⟩))
                rw [add_plain, Nat.zero_add, Nat.add_zero]
            · exact h.elim
          · rename_i rows hb
            have hb := hsub _ _ hb
            have hv : a.eval x = ψ m := hX (name_some hb)
            exact frz rows (hv ▸ c.sim.blks m _ hb) h
          · exact h.elim
        · exact h.elim
      · exact h.elim
    · rename_i len e hk
      have hu := kind_array (g4 ▸ hk)
      split at h
      · rename_i ie hie
        obtain ⟨info', z', d0', k1, k2, k3, k4, k5, _⟩ := ti_info hE hie
        have run : ∀ (A : Addr), a.eval x = .pointer (some A) → 0 ≤ n → n < len → (execOp a.eval o).run E.P w = .ok (.value (.pointer (some (A.add (n.toNat * ie.size))))) w := by
          intro A e1 e3 e4
          simp [execOp, ho, e1, hy, Instr.indexAt, asIntOf, run_underlying hu, run_size k1, ← k5, e3, e4, Instr.sureAddr]
        split at h
        · rename_i cs off
          obtain ⟨⟨n0, n1⟩, r, hp, h⟩ := h
          obtain ⟨q1, q2, q3, q4⟩ := partAt_spec (getPart_spec hp)
          obtain ⟨ad, e1, e2, e3, e4⟩ := hX
          refine wp_val (run _ e1 n0 n1) (c.pure h (fun m hm => by cases hm) (by simp) ⟨(ad.add off).add (n.toNat * ie.size), by rw [add_add _ _ 0, Nat.add_zero], by rw [add_block, add_block]; exact e2, fun d hd => e3 d (q4 d hd), fun j d hj => ?_⟩)
          have hjl := (List.getElem?_eq_some_iff.1 hj).1
          rw [q3 j (by omega)] at hj
          obtain ⟨u, hu1, hu2⟩ := e4 _ d hj
          exact ⟨u, by rw [add_add, add_add]; rw [← hu1]; congr 2; omega, hu2⟩
        · rename_i m off
          split at h
          · split at h
            · rename_i k' hb
              have hb := hsub _ _ hb
              obtain ⟨⟨n0, n1⟩, h⟩ := h
              obtain ⟨b, e1, e2⟩ := hX (name_some hb)
              exact wp_val (run _ e2 n0 n1) (c.pure h hr (by simp) (fun _ => ⟨b, e1, by rw [add_plain]⟩))
            · exact h.elim
          have boxed : ∀ (bl' : Blks) (b : Nat) (cs : List D), okS E bl' ψ w b → (∀ d ∈ cs, D.isCell d = true) → (∀ (j : Nat) (d : D), cs[j]? = some d → ∃ u, w.cell? ⟨b, j, none⟩ = some u ∧ Rep w (okS E bl' ψ w) u d) → ∀ r, getPart cs (off + n.toNat * ie.size) ie.size = some r →
              SlotRep w (okS E bl' ψ w) ψ bl' a.tmps (.row r 0) (.pointer (some ((⟨b, off, none⟩ : Addr).add (n.toNat * ie.size)))) := by
            intro bl' b cs hok hcell hcs r hp
            obtain ⟨q1, q2, q3, q4⟩ := partAt_spec (getPart_spec hp)
            refine ⟨(⟨b, off, none⟩ : Addr).add (n.toNat * ie.size), by rw [add_add _ _ 0, Nat.add_zero], by rw [add_block]; exact hok, fun d hd => hcell d (q4 d hd), fun j d hj => ?_⟩
            have hjl := (List.getElem?_eq_some_iff.1 hj).1
            rw [q3 j (by omega)] at hj
            obtain ⟨u, hu1, hu2⟩ := hcs _ d hj
            refine ⟨u, ?_, hu2⟩
            rw [add_plain, add_plain]
            exact hu1
          split at h
          · rename_i rs hb
            have hb := hsub _ _ hb
            split at h
            · rename_i cs p hc
              have hc := cellsD_sub hsub hc
              obtain ⟨⟨n0, n1⟩, r, hp, h⟩ := h
              obtain ⟨b, e1, e2⟩ := hX (name_some hb)
              have hfz := Frz.box hb hc
              have hm : setB bl ((m, some (.frob cs)) :: p) m = some (.frob cs) := frz_box hfz hb hc List.mem_cons_self
              obtain ⟨b', f1, f2, f3, f4⟩ := (c.sim.frz hfz).2.blks m _ hm
              rw [f1] at e1
              injection e1 with e1; injection e1 with e1; injection e1 with e1
              subst e1
              exact wp_val (run _ e2 n0 n1) (c.pureFrz hfz h (fun m hm => by cases hm) (by simp) (boxed _ b' cs f2 f3 f4 r hp))
            · exact h.elim
          · rename_i cs hb
            have hb := hsub _ _ hb
            obtain ⟨⟨n0, n1⟩, r, hp, h⟩ := h
            obtain ⟨b, e1, e2⟩ := hX (name_some hb)
            obtain ⟨b', f1, f2, f3, f4⟩ := c.sim.blks m _ hb
            rw [f1] at e1
            injection e1 with e1; injection e1 with e1; injection e1 with e1
            subst e1
            exact wp_val (run _ e2 n0 n1) (c.pure h (fun m hm => by cases hm) (by simp) (boxed _ b' cs f2 f3 f4 r hp))
          · exact h.elim
        · exact h.elim
      · exact h.elim
    · exact h.elim
  · exact h.elim
end
end Go.Eng
set_option linter.unusedVariables false
set_option linter.unusedSimpArgs false
namespace Go.Eng
open Go.RowKit
section
variable {E : Env} {ti : TypeId → Option TI} {ψ : Nat → Value} {sl : Nat → Slot} {bl bl0 : Blks} {U : Nat → Prop} {nx : Nat} {a : Act} {w : World} {dst : Option Nat} {o : Oper} {R : Patch → Prop} {Q : Exit → Act → World → Prop}
theorem bt_spec {s : ByteArray} {n : Int} (h0 : 0 ≤ n) (h : n < s.size) : ∃ b : UInt8, s[n.toNat]? = some b ∧ bt s n = b.toNat := by
  have hlt : n.toNat < s.size := by omega
  refine ⟨s[n.toNat], ?_, ?_⟩
  · simp [hlt]
  · simp [bt, hlt]
theorem op_index (hE : ∀ t i, ti t = some i → tiOf E.P t = some i) {t : TypeId} {x y : Operand} {X Y : Slot} (ho : o.op = .index t x y) (c : Ctx E ti ψ sl bl U nx a w o.dst) (hX : SlotRep w (okS E bl ψ w) ψ bl a.tmps X (a.eval x)) (hY : SlotRep w (okS E bl ψ w) ψ bl a.tmps Y (a.eval y))
    (h : (ptIndex ti t X Y).All E.P E.gt R) : o.wp E.P a w (Next E sl bl U nx o.dst R) Q := by
  unfold ptIndex at h
  split at h
  · rename_i i s k n hi
    obtain ⟨info, z, d0, g1, g2, g3, g4, _⟩ := ti_info hE hi
    have hx := Rep.str_inv (w := w) (show Rep w (okS E bl ψ w) (a.eval x) (.str s) from hX)
    have hy := Rep.int_inv (w := w) (show Rep w (okS E bl ψ w) (a.eval y) (.int k n) from hY)
    split at h
    · rename_i hk
      have hu := kind_str (g4 ▸ hk)
      obtain ⟨⟨n0, n1⟩, h⟩ := h
      obtain ⟨b, hb, he⟩ := bt_spec n0 n1
      refine wp_val (v := .int .u8 (bt s n)) ?_ (c.data h (.int _ _))
      simp [execOp, ho, hx.1, hy, Instr.index, asIntOf, run_underlying hu, n0, hb, he]
    · exact h.elim
  · rename_i i cs k n hi
    obtain ⟨info, z, d0, g1, g2, g3, g4, _⟩ := ti_info hE hi
    have hX : Rep w (okS E bl ψ w) (a.eval x) (.agg cs) := hX
    obtain ⟨vx, hx⟩ := hX.agg_inv
    have hy := Rep.int_inv (w := w) (show Rep w (okS E bl ψ w) (a.eval y) (.int k n) from hY)
    rw [hx] at hX
    split at h
    · rename_i len e hk
      have hu := kind_array (g4 ▸ hk)
      split at h
      · rename_i ie hie
        obtain ⟨info', z', d0', k1, k2, k3, k4, k5, _⟩ := ti_info hE hie
        split at h
        · rename_i ha
          obtain ⟨⟨n0, n1⟩, r, hp, h⟩ := h
          obtain ⟨v, hv1, hv2⟩ := run_part k1 k2 hX (k5 ▸ getPart_spec hp) (fun h => by rw [← k4, ha] at h; cases h)
          rw [← k4, ha] at hv2
          refine wp_val (v := v) ?_ (c.data h hv2)
          simp [execOp, ho, hx, hy, Instr.index, asIntOf, run_underlying hu, run_size k1, n0, n1, k5] at hv1 ⊢
          rw [hv1]; rfl
        · rename_i ha
          obtain ⟨⟨n0, n1⟩, r, hp, h⟩ := h
          dsimp only at h
          split at h
          · rename_i d
            have hd : cs[n.toNat * ie.size]? = some d := by have := (partAt_spec (getPart_spec hp)).2.2.1 0 (by omega); simpa using this.symm
            cases hX with
            | agg _ _ hl hc hrr =>
              have hlt : n.toNat * ie.size < vx.size := by rw [hl]; exact (List.getElem?_eq_some_iff.1 hd).1
              refine wp_val (v := vx.getD (n.toNat * ie.size) undef) ?_ (c.data h (hrr _ d hd))
              have hpart : (part e vx (n.toNat * info'.size)).run E.P w = .ok (vx.getD (n.toNat * ie.size) undef) w := by
                rw [← k5]
                simp only [part, Sem.run_bind, run_isAgg k2, ← k4, ha, Result.andThen_ok, Bool.false_eq_true, if_false]
                simp [Array.getD_eq_getD_getElem?, hlt]
              simp [execOp, ho, hx, hy, Instr.index, asIntOf, run_underlying hu, run_size k1, n0, n1, hpart]
          · exact h.elim
      · exact h.elim
    · exact h.elim
  · exact h.elim
theorem run_bound {P : Program} (w : World) (k : IntKind) (i : Int) (y : Nat) (code : BoundsCode) (h0 : 0 ≤ i) (h1 : i ≤ y) : (Instr.sliceBound (.int k i) y code).run P w = .ok i.toNat w := by
  simp [Instr.sliceBound, asIntOf, h0, h1]
def OptRep (w : World) (ok : Nat → Prop) (ψ : Nat → Value) (bl : Blks) (tm : Array Value) : Option Slot → Option Value → Prop
  | none, none => True
  | some s, some v => SlotRep w ok ψ bl tm s v
  | _, _ => False
theorem opt_int {ok : Nat → Prop} {tm : Array Value} {s : Option Slot} {v : Option Value} {dflt n : Int} (h : OptRep w ok ψ bl tm s v) (hi : intOr s dflt = some n) : (v = none ∧ n = dflt) ∨ ∃ k, v = some (.int k n) := by
  cases s with
  | none =>
    cases v with
    | none => simp [intOr] at hi; exact .inl ⟨rfl, hi.symm⟩
    | some v => exact h.elim
  | some s =>
    cases v with
    | none => exact h.elim
    | some v =>
      unfold intOr at hi
      split at hi
      · rename_i e; cases e
      · rename_i k n' e
        injection hi with hi
        subst hi
        injection e with e
        subst e
        exact .inr ⟨k, by rw [Rep.int_inv (w := w) (show Rep w ok v (.int k n') from h)]⟩
      · cases hi
theorem run_bounds {P : Program} (w : World) (isS : Bool) (len cap : Nat) (lo hi : Option Value) (l h : Int) (hl : (lo = none ∧ l = 0) ∨ ∃ k, lo = some (.int k l)) (hh : (hi = none ∧ h = len) ∨ ∃ k, hi = some (.int k h)) (h0 : 0 ≤ l) (h1 : l ≤ h) (h2 : h ≤ cap) :
    (Instr.sliceBounds isS len cap lo hi none).run P w = .ok (l.toNat, h.toNat, cap) w := by
  have h3 : 0 ≤ h := by omega
  have h4 : ((h.toNat : Nat) : Int) = h := Int.toNat_of_nonneg h3
  have e1 : ∀ k, (Instr.sliceBound (.int k h) cap (if isS = true then .sliceAcap else .sliceAlen)).run P w = .ok h.toNat w := fun k => run_bound w k h cap _ h3 h2
  have e2 : ∀ k, (Instr.sliceBound (.int k l) h.toNat .sliceB).run P w = .ok l.toNat w := fun k => run_bound w k l h.toNat _ h0 (by omega)
  rcases hl with ⟨rfl, rfl⟩ | ⟨k, rfl⟩ <;> rcases hh with ⟨rfl, e⟩ | ⟨k', rfl⟩ <;>
    simp [Instr.sliceBounds, e1, e2]
  · omega
  · have e3 : h.toNat = len := by omega
    rw [← e3, e2]; rfl
theorem run_bounds3 {P : Program} (w : World) (len cap : Nat) (lo : Option Value) (l h m : Int) (kh km : IntKind) (hl : (lo = none ∧ l = 0) ∨ ∃ k, lo = some (.int k l)) (h0 : 0 ≤ l) (h1 : l ≤ h) (h2 : h ≤ m) (h3 : m ≤ cap) :
    (Instr.sliceBounds true len cap lo (some (.int kh h)) (some (.int km m))).run P w = .ok (l.toNat, h.toNat, m.toNat) w := by
  have e0 : ∀ code, (Instr.sliceBound (.int km m) cap code).run P w = .ok m.toNat w := fun code => run_bound w km m cap code (by omega) h3
  have e1 : ∀ code, (Instr.sliceBound (.int kh h) m.toNat code).run P w = .ok h.toNat w := fun code => run_bound w kh h m.toNat code (by omega) (by omega)
  have e2 : ∀ k code, (Instr.sliceBound (.int k l) h.toNat code).run P w = .ok l.toNat w := fun k code => run_bound w k l h.toNat code h0 (by omega)
  rcases hl with ⟨rfl, rfl⟩ | ⟨k, rfl⟩ <;> simp [Instr.sliceBounds, e0, e1, e2]
theorem rep_cut {ok : Nat → Prop} {A : Option Addr} {n c : Nat} {rows : List (List D)} (hr : Rep w ok (.slice A n c) (.slice rows)) {l h m : Nat} (h1 : l ≤ h) (h2 : h ≤ n) (h3 : h ≤ m) (h4 : m ≤ c) {sz : Nat} (hs : ∀ r ∈ rows, r.length = sz) :
    Rep w ok (.slice (if m = l then A else A.map (·.add (l * sz))) (h - l) (m - l)) (.slice ((rows.take h).drop l)) := by
  cases hr with
  | slice _ _ _ _ sz' ad vs hl hc hm hsz hcell hA hv hrr =>
    have hget : ∀ i r, ((rows.take h).drop l)[i]? = some r → i < h - l ∧ rows[l + i]? = some r := by
      intro i r hi
      rw [List.getElem?_drop, List.getElem?_take] at hi
      split at hi
      · exact ⟨by omega, hi⟩
      · cases hi
    have hmem : ∀ r ∈ (rows.take h).drop l, r ∈ rows := fun r hr => List.mem_of_mem_take (List.mem_of_mem_drop hr)
    refine .slice _ _ _ _ sz' (ad.add (l * sz')) (fun i j => vs (l + i) j) (by simp; omega) (by omega) (by omega) (fun r hr => hsz r (hmem r hr)) (fun r hr => hcell r (hmem r hr)) (fun hp => ?_) (fun i r j d hi hj => ?_) (fun i r j d hi hj => hrr _ _ _ _ (hget i r hi).2 hj)
    · obtain ⟨e, hok⟩ := hA (by omega)
      have hne : rows ≠ [] := by intro e'; subst e'; simp at hl; omega
      obtain ⟨r0, hr0⟩ := List.exists_mem_of_ne_nil rows hne
      have hss : sz = sz' := (hs r0 hr0).symm.trans (hsz r0 hr0)
      subst hss
      rw [if_neg (by omega), e]
      exact ⟨rfl, by rw [add_block]; exact hok⟩
    · have := hv (l + i) r j d (hget i r hi).2 hj
      rw [add_add, show l * sz' + (i * sz' + j) = (l + i) * sz' + j by rw [Nat.add_mul]; omega]
      exact this
theorem op_slice (hE : ∀ t i, ti t = some i → tiOf E.P t = some i) (hsub : Sub bl0 bl) {t : TypeId} {x : Operand} {lo hi mx : Option Operand} {X : Slot} {L H M : Option Slot} (ho : o.op = .slice t x lo hi mx) (c : Ctx E ti ψ sl bl U nx a w o.dst) (hX : SlotRep w (okS E bl ψ w) ψ bl a.tmps X (a.eval x))
    (hL : OptRep w (okS E bl ψ w) ψ bl a.tmps L (lo.map a.eval)) (hH : OptRep w (okS E bl ψ w) ψ bl a.tmps H (hi.map a.eval)) (hM : OptRep w (okS E bl ψ w) ψ bl a.tmps M (mx.map a.eval)) (h : (ptSlice ti bl0 t X L H M).All E.P E.gt R) :
    o.wp E.P a w (Next E sl bl U nx o.dst R) Q := by
  unfold ptSlice at h
  split at h
  · exact h.elim
  · rename_i i hti
    obtain ⟨info, z, d0, g1, g2, g3, g4, _⟩ := ti_info hE hti
    split at h
    · rename_i hk
      have hu := kind_str (g4 ▸ hk)
      split at h
      · rename_i s
        obtain ⟨hx, hsz⟩ := Rep.str_inv (w := w) (show Rep w (okS E bl ψ w) (a.eval x) (.str s) from hX)
        split at h
        · rename_i l hh hl' hh'
          obtain ⟨⟨n0, n1, n2⟩, h⟩ := h
          have hmx : mx = none := by cases mx with | none => rfl | some m => exact hM.elim
          have hb := run_bounds (P := E.P) w false s.size s.size (lo.map a.eval) (hi.map a.eval) l hh (opt_int hL hl') (opt_int hH hh') n0 n1 n2
          refine wp_val (v := .string (s.extract l.toNat hh.toNat)) ?_ (c.data h (.str _ (by rw [ByteArray.size_extract]; omega)))
          subst hmx
          simp [execOp, ho, hx, Instr.sliceAt, run_underlying hu, Instr.slice, hb]
        · exact h.elim
      · exact h.elim
    · rename_i e hk
      have hu := kind_slice (g4 ▸ hk)
      split at h
      · rename_i ie rows p hie hv
        obtain ⟨info', z', d0', k1, k2, k3, k4, k5, _⟩ := ti_info hE hie
        obtain ⟨r, rfl, hd⟩ := valsOf_spec hsub hv
        have hfz := toD_frz hd
        have hrep := c.sim.toD hfz hd (fun y hy => hy) hX
        obtain ⟨A, n, cc, hx⟩ : ∃ A n cc, a.eval x = .slice A n cc := by
          generalize a.eval x = vx at hrep
          cases hrep; exact ⟨_, _, _, rfl⟩
        rw [hx] at hrep
        have hlen : rows.length = n ∧ n ≤ cc := by cases hrep with | slice _ _ _ _ _ _ _ hl hc _ _ _ _ _ _ => exact ⟨hl, hc⟩
        split at h
        · rename_i l hh hl' hh'
          obtain ⟨⟨⟨n0, n1, n2⟩, hw⟩, h⟩ := h
          have hmx : mx = none := by cases mx with | none => rfl | some m => exact hM.elim
          have hb := run_bounds (P := E.P) w true n cc (lo.map a.eval) (hi.map a.eval) l hh (opt_int hL hl') (by rw [← hlen.1]; exact opt_int hH hh') n0 n1 (by omega)
          refine wp_val (v := .slice (if cc = l.toNat then A else A.map (·.add (l.toNat * ie.size))) (hh.toNat - l.toNat) (cc - l.toNat)) ?_ (c.pureFrz hfz h (fun m hm => by cases hm) (by simp) (rep_cut hrep (by omega) (by omega) (by omega) (Nat.le_refl _) hw))
          subst hmx
          simp [execOp, ho, hx, Instr.sliceAt, run_underlying hu, Instr.slice, hb, run_size k1, k5]
        · rename_i l hh km m hl' hh'
          split at h
          · rename_i hs
            obtain ⟨⟨⟨n0, n1, n2, n3⟩, hw⟩, h⟩ := h
            obtain ⟨mo, hmo⟩ : ∃ mo, mx = some mo := by cases mx with | none => exact hM.elim | some m => exact ⟨m, rfl⟩
            subst hmo
            have hmv := Rep.int_inv (w := w) (show Rep w (okS E bl ψ w) (a.eval mo) (.int km m) from hM)
            obtain ⟨ho', hho⟩ : ∃ ho', hi = some ho' := by cases hi with | none => exact hH.elim | some m => exact ⟨m, rfl⟩
            subst hho
            obtain ⟨kh, hhv⟩ : ∃ kh, a.eval ho' = .int kh hh := by
              rcases opt_int hH hh' with ⟨e, _⟩ | ⟨k, e⟩
              · cases e
              · injection e with e; exact ⟨k, e⟩
            have hb := run_bounds3 (P := E.P) w n cc (lo.map a.eval) l hh m kh km (opt_int hL hl') n0 n1 n2 (by omega)
            refine wp_val (v := .slice (if m.toNat = l.toNat then A else A.map (·.add (l.toNat * ie.size))) (hh.toNat - l.toNat) (m.toNat - l.toNat)) ?_ (c.pureFrz hfz h (fun m hm => by cases hm) (by simp) (rep_cut hrep (by omega) (by omega) (by omega) (by omega) hw))
            simp [execOp, ho, hx, Instr.sliceAt, run_underlying hu, Instr.slice, hmv, hhv, hb, run_size k1, k5]
          · exact h.elim
        · exact h.elim
      · exact h.elim
    · exact h.elim
theorem bytesOf_size (rows : List (List D)) : (bytesOf rows).size = rows.length := by
  have h : ∀ (ns : List Int) (b : ByteArray), (ns.foldl (fun r n => r.push (UInt8.ofNat n.toNat)) b).size = b.size + ns.length := by
    intro ns
    induction ns with
    | nil => intro b; simp
    | cons n ns ih => intro b; rw [List.foldl_cons, ih, ByteArray.size_push, List.length_cons]; omega
  unfold bytesOf
  rw [h]
  simp
theorem op_convert_bytes (hE : ∀ t i, ti t = some i → tiOf E.P t = some i) (hsub : Sub bl0 bl) {s t : TypeId} {x : Operand} {X : Slot} (ho : o.op = .convert s t x) (c : Ctx E ti ψ sl bl U nx a w o.dst) (hX : SlotRep w (okS E bl ψ w) ψ bl a.tmps X (a.eval x)) (h : (ptConvB ti bl0 s t X).All E.P E.gt R) :
    o.wp E.P a w (Next E sl bl U nx o.dst R) Q := by
  unfold ptConvB at h
  split at h
  · rename_i i j hi hj
    obtain ⟨info, z, d0, g1, g2, g3, g4, _⟩ := ti_info hE hi
    obtain ⟨info', z', d0', k1, k2, k3, k4, _⟩ := ti_info hE hj
    split at h
    · rename_i e hk1 hk2
      have hu := kind_slice (g4 ▸ hk1)
      have hd := kind_str (k4 ▸ hk2)
      split at h
      · rename_i ie hie
        obtain ⟨info2, z2, d2, m1, m2, m3, m4, _⟩ := ti_info hE hie
        split at h
        · rename_i hk3
          have he := kind_int (m4 ▸ hk3)
          split at h
          · rename_i rows p hv
            obtain ⟨r, rfl, hdd⟩ := valsOf_spec hsub hv
            have hfz := toD_frz hdd
            have hrep := c.sim.toD hfz hdd (fun y hy => hy) hX
            obtain ⟨hall, h⟩ := h
            obtain ⟨A, n, cc, hx⟩ : ∃ A n cc, a.eval x = .slice A n cc := by
              generalize a.eval x = vx at hrep
              cases hrep; exact ⟨_, _, _, rfl⟩
            rw [hx] at hrep
            have hrun : (convert s t (.slice A n cc)).run E.P w = .ok (.string (bytesOf rows)) w ∧ n ≤ 9223372036854775807 ∧ rows.length = n := by
              cases hrep with
              | slice _ _ _ _ sz ad vs hl hc hm hsz hcell hA hv' hr =>
                refine ⟨?_, by omega, hl⟩
                rw [run_convert_bytes_string w s t e A n cc hu he hd]
                cases A with
                | none =>
                  have hn : n = 0 := by
                    refine Nat.eq_zero_of_not_pos (fun hp => ?_)
                    obtain ⟨h1, _⟩ := hA hp
                    cases h1
                  subst hn
                  have hr0 : rows = [] := List.eq_nil_of_length_eq_zero hl
                  subst hr0
                  simp [Conv.bytesToString, bytesOf]
                | some b =>
                  have hbytes : (loadCells b n).run E.P w = .ok ((rows.map byteOf).map (Value.int .u8)).toArray w := by
                    have h1 := run_loadCells (P := E.P) w b n (fun i => ((rows.map byteOf).map (Value.int .u8)).getD i undef) (fun i hi => by
                      have hil : i < rows.length := by omega
                      obtain ⟨q, hq⟩ := hall rows[i] (List.getElem_mem hil)
                      obtain ⟨hb1, _⟩ := hA (by omega)
                      injection hb1 with hb1
                      subst hb1
                      have h2 := hsz rows[i] (List.getElem_mem hil)
                      rw [hq] at h2
                      have hs1 : sz = 1 := by simpa using h2.symm
                      subst hs1
                      have h3 := hv' i rows[i] 0 (.int .u8 q) (List.getElem?_eq_getElem hil) (by rw [hq]; rfl)
                      have h4 := hr i rows[i] 0 (.int .u8 q) (List.getElem?_eq_getElem hil) (by rw [hq]; rfl)
                      have h5 := Rep.int_inv (w := w) h4
                      rw [h5] at h3
                      simp only [Nat.mul_one, Nat.add_zero] at h3
                      rw [h3]
                      simp [List.getD_eq_getElem?_getD, hil, hq, byteOf])
                    rw [h1]
                    congr 2
                    apply List.ext_getElem?
                    intro k
                    by_cases hk : k < n
                    · have hkl : k < rows.length := by omega
                      simp [hk, hkl, List.getD_eq_getElem?_getD]
                    · have hkl : ¬ k < rows.length := by omega
                      simp [hk, hkl]
                  rw [run_bytesToString w b n cc _ hbytes]
                  rfl
            refine wp_val (v := .string (bytesOf rows)) ?_ (c.pureFrz hfz h (fun m hm => by cases hm) (by simp) (.str _ (by rw [bytesOf_size]; omega)))
            simp [execOp, ho, hx, hrun.1]
          · exact h.elim
        · exact h.elim
      · exact h.elim
    · exact h.elim
  · exact h.elim
theorem op_len (hE : ∀ t i, ti t = some i → tiOf E.P t = some i) (hsub : Sub bl0 bl) {cl : Call} {t : TypeId} {x : Operand} {X : Slot} (ho : o.op = .call cl) (hc : cl.callee = .builtin .len) (ht : cl.argTypes = #[t]) (hx : cl.args = #[x]) (c : Ctx E ti ψ sl bl U nx a w o.dst) (hX : SlotRep w (okS E bl ψ w) ψ bl a.tmps X (a.eval x))
    (h : (ptLen ti bl0 t X).All E.P E.gt R) : o.wp E.P a w (Next E sl bl U nx o.dst R) Q := by
  have run : ∀ v, (Builtin.len_ #[t] o.type #[a.eval x]).run E.P w = .ok v w → (execOp a.eval o).run E.P w = .ok (.value v) w := by
    intro v hv
    simp [execOp, ho, resolve, hc, ht, hx, invoke, builtin, hv]
  unfold ptLen at h
  split at h
  · exact h.elim
  · rename_i i hi
    obtain ⟨info, z, d0, g1, g2, g3, g4, _⟩ := ti_info hE hi
    split at h
    · rename_i s hk
      have hu := kind_str (g4 ▸ hk)
      obtain ⟨e, _⟩ := Rep.str_inv (w := w) (show Rep w (okS E bl ψ w) (a.eval x) (.str s) from hX)
      exact wp_val (run (.int .i64 s.size) (by simp [Builtin.len_, run_underlying hu, e, goInt])) (c.data h (.int _ _))
    · rename_i e hk
      have hu := kind_slice (g4 ▸ hk)
      have fin : ∀ A n cc (rows : List (List D)), a.eval x = .slice A n cc → rows.length = n → R ⟨.rv (.val (.int .i64 rows.length)), []⟩ → o.wp E.P a w (Next E sl bl U nx o.dst R) Q := by
        intro A n cc rows e1 e2 hR
        subst e2
        exact wp_val (run (.int .i64 rows.length) (by simp [Builtin.len_, run_underlying hu, e1, goInt])) (c.data hR (.int _ _))
      split at h
      · rename_i rows hr
        unfold rowsOf at hr
        split at hr
        · injection hr with hr
          subst hr
          have hX : Rep w (okS E bl ψ w) (a.eval x) (.slice _) := hX
          generalize hvx : a.eval x = vx at hX
          cases hX with
          | slice A n cc _ _ _ _ hl _ _ _ _ _ _ _ => exact fin A n cc _ hvx hl h
        · rename_i m
          split at hr
          · rename_i e' rows' hb
            injection hr with hr
            subst hr
            have hb := hsub _ _ hb
            have hv : a.eval x = ψ m := hX (name_some hb)
            obtain ⟨xs, b1, b2, _⟩ := c.sim.blks m _ hb
            rcases b2.2 with ⟨hv', hn⟩ | ⟨g, cap, cur, hv', _⟩
            · exact fin none 0 0 _ (hv.trans hv') hn h
            · exact fin _ _ cap _ (hv.trans hv') rfl h
          · rename_i rows' hb
            injection hr with hr
            subst hr
            have hb := hsub _ _ hb
            have hv : a.eval x = ψ m := hX (name_some hb)
            have hrep : Rep w (okS E bl ψ w) (ψ m) (.slice rows') := c.sim.blks m _ hb
            rw [← hv] at hrep
            generalize hvx : a.eval x = vx at hrep
            cases hrep with
            | slice A n cc _ _ _ _ hl _ _ _ _ _ _ _ => exact fin A n cc _ hvx hl h
          · cases hr
        · injection hr with hr
          subst hr
          exact fin none 0 0 [] hX rfl h
        · cases hr
      · exact h.elim
    · rename_i n e hk
      have hu := kind_array (g4 ▸ hk)
      refine wp_val (run (.int .i64 n) ?_) (c.data h (.int _ _))
      simp only [Builtin.len_, List.getElem?_toArray, List.getElem?_cons_zero, Sem.run_bind, run_underlying hu, Result.andThen_ok]
      cases a.eval x <;> rfl
    · exact h.elim
theorem fold_run {P : Program} {ok : Nat → Prop} {tm : Array Value} (w : World) (isMax : Bool) (k : IntKind) : ∀ (xs : List Slot) (vs : List Value) (m n : Int), xs.length = vs.length → (∀ (i : Nat) (s : Slot) (v : Value), xs[i]? = some s → vs[i]? = some v → SlotRep w ok ψ bl tm s v) → foldMin isMax k m xs = some n →
    (vs.foldlM (if isMax then Builtin.max2 else Builtin.min2) (.int k m)).run P w = .ok (.int k n) w
  | [], [], m, n, _, _, h => by simp [foldMin] at h; subst h; simp
  | [], _ :: _, _, _, hl, _, _ => by simp at hl
  | _ :: _, [], _, _, hl, _, _ => by simp at hl
  | s :: xs, v :: vs, m, n, hl, hv, h => by
    unfold foldMin at h
    split at h
    · rename_i e; cases e
    · rename_i k' b r e
      obtain ⟨e1, e2⟩ := List.cons.inj e
      subst e1 e2
      have hb := Rep.int_inv (w := w) (show Rep w ok v (.int k' b) from hv 0 _ v rfl rfl)
      subst hb
      have ih := fold_run (P := P) (ok := ok) (tm := tm) w isMax k xs vs _ n (by simpa using hl) (fun i s v h1 h2 => hv (i + 1) s v (by simpa using h1) (by simpa using h2)) h
      cases isMax
      · simp only [List.foldlM_cons, Bool.false_eq_true, if_false, Sem.run_bind, Builtin.min2, Sem.run_pure, Result.andThen_ok] at ih ⊢
        exact ih
      · simp only [List.foldlM_cons, if_true, Sem.run_bind, Builtin.max2, Sem.run_pure, Result.andThen_ok] at ih ⊢
        exact ih
    · cases h
theorem op_min (isMax : Bool) {cl : Call} {xs : List Slot} (ho : o.op = .call cl) (hc : cl.callee = .builtin (if isMax then .max else .min)) (c : Ctx E ti ψ sl bl U nx a w o.dst) (hl : xs.length = cl.args.size)
    (hX : ∀ (i : Nat) (s : Slot) (v : Value), xs[i]? = some s → (cl.args.map a.eval)[i]? = some v → SlotRep w (okS E bl ψ w) ψ bl a.tmps s v) (h : (ptMin isMax xs).All E.P E.gt R) : o.wp E.P a w (Next E sl bl U nx o.dst R) Q := by
  unfold ptMin at h
  split at h
  · rename_i k m r
    split at h
    · rename_i n hf
      obtain ⟨v0, vs, hvs⟩ : ∃ v0 vs, (cl.args.map a.eval).toList = v0 :: vs := by
        match hh : (cl.args.map a.eval).toList with
        | [] => have := congrArg List.length hh; simp at this; rw [this] at hl; simp at hl
        | v0 :: vs => exact ⟨v0, vs, rfl⟩
      have hget : ∀ i : Nat, (cl.args.map a.eval)[i]? = (v0 :: vs)[i]? := fun i => by rw [← hvs]; simp
      have h0 := Rep.int_inv (w := w) (show Rep w (okS E bl ψ w) v0 (.int k m) from hX 0 _ v0 rfl (by rw [hget]; rfl))
      subst h0
      have hlen : r.length = vs.length := by
        have := congrArg List.length hvs
        simp at this hl
        omega
      have hrun := fold_run (P := E.P) w isMax k r vs m n hlen (fun i s v h1 h2 => hX (i + 1) s v (by simpa using h1) (by rw [hget]; simpa using h2)) hf
      refine wp_val (v := .int k n) ?_ (c.data h (.int _ _))
      have hvs' : List.map a.eval cl.args.toList = .int k m :: vs := by rw [← hvs]; simp
      cases isMax
      · simp only [Bool.false_eq_true, if_false] at hc hrun
        simp [execOp, ho, resolve, hc, invoke, builtin, Builtin.min_, hvs', hrun]
      · simp only [if_true] at hc hrun
        simp [execOp, ho, resolve, hc, invoke, builtin, Builtin.max_, hvs', hrun]
    · exact h.elim
  · exact h.elim
end
end Go.Eng
set_option linter.unusedVariables false
set_option linter.unusedSimpArgs false
namespace Go.Eng
open Go.RowKit
section
variable {E : Env} {ti : TypeId → Option TI} {ψ ψ' : Nat → Value} {sl : Nat → Slot} {bl bl' bl0 : Blks} {U : Nat → Prop} {nx : Nat} {a : Act} {w w' : World} {dst : Option Nat} {o : Oper} {R : Patch → Prop} {Q : Exit → Act → World → Prop}
theorem setB_append (bl : Blks) (q p : Pch) : setB bl (q ++ p) = setB (setB bl p) q := by
  funext n
  unfold setB
  rw [List.find?_append]
  cases q.find? (fun x => Nat.beq n x.1) <;> rfl
theorem setB_cons (bl : Blks) (x : Nat × Option Blk) (p : Pch) (n : Nat) : setB bl (x :: p) n = if n = x.1 then x.2 else setB bl p n := by
  unfold setB
  simp only [List.find?]
  by_cases h : n = x.1
  · simp [h]
  · have : Nat.beq n x.1 = false := by rw [Bool.eq_false_iff]; exact fun e => h (Nat.eq_of_beq_eq_true e)
    simp [this, h]
theorem SimP.blk_lt (h : SimP E ψ sl bl U a w) {nm : Nat} {k : Blk} (hk : bl nm = some k) (hl : k.live = true) {b : Nat} (hb : ptrBlock (ψ nm) = some b) : E.w0.heap.size ≤ b ∧ b < w.heap.size := by
  have hr := h.blks nm k hk
  cases k with
  | box cs =>
    obtain ⟨b', vs, t, h1, h2, h3, _⟩ := hr
    rw [h1] at hb
    injection hb with hb
    subst hb
    exact ⟨h2, (Array.getElem?_eq_some_iff.1 h3).1⟩
  | vec e rows =>
    obtain ⟨xs, h1, h2, _⟩ := hr
    rcases h2.2 with ⟨hv, _⟩ | ⟨g, cap, cur, hv, hbg, hg, _⟩
    · rw [hv] at hb; cases hb
    · rw [hv] at hb
      injection hb with hb
      subst hb
      exact ⟨hbg, (Array.getElem?_eq_some_iff.1 hg).1⟩
  | fro rows => cases hl
  | frob cs => cases hl
structure Step (ψ ψ' : Nat → Value) (bl bl' : Blks) (U : Nat → Prop) (nx : Nat) (sp : Option Nat) (w w' : World) : Prop where
  os : w'.os = w.os
  tape : w'.tape = w.tape
  output : w'.output = w.output
  size : w.heap.size ≤ w'.heap.size
  heap : ∀ b, b < w.heap.size → (∀ m, sp = some m → ptrBlock (ψ m) ≠ some b) → w'.heap[b]? = w.heap[b]?
  spl : ∀ m, sp = some m → ∃ k, bl m = some k ∧ k.live = true
  psi : ∀ nm, U nm → ψ' nm = ψ nm
  old : ∀ nm k, U nm → bl' nm = some k → (bl nm = some k ∧ sp ≠ some nm) ∨ (sp = some nm ∧ k.live = true)
  new : ∀ nm k, ¬ U nm → bl' nm = some k → k.live = true ∧ (nx ≤ nm ∧ nm < nx + 8) ∧ ∀ b, ptrBlock (ψ' nm) = some b → (w.heap.size ≤ b ∧ b < w'.heap.size) ∨ (∃ m, sp = some m ∧ bl' m = none ∧ ptrBlock (ψ m) = some b)
  apart : ∀ nm nm' k k', ¬ U nm → ¬ U nm' → bl' nm = some k → bl' nm' = some k' → nm ≠ nm' → ptrBlock (ψ' nm) = none ∨ ptrBlock (ψ' nm) ≠ ptrBlock (ψ' nm')
theorem Step.below {sp : Option Nat} (st : Step ψ ψ' bl bl' U nx sp w w') (h : SimP E ψ sl bl U a w) : Below E.w0.heap.size w w' := by
  refine ⟨st.os, st.tape, st.output, st.size, fun b hb => st.heap b (Nat.lt_of_lt_of_le hb h.below.size) (fun m hm e => ?_)⟩
  obtain ⟨k, hk, hl⟩ := st.spl m hm
  have := (h.blk_lt hk hl e).1
  omega
theorem Step.keeps {sp : Option Nat} (st : Step ψ ψ' bl bl' U nx sp w w') (h : SimP E ψ sl bl U a w) : Keeps E ψ ψ' bl bl' U w w' := by
  refine ⟨fun b hb => st.heap b hb.2.1 (fun m hm e => ?_), fun b hb => ⟨hb.1, Nat.lt_of_lt_of_le hb.2.1 st.size, fun nm k hk hl e => ?_⟩, fun nm hn hs => ⟨?_, st.psi nm hn⟩⟩
  · obtain ⟨k, hk, hl⟩ := st.spl m hm
    exact hb.2.2 m k hk hl e
  · rcases Classical.em (U nm) with hn | hn
    · rw [st.psi nm hn] at e
      rcases st.old nm k hn hk with ⟨h1, _⟩ | ⟨h1, _⟩
      · exact hb.2.2 nm k h1 hl e
      · obtain ⟨k', hk', hl'⟩ := st.spl nm h1
        exact hb.2.2 nm k' hk' hl' e
    · rcases (st.new nm k hn hk).2.2 b e with ⟨h1, _⟩ | ⟨m, h1, _, h2⟩
      · have := hb.2.1; omega
      · obtain ⟨k', hk', hl'⟩ := st.spl m h1
        exact hb.2.2 m k' hk' hl' h2
  · obtain ⟨k, hk⟩ := Option.isSome_iff_exists.1 hs
    rcases st.old nm k hn hk with ⟨h1, _⟩ | ⟨h1, _⟩
    · rw [h1]; rfl
    · obtain ⟨k', hk', _⟩ := st.spl nm h1
      rw [hk']; rfl
theorem Step.sim {sp : Option Nat} (st : Step ψ ψ' bl bl' U nx sp w w') (h : SimP E ψ sl bl U a w) {v : Value} {s : Slot}
    (hblk : ∀ nm k, bl' nm = some k → (¬ U nm ∨ sp = some nm) → BlkRep E w' (okS E bl' ψ' w') ψ' bl' nm k)
    (hrefs : ∀ m ∈ refsS s, Un U nx m)
    (hbr : ∀ nm cs, (¬ U nm ∨ sp = some nm) → bl' nm = some (.box cs) → ∀ r ∈ cs, ∀ m ∈ refsR r, Un U nx m) (hgg : ∀ l s', s ≠ .gval l s')
    (hmen : ∀ d, dst = some d → ∀ i l s', sl i = .gval l s' → ∀ x ∈ l, x.1 ≠ d) (hds : ∀ d, dst = some d → d < E.n)
    (hs : SlotRep w' (okS E bl' ψ' w') ψ' bl' a.tmps s v) : SimP E ψ' (setS sl dst s) bl' (Un U nx) (a.put dst v) w' := by
  have hlive : ∀ nm k, U nm → bl' nm = some k → k.live = true → ∃ k', bl nm = some k' ∧ k'.live = true := by
    intro nm k hn hk hl
    rcases st.old nm k hn hk with ⟨h1, _⟩ | ⟨h1, _⟩
    · exact ⟨k, h1, hl⟩
    · exact st.spl nm h1
  have cross : ∀ nm nm' k k' b, U nm → ¬ U nm' → bl' nm = some k → bl' nm' = some k' → k.live = true → ptrBlock (ψ' nm) = some b → ptrBlock (ψ' nm') ≠ some b := by
    intro nm nm' k k' b hn hn' hk hk' hl hb hb'
    rw [st.psi nm hn] at hb
    obtain ⟨k1, h1, l1⟩ := hlive nm k hn hk hl
    have hlt := (h.blk_lt h1 l1 hb).2
    rcases (st.new nm' k' hn' hk').2.2 b hb' with ⟨h2, _⟩ | ⟨m, h2, h3, h4⟩
    · omega
    · obtain ⟨k2, h5, l5⟩ := st.spl m h2
      have hne : nm ≠ m := fun e => by rw [e, h3] at hk; cases hk
      rcases h.apart nm m k1 k2 h1 h5 l1 l5 hne with h6 | h6
      · rw [h6] at hb; cases hb
      · rw [hb, h4] at h6; exact h6 rfl
  refine h.next (Un.old (U := U) (nx := nx)) (st.keeps h) (st.below h) (fun nm k hk => ?_) (fun nm nm' k k' hk hk' hl hl' hne => ?_) (fun nm hn => ?_) hrefs (fun nm cs hk r hr m hm => ?_) (fun l l' s' => hgg l _) hmen hds (hs.tm hgg)
  · rcases Classical.em (U nm) with hn | hn
    · rcases st.old nm k hn hk with ⟨h1, h2⟩ | ⟨h1, _⟩
      · refine .inl ⟨hn, h1, fun b hl hb => ?_⟩
        refine st.heap b (h.blk_lt h1 hl hb).2 (fun m hm e => ?_)
        obtain ⟨k2, h5, l5⟩ := st.spl m hm
        rcases h.apart nm m k k2 h1 h5 hl l5 (fun e => h2 (by rw [e, hm])) with h6 | h6
        · rw [h6] at hb; cases hb
        · rw [hb, e] at h6; exact h6 rfl
      · exact .inr (hblk nm k hk (.inr h1))
    · exact .inr (hblk nm k hk (.inl hn))
  · rcases Classical.em (U nm) with hn | hn <;> rcases Classical.em (U nm') with hn' | hn'
    · obtain ⟨k1, h1, l1⟩ := hlive nm k hn hk hl
      obtain ⟨k2, h2, l2⟩ := hlive nm' k' hn' hk' hl'
      rw [st.psi nm hn, st.psi nm' hn']
      exact h.apart nm nm' k1 k2 h1 h2 l1 l2 hne
    · cases hb : ptrBlock (ψ' nm) with
      | none => exact .inl rfl
      | some b => exact .inr (fun e => cross nm nm' k k' b hn hn' hk hk' hl hb e.symm)
    · cases hb : ptrBlock (ψ' nm) with
      | none => exact .inl rfl
      | some b => exact .inr (fun e => cross nm' nm k' k b hn' hn hk' hk hl' e.symm hb)
    · exact st.apart nm nm' k k' hn hn' hk hk' hne
  · cases hk : bl' nm with
    | none => rfl
    | some k => exact absurd (Or.inr (st.new nm k (fun e => hn (.inl e)) hk).2.1) hn
  · rcases Classical.em (U nm) with hn | hn
    · rcases st.old nm _ hn hk with ⟨h1, _⟩ | ⟨h1, _⟩
      · exact .inl (h.brefs nm cs h1 r hr m hm)
      · exact hbr nm cs (.inr h1) hk r hr m hm
    · exact hbr nm cs (.inl hn) hk r hr m hm
theorem Step.alloc (h : SimP E ψ sl bl U a w) (hf : ¬ U nx) (k : Blk) (hl : k.live = true) (v : Value) (hv : ∀ b, ptrBlock v = some b → b = w.heap.size) (ob : Obj) :
    Step ψ (fun n => if n = nx then v else ψ n) bl (setB bl [(nx, some k)]) U nx none w (w.alloc ob) := by
  have hb : ∀ n, setB bl [(nx, some k)] n = if n = nx then some k else bl n := fun n => by rw [setB_cons]; rfl
  refine ⟨rfl, rfl, rfl, by simp, fun b hb _ => Below.heap_alloc w _ b hb, fun m e => (by cases e), fun nm hn => if_neg (by intro e; exact hf (e ▸ hn)), fun nm k' hn hk => ?_, fun nm k' hn hk => ?_, fun nm nm' k1 k2 hn hn' hk hk' hne => ?_⟩
  · rw [hb, if_neg (by intro e; exact hf (e ▸ hn))] at hk
    exact .inl ⟨hk, by simp⟩
  · rw [hb] at hk
    split at hk
    · rename_i e
      subst e
      injection hk with hk
      subst hk
      refine ⟨hl, ⟨Nat.le_refl _, by omega⟩, fun b hb => .inl ?_⟩
      rw [if_pos rfl] at hb
      rw [hv b hb]
      simp
    · rw [h.names nm hn] at hk; cases hk
  · rw [hb] at hk hk'
    split at hk
    · split at hk'
      · omega
      · rw [h.names nm' hn'] at hk'; cases hk'
    · rw [h.names nm hn] at hk; cases hk
theorem Ctx.newBox (c : Ctx E ti ψ sl bl U nx a w dst) {cs : List RV} {vs : Array Value} {t : TypeId} (hl : vs.size = cs.length) (hc : ∀ (j : Nat) (r : RV), cs[j]? = some r → RVRep w (okS E bl ψ w) ψ bl r (vs.getD j undef) ∧ (∀ d, r = .val d → d.isCell = true))
    (hr : ∀ r ∈ cs, ∀ m ∈ refsR r, U m) (hR : R ⟨.box nx 0, [(nx, some (.box cs))]⟩) :
    Next E sl bl U nx dst R (a.put dst (.pointer (some ⟨w.heap.size, 0, none⟩))) (w.alloc (.cells vs t)) := by
  have st := Step.alloc c.sim (c.fresh nx (Nat.le_refl _) (by omega)) (.box cs) rfl (.pointer (some ⟨w.heap.size, 0, none⟩)) (fun b h => by injection h with h; exact h.symm) (.cells vs t)
  have hk := st.keeps c.sim
  refine ⟨_, hR, ⟨_, st.sim c.sim (fun nm k hk' hn => ?_) (fun m hm => ?_) (fun nm cs' hn hb r hr' m hm => ?_) (by simp) c.hmen c.hds ?_⟩, by simp⟩
  · rcases hn with hn | hn
    · rw [setB_cons] at hk'
      split at hk'
      · rename_i e
        subst e
        injection hk' with hk'
        subst hk'
        refine ⟨w.heap.size, vs, t, by simp [ptrBlock], c.sim.below.size, heap_alloc_new w _, hl, fun j r hj => ⟨hk.rv (hr r (List.mem_of_getElem? hj)) (hc j r hj).1, (hc j r hj).2⟩⟩
      · rw [setB_nil, c.sim.names nm hn] at hk'; cases hk'
    · cases hn
  · simp [refsS] at hm; exact .inr ⟨by omega, by omega⟩
  · rcases hn with hn | hn
    · rw [setB_cons] at hb
      split at hb
      · injection hb with hb
        injection hb with hb
        subst hb
        exact .inl (hr r hr' m hm)
      · rw [setB_nil, c.sim.names nm hn] at hb; cases hb
    · cases hn
  · intro _
    exact ⟨w.heap.size, by simp, rfl⟩
theorem zeroRV_rep {ok : Nat → Prop} (v : Value) : RVRep w ok ψ bl (zeroRV v) v ∧ (∀ d, zeroRV v = .val d → d.isCell = true) ∧ refsR (zeroRV v) = [] := by
  unfold zeroRV
  split
  · exact ⟨.int _ _, by rintro d ⟨⟩; rfl, rfl⟩
  · exact ⟨.bool _, by rintro d ⟨⟩; rfl, rfl⟩
  · split
    · rename_i s h
      exact ⟨.str _ (by omega), by rintro d ⟨⟩; rfl, rfl⟩
    · exact ⟨trivial, by rintro d ⟨⟩, rfl⟩
  · exact ⟨rfl, by rintro d ⟨⟩, rfl⟩
  · exact ⟨trivial, by rintro d ⟨⟩, rfl⟩
theorem op_alloc (hE : ∀ t i, ti t = some i → tiOf E.P t = some i) {t : TypeId} (ho : o.op = .alloc t) (c : Ctx E ti ψ sl bl U nx a w o.dst)
    (h : (ptAlloc ti nx t).All E.P E.gt R) : o.wp E.P a w (Next E sl bl U nx o.dst R) Q := by
  unfold ptAlloc at h
  split at h
  · rename_i i hi
    obtain ⟨info, z, d0, g1, g2, g3, g4, g5, g6, g7, _⟩ := ti_info hE hi
    rw [g7] at h
    have hn := c.newBox (R := R) (vs := z.cells) (t := t) (by simp) (fun j r hj => ?_) (fun r hr m hm => ?_) h
    · unfold Oper.wp
      simp [execOp, ho, Instr.alloc, zeroValue, typeInfo, g1, g3, newVar, newRow]
      exact hn
    · rw [List.getElem?_map] at hj
      obtain ⟨v, hv, rfl⟩ := Option.map_eq_some_iff.1 hj
      have hv' : z.cells.getD j undef = v := by
        rw [Array.getElem?_toList] at hv
        simp [Array.getD_eq_getD_getElem?, hv]
      rw [hv']
      exact ⟨(zeroRV_rep v).1, (zeroRV_rep (w := w) (ψ := ψ) (bl := bl) (ok := fun _ => True) v).2.1⟩
    · obtain ⟨v, _, rfl⟩ := List.mem_map.1 hr
      rw [(zeroRV_rep (w := w) (ψ := ψ) (bl := bl) (ok := fun _ => True) v).2.2] at hm
      cases hm
  · exact h.elim
theorem slice_own {r : RV} {m : Nat} {k : Blk} {v : Value} (h : SimP E ψ sl bl U a w) (hk : bl m = some k) (hb : (∃ e rows, k = .vec e rows) ∨ ∃ rows, k = .fro rows) : ∃ A n c, ψ m = .slice A n c := by
  have hr := h.blks m k hk
  rcases hb with ⟨e, rows, rfl⟩ | ⟨rows, rfl⟩
  · obtain ⟨xs, h1, h2, _⟩ := hr
    rcases h2.2 with ⟨hv, _⟩ | ⟨g, cap, cur, hv, _⟩
    · exact ⟨_, _, _, hv⟩
    · exact ⟨_, _, _, hv⟩
  · have hr : Rep w _ (ψ m) (.slice rows) := hr
    generalize ψ m = v at hr
    cases hr; exact ⟨_, _, _, rfl⟩
theorem rvCells_spec (c : SimP E ψ sl bl U a w) (hsub : Sub bl0 bl) {r : RV} {v : Value} {cs : List RV} (h : rvCells bl0 r = some cs) (hr : RVRep w (okS E bl ψ w) ψ bl r v) :
    v.cells.size = cs.length ∧ (∀ (j : Nat) (r' : RV), cs[j]? = some r' → RVRep w (okS E bl ψ w) ψ bl r' (v.cells.getD j undef) ∧ (∀ d, r' = .val d → d.isCell = true)) ∧ (∀ r' ∈ cs, refsR r' = refsR r) ∧ ∀ u ∈ v.cells, u.oneCell' = true := by
  have one : ∀ r0 : RV, (∀ d, r0 ≠ .val d) → (∃ A n c, v = .slice A n c) → RVRep w (okS E bl ψ w) ψ bl r0 v →
      v.cells.size = [r0].length ∧ (∀ (j : Nat) (r' : RV), [r0][j]? = some r' → RVRep w (okS E bl ψ w) ψ bl r' (v.cells.getD j undef) ∧ (∀ d, r' = .val d → d.isCell = true)) ∧ (∀ r' ∈ [r0], refsR r' = refsR r0) ∧ ∀ u ∈ v.cells, u.oneCell' = true := by
    rintro r0 h0 ⟨A, n, cc, rfl⟩ hr
    refine ⟨rfl, fun j r' hj => ?_, fun r' hr' => by simp at hr'; rw [hr'], fun u hu => ?_⟩
    · cases j with
      | zero =>
        simp at hj
        subst hj
        exact ⟨hr, fun d e => absurd e (h0 d)⟩
      | succ j => simp at hj
    · simp [Value.cells] at hu
      subst hu; rfl
  unfold rvCells at h
  split at h
  · rename_i d
    injection h with h
    subst h
    have hr : Rep w _ v d := hr
    obtain ⟨h1, h2, h3⟩ := hr.cells
    refine ⟨by simpa using h1, fun j r' hj => ?_, fun r' hr' => ?_, fun u hu => ?_⟩
    · rw [List.getElem?_map] at hj
      obtain ⟨e, he, rfl⟩ := Option.map_eq_some_iff.1 hj
      exact ⟨h3 j e he, fun d' hd' => by injection hd' with hd'; subst hd'; exact h2 _ (List.mem_of_getElem? he)⟩
    · obtain ⟨e, he, rfl⟩ := List.mem_map.1 hr'
      rfl
    · obtain ⟨j, hj, rfl⟩ := Array.mem_iff_getElem.1 hu
      have hjl : j < d.cells.length := by omega
      have := h3 j _ (List.getElem?_eq_getElem hjl)
      have e : v.cells.getD j undef = v.cells[j] := by simp [Array.getD_eq_getD_getElem?, hj]
      rw [e] at this
      exact (this.one (h2 _ (List.getElem_mem hjl))).2
  · rename_i m
    split at h
    · rename_i e rows hb
      injection h with h
      subst h
      obtain ⟨A, n, cc, hψ⟩ := slice_own (r := .nils) (v := undef) c (hsub _ _ hb) (.inl ⟨_, _, rfl⟩)
      exact one (.own m) (by simp) ⟨A, n, cc, (hr (name_some (hsub _ _ hb))).trans hψ⟩ hr
    · rename_i rows hb
      injection h with h
      subst h
      obtain ⟨A, n, cc, hψ⟩ := slice_own (r := .nils) (v := undef) c (hsub _ _ hb) (.inr ⟨_, rfl⟩)
      exact one (.own m) (by simp) ⟨A, n, cc, (hr (name_some (hsub _ _ hb))).trans hψ⟩ hr
    · cases h
  · injection h with h
    subst h
    exact one .nils (by simp) ⟨_, _, _, hr⟩ hr
  · cases h
theorem op_box (hE : ∀ t i, ti t = some i → tiOf E.P t = some i) (hsub : Sub bl0 bl) {t : TypeId} {x : Operand} {X : Slot} (ho : o.op = .box t x) (c : Ctx E ti ψ sl bl U nx a w o.dst) (hX : SlotRep w (okS E bl ψ w) ψ bl a.tmps X (a.eval x)) (hrf : ∀ m ∈ refsS X, U m)
    (h : (ptBoxOp ti bl0 nx t X).All E.P E.gt R) : o.wp E.P a w (Next E sl bl U nx o.dst R) Q := by
  unfold ptBoxOp at h
  cases hi : ti t with
  | none => simp only [hi, PT.All] at h
  | some i =>
    cases X with
    | rv r =>
      simp only [hi] at h
      split at h
      · rename_i cs hcs
        split at h
        · rename_i hb
          obtain ⟨h1, h2, h3, _⟩ := rvCells_spec c.sim hsub hcs (v := a.eval x) hX
          have hn := c.newBox (R := R) (t := t) h1 h2 (fun r' hr' m hm => hrf m (by rw [h3 r' hr'] at hm; exact hm)) h
          unfold Oper.wp
          simp [execOp, ho, Instr.box, newVar, newRow]
          exact hn
        · exact h.elim
      · exact h.elim
    | _ => simp only [hi, PT.All] at h
end
end Go.Eng
set_option linter.unusedVariables false
set_option linter.unusedSimpArgs false
namespace Go.Eng
open Go.RowKit
section
variable {E : Env} {ti : TypeId → Option TI} {ψ ψ' : Nat → Value} {sl : Nat → Slot} {bl bl' bl0 : Blks} {U : Nat → Prop} {nx : Nat} {a : Act} {w w' : World} {dst : Option Nat} {o : Oper} {R : Patch → Prop} {Q : Exit → Act → World → Prop}
theorem splice_get {α : Type} {cs new : List α} {off : Nat} (h : off + new.length ≤ cs.length) (j : Nat) : (cs.take off ++ new ++ cs.drop (off + new.length))[j]? = if j < off then cs[j]? else if j < off + new.length then new[j - off]? else cs[j]? := by
  have h1 : (cs.take off).length = off := by simp; omega
  by_cases hj : j < off
  · rw [if_pos hj, List.append_assoc, List.getElem?_append_left (by omega), List.getElem?_take, if_pos hj]
  · rw [if_neg hj, List.append_assoc, List.getElem?_append_right (by omega), h1]
    by_cases hk : j < off + new.length
    · rw [if_pos hk, List.getElem?_append_left (by omega)]
    · rw [if_neg hk, List.getElem?_append_right (by omega), List.getElem?_drop]
      congr 1
      omega
theorem splice_len {α : Type} {cs new : List α} {off : Nat} (h : off + new.length ≤ cs.length) : (cs.take off ++ new ++ cs.drop (off + new.length)).length = cs.length := by
  simp; omega
theorem splice_spec {α : Type} {cs new cs' : List α} {off : Nat} (h : splice cs off new = some cs') : off + new.length ≤ cs.length ∧ cs' = cs.take off ++ new ++ cs.drop (off + new.length) := by
  unfold splice at h
  split at h
  · rename_i hb
    injection h with h
    exact ⟨Nat.le_of_ble_eq_true hb, h.symm⟩
  · cases h
theorem arr_getD {l : List Value} {j : Nat} : l.toArray.getD j undef = l[j]?.getD undef := by
  simp [Array.getD_eq_getD_getElem?]
theorem run_storeVar_at {P : Program} {t ct : TypeId} {info : TypeInfo} (hi : P.info? t = some info) {b off : Nat} {cur : Array Value} {v : Value} (hg : w.heap[b]? = some (.cells cur ct (0, 0))) (hs : v.cells.size = info.size) (hl : off + v.cells.size ≤ cur.size) (h1 : ∀ u ∈ v.cells, u.oneCell' = true) :
    (Instr.storeAt t (.pointer (some ⟨b, off, none⟩)) v).run P w = .ok () (w.setRow b (cur.toList.take off ++ v.cells.toList ++ cur.toList.drop (off + v.cells.toList.length)).toArray) := by
  have hr := run_storeCells_at (P := P) b off ct v.cells.toList 0 cur w hg (by simpa using hl) (by simpa using h1)
  simp only [Nat.add_zero] at hr
  have hs' : (Instr.sureAddr (.pointer (some ⟨b, off, none⟩))).run P w = .ok ⟨b, off, none⟩ w := by simp [Instr.sureAddr]
  have hns : ¬ (v.cells.size ≠ info.size) := fun h => h hs
  simp only [Instr.storeAt, storeVar, Sem.run_bind, hs', Result.andThen_ok, run_size hi, hns, if_false, hr, ite_false]
theorem Step.write (h : SimP E ψ sl bl U a w) {n : Nat} {k k' : Blk} (hk : bl n = some k) (hl : k.live = true) (hl' : k'.live = true) {b : Nat} (hb : ptrBlock (ψ n) = some b) (cs : Array Value) :
    Step ψ ψ bl (setB bl [(n, some k')]) U nx (some n) w (w.setRow b cs) := by
  have hn := h.name_lt hk
  have hB : ∀ m, setB bl [(n, some k')] m = if m = n then some k' else bl m := fun m => by rw [setB_cons]; rfl
  refine ⟨rfl, rfl, rfl, by simp, fun b' hb' hne => setRow_other w b b' cs (fun e => hne n rfl (by rw [hb, e])), fun m e => ?_, fun _ _ => rfl, fun m k1 hm hk1 => ?_, fun m k1 hm hk1 => ?_, fun m m' k1 k2 hm hm' hk1 hk2 hne => ?_⟩
  · injection e with e
    subst e
    exact ⟨k, hk, hl⟩
  · rw [hB] at hk1
    split at hk1
    · rename_i e
      injection hk1 with hk1
      subst hk1 e
      exact .inr ⟨rfl, hl'⟩
    · rename_i hne
      exact .inl ⟨hk1, fun e => hne (by injection e with e; exact e.symm)⟩
  · rw [hB, if_neg (by intro e; exact hm (e ▸ hn)), h.names m hm] at hk1; cases hk1
  · rw [hB, if_neg (by intro e; exact hm (e ▸ hn)), h.names m hm] at hk1; cases hk1
theorem op_store (hE : ∀ t i, ti t = some i → tiOf E.P t = some i) (hsub : Sub bl0 bl) {t : TypeId} {x y : Operand} {X Y : Slot} (ho : o.op = .store t x y) (c : Ctx E ti ψ sl bl U nx a w o.dst) (hX : SlotRep w (okS E bl ψ w) ψ bl a.tmps X (a.eval x)) (hY : SlotRep w (okS E bl ψ w) ψ bl a.tmps Y (a.eval y))
    (hrY : ∀ m ∈ refsS Y, U m) (h : (ptStore ti bl0 t X Y).All E.P E.gt R) : o.wp E.P a w (Next E sl bl U nx o.dst R) Q := by
  unfold ptStore at h
  cases hti : ti t with
  | none => simp only [hti, PT.All] at h
  | some i =>
    obtain ⟨info, z, d0, g1, g2, g3, g4, g5, _⟩ := ti_info hE hti
    simp only [hti] at h
    cases X with
    | box n off =>
      cases Y with
      | rv r =>
        simp only at h
        split at h
        · rename_i cs new hb hnew
          split at h
          · rename_i cs' hlen hsp
            have hb := hsub _ _ hb
            obtain ⟨r1, r2, r3, r4⟩ := rvCells_spec c.sim hsub hnew (v := a.eval y) hY
            obtain ⟨b, vs, ct, b1, b2, b3, b4, b5⟩ := c.sim.blks n _ hb
            obtain ⟨b', e1, e2⟩ := hX (name_some hb)
            rw [b1] at e1
            injection e1 with e1
            injection e1 with e1
            injection e1 with e1
            subst e1
            obtain ⟨s1, rfl⟩ := splice_spec hsp
            have hbeq := Nat.eq_of_beq_eq_true hlen
            have hrun := run_storeVar_at (P := E.P) (off := off) (v := a.eval y) g1 b3 (by rw [r1, hbeq, g5]) (by rw [r1, b4]; omega) r4
            have hst := Step.write (nx := nx) c.sim (k' := .box (cs.take off ++ new ++ cs.drop (off + new.length))) hb rfl rfl (b := b) (by rw [b1]; rfl) (vs.toList.take off ++ (a.eval y).cells.toList ++ vs.toList.drop (off + (a.eval y).cells.toList.length)).toArray
            have hkp := hst.keeps c.sim
            refine wp_skipv (w' := _) ?_ ⟨_, h, ⟨_, hst.sim c.sim (fun nm k hk hn => ?_) (fun m hm => (by cases hm)) (fun nm cs1 hn hk r' hr' m hm => ?_) (by simp) c.hmen c.hds trivial⟩, by simp⟩
            · simp [execOp, ho, e2, hrun]
            · rcases hn with hn | hn
              · rw [setB_cons] at hk
                split at hk
                · rename_i he; exact absurd (c.sim.name_lt hb) (by simp only at he; rw [← he]; exact hn)
                · rw [setB_nil, c.sim.names nm hn] at hk; cases hk
              · injection hn with hn
                subst hn
                rw [setB_cons, if_pos rfl] at hk
                injection hk with hk
                subst hk
                have hl2 : (a.eval y).cells.toList.length = new.length := by simpa using r1
                have hvl : off + (a.eval y).cells.toList.length ≤ vs.toList.length := by rw [hl2]; simp; omega
                refine ⟨b, _, ct, b1, b2, setRow_heap w b vs _ ct (0, 0) b3, ?_, fun j r' hj => ?_⟩
                · simp only [List.size_toArray]
                  rw [splice_len hvl, splice_len s1]
                  simpa using b4
                · rw [arr_getD, splice_get hvl j]
                  rw [splice_get s1, ← hl2] at hj
                  split at hj
                  · rename_i hlt
                    rw [if_pos hlt]
                    have := b5 j r' hj
                    refine ⟨hkp.rv (c.sim.brefs n cs hb r' (List.mem_of_getElem? hj)) ?_, this.2⟩
                    simpa [Array.getD_eq_getD_getElem?] using this.1
                  · rename_i hlt
                    rw [if_neg hlt]
                    split at hj
                    · rename_i hlt2
                      rw [if_pos hlt2]
                      have := r2 (j - off) r' hj
                      refine ⟨hkp.rv (fun m hm => hrY m (by rw [r3 r' (List.mem_of_getElem? hj)] at hm; exact hm)) ?_, this.2⟩
                      simpa [Array.getD_eq_getD_getElem?] using this.1
                    · rename_i hlt2
                      rw [if_neg hlt2]
                      have := b5 j r' hj
                      refine ⟨hkp.rv (c.sim.brefs n cs hb r' (List.mem_of_getElem? hj)) ?_, this.2⟩
                      simpa [Array.getD_eq_getD_getElem?] using this.1
            · rcases hn with hn | hn
              · rw [setB_cons] at hk
                split at hk
                · rename_i he; exact absurd (c.sim.name_lt hb) (by simp only at he; rw [← he]; exact hn)
                · rw [setB_nil, c.sim.names nm hn] at hk; cases hk
              · injection hn with hn
                subst hn
                rw [setB_cons, if_pos rfl] at hk
                injection hk with hk
                injection hk with hk
                subst hk
                rcases List.mem_append.1 hr' with hr' | hr'
                · rcases List.mem_append.1 hr' with hr' | hr'
                  · exact .inl (c.sim.brefs n cs hb r' (List.mem_of_mem_take hr') m hm)
                  · exact .inl (hrY m (by rw [r3 r' hr'] at hm; exact hm))
                · exact .inl (c.sim.brefs n cs hb r' (List.mem_of_mem_drop hr') m hm)
          · exact h.elim
        · exact h.elim
      | _ => simp only [PT.All] at h
    | vel n j sz off =>
      cases Y with
      | rv r =>
        cases r with
        | val d =>
          simp only at h
          split at h
          · rename_i e rows hb
            split at h
            · rename_i hlen
              obtain ⟨cs, hcs, h⟩ := h
              dsimp only at h
              split at h
              · rename_i cs' hsz hsp
                have hb := hsub _ _ hb
                have hY : Rep w (okS E bl ψ w) (a.eval y) d := hY
                obtain ⟨r1, r2, r3⟩ := hY.cells
                obtain ⟨xs, b1, b2, b3, b4, b5⟩ := c.sim.blks n _ hb
                obtain ⟨b, nn, cc, e1, e2⟩ := hX (name_some hb)
                rcases b2.2 with ⟨hv, _⟩ | ⟨g, cap, cur, hv, hbg, hg, hnc, hcm, hcz, htake⟩
                · rw [e1] at hv; cases hv
                rw [e1] at hv
                injection hv with hv hv2 hv3
                injection hv with hv
                injection hv with hv
                subst hv hv2 hv3
                obtain ⟨s1, rfl⟩ := splice_spec hsp
                have hsz := Nat.eq_of_beq_eq_true hsz
                have hS : cs.length = szOf E.P e := b3 cs (List.mem_of_getElem? hcs)
                have hjr := (List.getElem?_eq_some_iff.1 hcs).1
                have hj1 : (j + 1) * szOf E.P e ≤ rows.length * szOf E.P e := Nat.mul_le_mul_right _ hjr
                have hj2 : rows.length * szOf E.P e ≤ cc * szOf E.P e := Nat.mul_le_mul_right _ hnc
                rw [Nat.add_mul, Nat.one_mul] at hj1
                have hszS : sz = szOf E.P e := by omega
                subst hszS
                have hbeq := Nat.eq_of_beq_eq_true hlen
                have hl2 : (a.eval y).cells.toList.length = d.cells.length := by simpa using r1
                have hone : ∀ u ∈ (a.eval y).cells, u.oneCell' = true := by
                  intro u hu
                  obtain ⟨q, hq, rfl⟩ := Array.mem_iff_getElem.1 hu
                  have hql : q < d.cells.length := by omega
                  have h3 := r3 q _ (List.getElem?_eq_getElem hql)
                  have e : (a.eval y).cells.getD q undef = (a.eval y).cells[q] := by simp [Array.getD_eq_getD_getElem?, hq]
                  rw [e] at h3
                  exact (h3.one (r2 _ (List.getElem_mem hql))).2
                have hrun := run_storeVar_at (P := E.P) (off := j * szOf E.P e + off) (v := a.eval y) g1 hg (by rw [r1, hbeq, g5]) (by rw [r1, hcz]; omega) hone
                have hst := Step.write (nx := nx) c.sim (k' := .vec e (rows.set j (cs.take off ++ d.cells ++ cs.drop (off + d.cells.length)))) hb rfl rfl (b := b) (by rw [e1]; rfl) (cur.toList.take (j * szOf E.P e + off) ++ (a.eval y).cells.toList ++ cur.toList.drop (j * szOf E.P e + off + (a.eval y).cells.toList.length)).toArray
                have hkp := hst.keeps c.sim
                have hcl : j * szOf E.P e + off + (a.eval y).cells.toList.length ≤ cur.toList.length := by rw [hl2]; simp only [Array.length_toList, hcz]; omega
                have hxl : xs.length = rows.length * szOf E.P e := b2.1
                have hxl2 : j * szOf E.P e + off + (a.eval y).cells.toList.length ≤ xs.length := by rw [hl2, hxl]; omega
                refine wp_skipv (w' := _) ?_ ⟨_, h, ⟨_, hst.sim c.sim (fun nm k hk hn => ?_) (fun m hm => (by cases hm)) (fun nm cs1 hn hk r' hr' m hm => ?_) (by simp) c.hmen c.hds trivial⟩, by simp⟩
                · simp [execOp, ho, e2, hrun]
                · rcases hn with hn | hn
                  · rw [setB_cons] at hk
                    split at hk
                    · rename_i he; exact absurd (c.sim.name_lt hb) (by simp only at he; rw [← he]; exact hn)
                    · rw [setB_nil, c.sim.names nm hn] at hk; cases hk
                  · injection hn with hn
                    subst hn
                    rw [setB_cons, if_pos rfl] at hk
                    injection hk with hk
                    subst hk
                    refine ⟨xs.take (j * szOf E.P e + off) ++ (a.eval y).cells.toList ++ xs.drop (j * szOf E.P e + off + (a.eval y).cells.toList.length), b1, ⟨?_, .inr ⟨b, cc, _, ?_, hbg, setRow_heap w b cur _ e (0, 0) hg, ?_, hcm, ?_, ?_⟩⟩, fun r hr => ?_, fun r hr d' hd' => ?_, fun i r q d' hi hq => ?_⟩
                    · rw [splice_len hxl2, hxl]; simp
                    · rw [e1]; simp
                    · simpa using hnc
                    · simp only [List.size_toArray]
                      rw [splice_len hcl]
                      simpa using hcz
                    · apply List.ext_getElem?
                      intro q
                      simp only [List.length_set]
                      rw [List.getElem?_take, splice_get hxl2, splice_get hcl, ← htake, List.getElem?_take]
                      by_cases hq : q < rows.length * szOf E.P e
                      · simp only [if_pos hq]
                      · rw [if_neg hq, if_neg hq, if_neg (by omega), if_neg (by rw [hl2]; omega)]
                    · rcases List.mem_or_eq_of_mem_set hr with hr | rfl
                      · exact b3 r hr
                      · rw [splice_len s1, hS]
                    · rcases List.mem_or_eq_of_mem_set hr with hr | rfl
                      · exact b4 r hr d' hd'
                      · rcases List.mem_append.1 hd' with hd' | hd'
                        · rcases List.mem_append.1 hd' with hd' | hd'
                          · exact b4 cs (List.mem_of_getElem? hcs) d' (List.mem_of_mem_take hd')
                          · exact r2 d' hd'
                        · exact b4 cs (List.mem_of_getElem? hcs) d' (List.mem_of_mem_drop hd')
                    · have old : ∀ (r0 : List D), rows[i]? = some r0 → r0[q]? = some d' → (i = j → q < off ∨ off + d.cells.length ≤ q) → ∃ u, (xs.take (j * szOf E.P e + off) ++ (a.eval y).cells.toList ++ xs.drop (j * szOf E.P e + off + (a.eval y).cells.toList.length))[i * szOf E.P e + q]? = some u ∧ Rep (w.setRow b (cur.toList.take (j * szOf E.P e + off) ++ (a.eval y).cells.toList ++ cur.toList.drop (j * szOf E.P e + off + (a.eval y).cells.toList.length)).toArray) (okS E (setB bl [(n, some (.vec e (rows.set j (cs.take off ++ d.cells ++ cs.drop (off + d.cells.length)))))]) ψ (w.setRow b (cur.toList.take (j * szOf E.P e + off) ++ (a.eval y).cells.toList ++ cur.toList.drop (j * szOf E.P e + off + (a.eval y).cells.toList.length)).toArray)) u d' := by
                        intro r0 h0 hq0 hne
                        obtain ⟨u, hu1, hu2⟩ := b5 i r0 q d' h0 hq0
                        refine ⟨u, ?_, hkp.rep hu2⟩
                        have hqS : q < szOf E.P e := by rw [← b3 r0 (List.mem_of_getElem? h0)]; exact (List.getElem?_eq_some_iff.1 hq0).1
                        rw [splice_get hxl2, hl2]
                        by_cases hij : i = j
                        · subst hij
                          rcases hne rfl with h5 | h5
                          · rw [if_pos (by omega)]; exact hu1
                          · rw [if_neg (by omega), if_neg (by omega)]; exact hu1
                        · rcases Nat.lt_or_gt_of_ne hij with h5 | h5
                          · have : (i + 1) * szOf E.P e ≤ j * szOf E.P e := Nat.mul_le_mul_right _ h5
                            rw [Nat.add_mul, Nat.one_mul] at this
                            rw [if_pos (by omega)]; exact hu1
                          · have : (j + 1) * szOf E.P e ≤ i * szOf E.P e := Nat.mul_le_mul_right _ h5
                            rw [Nat.add_mul, Nat.one_mul] at this
                            rw [if_neg (by omega), if_neg (by omega)]; exact hu1
                      rw [List.getElem?_set] at hi
                      split at hi
                      · rename_i hij
                        subst hij
                        injection hi with hi
                        subst hi
                        rw [splice_get s1] at hq
                        split at hq
                        · rename_i h5
                          exact old cs hcs hq (fun _ => .inl h5)
                        · rename_i h5
                          split at hq
                          · rename_i h6
                            have h3 := r3 (q - off) d' hq
                            have hlt : q - off < (a.eval y).cells.size := by rw [r1]; exact (List.getElem?_eq_some_iff.1 hq).1
                            refine ⟨(a.eval y).cells.getD (q - off) undef, ?_, hkp.rep h3⟩
                            rw [splice_get hxl2, hl2, if_neg (by omega), if_pos (by omega), show j * szOf E.P e + q - (j * szOf E.P e + off) = q - off by omega]
                            simp [Array.getD_eq_getD_getElem?, hlt]
                          · exact old cs hcs hq (fun _ => .inr (by omega))
                      · rename_i hij
                        exact old r hi hq (fun e => absurd e.symm hij)
                · rcases hn with hn | hn
                  · rw [setB_cons] at hk
                    split at hk
                    · rename_i he; exact absurd (c.sim.name_lt hb) (by simp only at he; rw [← he]; exact hn)
                    · rw [setB_nil, c.sim.names nm hn] at hk; cases hk
                  · injection hn with hn
                    subst hn
                    rw [setB_cons, if_pos rfl] at hk
                    injection hk with hk
                    cases hk
              · exact h.elim
            · exact h.elim
          · exact h.elim
        | _ => simp only [PT.All] at h
      | _ => simp only [PT.All] at h
    | _ => cases Y <;> simp only [PT.All] at h
end
end Go.Eng
set_option linter.unusedVariables false
set_option linter.unusedSimpArgs false
namespace Go.Eng
open Go.RowKit
section
variable {E : Env} {ti : TypeId → Option TI} {ψ ψ' : Nat → Value} {sl : Nat → Slot} {bl bl' bl0 : Blks} {U : Nat → Prop} {nx : Nat} {a : Act} {w w' : World} {dst : Option Nat} {o : Oper} {R : Patch → Prop} {Q : Exit → Act → World → Prop}
theorem Step.fresh (h : SimP E ψ sl bl U a w) (hf : ¬ U nx) (k : Blk) (hl : k.live = true) (v : Value) (hg : w.grownBy w' none) (hv : ∀ b, ptrBlock v = some b → w.heap.size ≤ b ∧ b < w'.heap.size) :
    Step ψ (fun n => if n = nx then v else ψ n) bl (setB bl [(nx, some k)]) U nx none w w' := by
  have hb : ∀ n, setB bl [(nx, some k)] n = if n = nx then some k else bl n := fun n => by rw [setB_cons]; rfl
  refine ⟨hg.os, hg.tape, hg.output, hg.size, fun b hb _ => hg.block b hb (by simp), fun m e => (by cases e), fun nm hn => if_neg (by intro e; exact hf (e ▸ hn)), fun nm k' hn hk => ?_, fun nm k' hn hk => ?_, fun nm nm' k1 k2 hn hn' hk hk' hne => ?_⟩
  · rw [hb, if_neg (by intro e; exact hf (e ▸ hn))] at hk
    exact .inl ⟨hk, by simp⟩
  · rw [hb] at hk
    split at hk
    · rename_i e
      subst e
      injection hk with hk
      subst hk
      refine ⟨hl, ⟨Nat.le_refl _, by omega⟩, fun b hb => .inl ?_⟩
      rw [if_pos rfl] at hb
      exact hv b hb
    · rw [h.names nm hn] at hk; cases hk
  · rw [hb] at hk hk'
    split at hk
    · split at hk'
      · omega
      · rw [h.names nm' hn'] at hk'; cases hk'
    · rw [h.names nm hn] at hk; cases hk
theorem owns_block {base : Nat} {e : TypeId} {size n : Nat} {v : Value} {xs : List Value} (h : w.ownsRow base e size v n xs) {b : Nat} (hb : ptrBlock v = some b) : base ≤ b ∧ b < w.heap.size := by
  rcases h.2 with ⟨hv, _⟩ | ⟨g, cap, cur, hv, hbg, hg, _⟩
  · rw [hv] at hb; cases hb
  · rw [hv] at hb
    injection hb with hb
    subst hb
    exact ⟨hbg, (Array.getElem?_eq_some_iff.1 hg).1⟩
theorem SimP.newVec (h : SimP E ψ sl bl U a w) (hf : ¬ U nx) (hg : w.grownBy w' none) {e : TypeId} {rows : List (List D)} {xs : List Value} {v : Value} (hsz : 0 < szOf E.P e) (hown : w'.ownsRow E.w0.heap.size e (szOf E.P e) v rows.length xs)
    (hvb : ∀ b, ptrBlock v = some b → w.heap.size ≤ b) (hw : ∀ r ∈ rows, r.length = szOf E.P e) (hc : ∀ r ∈ rows, ∀ d ∈ r, d.isCell = true)
    (hr : ∀ (i : Nat) (r : List D) (j : Nat) (d : D), rows[i]? = some r → r[j]? = some d → ∃ u, xs[i * szOf E.P e + j]? = some u ∧ Rep w (okS E bl ψ w) u d)
    (hmen : ∀ d, dst = some d → ∀ i l s', sl i = .gval l s' → ∀ x ∈ l, x.1 ≠ d) (hds : ∀ d, dst = some d → d < E.n) :
    SimP E (fun n => if n = nx then v else ψ n) (setS sl dst (.rv (.own nx))) (setB bl [(nx, some (.vec e rows))]) (Un U nx) (a.put dst v) w' := by
  have st := Step.fresh h hf (.vec e rows) rfl v hg (fun b hb => ⟨hvb b hb, (owns_block hown hb).2⟩)
  have hk := st.keeps h
  refine st.sim h (fun nm k hk' hn => ?_) (fun m hm => ?_) (fun nm cs' hn hb r hr' m hm => ?_) (by simp) hmen hds ?_
  · rcases hn with hn | hn
    · rw [setB_cons] at hk'
      split at hk'
      · rename_i e'
        simp only at e'
        subst e'
        injection hk' with hk'
        subst hk'
        refine ⟨xs, hsz, by simpa using hown, hw, hc, fun i r j d hi hj => ?_⟩
        obtain ⟨u, h1, h2⟩ := hr i r j d hi hj
        exact ⟨u, h1, hk.rep h2⟩
      · rw [setB_nil, h.names nm hn] at hk'; cases hk'
    · cases hn
  · simp [refsS, refsR] at hm; exact .inr ⟨by omega, by omega⟩
  · rcases hn with hn | hn
    · rw [setB_cons] at hb
      split at hb
      · injection hb with hb
        cases hb
      · rw [setB_nil, h.names nm hn] at hb; cases hb
    · cases hn
  · intro _
    simp
theorem grown_refl (w : World) (r : Option Nat) : w.grownBy w r := ⟨rfl, rfl, rfl, Nat.le_refl _, fun _ _ _ => rfl⟩
theorem op_assign (hE : ∀ t i, ti t = some i → tiOf E.P t = some i) {x : Operand} {X : Slot} (ho : o.op = .assign x) (c : Ctx E ti ψ sl bl U nx a w o.dst) (hX : SlotRep w (okS E bl ψ w) ψ bl a.tmps X (a.eval x)) (hr : ∀ m ∈ refsS X, U m)
    (h : (ptAssign ti nx o.type X).All E.P E.gt R) : o.wp E.P a w (Next E sl bl U nx o.dst R) Q := by
  have plain : (∀ l s, X ≠ .gval l s) → R ⟨X, []⟩ → o.wp E.P a w (Next E sl bl U nx o.dst R) Q := fun hg h =>
    wp_val (v := a.eval x) (by simp [execOp, ho]) (c.pure h hr hg hX)
  unfold ptAssign at h
  split at h
  · split at h
    · rename_i i hi
      obtain ⟨info, z, d0, g1, g2, g3, g4, g5, _⟩ := ti_info hE hi
      split at h
      · rename_i e hk
        split at h
        · rename_i ie hie
          obtain ⟨info', z', d0', k1, k2, k3, k4, k5, _⟩ := ti_info hE hie
          split at h
          · rename_i hsz
            have hsz := Nat.le_of_ble_eq_true hsz
            have hS : szOf E.P e = ie.size := by rw [szOf_info k1, k5]
            have hv : a.eval x = .slice none 0 0 := hX
            refine wp_val (v := .slice none 0 0) (by simp [execOp, ho, hv]) ⟨_, h, ⟨_, c.sim.newVec (c.fresh nx (Nat.le_refl _) (by omega)) (v := .slice none 0 0) (xs := []) (grown_refl w none) (by omega) (World.ownsRow_nil w _ e _) (fun b hb => by cases hb) (by simp) (by simp) (fun i r j d hi => by simp at hi) c.hmen c.hds⟩, by simp⟩
          · exact h.elim
        · exact h.elim
      · exact h.elim
    · exact h.elim
  · exact h.elim
  · rename_i hng
    exact plain (fun l s e => hng l s e) h
theorem zero_rep {ok : Nat → Prop} {v : Value} {d : D} {q : Pch} (h : toD bl (zeroRV v) = some (d, q)) : Rep w ok v d ∧ q = [] := by
  unfold zeroRV at h
  split at h
  · simp [toD] at h; obtain ⟨rfl, rfl⟩ := h; exact ⟨.int _ _, rfl⟩
  · simp [toD] at h; obtain ⟨rfl, rfl⟩ := h; exact ⟨.bool _, rfl⟩
  · split at h
    · rename_i hs
      simp [toD] at h; obtain ⟨rfl, rfl⟩ := h; exact ⟨.str _ (by omega), rfl⟩
    · simp [toD] at h
  · simp [toD] at h
    obtain ⟨rfl, rfl⟩ := h
    exact ⟨.slice none 0 0 [] 0 ⟨0, 0, none⟩ (fun _ _ => undef) rfl (Nat.le_refl _) (by omega) (by simp) (by simp) (fun h => by omega) (fun i r j d hi => by simp at hi) (fun i r j d hi => by simp at hi), rfl⟩
  · simp [toD] at h
theorem zero_cells {ok : Nat → Prop} {z : Value} {ds : List D} {q : Pch} (h : cellsD bl (z.cells.toList.map zeroRV) = some (ds, q)) :
    z.cells.size = ds.length ∧ (∀ d ∈ ds, d.isCell = true) ∧ ∀ (j : Nat) (d : D), ds[j]? = some d → Rep w ok (z.cells.getD j undef) d := by
  obtain ⟨h1, h2, h3⟩ := cellsD_spec h
  refine ⟨by simp at h2; omega, h1, fun j d hj => ?_⟩
  obtain ⟨r, q', hr, hd, _⟩ := h3 j d hj
  rw [List.getElem?_map] at hr
  obtain ⟨v, hv, rfl⟩ := Option.map_eq_some_iff.1 hr
  have hv' : z.cells.getD j undef = v := by
    rw [Array.getElem?_toList] at hv
    simp [Array.getD_eq_getD_getElem?, hv]
  rw [hv']
  exact (zero_rep hd).1
theorem fold_set (off : Nat) : ∀ (l : List Value) (k : Nat) (cells : Array Value), off + k + l.length ≤ cells.size →
    ((l.zipIdx k).foldl (fun cs (c, j) => cs.setIfInBounds (off + j) c) cells).size = cells.size ∧
    ∀ j : Nat, ((l.zipIdx k).foldl (fun cs (c, j) => cs.setIfInBounds (off + j) c) cells)[j]? = if j < off + k then cells[j]? else if j < off + k + l.length then l[j - (off + k)]? else cells[j]?
  | [], k, cells, h => ⟨rfl, fun j => by
      simp only [List.zipIdx_nil, List.foldl_nil, List.length_nil, Nat.add_zero]
      by_cases hj : j < off + k <;> simp [hj]⟩
  | v :: l, k, cells, h => by
    simp only [List.zipIdx_cons, List.foldl_cons]
    simp only [List.length_cons] at h
    obtain ⟨i1, i2⟩ := fold_set off l (k + 1) (cells.setIfInBounds (off + k) v) (by simp; omega)
    refine ⟨by rw [i1]; simp, fun j => ?_⟩
    rw [i2 j]
    simp only [List.length_cons]
    by_cases h1 : j < off + k
    · rw [if_pos (by omega), if_pos h1, Array.getElem?_setIfInBounds_ne (by omega)]
    · rw [if_neg h1]
      by_cases h2 : j = off + k
      · subst h2
        rw [if_pos (by omega), if_pos (by omega), Array.getElem?_setIfInBounds_self_of_lt (by omega)]
        simp
      · rw [if_neg (by omega)]
        by_cases h3 : j < off + k + (l.length + 1)
        · rw [if_pos (by omega), if_pos h3, show j - (off + k) = (j - (off + (k + 1))) + 1 by omega]
          simp
        · rw [if_neg (by omega), if_neg h3, Array.getElem?_setIfInBounds_ne (by omega)]
theorem fillD_frz (hsub : Sub bl0 bl) (place : Nat → Option (Nat × Nat)) : ∀ (ps : List (Nat × Slot)) (cs ds : List D) (q : Pch), fillD bl0 place cs ps = some (ds, q) → Frz bl q
  | [], cs, ds, q, h => by simp [fillD] at h; rw [h.2]; exact Frz.nil
  | (i, s) :: ps, cs, ds, q, h => by
    unfold fillD at h
    split at h
    · rename_i off sz d p hpl hv
      split at h
      · split at h
        · rename_i cs' _ _ r q' hrec
          simp at h
          obtain ⟨rfl, rfl⟩ := h
          obtain ⟨rr, _, hd⟩ := valsOf_spec hsub hv
          exact (toD_frz hd).append (fillD_frz hsub place ps _ _ _ hrec)
        · cases h
      · cases h
    · cases h
theorem fill_rep (h : SimP E ψ sl bl U a w) (hsub : Sub bl0 bl) {p : Pch} (hp : Frz bl p) (place : Nat → Option (Nat × Nat)) (f : Operand → Slot) (g : Operand → Value) : ∀ (ps : List (Nat × Operand)) (cs ds : List D) (q : Pch) (vs : Array Value),
    (∀ x ∈ ps, SlotRep w (okS E bl ψ w) ψ bl a.tmps (f x.2) (g x.2)) → fillD bl0 place cs (ps.map fun x => (x.1, f x.2)) = some (ds, q) → (∀ y ∈ q, y ∈ p) →
    vs.size = cs.length → (∀ d ∈ cs, d.isCell = true) → (∀ (j : Nat) (d : D), cs[j]? = some d → Rep w (okS E (setB bl p) ψ w) (vs.getD j undef) d) →
    ∃ vs', Instr.fill place vs (ps.map fun x => (x.1, g x.2)) = some vs' ∧ vs'.size = ds.length ∧ (∀ d ∈ ds, d.isCell = true) ∧ (∀ (j : Nat) (d : D), ds[j]? = some d → Rep w (okS E (setB bl p) ψ w) (vs'.getD j undef) d) ∧ ds.length = cs.length
  | [], cs, ds, q, vs, _, hf, _, hl, hc, hr => by
    simp [fillD] at hf
    obtain ⟨rfl, rfl⟩ := hf
    exact ⟨vs, rfl, hl, hc, hr, rfl⟩
  | (i, x) :: ps, cs, ds, q, vs, hx, hf, hq, hl, hc, hr => by
    simp only [List.map_cons] at hf ⊢
    unfold fillD at hf
    split at hf
    · rename_i off sz d p' hpl hv
      split at hf
      · rename_i cs' hlen hsp
        split at hf
        · rename_i r q' hrec
          simp at hf
          obtain ⟨rfl, rfl⟩ := hf
          obtain ⟨rr, hfx, hd⟩ := valsOf_spec hsub hv
          have hxr := hx (i, x) (by simp)
          simp only at hxr
          rw [hfx] at hxr
          have hrep := h.toD hp hd (fun y hy => hq y (List.mem_append_left _ hy)) hxr
          obtain ⟨r1, r2, r3⟩ := hrep.cells
          obtain ⟨s1, rfl⟩ := splice_spec hsp
          have hlen := Nat.eq_of_beq_eq_true hlen
          obtain ⟨f1, f2⟩ := fold_set off (g x).cells.toList 0 vs (by simp; omega)
          have hz : (g x).cells.zipIdx.foldl (fun cs (c, j) => cs.setIfInBounds (off + j) c) vs = ((g x).cells.toList.zipIdx 0).foldl (fun cs (c, j) => cs.setIfInBounds (off + j) c) vs := by
            rw [← Array.foldl_toList, Array.toList_zipIdx]
          obtain ⟨vs', i1, i2, i3, i4, i5⟩ := fill_rep h hsub hp place f g ps _ _ _ (((g x).cells.toList.zipIdx 0).foldl (fun cs (c, j) => cs.setIfInBounds (off + j) c) vs) (fun y hy => hx y (List.mem_cons_of_mem _ hy)) hrec (fun y hy => hq y (List.mem_append_right _ hy))
            (by rw [f1, splice_len s1, hl]) (fun d' hd' => by
              rcases List.mem_append.1 hd' with hd' | hd'
              · rcases List.mem_append.1 hd' with hd' | hd'
                · exact hc d' (List.mem_of_mem_take hd')
                · exact r2 d' hd'
              · exact hc d' (List.mem_of_mem_drop hd')) (fun j d' hj => by
              have hlc : (g x).cells.toList.length = d.cells.length := by simpa using r1
              rw [splice_get s1] at hj
              rw [Array.getD_eq_getD_getElem?, f2 j, hlc, Nat.add_zero]
              split at hj
              · rename_i h1
                rw [if_pos h1]
                have := hr j d' hj
                rwa [Array.getD_eq_getD_getElem?] at this
              · rename_i h1
                rw [if_neg h1]
                split at hj
                · rename_i h2
                  rw [if_pos h2]
                  have := r3 _ d' hj
                  rw [Array.getD_eq_getD_getElem?] at this
                  simpa using this
                · rename_i h2
                  rw [if_neg h2]
                  have := hr j d' hj
                  rwa [Array.getD_eq_getD_getElem?] at this)
          refine ⟨vs', ?_, i2, i3, i4, by rw [i5, splice_len s1]⟩
          unfold Instr.fill
          simp only [hpl]
          rw [if_neg (by simp; omega), hz]
          exact i1
        · cases hf
      · cases hf
    · cases hf
end
end Go.Eng
set_option linter.unusedVariables false
set_option linter.unusedSimpArgs false
namespace Go.Eng
open Go.RowKit
section
variable {E : Env} {ti : TypeId → Option TI} {ψ ψ' : Nat → Value} {sl : Nat → Slot} {bl bl' bl0 : Blks} {U : Nat → Prop} {nx : Nat} {a : Act} {w w' : World} {dst : Option Nat} {o : Oper} {R : Patch → Prop} {Q : Exit → Act → World → Prop}
theorem places_some {fields : List Field} (h : ∀ f ∈ fields, (E.P.info? f.type).isSome = true) : fields.mapM (fun f => (E.P.info? f.type).map fun i => (f.offset, i.size)) = some (fields.map fun f => (f.offset, szOf E.P f.type)) := by
  induction fields with
  | nil => rfl
  | cons f fs ih =>
    obtain ⟨i, hi⟩ := Option.isSome_iff_exists.1 (h f (by simp))
    rw [List.mapM_cons, ih (fun g hg => h g (by simp [hg]))]
    simp [hi, szOf_info hi]
theorem op_build (hE : ∀ t i, ti t = some i → tiOf E.P t = some i) (hsub : Sub bl0 bl) {t : TypeId} {ps : Array (Nat × Operand)} {f : Operand → Slot} (ho : o.op = .build t ps) (c : Ctx E ti ψ sl bl U nx a w o.dst) (hX : ∀ x ∈ ps.toList, SlotRep w (okS E bl ψ w) ψ bl a.tmps (f x.2) (a.eval x.2))
    (h : (ptBuild ti bl0 t (ps.toList.map fun p => (p.1, f p.2))).All E.P E.gt R) : o.wp E.P a w (Next E sl bl U nx o.dst R) Q := by
  unfold ptBuild at h
  cases hti : ti t with
  | none => simp only [hti, PT.All] at h
  | some i =>
    obtain ⟨info, z, d0, g1, g2, g3, g4, g5, g6, g7, _⟩ := ti_info hE hti
    simp only [hti] at h
    split at h
    · rename_i zs q0 hz
      rw [g7] at hz
      obtain ⟨z1, z2, z3⟩ := zero_cells (w := w) (ok := fun _ => False) hz
      have fin : ∀ (place : Nat → Option (Nat × Nat)) ds p, fillD bl0 place zs (ps.toList.map fun p => (p.1, f p.2)) = some (ds, p) → R ⟨.rv (.val (.agg ds)), p⟩ → (∀ vs', Instr.fill place z.cells (ps.toList.map fun x => (x.1, a.eval x.2)) = some vs' → E.P.built t (ps.toList.map fun x => (x.1, a.eval x.2)) = some vs') → o.wp E.P a w (Next E sl bl U nx o.dst R) Q := by
        intro place ds p hf hR hb
        have hp := fillD_frz hsub place _ _ _ _ hf
        obtain ⟨vs', v1, v2, v3, v4, _⟩ := fill_rep c.sim hsub hp place f a.eval ps.toList zs ds p z.cells hX hf (fun y hy => hy) z1 z2 (fun j d hj => (z3 j d hj).mono (fun b hb => hb.elim) (fun b hb => hb.elim))
        have hrun := run_build (P := E.P) w t (ps.map fun x => (x.1, a.eval x.2)) vs' (by simpa using hb vs' v1)
        refine wp_val (v := .agg vs') ?_ (c.pureFrz hp hR (fun m hm => by cases hm) (by simp) (Rep.agg _ _ v2 v3 v4))
        simp [execOp, ho, hrun]
      split at h
      · rename_i fs hk
        obtain ⟨fields, hu, hfs⟩ := kind_struct (g4 ▸ hk)
        split at h
        · rename_i ds p hall hf
          refine fin _ _ _ hf h (fun vs' hv => ?_)
          have hall' : ∀ f ∈ fields.toList, (E.P.info? f.type).isSome = true := by
            intro fl hfl
            have h1 : (ti fl.type).isSome = true := by
              refine allB_mem (p := fun f => (ti f.1).isSome) hall (fl.type, fl.offset, szOf E.P fl.type) ?_
              rw [hfs]
              exact List.mem_map.2 ⟨fl, hfl, rfl⟩
            obtain ⟨ie, hie⟩ := Option.isSome_iff_exists.1 h1
            obtain ⟨info', _, _, k1, _⟩ := ti_info hE hie
            rw [k1]; rfl
          unfold Program.built
          simp only [g1, hu, g3, places_some hall']
          rw [← hv]
          congr 1
          funext j
          simp only [placeS, hfs, List.getElem?_toArray, List.getElem?_map]
          cases fields.toList[j]? <;> rfl
        · exact h.elim
      · rename_i n e hk
        have hu := kind_array (g4 ▸ hk)
        split at h
        · rename_i ie hie
          obtain ⟨info', z', d0', k1, k2, k3, k4, k5, _⟩ := ti_info hE hie
          split at h
          · rename_i ds p hf
            refine fin _ _ _ hf h (fun vs' hv => ?_)
            unfold Program.built
            simp only [g1, hu, g3, k1]
            rw [← k5]
            exact hv
          · exact h.elim
        · exact h.elim
      · exact h.elim
    · exact h.elim
theorem chunk_spec (S : Nat) (hS : 0 < S) : ∀ (n : Nat) (cs : List D), cs.length = n * S → (chunk S n cs).length = n ∧ (∀ r ∈ chunk S n cs, r.length = S ∧ ∀ d ∈ r, d ∈ cs) ∧ ∀ (i : Nat) (r : List D) (j : Nat) (d : D), (chunk S n cs)[i]? = some r → r[j]? = some d → cs[i * S + j]? = some d
  | 0, cs, h => ⟨rfl, fun r hr => (by cases hr), fun i r j d hi => by simp [chunk] at hi⟩
  | n + 1, cs, h => by
    rw [Nat.add_mul, Nat.one_mul] at h
    obtain ⟨i1, i2, i3⟩ := chunk_spec S hS n (cs.drop S) (by simp; omega)
    refine ⟨by simp [chunk, i1], fun r hr => ?_, fun i r j d hi hj => ?_⟩
    · rcases List.mem_cons.1 hr with rfl | hr
      · exact ⟨by simp; omega, fun d hd => List.mem_of_mem_take hd⟩
      · exact ⟨(i2 r hr).1, fun d hd => List.mem_of_mem_drop ((i2 r hr).2 d hd)⟩
    · cases i with
      | zero =>
        simp only [chunk, List.getElem?_cons_zero, Option.some.injEq] at hi
        subst hi
        rw [List.getElem?_take] at hj
        split at hj
        · simpa using hj
        · cases hj
      | succ i =>
        simp only [chunk, List.getElem?_cons_succ] at hi
        have := i3 i r j d hi hj
        rw [List.getElem?_drop] at this
        rw [show (i + 1) * S + j = S + (i * S + j) by rw [Nat.add_mul]; omega]
        exact this
theorem repeat_spec (z : List D) (S : Nat) (hz : z.length = S) (hS : 0 < S) : ∀ n, (repeatD z n).length = n * S ∧ (∀ d ∈ repeatD z n, d ∈ z) ∧ ∀ j d, (repeatD z n)[j]? = some d → z[j % S]? = some d
  | 0 => ⟨by simp [repeatD], fun d hd => (by cases hd), fun j d hj => by simp [repeatD] at hj⟩
  | n + 1 => by
    obtain ⟨i1, i2, i3⟩ := repeat_spec z S hz hS n
    refine ⟨by simp [repeatD, i1, hz, Nat.add_mul]; omega, fun d hd => ?_, fun j d hj => ?_⟩
    · rcases List.mem_append.1 hd with hd | hd
      · exact hd
      · exact i2 d hd
    · by_cases hlt : j < S
      · rw [repeatD, List.getElem?_append_left (by omega)] at hj
        rw [Nat.mod_eq_of_lt hlt]; exact hj
      · rw [repeatD, List.getElem?_append_right (by omega), hz] at hj
        have := i3 _ d hj
        rwa [← Nat.mod_eq_sub_mod (by omega)] at this
theorem made_get (z : Value) (n j : Nat) (hj : j < n) (hs : 0 < z.cells.size) : (madeCells z.cells n).getD j undef = z.cells.getD (j % z.cells.size) undef := by
  have : j % z.cells.size < z.cells.size := Nat.mod_lt _ hs
  simp [madeCells, Array.getD_eq_getD_getElem?, hj, this]
theorem op_buildSlice (hE : ∀ t i, ti t = some i → tiOf E.P t = some i) (hsub : Sub bl0 bl) {t : TypeId} {len : Nat} {ps : Array (Nat × Operand)} {f : Operand → Slot} (ho : o.op = .buildSlice t len ps) (c : Ctx E ti ψ sl bl U nx a w o.dst) (hX : ∀ x ∈ ps.toList, SlotRep w (okS E bl ψ w) ψ bl a.tmps (f x.2) (a.eval x.2))
    (h : (ptBuildSlice ti bl0 nx t len (ps.toList.map fun p => (p.1, f p.2))).All E.P E.gt R) : o.wp E.P a w (Next E sl bl U nx o.dst R) Q := by
  unfold ptBuildSlice at h
  cases hti : ti t with
  | none => simp only [hti, PT.All] at h
  | some i =>
    obtain ⟨info, z0, d0, g1, g2, g3, g4, g5, g6, g7, _⟩ := ti_info hE hti
    simp only [hti] at h
    split at h
    · rename_i e hk
      have hu := kind_slice (g4 ▸ hk)
      cases hie : ti e with
      | none => simp only [hie, PT.All] at h
      | some ie =>
        obtain ⟨info', z, d0', k1, k2, k3, k4, k5, k6, k7, _⟩ := ti_info hE hie
        simp only [hie] at h
        split at h
        · rename_i zs q0 hz hb1 hb2
          rw [k7] at hz
          have hb1 := Nat.le_of_ble_eq_true hb1
          have hb2 := Nat.le_of_ble_eq_true hb2
          split at h
          · rename_i ds p hzl hf
            have hzl := Nat.eq_of_beq_eq_true hzl
            obtain ⟨z1, z2, z3⟩ := zero_cells (w := w) (ok := fun _ => False) hz
            obtain ⟨p1, p2, p3⟩ := repeat_spec zs ie.size hzl (by omega) len
            have hS : szOf E.P e = ie.size := by rw [szOf_info k1, k5]
            have hp := fillD_frz hsub _ _ _ _ _ hf
            obtain ⟨vs', v1, v2, v3, v4, v5⟩ := fill_rep c.sim hsub hp _ f a.eval ps.toList (repeatD zs len) ds p (madeCells z.cells (len * ie.size)) hX hf (fun y hy => hy) (by rw [size_madeCells, p1]) (fun d hd => z2 d (p2 d hd)) (fun j d hj => by
              have hj2 := p3 j d hj
              have hjl : j < len * ie.size := by rw [← p1]; exact (List.getElem?_eq_some_iff.1 hj).1
              rw [made_get z _ j hjl (by omega), show z.cells.size = ie.size by omega]
              exact (z3 _ d hj2).mono (fun b hb => hb.elim) (fun b hb => hb.elim))
            have hrun : (Instr.buildSlice t len (ps.map fun x => (x.1, a.eval x.2))).run E.P w = .ok (.slice (some ⟨w.heap.size, 0, none⟩) len len) (w.alloc (.cells vs' e)) := by
              by_cases hpos : len * info'.size = 0
              · have hl0 : len = 0 := by
                  rcases Nat.mul_eq_zero.1 hpos with h1 | h1
                  · exact h1
                  · omega
                subst hl0
                have e1 : madeCells z.cells (0 * ie.size) = #[] := by simp [madeCells]
                rw [e1] at v1
                simp [Instr.buildSlice, run_underlying hu, sizeOf, typeInfo, k1, newRow, Array.range_zero']
                rw [k5] at v1
                rw [v1]
                simp
              · refine run_buildSlice (P := E.P) w t e len _ vs' info' z hu k1 k3 (by rw [← k5]; omega) hpos ?_
                rw [k5] at v1
                simpa [madeCells] using v1
            obtain ⟨c1, c2, c3⟩ := chunk_spec ie.size (by omega) len ds (by rw [v5, p1])
            have hs2 := (c.sim.frz hp).2
            have hlen : len ≤ maxLen := by
              have : len * 1 ≤ len * ie.size := Nat.mul_le_mul_left _ hb1
              simp only [maxLen]; omega
            have hown := World.ownsRow_lit (base := E.w0.heap.size) (e := e) (size := ie.size) w vs' len c.sim.below.size hlen (by rw [v2, v5, p1])
            refine wp_val (v := .slice (some ⟨w.heap.size, 0, none⟩) len len) (w' := w.alloc (.cells vs' e)) (by simp [execOp, ho, hrun]) ⟨_, h, ⟨fun n => if n = nx then .slice (some ⟨w.heap.size, 0, none⟩) len len else ψ n, ?_⟩, by simp⟩
            rw [show ((nx, some (Blk.vec e (chunk ie.size len ds))) :: p) = [(nx, some (Blk.vec e (chunk ie.size len ds)))] ++ p from rfl, setB_append]
            refine hs2.newVec (c.fresh nx (Nat.le_refl _) (by omega)) (v := .slice (some ⟨w.heap.size, 0, none⟩) len len) (World.grownBy_alloc w _ none) (by omega) (by rw [hS, c1]; exact hown) (fun b hb => by injection hb with hb; subst hb; exact Nat.le_refl _) (fun r hr => by rw [hS]; exact (c2 r hr).1) (fun r hr d hd => v3 d ((c2 r hr).2 d hd)) (fun i r j d hi hj => ?_) c.hmen c.hds
            have h1 := c3 i r j d hi hj
            have h2 := v4 _ d h1
            have hlt : i * ie.size + j < vs'.size := by rw [v2]; exact (List.getElem?_eq_some_iff.1 h1).1
            refine ⟨vs'.getD (i * ie.size + j) undef, ?_, h2⟩
            rw [hS]
            simp [Array.getD_eq_getD_getElem?, hlt]
          · exact h.elim
        · exact h.elim
    · exact h.elim
theorem op_makeSlice (hE : ∀ t i, ti t = some i → tiOf E.P t = some i) {t : TypeId} {x y : Operand} {X Y : Slot} (ho : o.op = .makeSlice t x y) (c : Ctx E ti ψ sl bl U nx a w o.dst) (hX : SlotRep w (okS E bl ψ w) ψ bl a.tmps X (a.eval x)) (hY : SlotRep w (okS E bl ψ w) ψ bl a.tmps Y (a.eval y))
    (h : (ptMakeSlice ti bl0 nx t X Y).All E.P E.gt R) : o.wp E.P a w (Next E sl bl U nx o.dst R) Q := by
  unfold ptMakeSlice at h
  cases hti : ti t with
  | none => simp only [hti, PT.All] at h
  | some i =>
    obtain ⟨info, z0, d0, g1, g2, g3, g4, g5, g6, g7, _⟩ := ti_info hE hti
    simp only [hti] at h
    split at h
    · rename_i e hk
      have hu := kind_slice (g4 ▸ hk)
      split at h
      · rename_i ie k1' n k2' m hie
        obtain ⟨info', z, d0', k1, k2, k3, k4, k5, k6, k7, _⟩ := ti_info hE hie
        have hx := Rep.int_inv (w := w) (show Rep w (okS E bl ψ w) (a.eval x) (.int k1' n) from hX)
        have hy := Rep.int_inv (w := w) (show Rep w (okS E bl ψ w) (a.eval y) (.int k2' m) from hY)
        split at h
        · rename_i zs q0 hz hb1 hb2
          rw [k7] at hz
          have hb1 := Nat.le_of_ble_eq_true hb1
          have hb2 := Nat.le_of_ble_eq_true hb2
          split at h
          · rename_i hzl
            have hzl := Nat.eq_of_beq_eq_true hzl
            obtain ⟨⟨n0, n1, n2⟩, h⟩ := h
            obtain ⟨z1, z2, z3⟩ := zero_cells (w := w) (ok := fun _ => False) hz
            have hS : szOf E.P e = ie.size := by rw [szOf_info k1, k5]
            have hm : m ≤ m * (ie.bytes : Int) := by
              have h1 : m * 1 ≤ m * (ie.bytes : Int) := Int.mul_le_mul_of_nonneg_left (by omega) (by omega)
              omega
            have hrun := run_make (P := E.P) w t e info' z hu k1 k3 k1' k2' n m n0 n1 (by rw [← k6, Int.mul_comm]; omega) (by omega)
            have hle : n.toNat * ie.size ≤ m.toNat * ie.size := Nat.mul_le_mul_right _ (by omega)
            have hown : (w.alloc (.cells (madeCells z.cells (m.toNat * info'.size)) e)).ownsRow E.w0.heap.size e (szOf E.P e) (.slice (some ⟨w.heap.size, 0, none⟩) n.toNat m.toNat) (List.replicate n.toNat zs).length ((madeCells z.cells (m.toNat * info'.size)).toList.take (n.toNat * ie.size)) := by
              rw [hS, ← k5]
              refine ⟨?_, .inr ⟨w.heap.size, m.toNat, _, ?_, c.sim.below.size, heap_alloc_new w _, ?_, ?_, size_madeCells _ _, ?_⟩⟩
              · rw [List.length_take, Array.length_toList, size_madeCells, List.length_replicate]; omega
              · rw [List.length_replicate]
              · rw [List.length_replicate]; omega
              · simp only [maxLen]; omega
              · rw [List.length_replicate]
            refine wp_val (v := .slice (some ⟨w.heap.size, 0, none⟩) n.toNat m.toNat) (by simp [execOp, ho, hx, hy, hrun]) ⟨_, h, ⟨_, c.sim.newVec (c.fresh nx (Nat.le_refl _) (by omega)) (World.grownBy_alloc w _ none) (by omega) hown (fun b hb => by injection hb with hb; subst hb; exact Nat.le_refl _) (fun r hr => ?_) (fun r hr d hd => ?_) (fun i r j d hi hj => ?_) c.hmen c.hds⟩, by simp⟩
            · rw [List.eq_of_mem_replicate hr, hS, hzl]
            · rw [List.eq_of_mem_replicate hr] at hd; exact z2 d hd
            · have hr := List.eq_of_mem_replicate (List.mem_of_getElem? hi)
              subst hr
              have hil := (List.getElem?_eq_some_iff.1 hi).1
              rw [List.length_replicate] at hil
              have hjl := (List.getElem?_eq_some_iff.1 hj).1
              have hi1 : (i + 1) * ie.size ≤ n.toNat * ie.size := Nat.mul_le_mul_right _ hil
              rw [Nat.add_mul, Nat.one_mul] at hi1
              refine ⟨z.cells.getD j undef, ?_, (z3 j d hj).mono (fun b hb => hb.elim) (fun b hb => hb.elim)⟩
              have hm2 := made_get z (m.toNat * info'.size) (i * ie.size + j) (by rw [← k5]; omega) (by omega)
              rw [show z.cells.size = ie.size by omega, Nat.add_comm (i * ie.size) j, Nat.add_mul_mod_self_right, Nat.mod_eq_of_lt (by omega), Nat.add_comm j (i * ie.size)] at hm2
              rw [hS, List.getElem?_take, if_pos (by omega), Array.getElem?_toList, ← hm2]
              have hlt : i * ie.size + j < (madeCells z.cells (m.toNat * info'.size)).size := by rw [size_madeCells, ← k5]; omega
              simp [Array.getD_eq_getD_getElem?, hlt]
          · exact h.elim
        · exact h.elim
      · exact h.elim
    · exact h.elim
def SrcOK (S : Nat) (w : World) (ok : Nat → Prop) (new : List (List D)) (v : Value) : Prop :=
  (∀ r ∈ new, r.length = S) ∧ (∀ r ∈ new, ∀ d ∈ r, d.isCell = true) ∧ ∃ A c, v = .slice A new.length c ∧ (A = none → new = []) ∧
    ∀ ad, A = some ad → ∃ news : List Value, news.length = new.length * S ∧ (∀ (j : Nat) (u : Value), news[j]? = some u → w.cell? (ad.add j) = some u) ∧ (∀ u ∈ news, u.oneCell' = true) ∧
      ∀ (i : Nat) (r : List D) (j : Nat) (d : D), new[i]? = some r → r[j]? = some d → ∃ u, news[i * S + j]? = some u ∧ Rep w ok u d
theorem src_rep {S : Nat} (hS : 0 < S) {ok : Nat → Prop} {rows : List (List D)} {v : Value} (h : Rep w ok v (.slice rows)) (hw : ∀ r ∈ rows, r.length = S) : SrcOK S w ok rows v := by
  cases h with
  | slice A n c _ sz ad vs hl hc hm hsz hcell hA hv hr =>
    refine ⟨hw, hcell, A, c, by rw [hl], fun e => ?_, fun ad' e => ?_⟩
    · by_cases hn : 0 < n
      · rw [(hA hn).1] at e; cases e
      · exact List.eq_nil_of_length_eq_zero (by omega)
    · by_cases hn : 0 < n
      · have e2 := (hA hn).1
        rw [e] at e2
        injection e2 with e2
        subst e2
        have hne : rows ≠ [] := by intro e'; subst e'; simp at hl; omega
        obtain ⟨r0, hr0⟩ := List.exists_mem_of_ne_nil rows hne
        have hss : sz = S := (hsz r0 hr0).symm.trans (hw r0 hr0)
        subst hss
        have hat : ∀ k, k < rows.length * sz → ∃ r d, rows[k / sz]? = some r ∧ r[k % sz]? = some d := by
          intro k hk
          have h1 : k / sz < rows.length := by rw [Nat.div_lt_iff_lt_mul hS]; exact hk
          have h2 : k % sz < sz := Nat.mod_lt _ hS
          refine ⟨rows[k / sz], (rows[k / sz])[k % sz]'(by rw [hw _ (List.getElem_mem h1)]; exact h2), List.getElem?_eq_getElem h1, List.getElem?_eq_getElem _⟩
        refine ⟨(List.range (rows.length * sz)).map fun k => vs (k / sz) (k % sz), by simp, fun j u hj => ?_, fun u hu => ?_, fun i r j d hi hj => ?_⟩
        · have hjl := (List.getElem?_eq_some_iff.1 hj).1
          simp only [List.length_map, List.length_range] at hjl
          rw [List.getElem?_map, List.getElem?_range hjl] at hj
          simp only [Option.map_some, Option.some.injEq] at hj
          subst hj
          obtain ⟨r, d, h1, h2⟩ := hat j hjl
          have := hv _ r _ d h1 h2
          rwa [Nat.div_add_mod' j sz] at this
        · obtain ⟨k, hk, rfl⟩ := List.mem_map.1 hu
          obtain ⟨r, d, h1, h2⟩ := hat k (by simpa using hk)
          exact ((hr _ r _ d h1 h2).one (hcell r (List.mem_of_getElem? h1) d (List.mem_of_getElem? h2))).2
        · have hjl := (List.getElem?_eq_some_iff.1 hj).1
          rw [hw r (List.mem_of_getElem? hi)] at hjl
          have hil := (List.getElem?_eq_some_iff.1 hi).1
          have h1 : (i + 1) * sz ≤ rows.length * sz := Nat.mul_le_mul_right _ hil
          rw [Nat.add_mul, Nat.one_mul] at h1
          refine ⟨vs i j, ?_, hr i r j d hi hj⟩
          rw [List.getElem?_map, List.getElem?_range (by omega)]
          have e1 : (i * sz + j) / sz = i := by rw [Nat.mul_comm, Nat.mul_add_div hS, Nat.div_eq_of_lt hjl]; omega
          have e2 : (i * sz + j) % sz = j := by rw [Nat.mul_comm, Nat.mul_add_mod, Nat.mod_eq_of_lt hjl]
          simp [e1, e2]
      · have hr0 : rows = [] := List.eq_nil_of_length_eq_zero (by omega)
        subst hr0
        exact ⟨[], by simp, by simp, by simp, fun i r j d hi => by simp at hi⟩
theorem src_own {base S : Nat} (hS : 0 < S) {ok : Nat → Prop} {e : TypeId} {rows : List (List D)} {v : Value} {xs : List Value} (h : w.ownsRow base e S v rows.length xs) (hw : ∀ r ∈ rows, r.length = S) (hc : ∀ r ∈ rows, ∀ d ∈ r, d.isCell = true)
    (hr : ∀ (i : Nat) (r : List D) (j : Nat) (d : D), rows[i]? = some r → r[j]? = some d → ∃ u, xs[i * S + j]? = some u ∧ Rep w ok u d) : SrcOK S w ok rows v := by
  have hxl := h.1
  have hown := h
  rcases h.2 with ⟨hv, hn⟩ | ⟨g, cap, cur, hv, hbg, hg, hnc, hcm, hcs, htake⟩
  · have hr0 : rows = [] := List.eq_nil_of_length_eq_zero hn
    subst hr0
    subst hv
    exact ⟨by simp, by simp, none, 0, rfl, fun _ => rfl, fun ad e => by cases e⟩
  · subst hv
    refine ⟨hw, hc, _, cap, rfl, fun e => (by cases e), fun ad e => ?_⟩
    injection e with e
    subst e
    refine ⟨xs, hxl, hown.cells (g := g) rfl, fun u hu => ?_, hr⟩
    obtain ⟨k, hk, rfl⟩ := List.mem_iff_getElem.1 hu
    rw [hxl] at hk
    have h1 : k / S < rows.length := by rw [Nat.div_lt_iff_lt_mul hS]; exact hk
    have h2 : k % S < S := Nat.mod_lt _ hS
    have hl := hw _ (List.getElem_mem h1)
    obtain ⟨u, hu1, hu2⟩ := hr (k / S) rows[k / S] (k % S) _ (List.getElem?_eq_getElem h1) (List.getElem?_eq_getElem (by rw [hl]; exact h2))
    rw [Nat.div_add_mod' k S, List.getElem?_eq_getElem (by rw [hxl]; exact hk)] at hu1
    injection hu1 with hu1
    rw [hu1]
    exact (hu2.one (hc _ (List.getElem_mem h1) _ (List.getElem_mem _))).2
theorem newRows_spec (hsub : Sub bl0 bl) (h : SimP E ψ sl bl U a w) {e : TypeId} {sz : Nat} (hS : szOf E.P e = sz) (h0 : 0 < sz) {Y : Slot} {v : Value} {new : List (List D)} {cnd : Option Prop} (hn : newRows bl0 e sz Y = some (new, cnd)) (hc : ∀ p, cnd = some p → p) (hY : SlotRep w (okS E bl ψ w) ψ bl a.tmps Y v) :
    SrcOK sz w (okS E bl ψ w) new v := by
  unfold newRows at hn
  split at hn
  · simp at hn
    obtain ⟨rfl, rfl⟩ := hn
    exact src_rep h0 hY (hc _ rfl)
  · rename_i m
    split at hn
    · rename_i e' rows hb
      split at hn
      · rename_i hee
        simp at hn
        obtain ⟨rfl, rfl⟩ := hn
        have hb := hsub _ _ hb
        have hee := Nat.eq_of_beq_eq_true hee
        subst hee
        have hv : v = ψ m := hY (name_some hb)
        obtain ⟨xs, b1, b2, b3, b4, b5⟩ := h.blks m _ hb
        rw [hS] at b2 b3 b5
        rw [hv]
        exact src_own h0 b2 b3 b4 b5
      · cases hn
    · rename_i rows hb
      simp at hn
      obtain ⟨rfl, rfl⟩ := hn
      have hb := hsub _ _ hb
      have hv : v = ψ m := hY (name_some hb)
      rw [hv]
      exact src_rep h0 (h.blks m _ hb) (hc _ rfl)
    · cases hn
  · simp at hn
    obtain ⟨rfl, rfl⟩ := hn
    have hv : v = .slice none 0 0 := hY
    subst hv
    exact ⟨by simp, by simp, none, 0, rfl, fun _ => rfl, fun ad e => by cases e⟩
  · cases hn
theorem run_append_none {P : Program} (base : Nat) (t ty e : TypeId) (i : TypeInfo) (size : Nat) (ht : P.underlying t = some (.slice e)) (hi : P.info? e = some i)
    (v : Value) (n c : Nat) (xs : List Value) (hown : w.ownsRow base e size v n xs) :
    (Builtin.append_ #[t, t] ty #[v, .slice none 0 c]).run P w = .ok v w := by
  rcases hown.2 with ⟨rfl, rfl⟩ | ⟨g, cap, cur, rfl, _, _, hnc, _⟩
  · simp [Builtin.append_, run_underlying ht, sizeOf, typeInfo, hi, Builtin.lenOf, Builtin.firstCells]
  · simp [Builtin.append_, run_underlying ht, sizeOf, typeInfo, hi, Builtin.lenOf, Builtin.firstCells, hnc, storeCells]
theorem own_ptr {base : Nat} {e : TypeId} {size n : Nat} {v : Value} {xs : List Value} (h : w.ownsRow base e size v n xs) : v.ownBlock = ptrBlock v := by
  rcases h.2 with ⟨hv, _⟩ | ⟨g, cap, cur, hv, _⟩ <;> rw [hv] <;> rfl
theorem run_append_any (hE : ∀ t i, ti t = some i → tiOf E.P t = some i) {t e ty : TypeId} {i ie : TI} (hti : ti t = some i) (hk : i.kind = .slice e) (hie : ti e = some ie) (hz1 : 1 ≤ ie.size) (hz2 : 1 ≤ ie.bytes) (hz3 : ie.zero.length = ie.size) {base : Nat} (hbase : base ≤ w.heap.size)
    {ok : Nat → Prop} {new : List (List D)} {y : Value} (hs : SrcOK (szOf E.P e) w ok new y) {v : Value} {n : Nat} {xs : List Value} (hown : w.ownsRow base e (szOf E.P e) v n xs) (hby : (n + new.length) * ie.bytes ≤ 140737488355328) :
    ∃ v' w' news, (Builtin.append_ #[t, t] ty #[v, y]).run E.P w = .ok v' w' ∧ w'.ownsRow base e (szOf E.P e) v' (n + new.length) (xs ++ news) ∧ w.grownBy w' v.ownBlock ∧ (v'.ownBlock = v.ownBlock ∨ v'.ownBlock = some w.heap.size) ∧
      ∀ (i : Nat) (r : List D) (j : Nat) (d : D), new[i]? = some r → r[j]? = some d → ∃ u, news[i * szOf E.P e + j]? = some u ∧ Rep w ok u d := by
  obtain ⟨info, z0, d0, g1, g2, g3, g4, g5, g6, g7, _⟩ := ti_info hE hti
  obtain ⟨info', z', d0', k1, k2, k3, k4, k5, k6, k7, _⟩ := ti_info hE hie
  have hu := kind_slice (g4 ▸ hk)
  obtain ⟨s1, s2, A, c, rfl, s3, s4⟩ := hs
  cases A with
  | none =>
    have hn := s3 rfl
    subst hn
    refine ⟨v, w, [], run_append_none base t ty e info' (szOf E.P e) hu k1 v n c xs hown, by simpa using hown, grown_refl w _, .inl rfl, fun i r j d hi => by simp at hi⟩
  | some ad =>
    obtain ⟨news, n1, n2, n3, n4⟩ := s4 ad rfl
    have hS : szOf E.P e = info'.size := szOf_info k1
    have hmax : n + new.length ≤ maxLen := by
      have : (n + new.length) * 1 ≤ (n + new.length) * ie.bytes := Nat.mul_le_mul_left _ hz2
      simp only [maxLen]; omega
    have hz : z'.cells.size = info'.size := by rw [k7, List.length_map, Array.length_toList] at hz3; omega
    obtain ⟨v', w', h1, h2, h3, h4, h5⟩ := run_append_own_at (P := E.P) w base t ty e info' z' (szOf E.P e) info'.bytes hu k1 k3 hS.symm rfl (by omega) (by omega) v n xs hown ad new.length c news n1 n2 n3 hmax (by rw [← k6]; exact hby) hbase
    exact ⟨v', w', news, h1, h2, h3, h5, n4⟩
theorem op_append (hE : ∀ t i, ti t = some i → tiOf E.P t = some i) (hsub : Sub bl0 bl) {cl : Call} {t : TypeId} {x y : Operand} {X Y : Slot} (ho : o.op = .call cl) (hc : cl.callee = .builtin .append) (ht : cl.argTypes = #[t, t]) (hx : cl.args = #[x, y]) (c : Ctx E ti ψ sl bl U nx a w o.dst)
    (hX : SlotRep w (okS E bl ψ w) ψ bl a.tmps X (a.eval x)) (hY : SlotRep w (okS E bl ψ w) ψ bl a.tmps Y (a.eval y)) (h : (ptAppend ti bl0 nx t X Y).All E.P E.gt R) : o.wp E.P a w (Next E sl bl U nx o.dst R) Q := by
  have run : ∀ v w', (Builtin.append_ #[t, t] o.type #[a.eval x, a.eval y]).run E.P w = .ok v w' → (execOp a.eval o).run E.P w = .ok (.value v) w' := by
    intro v w' hv
    simp [execOp, ho, resolve, hc, ht, hx, invoke, builtin, hv]
  have need : ∀ (cn : Option Prop) (q : Prop) (k : PT), (needO cn q k).All E.P E.gt R → (∀ p, cn = some p → p) ∧ q ∧ k.All E.P E.gt R := by
    intro cn q k hk
    unfold needO at hk
    split at hk
    · exact ⟨fun p e => (by injection e with e; subst e; exact hk.1.1), hk.1.2, hk.2⟩
    · exact ⟨fun p e => (by cases e), hk.1, hk.2⟩
  unfold ptAppend at h
  cases hti : ti t with
  | none => simp only [hti, PT.All] at h
  | some i =>
    simp only [hti] at h
    split at h
    · rename_i e hk
      cases hie : ti e with
      | none => simp only [hie, PT.All] at h
      | some ie =>
        obtain ⟨info', z', d0', k1, k2, k3, k4, k5, k6, k7, _⟩ := ti_info hE hie
        simp only [hie] at h
        have hS : szOf E.P e = ie.size := by rw [szOf_info k1, k5]
        have sizes : (match Nat.ble 1 ie.size, Nat.ble 1 ie.bytes with | true, true => Nat.beq ie.zero.length ie.size | _, _ => false) = true → 1 ≤ ie.size ∧ 1 ≤ ie.bytes ∧ ie.zero.length = ie.size := by
          intro h
          split at h
          · rename_i h1 h2
            exact ⟨Nat.le_of_ble_eq_true h1, Nat.le_of_ble_eq_true h2, Nat.eq_of_beq_eq_true h⟩
          · cases h
        split at h
        · rename_i new cnd hnew hsz
          obtain ⟨z1, z2, z3⟩ := sizes hsz
          obtain ⟨n1, n2, n3⟩ := need _ _ _ h
          have hv : a.eval x = .slice none 0 0 := hX
          have hsrc := newRows_spec hsub c.sim hS (by omega) hnew n1 hY
          rw [← hS] at hsrc
          obtain ⟨v', w', news, r1, r2, r3, r4, r5⟩ := run_append_any (ty := o.type) hE hti hk hie z1 z2 z3 c.sim.below.size hsrc (World.ownsRow_nil w E.w0.heap.size e (szOf E.P e)) (by rw [Nat.zero_add]; exact n2)
          have hw : ∀ r ∈ new, r.length = szOf E.P e := hsrc.1
          refine wp_val (run v' w' (by rw [hv]; exact r1)) ⟨_, n3, ⟨_, c.sim.newVec (c.fresh nx (Nat.le_refl _) (by omega)) r3 (by omega) (xs := news) (by simpa using r2) (fun b hb => ?_) hw hsrc.2.1 r5 c.hmen c.hds⟩, by simp⟩
          rw [← own_ptr r2] at hb
          rcases r4 with h4 | h4
          · rw [h4] at hb; cases hb
          · rw [h4] at hb; injection hb with hb; omega
        · rename_i new cnd m hnew hsz
          obtain ⟨z1, z2, z3⟩ := sizes hsz
          split at h
          · rename_i e' rows hb hso
            split at h
            · rename_i hee
              have hee := Nat.eq_of_beq_eq_true hee
              subst hee
              obtain ⟨n1, n2, n3⟩ := need _ _ _ h
              have hb := hsub _ _ hb
              have hsrc := newRows_spec hsub c.sim hS (by omega) hnew n1 hY
              rw [← hS] at hsrc
              have hv : a.eval x = ψ m := hX (name_some hb)
              obtain ⟨xs, b1, b2, b3, b4, b5⟩ := c.sim.blks m _ hb
              obtain ⟨v', w', news, r1, r2, r3, r4, r5⟩ := run_append_any (ty := o.type) hE hti hk hie z1 z2 z3 c.sim.below.size hsrc b2 n2
              have hmn := c.sim.name_lt hb
              have hB : ∀ n, setB bl [(m, none), (nx, some (.vec e (rows ++ new)))] n = if n = m then none else if n = nx then some (.vec e (rows ++ new)) else bl n := fun n => by rw [setB_cons, setB_cons]; rfl
              have hown := own_ptr b2
              have hown' := own_ptr r2
              have hf := c.fresh nx (Nat.le_refl _) (by omega)
              have hst : Step ψ (fun n => if n = nx then v' else ψ n) bl (setB bl [(m, none), (nx, some (.vec e (rows ++ new)))]) U nx (some m) w w' := by
                refine ⟨r3.os, r3.tape, r3.output, r3.size, fun b hb' hne => r3.block b hb' (fun e' => hne m rfl (by rw [← hown]; exact e'.symm)), fun m' e' => ?_, fun n hn => if_neg (by intro e; exact hf (e ▸ hn)), fun n k hn hk => ?_, fun n k hn hk => ?_, fun n n' k k' hn hn' hk hk' hne => ?_⟩
                · injection e' with e'
                  subst e'
                  exact ⟨_, hb, rfl⟩
                · rw [hB] at hk
                  split at hk
                  · cases hk
                  · rename_i hne
                    rw [if_neg (by intro e; exact hf (e ▸ hn))] at hk
                    exact .inl ⟨hk, fun e' => hne (by injection e' with e'; exact e'.symm)⟩
                · rw [hB, if_neg (by intro e; exact hn (e ▸ hmn))] at hk
                  split at hk
                  · rename_i e'
                    subst e'
                    injection hk with hk
                    subst hk
                    refine ⟨rfl, ⟨Nat.le_refl _, by omega⟩, fun b hb' => ?_⟩
                    rw [if_pos rfl] at hb'
                    rw [← hown'] at hb'
                    rcases r4 with h4 | h4
                    · refine .inr ⟨m, rfl, by rw [hB, if_pos rfl], by rw [← hown, ← h4]; exact hb'⟩
                    · left
                      rw [h4] at hb'
                      injection hb' with hb'
                      have := (owns_block r2 (b := b) (by rw [← hown', h4, hb'])).2
                      omega
                  · rw [c.sim.names n hn] at hk; cases hk
                · rw [hB, if_neg (by intro e; exact hn (e ▸ hmn))] at hk
                  rw [hB, if_neg (by intro e; exact hn' (e ▸ hmn))] at hk'
                  split at hk
                  · split at hk'
                    · omega
                    · rw [c.sim.names n' hn'] at hk'; cases hk'
                  · rw [c.sim.names n hn] at hk; cases hk
              have hkp := hst.keeps c.sim
              refine wp_val (run v' w' (by rw [hv]; exact r1)) ⟨_, n3, ⟨_, hst.sim c.sim (fun n k hk hn => ?_) (fun m' hm => ?_) (fun n cs' hn hk r hr m' hm => ?_) (by simp) c.hmen c.hds (fun _ => by simp)⟩, by simp⟩
              · rw [hB] at hk
                split at hk
                · cases hk
                · rename_i hne
                  rcases hn with hn | hn
                  · split at hk
                    · rename_i e'
                      subst e'
                      injection hk with hk
                      subst hk
                      refine ⟨xs ++ news, b1, ?_, fun r hr => ?_, fun r hr d hd => ?_, fun i r j d hi hj => ?_⟩
                      · simp only [List.length_append, if_true]; exact r2
                      · rcases List.mem_append.1 hr with hr | hr
                        · exact b3 r hr
                        · exact hsrc.1 r hr
                      · rcases List.mem_append.1 hr with hr | hr
                        · exact b4 r hr d hd
                        · exact hsrc.2.1 r hr d hd
                      · have hxl : xs.length = rows.length * szOf E.P e := b2.1
                        by_cases hlt : i < rows.length
                        · rw [List.getElem?_append_left hlt] at hi
                          obtain ⟨u, u1, u2⟩ := b5 i r j d hi hj
                          refine ⟨u, ?_, hkp.rep u2⟩
                          rw [List.getElem?_append_left (List.getElem?_eq_some_iff.1 u1).1]
                          exact u1
                        · rw [List.getElem?_append_right (by omega)] at hi
                          obtain ⟨u, u1, u2⟩ := r5 _ r j d hi hj
                          refine ⟨u, ?_, hkp.rep u2⟩
                          have hmul : i * szOf E.P e = rows.length * szOf E.P e + (i - rows.length) * szOf E.P e := by rw [← Nat.add_mul]; congr 1; omega
                          rw [List.getElem?_append_right (by omega), hxl, show i * szOf E.P e + j - rows.length * szOf E.P e = (i - rows.length) * szOf E.P e + j by omega]
                          exact u1
                    · rw [c.sim.names n hn] at hk; cases hk
                  · injection hn with hn
                    exact absurd hn.symm hne
              · simp [refsS, refsR] at hm; exact .inr ⟨by omega, by omega⟩
              · rw [hB] at hk
                split at hk
                · cases hk
                · split at hk
                  · injection hk with hk; cases hk
                  · rcases hn with hn | hn
                    · rw [c.sim.names n hn] at hk; cases hk
                    · rename_i hne _
                      injection hn with hn
                      exact absurd hn.symm hne
            · exact h.elim
          · exact h.elim
        · exact h.elim
    · exact h.elim
end
end Go.Eng
set_option linter.unusedVariables false
set_option linter.unusedSimpArgs false
namespace Go.Eng
open Go.RowKit
section
variable {E : Env} {ti : TypeId → Option TI} {ψ ψ' : Nat → Value} {sl : Nat → Slot} {bl bl' bl0 : Blks} {U : Nat → Prop} {nx : Nat} {a : Act} {w w' : World} {dst : Option Nat} {o : Oper} {R : Patch → Prop} {Q : Exit → Act → World → Prop}
def RowAt (w : World) (ok : Nat → Prop) (r : List D) (v : Value) : Prop := ∃ ad : Addr, v = .pointer (some ad) ∧ ok ad.block ∧ (∀ d ∈ r, d.isCell = true) ∧ ∀ (j : Nat) (d : D), r[j]? = some d → ∃ u, w.cell? (ad.add j) = some u ∧ Rep w ok u d
theorem caps_frz (hsub : Sub bl0 bl) : ∀ {L : List Slot} {cs : List (List D)} {p : Pch}, capsOf bl0 L = some (cs, p) → Frz bl p
  | [], cs, p, h => by simp [capsOf] at h; rw [h.2]; exact Frz.nil
  | s :: L, cs, p, h => by
    unfold capsOf at h
    split at h
    · rename_i e; cases e
    · rename_i n r e
      obtain ⟨e1, e2⟩ := List.cons.inj e
      subst e1 e2
      split at h
      · rename_i rs hb
        split at h
        · rename_i ds p1 rest q h1 h2
          simp at h
          obtain ⟨rfl, rfl⟩ := h
          have := Frz.append (Frz.box (hsub _ _ hb) (cellsD_sub hsub h1)) (caps_frz hsub h2)
          simpa using this
        · cases h
      · split at h
        · rename_i rest q h2
          simp at h
          obtain ⟨rfl, rfl⟩ := h
          exact caps_frz hsub h2
        · cases h
      · cases h
    · rename_i cs' r e
      obtain ⟨e1, e2⟩ := List.cons.inj e
      subst e1 e2
      split at h
      · rename_i rest q h2
        simp at h
        obtain ⟨rfl, rfl⟩ := h
        exact caps_frz hsub h2
      · cases h
    · cases h
theorem caps_rep (hsub : Sub bl0 bl) (h : SimP E ψ sl bl U a w) {p : Pch} (hp : Frz bl p) : ∀ {L : List Slot} {vs : List Value} {cs : List (List D)} {q : Pch}, capsOf bl0 L = some (cs, q) → (∀ y ∈ q, y ∈ p) → vs.length = L.length →
    (∀ (i : Nat) (s : Slot) (v : Value), L[i]? = some s → vs[i]? = some v → SlotRep w (okS E bl ψ w) ψ bl a.tmps s v) →
    cs.length = vs.length ∧ ∀ (i : Nat) (r : List D) (v : Value), cs[i]? = some r → vs[i]? = some v → RowAt w (okS E (setB bl p) ψ w) r v
  | [], [], cs, q, hc, _, _, _ => by
    simp [capsOf] at hc
    obtain ⟨rfl, rfl⟩ := hc
    exact ⟨rfl, fun i r v hi => by simp at hi⟩
  | [], _ :: _, _, _, _, _, hl, _ => by simp at hl
  | _ :: _, [], _, _, _, _, hl, _ => by simp at hl
  | s :: L, v :: vs, cs, q, hc, hq, hl, hv => by
    have hk := (h.frz hp).1
    have hs2 := (h.frz hp).2
    have cons : ∀ (r0 : List D) (rest : List (List D)) (q' : Pch), capsOf bl0 L = some (rest, q') → (∀ y ∈ q', y ∈ p) → RowAt w (okS E (setB bl p) ψ w) r0 v →
        (r0 :: rest).length = (v :: vs).length ∧ ∀ (i : Nat) (r : List D) (v' : Value), (r0 :: rest)[i]? = some r → (v :: vs)[i]? = some v' → RowAt w (okS E (setB bl p) ψ w) r v' := by
      intro r0 rest q' h2 hq' hrow
      obtain ⟨i1, i2⟩ := caps_rep hsub h hp h2 hq' (vs := vs) (by simpa using hl) (fun i s v h1 h2 => hv (i + 1) s v (by simpa using h1) (by simpa using h2))
      refine ⟨by simp [i1], fun i r v' hi hj => ?_⟩
      cases i with
      | zero => simp at hi hj; subst hi hj; exact hrow
      | succ i => exact i2 i r v' (by simpa using hi) (by simpa using hj)
    unfold capsOf at hc
    split at hc
    · rename_i e; cases e
    · rename_i n r e
      obtain ⟨e1, e2⟩ := List.cons.inj e
      subst e1 e2
      have hbox := hv 0 _ v rfl rfl
      split at hc
      · rename_i rs hb
        split at hc
        · rename_i ds p1 rest q1 h1 h2
          simp at hc
          obtain ⟨rfl, rfl⟩ := hc
          refine cons ds rest q1 h2 (fun y hy => hq y (by simp [hy])) ?_
          have hb := hsub _ _ hb
          obtain ⟨b, e1, e2⟩ := hbox (name_some hb)
          have hfz := frz_box hp hb (cellsD_sub hsub h1) (hq _ (by simp))
          obtain ⟨b', f1, f2, f3, f4⟩ := hs2.blks n _ hfz
          rw [e1] at f1
          injection f1 with f1
          injection f1 with f1
          injection f1 with f1
          subst f1
          refine ⟨⟨b, 0, none⟩, e2, f2, f3, fun j d hj => ?_⟩
          rw [add_plain, Nat.zero_add]
          exact f4 j d hj
        · cases hc
      · rename_i ds hb
        split at hc
        · rename_i rest q1 h2
          simp at hc
          obtain ⟨rfl, rfl⟩ := hc
          refine cons ds rest q1 h2 hq ?_
          have hb := hsub _ _ hb
          obtain ⟨b, e1, e2⟩ := hbox (name_some hb)
          obtain ⟨b', f1, f2, f3, f4⟩ := h.blks n _ hb
          rw [e1] at f1
          injection f1 with f1
          injection f1 with f1
          injection f1 with f1
          subst f1
          refine ⟨⟨b, 0, none⟩, e2, hk.ok _ f2, f3, fun j d hj => ?_⟩
          rw [add_plain, Nat.zero_add]
          obtain ⟨u, u1, u2⟩ := f4 j d hj
          exact ⟨u, u1, hk.rep u2⟩
        · cases hc
      · cases hc
    · rename_i cs' r e
      obtain ⟨e1, e2⟩ := List.cons.inj e
      subst e1 e2
      split at hc
      · rename_i rest q1 h2
        simp at hc
        obtain ⟨rfl, rfl⟩ := hc
        refine cons cs' rest q1 h2 hq ?_
        obtain ⟨ad, e1, e2, e3, e4⟩ := hv 0 _ v rfl rfl
        refine ⟨ad, by simpa [Addr.add] using e1, hk.ok _ e2, e3, fun j d hj => ?_⟩
        obtain ⟨u, u1, u2⟩ := e4 j d hj
        exact ⟨u, u1, hk.rep u2⟩
      · cases hc
    · cases hc
theorem op_makeFunc (hsub : Sub bl0 bl) {f : FuncId} {first captured : Array Operand} {L : List Slot} (ho : o.op = .makeFunc (.func f) first captured) (h0 : first.toList = []) (c : Ctx E ti ψ sl bl U nx a w o.dst) (hl : L.length = captured.size)
    (hX : ∀ (i : Nat) (s : Slot) (v : Value), L[i]? = some s → (captured.toList.map a.eval)[i]? = some v → SlotRep w (okS E bl ψ w) ψ bl a.tmps s v) (h : (ptMakeFunc bl0 f L).All E.P E.gt R) : o.wp E.P a w (Next E sl bl U nx o.dst R) Q := by
  unfold ptMakeFunc at h
  split at h
  · rename_i cs p hc
    have hp := caps_frz hsub hc
    obtain ⟨i1, i2⟩ := caps_rep hsub c.sim hp hc (fun y hy => hy) (vs := captured.toList.map a.eval) (by simp [hl]) hX
    have hf0 : first = #[] := by rw [← Array.toList_inj]; exact h0
    subst hf0
    refine wp_val (v := .func (.func f) #[] (captured.map a.eval)) (by simp [execOp, ho, Instr.makeFunc]) (c.pureFrz hp h (fun m hm => by cases hm) (by simp) ?_)
    have hrow : ∀ i : Nat, ∃ ad : Addr, ∀ r, cs[i]? = some r → (captured.map a.eval)[i]? = some (.pointer (some ad)) ∧ okS E (setB bl p) ψ w ad.block ∧ (∀ d ∈ r, d.isCell = true) ∧ ∀ (j : Nat) (d : D), r[j]? = some d → ∃ u, w.cell? (ad.add j) = some u ∧ Rep w (okS E (setB bl p) ψ w) u d := by
      intro i
      cases hi : cs[i]? with
      | none => exact ⟨⟨0, 0, none⟩, fun r e => by cases e⟩
      | some r =>
        have hil := (List.getElem?_eq_some_iff.1 hi).1
        have hv : ∃ v, (captured.toList.map a.eval)[i]? = some v := ⟨_, List.getElem?_eq_getElem (by omega)⟩
        obtain ⟨v, hv⟩ := hv
        obtain ⟨ad, e1, e2, e3, e4⟩ := i2 i r v hi hv
        refine ⟨ad, fun r' e => ?_⟩
        injection e with e
        subst e
        refine ⟨?_, e2, e3, e4⟩
        rw [← e1, ← hv]
        simp
    let ads : Nat → Addr := fun i => Classical.choose (hrow i)
    have hads := fun i => Classical.choose_spec (hrow i)
    have hcell : ∀ i j : Nat, ∃ u, ∀ r d, cs[i]? = some r → r[j]? = some d → w.cell? ((ads i).add j) = some u ∧ Rep w (okS E (setB bl p) ψ w) u d := by
      intro i j
      cases hi : cs[i]? with
      | none => exact ⟨undef, fun r d e => by cases e⟩
      | some r =>
        cases hj : r[j]? with
        | none => exact ⟨undef, fun r' d e e' => by injection e with e; subst e; rw [hj] at e'; cases e'⟩
        | some d =>
          obtain ⟨u, hu⟩ := (hads i r hi).2.2.2 j d hj
          exact ⟨u, fun r' d' e e' => by injection e with e; subst e; rw [hj] at e'; injection e' with e'; subst e'; exact hu⟩
    refine Rep.fn f cs _ ads (fun i j => Classical.choose (hcell i j)) (by simp at i1; simp; omega) (fun r hr d hd => ?_) (fun i hi => ?_) (fun i r j d hi hj => (Classical.choose_spec (hcell i j) r d hi hj).1) (fun i r j d hi hj => (Classical.choose_spec (hcell i j) r d hi hj).2)
    · obtain ⟨i, hi⟩ := List.mem_iff_getElem?.1 hr
      exact (hads i r hi).2.2.1 d hd
    · obtain ⟨h1, h2, _⟩ := hads i _ (List.getElem?_eq_getElem hi)
      exact ⟨h1, h2⟩
  · exact h.elim
end
end Go.Eng
set_option linter.unusedVariables false
set_option linter.unusedSimpArgs false
namespace Go.Eng
open Go.RowKit
section
variable {E : Env} {ti : TypeId → Option TI} {ψ ψ' : Nat → Value} {sl : Nat → Slot} {bl bl' bl0 : Blks} {U : Nat → Prop} {nx : Nat} {a : Act} {w w' : World} {dst : Option Nat} {o : Oper} {R : Patch → Prop} {Q : Exit → Act → World → Prop}
theorem args_frz (hsub : Sub bl0 bl) : ∀ {L : List Slot} {as_ : List Arg} {p : Pch}, argsOf bl0 L = some (as_, p) → Frz bl p
  | [], as_, p, h => by simp [argsOf] at h; rw [h.2]; exact Frz.nil
  | s :: L, as_, p, h => by
    unfold argsOf at h
    split at h
    · rename_i d p1 rest q h1 h2
      simp at h
      obtain ⟨rfl, rfl⟩ := h
      obtain ⟨r, _, hd⟩ := valsOf_spec hsub h1
      exact (toD_frz hd).append (args_frz hsub h2)
    · cases h
theorem args_rep (hsub : Sub bl0 bl) (h : SimP E ψ sl bl U a w) {p : Pch} (hp : Frz bl p) : ∀ {L : List Slot} {vs : List Value} {as_ : List Arg} {q : Pch}, argsOf bl0 L = some (as_, q) → (∀ y ∈ q, y ∈ p) → vs.length = L.length →
    (∀ (i : Nat) (s : Slot) (v : Value), L[i]? = some s → vs[i]? = some v → SlotRep w (okS E bl ψ w) ψ bl a.tmps s v) →
    as_.length = vs.length ∧ ∀ (i : Nat) (r : Arg) (v : Value), as_[i]? = some r → vs[i]? = some v → ArgRep w (okS E (setB bl p) ψ w) r v
  | [], [], as_, q, hc, _, _, _ => by
    simp [argsOf] at hc
    obtain ⟨rfl, rfl⟩ := hc
    exact ⟨rfl, fun i r v hi => by simp at hi⟩
  | [], _ :: _, _, _, _, _, hl, _ => by simp at hl
  | _ :: _, [], _, _, _, _, hl, _ => by simp at hl
  | s :: L, v :: vs, as_, q, hc, hq, hl, hv => by
    unfold argsOf at hc
    split at hc
    · rename_i d p1 rest q1 h1 h2
      simp at hc
      obtain ⟨rfl, rfl⟩ := hc
      obtain ⟨r0, rfl, hd⟩ := valsOf_spec hsub h1
      obtain ⟨i1, i2⟩ := args_rep hsub h hp h2 (fun y hy => hq y (List.mem_append_right _ hy)) (vs := vs) (by simpa using hl) (fun i s v h1 h2 => hv (i + 1) s v (by simpa using h1) (by simpa using h2))
      refine ⟨by simp [i1], fun i r v' hi hj => ?_⟩
      cases i with
      | zero =>
        simp at hi hj
        subst hi hj
        exact h.toD hp hd (fun y hy => hq y (List.mem_append_left _ hy)) (hv 0 _ v rfl rfl)
      | succ i => exact i2 i r v' (by simpa using hi) (by simpa using hj)
    · cases hc
theorem fn_inv {ok : Nat → Prop} {v : Value} {f : FuncId} {caps : List (List D)} (h : Rep w ok v (.fn f caps)) : ∃ cap : Array Value, v = .func (.func f) #[] cap ∧ cap.size = caps.length ∧ ∀ (i : Nat) (r : List D) (u : Value), caps[i]? = some r → cap[i]? = some u → ArgRep w ok (.row r) u := by
  cases h with
  | fn _ _ cap ads vs hl hcell hp hv hr =>
    refine ⟨cap, rfl, hl, fun i r u hi hj => ?_⟩
    have hil := (List.getElem?_eq_some_iff.1 hi).1
    obtain ⟨h1, h2⟩ := hp i hil
    rw [h1] at hj
    injection hj with hj
    exact ⟨ads i, hj.symm, h2, hcell r (List.mem_of_getElem? hi), fun j d hjd => ⟨_, hv i r j d hi hjd, hr i r j d hi hjd⟩⟩
theorem SimP.glob (h : SimP E ψ sl bl U a w) (hg : E.Good) : GlobOK E.gt w (okS E bl ψ w) := by
  have ok : ∀ b, E.ok0 b → okS E bl ψ w b := fun b hb => by
    have hlt := hg.ok b hb
    refine ⟨fun _ => hb, Nat.lt_of_lt_of_le hlt h.below.size, fun nm k hk hl e => ?_⟩
    have := (h.blk_lt hk hl e).1
    omega
  intro g cs hgt
  obtain ⟨h1, h2, h3⟩ := hg.glob g cs hgt
  refine ⟨ok g h1, h2, fun j d hj => ?_⟩
  obtain ⟨v, v1, v2⟩ := h3 j d hj
  exact ⟨v, (cell?_heap (a := ⟨g, j, none⟩) (h.below.block g (hg.ok g h1))).trans v1, v2.mono (fun b hb => h.below.block b (hg.ok b hb)) ok⟩
theorem resRV_len (n : Nat) : ∀ rs : List RR, (resRV n rs).1.length = rs.length
  | [] => rfl
  | .val d :: r => by simp [resRV, resRV_len (n + 1) r]
  | .own e rows :: r => by simp [resRV, resRV_len (n + 1) r]
theorem resRV_get : ∀ (rs : List RR) (n i : Nat), (resRV n rs).1[i]? = (rs[i]?).map fun r => match r with
    | .val d => .val d
    | .own _ _ => .own (n + i)
  | [], n, i => by simp [resRV]
  | .val d :: r, n, i => by
    cases i with
    | zero => simp [resRV]
    | succ i =>
      simp only [resRV, List.getElem?_cons_succ, resRV_get r (n + 1) i]
      rw [show n + 1 + i = n + (i + 1) by omega]
  | .own e rows :: r, n, i => by
    cases i with
    | zero => simp [resRV]
    | succ i =>
      simp only [resRV, List.getElem?_cons_succ, resRV_get r (n + 1) i]
      rw [show n + 1 + i = n + (i + 1) by omega]
theorem resRV_set (bl : Blks) : ∀ (rs : List RR) (n m : Nat), setB bl (resRV n rs).2 m = if n ≤ m then match rs[m - n]? with
    | some (.own e rows) => some (.vec e rows)
    | _ => bl m
    else bl m
  | [], n, m => by
    simp only [resRV, setB_nil, List.getElem?_nil]
    split <;> rfl
  | .val d :: r, n, m => by
    simp only [resRV]
    rw [resRV_set bl r (n + 1) m]
    by_cases h : n + 1 ≤ m
    · rw [if_pos h, if_pos (by omega), show m - n = (m - (n + 1)) + 1 by omega, List.getElem?_cons_succ]
    · rw [if_neg h]
      by_cases h2 : n ≤ m
      · rw [if_pos h2, show m - n = 0 by omega]; rfl
      · rw [if_neg h2]
  | .own e rows :: r, n, m => by
    simp only [resRV]
    rw [setB_cons, resRV_set bl r (n + 1) m]
    by_cases h : n + 1 ≤ m
    · rw [if_neg (by simp only; omega), if_pos h, if_pos (by omega), show m - n = (m - (n + 1)) + 1 by omega, List.getElem?_cons_succ]
    · by_cases h2 : n ≤ m
      · have : m = n := by omega
        subst this
        rw [if_pos rfl, if_pos h2, Nat.sub_self]; rfl
      · rw [if_neg (by simp only; omega), if_neg h, if_neg h2]
theorem flat_rr {rs : List RR} (h : allB RR.flat rs = true) {i : Nat} {r : RR} (hi : rs[i]? = some r) : ∃ d, r = .val d ∧ d.flat = true := by
  have := allB_mem h r (List.mem_of_getElem? hi)
  cases r with
  | val d => exact ⟨d, rfl, this⟩
  | own e rows => cases this
theorem rep_slot {ok : Nat → Prop} {tm : Array Value} {rs : List RR} {n : Nat} {vs : List Value} (hl : vs.length = rs.length) (h : ∀ (i : Nat) (r : RV), (resRV n rs).1[i]? = some r → RVRep w ok ψ bl r (vs.getD i undef)) :
    SlotRep w ok ψ bl tm (resSlot (resRV n rs).1) (tupV vs) := by
  have hlen := resRV_len n rs
  have tup : ∀ l : List RV, (resRV n rs).1 = l → SlotRep w ok ψ bl tm (.tup l) (.tuple vs.toArray) := by
    intro l e
    subst e
    refine ⟨vs.toArray, rfl, by simp [hl, hlen], fun i r hi => ?_⟩
    have := h i r hi
    simpa [Array.getD_eq_getD_getElem?, List.getD_eq_getElem?_getD] using this
  match vs, hl with
  | [], hl =>
    match hr : (resRV n rs).1 with
    | [] => exact tup [] hr
    | _ :: _ => rw [hr] at hlen; simp at hlen hl; omega
  | [u], hl =>
    match hr : (resRV n rs).1 with
    | [] => rw [hr] at hlen; simp at hlen hl; omega
    | [r] => exact h 0 r (by rw [hr]; rfl)
    | _ :: _ :: _ => rw [hr] at hlen; simp at hlen hl; omega
  | _ :: _ :: _, hl =>
    match hr : (resRV n rs).1 with
    | [] => rw [hr] at hlen; simp at hlen hl; omega
    | [r] => rw [hr] at hlen; simp at hlen hl; omega
    | x :: y :: z => exact tup (x :: y :: z) hr
theorem ownsRow_base {base base' : Nat} {e : TypeId} {size n : Nat} {v : Value} {xs : List Value} (hb : base' ≤ base) (h : w.ownsRow base e size v n xs) : w.ownsRow base' e size v n xs := by
  refine ⟨h.1, ?_⟩
  rcases h.2 with h | ⟨g, cap, cur, h1, h2, h3⟩
  · exact .inl h
  · exact .inr ⟨g, cap, cur, h1, Nat.le_trans hb h2, h3⟩
theorem Calls.mono {P : Program} {f : FuncId} {vs : Array Value} {R R' : Ending → World → Prop} (h : Calls P f vs w R) (hR : ∀ e w', R e w' → R' e w') : Calls P f vs w R' := by
  intro cs
  obtain ⟨e, w', fr, h1, h2⟩ := h cs
  exact ⟨e, w', fr, hR e w' h1, h2⟩
theorem op_call (hsub : Sub bl0 bl) {cl : Call} {f : Operand} {F : Slot} {L : List Slot} (ho : o.op = .call cl) (hc : cl.callee = .value f) (c : Ctx E ti ψ sl bl U nx a w o.dst) (hF : SlotRep w (okS E bl ψ w) ψ bl a.tmps F (a.eval f)) (hl : L.length = cl.args.size)
    (hX : ∀ (i : Nat) (s : Slot) (v : Value), L[i]? = some s → (cl.args.toList.map a.eval)[i]? = some v → SlotRep w (okS E bl ψ w) ψ bl a.tmps s v) (h : (ptCall bl0 nx F L).All E.P E.gt R) : o.wp E.P a w (Next E sl bl U nx o.dst R) Q := by
  unfold ptCall at h
  split at h
  · rename_i g caps
    split at h
    · rename_i as_ p hargs
      obtain ⟨rs, hspec, h⟩ := h
      have hp := args_frz hsub hargs
      obtain ⟨i1, i2⟩ := args_rep hsub c.sim hp hargs (fun y hy => hy) (vs := cl.args.toList.map a.eval) (by simp [hl]) hX
      have hk1 := (c.sim.frz hp).1
      have hs1 := (c.sim.frz hp).2
      obtain ⟨cap, hfv, hcl, hcap⟩ := fn_inv (w := w) (show Rep w (okS E bl ψ w) (a.eval f) (.fn g caps) from hF)
      have hargsz : (cl.args.map a.eval ++ cap).size = (as_ ++ caps.map Arg.row).length := by simp [i1, hcl]
      have hd := hspec w (cl.args.map a.eval ++ cap) (okS E (setB bl p) ψ w) (fun b hb => hb.2.1) (hs1.glob c.good) hargsz (fun i x hi => by
        by_cases hlt : i < as_.length
        · rw [List.getElem?_append_left hlt] at hi
          have hv : ∃ v, (cl.args.toList.map a.eval)[i]? = some v := ⟨_, List.getElem?_eq_getElem (by omega)⟩
          obtain ⟨v, hv⟩ := hv
          have hlt2 : i < cl.args.size := by simp at i1; omega
          have e : (cl.args.map a.eval ++ cap).getD i undef = v := by
            rw [Array.getD_eq_getD_getElem?, Array.getElem?_append_left (by simp; omega)]
            simp at hv
            obtain ⟨x, hx, rfl⟩ := hv
            simp [hx]
          rw [e]
          exact i2 i x v hi hv
        · rw [List.getElem?_append_right (by omega), List.getElem?_map] at hi
          obtain ⟨r, hr, rfl⟩ := Option.map_eq_some_iff.1 hi
          have hil := (List.getElem?_eq_some_iff.1 hr).1
          have hv : ∃ v, cap[i - as_.length]? = some v := ⟨_, Array.getElem?_eq_getElem (by omega)⟩
          obtain ⟨v, hv⟩ := hv
          have hsz : (cl.args.map a.eval).size = as_.length := by simp at i1; simp; omega
          have e : (cl.args.map a.eval ++ cap).getD i undef = v := by
            rw [Array.getD_eq_getD_getElem?, Array.getElem?_append_right (by omega), hsz, hv]; rfl
          rw [e]
          obtain ⟨ad, x1, x2, x3, x4⟩ := hcap _ r v hr hv
          refine ⟨ad, x1, hk1.ok _ x2, x3, fun j d hj => ?_⟩
          obtain ⟨u, u1, u2⟩ := x4 j d hj
          exact ⟨u, u1, hk1.rep u2⟩)
      have fin : ∀ v w', Below w.heap.size w w' → (∃ okr : Nat → Prop, (∀ b, okr b → (okS E (setB bl p) ψ w b ∨ w.heap.size ≤ b) ∧ b < w'.heap.size) ∧ RetRep E.P w.heap.size w' okr rs v) → Next E sl bl U nx o.dst R (a.put o.dst v) w' := by
        intro v w' hb hret
        obtain ⟨okr, hokr, vs, v1, v2, v3, v4⟩ := hret
        unfold afterCall at h
        split at h
        · -- all flat
          rename_i h8 hfl
          have h8 := Nat.le_of_ble_eq_true h8
          have hset : setB bl (resRV nx rs).2 = bl := by
            funext m
            rw [resRV_set]
            split
            · split
              · rename_i e rows hi
                obtain ⟨d, hd, _⟩ := flat_rr hfl hi
                cases hd
              · rfl
            · rfl
          have hst : Step ψ ψ bl bl U nx none w w' := ⟨hb.os, hb.tape, hb.output, hb.size, fun b hb' _ => hb.block b hb', fun m e => (by cases e), fun _ _ => rfl, fun nm k hn hk => .inl ⟨hk, by simp⟩, fun nm k hn hk => (by rw [c.sim.names nm hn] at hk; cases hk), fun nm nm' k k' hn hn' hk => (by rw [c.sim.names nm hn] at hk; cases hk)⟩
          refine ⟨_, h, ⟨ψ, ?_⟩, fun l s e => ?_⟩
          · rw [show setB bl ({ slot := resSlot (resRV nx rs).1, blks := (resRV nx rs).2 } : Patch).blks = bl from hset]
            refine hst.sim c.sim (fun nm k hk hn => ?_) (fun m hm => ?_) (fun nm cs hn hk => ?_) ?_ c.hmen c.hds ?_
            · rcases hn with hn | hn
              · rw [c.sim.names nm hn] at hk; cases hk
              · cases hn
            · exfalso
              have hno : ∀ r ∈ (resRV nx rs).1, refsR r = [] := by
                intro r hr
                obtain ⟨i, hi⟩ := List.mem_iff_getElem?.1 hr
                rw [resRV_get] at hi
                obtain ⟨r', hr', rfl⟩ := Option.map_eq_some_iff.1 hi
                obtain ⟨d, rfl, _⟩ := flat_rr hfl hr'
                rfl
              unfold resSlot at hm
              split at hm
              · rename_i r e
                rw [refsS, hno r (by rw [e]; simp)] at hm; cases hm
              · rw [refsS] at hm
                obtain ⟨r, hr, hm⟩ := List.mem_flatMap.1 hm
                rw [hno r hr] at hm; cases hm
            · rcases hn with hn | hn
              · rw [c.sim.names nm hn] at hk; cases hk
              · cases hn
            · intro l s' e
              unfold resSlot at e
              split at e <;> cases e
            · rw [v2]
              refine rep_slot v1 (fun i r hi => ?_)
              rw [resRV_get] at hi
              obtain ⟨r', hr', rfl⟩ := Option.map_eq_some_iff.1 hi
              obtain ⟨d, rfl, hdf⟩ := flat_rr hfl hr'
              exact (show Rep w' okr _ d from v3 i _ hr').flat hdf
          · simp only [resSlot] at e
            split at e <;> cases e
        · rename_i h8 hfl
          have h8 := Nat.le_of_ble_eq_true h8
          have hbi : ∀ n, (nx ≤ n ∧ n < nx + 8) → ¬ U n := fun n h => c.fresh n h.1 h.2
          have hset : ∀ n, U n → setB (setB bl p) (resRV nx rs).2 n = setB bl p n := by
            intro n hn
            rw [resRV_set]
            split
            · rename_i h1
              split
              · rename_i e rows hi
                have hil := (List.getElem?_eq_some_iff.1 hi).1
                exact absurd hn (hbi n ⟨h1, by omega⟩)
              · rfl
            · rfl
          have hnew0 : ∀ nm k, ¬ U nm → setB (setB bl p) (resRV nx rs).2 nm = some k → (nx ≤ nm ∧ nm < nx + 8) ∧ ∃ e rows, rs[nm - nx]? = some (.own e rows) ∧ k = .vec e rows := by
            intro nm k hn hk
            rw [resRV_set] at hk
            split at hk
            · rename_i h1
              split at hk
              · rename_i e rows hi
                have hil := (List.getElem?_eq_some_iff.1 hi).1
                injection hk with hk
                exact ⟨⟨h1, by omega⟩, e, rows, hi, hk.symm⟩
              · rw [hs1.names nm hn] at hk; cases hk
            · rw [hs1.names nm hn] at hk; cases hk
          have hst : Step ψ (fun n => if nx ≤ n ∧ n < nx + 8 then vs.getD (n - nx) undef else ψ n) (setB bl p) (setB (setB bl p) (resRV nx rs).2) U nx none w w' := by
            have hnew := hnew0
            refine ⟨hb.os, hb.tape, hb.output, hb.size, fun b hb' _ => hb.block b hb', fun m e => (by cases e), fun n hn => if_neg (by intro e; exact hbi n e hn), fun nm k hn hk => .inl ⟨?_, by simp⟩, fun nm k hn hk => ?_, fun nm nm' k k' hn hn' hk hk' hne => ?_⟩
            · rw [hset nm hn] at hk; exact hk
            · obtain ⟨hin, e, rows, hi, rfl⟩ := hnew nm k hn hk
              refine ⟨rfl, hin, fun b hb' => .inl ?_⟩
              rw [if_pos hin] at hb'
              obtain ⟨xs, x1, x2, _⟩ := v3 _ _ hi
              exact owns_block x2 hb'
            · obtain ⟨hin, e, rows, hi, rfl⟩ := hnew nm k hn hk
              obtain ⟨hin', e', rows', hi', rfl⟩ := hnew nm' k' hn' hk'
              rw [if_pos hin, if_pos hin']
              exact v4 _ _ _ _ hi hi' rfl rfl (by omega)
          have hkp := hst.keeps hs1
          have hokr' : ∀ b, okr b → okS E (setB (setB bl p) (resRV nx rs).2) (fun n => if nx ≤ n ∧ n < nx + 8 then vs.getD (n - nx) undef else ψ n) w' b := by
            intro b hb'
            obtain ⟨h1, h2⟩ := hokr b hb'
            rcases h1 with h1 | h1
            · exact hkp.ok b h1
            · refine ⟨fun h => by have := hs1.below.size; omega, h2, fun nm k hk hl e => ?_⟩
              dsimp only at e
              rcases Classical.em (U nm) with hn | hn
              · rw [if_neg (by intro e; exact hbi nm e hn)] at e
                rw [hset nm hn] at hk
                have := (hs1.blk_lt hk hl e).2; omega
              · obtain ⟨hin, e', rows, hi, rfl⟩ := hnew0 nm k hn hk
                rw [if_pos hin] at e
                obtain ⟨xs, x1, x2, x3, x4, x5, x6⟩ := v3 _ _ hi
                exact x6 b e hb'
          refine ⟨_, h, ⟨fun n => if nx ≤ n ∧ n < nx + 8 then vs.getD (n - nx) undef else ψ n, ?_⟩, fun l s e => ?_⟩
          rotate_left
          · simp only [resSlot] at e
            split at e <;> cases e
          · rw [show setB bl ({ slot := resSlot (resRV nx rs).1, blks := (resRV nx rs).2 ++ p } : Patch).blks = setB (setB bl p) (resRV nx rs).2 from setB_append _ _ _]
            refine hst.sim hs1 (fun nm k hk hn => ?_) (fun m hm => ?_) (fun nm cs hn hk => ?_) ?_ c.hmen c.hds ?_
            · rcases hn with hn | hn
              · obtain ⟨hin, e, rows, hi, rfl⟩ := hnew0 nm k hn hk
                obtain ⟨xs, x1, x2, x3, x4, x5, x6⟩ := v3 _ _ hi
                refine ⟨xs, x1, ?_, x3, x4, fun i r j d hi hj => ?_⟩
                · dsimp only
                  rw [if_pos hin]
                  exact ownsRow_base hs1.below.size x2
                · obtain ⟨u, u1, u2⟩ := x5 i r j d hi hj
                  exact ⟨u, u1, u2.mono (fun _ _ => rfl) hokr'⟩
              · cases hn
            · have hno : ∀ r ∈ (resRV nx rs).1, ∀ m ∈ refsR r, Un U nx m := by
                intro r hr m hm
                obtain ⟨i, hi⟩ := List.mem_iff_getElem?.1 hr
                rw [resRV_get] at hi
                obtain ⟨r', hr', rfl⟩ := Option.map_eq_some_iff.1 hi
                have hil := (List.getElem?_eq_some_iff.1 hr').1
                cases r' with
                | val d => simp [refsR] at hm
                | own e rows => simp [refsR] at hm; exact .inr ⟨by omega, by omega⟩
              unfold resSlot at hm
              split at hm
              · rename_i r e
                exact hno r (by rw [e]; simp) m hm
              · rw [refsS] at hm
                obtain ⟨r, hr, hm⟩ := List.mem_flatMap.1 hm
                exact hno r hr m hm
            · rcases hn with hn | hn
              · obtain ⟨_, e, rows, _, hk'⟩ := hnew0 nm _ hn hk
                cases hk'
              · cases hn
            · intro l s' e
              unfold resSlot at e
              split at e <;> cases e
            · rw [v2]
              refine rep_slot v1 (fun i r hi => ?_)
              rw [resRV_get] at hi
              obtain ⟨r', hr', rfl⟩ := Option.map_eq_some_iff.1 hi
              cases r' with
              | val d => exact (show Rep w' okr _ d from v3 i _ hr').mono (fun _ _ => rfl) hokr'
              | own e rows =>
                intro _
                show vs.getD i undef = if nx ≤ nx + i ∧ nx + i < nx + 8 then vs.getD (nx + i - nx) undef else ψ (nx + i)
                have hil := (List.getElem?_eq_some_iff.1 hr').1
                rw [if_pos (by omega), show nx + i - nx = i by omega]
        · exact h.elim
      have hinv : (execOp a.eval o).run E.P w = (callFunc g (cl.args.map a.eval ++ cap)).run E.P w := by
        simp [execOp, ho, resolve, hc, hfv, Deferred.ofValue, invoke]
      rcases hd with ⟨⟨fn, f1, f2, f3⟩, hcalls⟩ | ⟨v, hrun, hb, hret⟩
      · unfold Oper.wp
        have hen : (callFunc g (cl.args.map a.eval ++ cap)).run E.P w = .ok (.enter g (cl.args.map a.eval ++ cap)) w := by
          have hbn : fn.body.isNone = false := by cases hb : fn.body <;> simp [hb] at f2 ⊢
          have f3' : ¬ (fn.name = "runtime.NumGoroutine") := by simpa using f3
          have hbn' : ¬ (fn.body = none) := by cases hb : fn.body <;> simp [hb] at f2 ⊢
          simp [callFunc, f1, f3', hbn']
        rw [hinv, hen, Oper.upon_enter]
        refine Calls.mono hcalls (fun e w' he => ?_)
        obtain ⟨v, rfl, hb, hret⟩ := he
        exact fin v w' hb hret
      · exact wp_val (hinv.trans hrun) (fin v w hb hret)
    · exact h.elim
  · exact h.elim
end
end Go.Eng
