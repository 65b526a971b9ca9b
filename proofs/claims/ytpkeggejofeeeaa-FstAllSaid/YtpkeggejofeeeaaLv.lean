/- A small deterministic machine over values and a memory of its own; no statement is proved here. -/
import Derived.Orders
set_option linter.unusedVariables false
namespace Go.Proofs.Ytpkeggejofeeeaa.Lvm
noncomputable section

inductive Blk where
  | own (i : Nat)
  | base (b : Nat)
  deriving DecidableEq

inductive LV where
  | bool (b : Bool)
  | int (k : IntKind) (n : Int)
  | str (s : ByteArray)
  | flt (k : FloatKind) (b : Nat)
  | nilp
  | ptr (b : Blk) (o : Nat)
  | nilsl
  | sl (b : Blk) (o sz len cap : Nat) (ex : Bool)
  | nilmap
  | map (r : Nat)
  | fn (f : FuncId) (first cap : List LV)
  | nilfn
  | nilif
  | agg (cs : List LV)
  | tup (vs : List LV)
  deriving Inhabited

def lundef : LV := .tup []

def LV.cells : LV → List LV
  | .agg cs => cs
  | v => [v]

def LV.scalar : LV → Bool
  | .agg _ => false
  | .tup _ => false
  | _ => true

inductive Mem (α : Type) where
  | leaf
  | node (l : Mem α) (v : Option α) (r : Mem α)

namespace Mem
variable {α : Type}
def get (m : Mem α) : Nat → Option α :=
  Mem.rec (fun _ => none) (fun _ v _ ihl ihr n => cond (Nat.beq n 0) v (cond (Nat.beq (n % 2) 1) (ihl (n / 2)) (ihr (n / 2 - 1)))) m
def left : Mem α → Mem α
  | leaf => leaf
  | node l _ _ => l
def right : Mem α → Mem α
  | leaf => leaf
  | node _ _ r => r
def val : Mem α → Option α
  | leaf => none
  | node _ v _ => v
def setF (x : α) : Nat → Mem α → Nat → Mem α
  | 0, m, _ => m
  | f + 1, m, n => cond (Nat.beq n 0) (node m.left (some x) m.right)
      (cond (Nat.beq (n % 2) 1) (node (setF x f m.left (n / 2)) m.val m.right) (node m.left m.val (setF x f m.right (n / 2 - 1))))
def set (m : Mem α) (n : Nat) (x : α) : Mem α := setF x (n + 1) m n
/-- Without n. -/
def del (m : Mem α) (n : Nat) : Mem α := match m with
  | leaf => leaf
  | node l v r => cond (Nat.beq n 0) (node l none r) (cond (Nat.beq (n % 2) 1) (node (del l (n / 2)) v r) (node l v (del r (n / 2 - 1))))
/-- The same, path first. -/
def setFK {β : Type} (x : α) (f : Nat) : Mem α → Nat → (Mem α → β) → β :=
  Nat.rec (fun m _ k => k m) (fun _ ih m n k => Mem.casesOn m
    (cond (Nat.beq n 0) (k (node leaf (some x) leaf))
      (cond (Nat.beq (n % 2) 1) (ih leaf (n / 2) fun l => k (node l none leaf)) (ih leaf (n / 2 - 1) fun r => k (node leaf none r))))
    (fun l v r => cond (Nat.beq n 0) (k (node l (some x) r))
      (cond (Nat.beq (n % 2) 1) (ih l (n / 2) fun l => k (node l v r)) (ih r (n / 2 - 1) fun r => k (node l v r))))) f
end Mem

inductive LObj where
  | cells (cs : List LV)
  | map (kt : TypeId) (es : List (LV × LV))
  | iter (m len : Nat) (at_ : Option Nat)
  | dead

structure LSt where
  mem : Mem LObj
  nxt : Nat

/-- A frame: its slots, and how many. -/
structure LFr where
  m : Mem LV
  n : Nat
def LFr.get (fr : LFr) (t : Nat) : LV := match fr.m.get t with
  | some v => v
  | none => lundef

/- Forcing: these only make the kernel compute now what it would else carry along. 'frcX x k = k x'. -/
section
variable {α : Type}
def frcNat (n : Nat) (k : Nat → α) : α := match n with
  | 0 => k 0
  | m + 1 => k (m + 1)
def frcInt (n : Int) (k : Int → α) : α := match n with
  | .ofNat m => frcNat m fun m => k (.ofNat m)
  | .negSucc m => frcNat m fun m => k (.negSucc m)
def frcKind (x : IntKind) (k : IntKind → α) : α := match x with
  | .i8 => k .i8 | .i16 => k .i16 | .i32 => k .i32 | .i64 => k .i64 | .u8 => k .u8 | .u16 => k .u16 | .u32 => k .u32 | .u64 => k .u64
def frcBool (b : Bool) (k : Bool → α) : α := match b with
  | true => k true
  | false => k false
def frcBlk (b : Blk) (k : Blk → α) : α := match b with
  | .own i => frcNat i fun i => k (.own i)
  | .base i => frcNat i fun i => k (.base i)
/-- A value that is no aggregate. -/
def frcS (x : LV) (k : LV → α) : α := match x with
  | .bool b => frcBool b fun b => k (.bool b)
  | .int q n => frcKind q fun q => frcInt n fun n => k (.int q n)
  | .ptr b o => frcBlk b fun b => frcNat o fun o => k (.ptr b o)
  | .sl b o sz len cap ex => frcBlk b fun b => frcNat o fun o => frcNat sz fun sz => frcNat len fun len => frcNat cap fun cap => frcBool ex fun ex => k (.sl b o sz len cap ex)
  | .map r => frcNat r fun r => k (.map r)
  | .nilp => k .nilp | .nilsl => k .nilsl | .nilmap => k .nilmap | .nilfn => k .nilfn | .nilif => k .nilif
  | x => k x
def frcL (l : List LV) : (List LV → α) → α :=
  List.rec (fun k => k []) (fun x _ ih k => frcS x fun x => ih fun xs => k (x :: xs)) l
def frcV (x : LV) (k : LV → α) : α := match x with
  | .agg cs => frcL cs fun cs => k (.agg cs)
  | .tup cs => frcL cs fun cs => k (.tup cs)
  | .fn f a c => frcNat f fun f => frcL a fun a => frcL c fun c => k (.fn f a c)
  | x => frcS x k
end

/- what a flat type's cells are: 0 bool, 1 string, 2.. integers by kind -/
inductive CK where
  | bool | str | int (k : IntKind)
  deriving DecidableEq

structure Env where
  P : Program
  und : TypeId → Option TypeDesc
  size : TypeId → Option Nat
  bytes : TypeId → Option Nat
  zero : TypeId → Option LV
  flat : TypeId → Option (List CK)
  code : FuncId → Option Func
  bm : Nat → Nat → Option LV
  ext : FuncId → Option (List LV → LSt → Option (LV × LSt))

def liftS : Value → Option LV
  | .bool b => some (.bool b)
  | .int k n => some (.int k n)
  | .string s => some (.str s)
  | .float k b => some (.flt k b)
  | .pointer none => some .nilp
  | .slice none 0 0 => some .nilsl
  | .map none => some .nilmap
  | .nilFunc => some .nilfn
  | .nilIface => some .nilif
  | _ => none

def lift : Value → Option LV
  | .agg cs => (cs.toList.mapM liftS).map .agg
  | .tuple vs => match vs.toList with
    | [] => some (.tup [])
    | _ => none
  | v => liftS v

def leval (fr : LFr) : Operand → Option LV
  | .tmp t => fr.m.get t
  | .const v => lift v
  | .global g => some (.ptr (.base g) 0)
  | .func f => some (.fn f [] [])

def levals (fr : LFr) : List Operand → Option (List LV)
  | [] => some []
  | x :: xs => match leval fr x with
    | some v => match levals fr xs with
      | some vs => some (v :: vs)
      | none => none
    | none => none

def lputK {α : Type} (fr : LFr) (o : Option Tmp) (v : LV) (k : LFr → Option α) : Option α := match o with
  | none => k fr
  | some d => cond (Nat.blt d fr.n) (frcV v fun v => Mem.setFK v (d + 1) fr.m d fun m => k { m := m, n := fr.n }) none
/-- The frame of a call. -/
def argsF {α : Type} (l : List LV) : Nat → Mem LV → (Mem LV → Option α) → Option α :=
  List.rec (fun _ m k => k m) (fun x _ ih i m k => Mem.setFK x (i + 1) m i fun m => frcNat (i + 1) fun i => ih i m k) l

/- memory -/
def newB (st : LSt) (o : LObj) : LSt := { mem := st.mem.set st.nxt o, nxt := st.nxt + 1 }
def frcObj {α : Type} (o : LObj) (k : LObj → α) : α := match o with
  | .cells cs => frcL cs fun cs => k (.cells cs)
  | .map t es => k (.map t es)
  | .iter m n i => k (.iter m n i)
  | .dead => k .dead
/-- 'newB' and a value, computed now. -/
def newK (v : LV) (st : LSt) (o : LObj) : Option (LV × LSt) :=
  frcObj o fun o => Mem.setFK o (st.nxt + 1) st.mem st.nxt fun m => frcNat (st.nxt + 1) fun n => some (v, { mem := m, nxt := n })
def setObjK (st : LSt) (L : Nat) (o : LObj) : Option LSt :=
  frcObj o fun o => Mem.setFK o (L + 1) st.mem L fun m => some { st with mem := m }

def load1 (E : Env) (st : LSt) (b : Blk) (o : Nat) : Option LV :=
  match b with
  | .own L => match st.mem.get L with
    | some (.cells cs) => cs[o]?
    | _ => none
  | .base r => E.bm r o

def takeN (cs : List LV) (o n : Nat) : Option (List LV) :=
  let l := (cs.drop o).take n
  cond (Nat.beq l.length n) (some l) none

def baseN (bm : Nat → Nat → Option LV) (r : Nat) : Nat → Nat → Option (List LV)
  | _, 0 => some []
  | o, n + 1 => match bm r o with
    | some v => match baseN bm r (o + 1) n with
      | some vs => some (v :: vs)
      | none => none
    | none => none

def loadN (E : Env) (st : LSt) (b : Blk) (o n : Nat) : Option (List LV) :=
  match b with
  | .own L => match st.mem.get L with
    | some (.cells cs) => takeN cs o n
    | _ => none
  | .base r => baseN E.bm r o n

def isAggD : TypeDesc → Bool
  | .struct _ | .array _ _ => true
  | _ => false

def loadV (E : Env) (st : LSt) (t : TypeId) (b : Blk) (o : Nat) : Option LV :=
  match E.und t with
  | some d => cond (isAggD d)
      (match E.size t with
        | some n => (loadN E st b o n).map .agg
        | none => none)
      (load1 E st b o)
  | none => none

def splice (cs : List LV) (o : Nat) (vs : List LV) : List LV := cs.take o ++ (vs ++ cs.drop (o + vs.length))

def storeN (lo : Nat) (st : LSt) (b : Blk) (o : Nat) (vs : List LV) : Option LSt :=
  match b with
  | .own L => cond (Nat.ble lo L) (match st.mem.get L with
    | some (.cells cs) => cond (Nat.ble (o + vs.length) cs.length && vs.all LV.scalar) (setObjK st L (.cells (splice cs o vs))) none
    | _ => none) none
  | .base _ => none

def storeV (E : Env) (lo : Nat) (st : LSt) (t : TypeId) (b : Blk) (o : Nat) (v : LV) : Option LSt :=
  match E.size t with
  | some n => cond (Nat.beq v.cells.length n) (storeN lo st b o v.cells) none
  | none => none

/- building -/
def fillL (place : Nat → Option (Nat × Nat)) (cs : List LV) : List (Nat × LV) → Option (List LV)
  | [] => some cs
  | (i, v) :: rest => match place i with
    | some (off, size) => cond (Nat.beq v.cells.length size && Nat.ble (off + v.cells.length) cs.length) (fillL place (splice cs off v.cells) rest) none
    | none => none

def evalParts (fr : LFr) : List (Nat × Operand) → Option (List (Nat × LV))
  | [] => some []
  | (i, x) :: xs => match leval fr x with
    | some v => match evalParts fr xs with
      | some vs => some ((i, v) :: vs)
      | none => none
    | none => none

def placesL (E : Env) : List Field → Option (List (Nat × Nat))
  | [] => some []
  | f :: fs => match E.size f.type with
    | some n => match placesL E fs with
      | some r => some ((f.offset, n) :: r)
      | none => none
    | none => none

def buildL (E : Env) (t : TypeId) (parts : List (Nat × LV)) : Option LV :=
  match E.zero t with
  | some z => match E.und t with
    | some (.struct fields) => match placesL E fields.toList with
      | some pl => (fillL (pl[·]?) z.cells parts).map .agg
      | none => none
    | some (.array _ e) => match E.size e with
      | some n => (fillL (fun i => some (i * n, n)) z.cells parts).map .agg
      | none => none
    | _ => none
  | none => none

def repL (z : List LV) : Nat → List LV
  | 0 => []
  | n + 1 => z ++ repL z n

def zeroCellsL (E : Env) (e : TypeId) (n : Nat) : Option (List LV) :=
  match E.size e with
  | some sz => match E.zero e with
    | some z => cond (Nat.beq z.cells.length sz && (Nat.ble 1 sz && z.cells.all LV.scalar)) (some (repL z.cells n)) none
    | none => none
  | none => none

def partL (E : Env) (t : TypeId) (cs : List LV) (off : Nat) : Option LV :=
  match E.und t with
  | some d => cond (isAggD d)
      (match E.size t with
        | some n => (takeN cs off n).map .agg
        | none => none)
      (cs[off]?)
  | none => none

/- slicing -/
def natOf : LV → Option Nat
  | .int _ (.ofNat n) => some n
  | _ => none

def optNat (fr : LFr) (d : Nat) : Option Operand → Option Nat
  | none => some d
  | some x => match leval fr x with
    | some v => natOf v
    | none => none

def sliceL (E : Env) (fr : LFr) (t : TypeId) (x : LV) (lo hi mx : Option Operand) : Option LV :=
  match E.und t, x with
  | some .string, .str s => match mx with
    | some _ => none
    | none => match optNat fr 0 lo with
      | some l => match optNat fr s.size hi with
        | some h => cond (Nat.ble l h && Nat.ble h s.size) (some (.str (s.extract l h))) none
        | none => none
      | none => none
  | some (.slice e), .nilsl => match E.size e with
    | some _ => match optNat fr 0 lo with
      | some l => match optNat fr 0 hi with
        | some h => match optNat fr 0 mx with
          | some m => cond (Nat.beq l 0 && (Nat.beq h 0 && (Nat.beq m 0 && (mx.isNone || hi.isSome)))) (some .nilsl) none
          | none => none
        | none => none
      | none => none
    | none => none
  | some (.slice e), .sl b o sz len cap ex => match E.size e with
    | some n => match optNat fr 0 lo with
      | some l => match optNat fr len hi with
        | some h => match optNat fr cap mx with
          | some m => cond (Nat.beq n sz && (Nat.ble l h && (Nat.ble h m && (Nat.ble m cap && (mx.isNone || hi.isSome)))))
              (some (.sl b (o + l * sz) sz (h - l) (m - l) (ex || mx.isSome))) none
          | none => none
        | none => none
      | none => none
    | none => none
  | _, _ => none

/- equality -/
def ckFit : List CK → List LV → Bool
  | [], [] => true
  | .bool :: ks, .bool _ :: vs => ckFit ks vs
  | .str :: ks, .str _ :: vs => ckFit ks vs
  | .int k :: ks, .int k' _ :: vs => (k == k') && ckFit ks vs
  | _, _ => false

def cellsEq : List LV → List LV → Bool
  | [], [] => true
  | .bool a :: xs, .bool b :: ys => (a == b) && cellsEq xs ys
  | .str a :: xs, .str b :: ys => (a == b) && cellsEq xs ys
  | .int _ a :: xs, .int _ b :: ys => (a == b) && cellsEq xs ys
  | _, _ => false

def flatEq (E : Env) (t : TypeId) (x y : List LV) : Option Bool :=
  match E.flat t with
  | some ks => match E.und t with
    | some d => cond (isAggD d && (ckFit ks x && ckFit ks y)) (some (cellsEq x y)) none
    | none => none
  | none => none

def eqL (E : Env) (t : TypeId) (x y : LV) : Option Bool :=
  match x, y with
  | .agg a, .agg b => flatEq E t a b
  | .bool a, .bool b => match E.und t with
    | some .bool => some (a == b)
    | _ => none
  | .nilp, .nilp => match E.und t with
    | some (.pointer _) => some true
    | _ => none
  | .nilp, .ptr _ _ | .ptr _ _, .nilp => match E.und t with
    | some (.pointer _) => some false
    | _ => none
  | .nilsl, .nilsl => match E.und t with
    | some (.slice _) => some true
    | _ => none
  | .nilsl, .sl .. | .sl .., .nilsl => match E.und t with
    | some (.slice _) => some false
    | _ => none
  | _, _ => none

def intOp (op : BinOp) (k : IntKind) (a b : Int) : Option LV :=
  match op with
  | .add => some (.int k (k.wrap (a + b)))
  | .sub => some (.int k (k.wrap (a - b)))
  | .mul => some (.int k (k.wrap (a * b)))
  | .quo => if b = 0 then none else some (.int k (k.wrap (a.tdiv b)))
  | .rem => if b = 0 then none else some (.int k (a.tmod b))
  | .and => some (.int k (k.wrap (BitVec.ofInt k.bits a &&& BitVec.ofInt k.bits b).toNat))
  | .or => some (.int k (k.wrap (BitVec.ofInt k.bits a ||| BitVec.ofInt k.bits b).toNat))
  | .xor => some (.int k (k.wrap (BitVec.ofInt k.bits a ^^^ BitVec.ofInt k.bits b).toNat))
  | .andNot => some (.int k (k.wrap (BitVec.ofInt k.bits a &&& ~~~(BitVec.ofInt k.bits b)).toNat))
  | .eql => some (.bool (a == b))
  | .neq => some (.bool (a != b))
  | .lss => some (.bool (a < b))
  | .leq => some (.bool (a ≤ b))
  | .gtr => some (.bool (a > b))
  | .geq => some (.bool (a ≥ b))
  | _ => none

def shiftOp (op : BinOp) (k : IntKind) (a b : Int) : Option LV :=
  if b < 0 then none else
  match op with
  | .shl => some (.int k (k.wrap (a * 2 ^ (min b.toNat k.bits))))
  | .shr => some (.int k (a.fdiv (2 ^ (min b.toNat k.bits))))
  | _ => none

def isShift : BinOp → Bool
  | .shl | .shr => true
  | _ => false

def strOp (op : BinOp) (x y : ByteArray) : Option LV :=
  match op with
  | .add => if x.size + y.size ≤ 140737488355328 then some (.str (x ++ y)) else none
  | .eql => some (.bool (x.toList == y.toList))
  | .neq => some (.bool !(x.toList == y.toList))
  | .lss => some (.bool (Op.bytesLess x.toList y.toList))
  | _ => none

def binL (E : Env) (op : BinOp) (t : TypeId) (x y : LV) : Option LV :=
  match x, y with
  | .int k a, .int k' b => cond (isShift op) (shiftOp op k a b) (if k = k' then intOp op k a b else none)
  | .str a, .str b => strOp op a b
  | _, _ => match op with
    | .eql => (eqL E t x y).map .bool
    | .neq => (eqL E t x y).map fun b => .bool !b
    | _ => none

def unL (op : UnOp) (x : LV) : Option LV :=
  match op, x with
  | .neg, .int k n => some (.int k (k.wrap (0 - n)))
  | .xor, .int k n => intOp .xor k (if k.signed then -1 else k.max) n
  | .not, .bool b => some (.bool !b)
  | _, _ => none

def bytesOf : List LV → Option (List UInt8)
  | [] => some []
  | .int .u8 n :: r => match bytesOf r with
    | some l => some (UInt8.ofNat n.toNat :: l)
    | none => none
  | _ => none

def convL (E : Env) (st : LSt) (src dst : TypeId) (x : LV) : Option (LV × LSt) :=
  match E.und src, E.und dst, x with
  | some (.int _), some (.int k), .int _ n => some (.int k (k.wrap n), st)
  | some .string, some .string, .str s => some (.str s, st)
  | some .string, some (.slice e), .str s => match E.und e with
    | some (.int .u8) => newK (.sl (.own st.nxt) 0 1 s.size s.size false) st (.cells (s.data.toList.map fun b => .int .u8 b.toNat))
    | _ => none
  | some (.slice e), some .string, .nilsl => match E.und e with
    | some (.int .u8) => some (.str .empty, st)
    | _ => none
  | some (.slice e), some .string, .sl b o sz len _ _ => match E.und e with
    | some (.int .u8) => cond (Nat.beq sz 1) (match loadN E st b o len with
      | some cs => match bytesOf cs with
        | some l => some (.str ⟨l.toArray⟩, st)
        | none => none
      | none => none) none
    | _ => none
  | _, _, _ => none

/- append -/
def srcCells (E : Env) (st : LSt) (sz : Nat) : LV → Option (List LV)
  | .nilsl => some []
  | .sl b o sz' len _ _ => cond (Nat.beq sz' sz) (loadN E st b o (len * sz)) none
  | .str s => cond (Nat.beq sz 1) (some (s.data.toList.map fun b => .int .u8 b.toNat)) none
  | _ => none

def lenL : LV → Option Nat
  | .nilsl => some 0
  | .sl _ _ _ len _ _ => some len
  | .str s => some s.size
  | _ => none

def roomFor (need bytes : Nat) : Bool := Nat.ble 1 bytes && Nat.ble ((2 * need + 1000) * bytes) 140737488355328

/-- Appending nothing. -/
def sameSl (sz : Nat) (st : LSt) : LV → Option (LV × LSt)
  | .nilsl => some (.nilsl, st)
  | .sl b o sz' len cap ex => cond (Nat.beq sz' sz) (some (.sl b o sz' len cap ex, st)) none
  | _ => none

def zeroOk (E : Env) (e : TypeId) (sz : Nat) : Bool :=
  match E.zero e with
  | some z => Nat.beq z.cells.length sz
  | none => false

/- 'cover': in a region that draws its order a grown row must be covered to its end. -/
def appendL (E : Env) (lo : Nat) (cover : Bool) (st : LSt) (sType : TypeId) (s x : LV) : Option (LV × LSt) :=
  match E.und sType with
  | some (.slice e) => match E.size e with
    | some sz => match E.bytes e with
      | some by_ => match lenL x with
        | some n => match srcCells E st sz x with
          | some new => cond (new.all LV.scalar && (Nat.beq new.length (n * sz) && (Nat.ble 1 sz && zeroOk E e sz))) (cond (Nat.beq n 0) (sameSl sz st s) (match s with
            | .nilsl => (cond (roomFor n by_)
                (newK (.sl (.own st.nxt) 0 sz n n false) st (.cells new)) none)
            | .sl b o sz' len cap ex => cond (Nat.beq sz' sz)
                (cond ex
                  (cond (Nat.ble (len + n) cap)
                    (cond cover none (match storeN lo st b (o + len * sz) new with
                      | some st' => some (.sl b o sz (len + n) cap true, st')
                      | none => none))
                    (cond (roomFor (len + n) by_) (match loadN E st b o (len * sz) with
                      | some old => newK (.sl (.own st.nxt) 0 sz (len + n) (len + n) false) st (.cells (old ++ new))
                      | none => none) none))
                  (match b with
                    | .own L => cond (Nat.ble lo L && (Nat.beq o 0 && roomFor (len + n) by_)) (match st.mem.get L with
                      | some (.cells cs) => cond (Nat.ble (len * sz) cs.length && (!cover || Nat.beq (len * sz) cs.length))
                          (Mem.setFK .dead (L + 1) st.mem L fun m =>
                            newK (.sl (.own st.nxt) 0 sz (len + n) (len + n) false) { mem := m, nxt := st.nxt } (.cells (cs.take (len * sz) ++ new))) none
                      | _ => none) none
                    | .base _ => none))
                none
            | _ => none)) none
          | none => none
        | none => none
      | none => none
    | none => none
  | _ => none

/- maps -/
def LV.isAgg : LV → Bool
  | .agg _ => true
  | _ => false

def keyOk (E : Env) (t : TypeId) (k : LV) : Option Bool :=
  match E.flat t with
  | some ks => match E.und t with
    | some d => some (ckFit ks k.cells && (isAggD d == k.isAgg))
    | none => none
  | none => none

def findL (k : LV) : List (LV × LV) → Nat → Option (Nat × LV)
  | [], _ => none
  | (k', v) :: es, i => cond (cellsEq k.cells k'.cells) (some (i, v)) (findL k es (i + 1))

def lookupL (E : Env) (st : LSt) (t : TypeId) (x k : LV) (ok : Bool) : Option LV :=
  match E.und t with
  | some (.map kt et) => match keyOk E kt k with
    | some true => match E.zero et with
      | some z =>
        let r := match x with
          | .nilmap => some none
          | .map m => match st.mem.get m with
            | some (.map kt' es) => cond (Nat.beq kt' kt) (some ((findL k es 0).map (·.2))) none
            | _ => none
          | _ => none
        match r with
        | some (some v) => some (if ok then .tup [v, .bool true] else v)
        | some none => some (if ok then .tup [z, .bool false] else z)
        | none => none
      | none => none
    | _ => none
  | _ => none

def mapSetL (E : Env) (lo : Nat) (st : LSt) (t : TypeId) (x k v : LV) : Option LSt :=
  match E.und t with
  | some (.map kt _) => match keyOk E kt k with
    | some true => match x with
      | .map m => cond (Nat.ble lo m) (match st.mem.get m with
        | some (.map kt' es) => cond (Nat.beq kt' kt) (match findL k es 0 with
          | some (i, _) => setObjK st m (.map kt (es.set i (k, v)))
          | none => setObjK st m (.map kt (es ++ [(k, v)]))) none
        | _ => none) none
      | _ => none
    | _ => none
  | _ => none

/-- An entry's value and its place; a new one with the zero value. -/
def mapEntryL (E : Env) (lo : Nat) (st : LSt) (t : TypeId) (x k : LV) : Option (LV × LSt) :=
  match E.und t with
  | some (.map kt et) => match keyOk E kt k with
    | some true => match x with
      | .map m => cond (Nat.ble lo m) (match st.mem.get m with
        | some (.map kt' es) => cond (Nat.beq kt' kt) (match findL k es 0 with
          | some (i, v) => match setObjK st m (.map kt (es.set i (k, v))) with
            | some st' => some (.tup [v, .int .i64 (Int.ofNat i)], st')
            | none => none
          | none => match E.zero et with
            | some z => match setObjK st m (.map kt (es ++ [(k, z)])) with
              | some st' => some (.tup [z, .int .i64 (Int.ofNat es.length)], st')
              | none => none
            | none => none) none
        | _ => none) none
      | _ => none
    | _ => none
  | _ => none

def entryStoreL (lo : Nat) (st : LSt) (x p v : LV) : Option LSt :=
  match x with
  | .map m => match natOf p with
    | some i => cond (Nat.ble lo m) (match st.mem.get m with
      | some (.map kt es) => match es[i]? with
        | some (k, _) => setObjK st m (.map kt (es.set i (k, v)))
        | none => none
      | _ => none) none
    | none => none
  | _ => none

/-- A walk over a map begins: its iterator. -/
def rangeL (E : Env) (st : LSt) (t : TypeId) (x : LV) : Option (LV × LSt) :=
  match E.und t with
  | some (.map _ _) => match x with
    | .map m => match st.mem.get m with
      | some (.map _ es) => newK (.ptr (.own st.nxt) 0) st (.iter m es.length none)
      | _ => none
    | _ => none
  | _ => none

/-- The entry at which a walk stands. -/
def entryL (st : LSt) (x : LV) : Option LV :=
  match x with
  | .ptr (.own L) 0 => match st.mem.get L with
    | some (.iter m n (some i)) => match st.mem.get m with
      | some (.map _ es) => cond (Nat.beq es.length n) (match es[i]? with
        | some (k, v) => some (.tup [k, v])
        | none => none) none
      | _ => none
    | _ => none
  | _ => none

def minL : List LV → Option LV
  | [.int k a, .int _ b] => some (.int k (if b < a then b else a))
  | _ => none
def maxL : List LV → Option LV
  | [.int k a, .int _ b] => some (.int k (if b > a then b else a))
  | _ => none

def lenB (E : Env) (st : LSt) (t : TypeId) (x : LV) : Option LV :=
  match E.und t, x with
  | some .string, .str s => some (.int .i64 s.size)
  | some (.slice _), .nilsl => some (.int .i64 0)
  | some (.slice _), .sl _ _ _ len _ _ => some (.int .i64 len)
  | some (.map _ _), .nilmap => some (.int .i64 0)
  | some (.map _ _), .map m => match st.mem.get m with
    | some (.map _ es) => some (.int .i64 es.length)
    | _ => none
  | _, _ => none

def builtinL (E : Env) (lo : Nat) (cover : Bool) (st : LSt) (b : Builtin) (ts : Array TypeId) (args : List LV) : Option (LV × LSt) :=
  match b, args, ts.toList with
  | .len, [x], t :: _ => (lenB E st t x).map (·, st)
  | .append, [s, x], [t, t'] => match E.und t' with
    | some (.slice _) | some .string => appendL E lo cover st t s x
    | _ => none
  | .min, xs, _ => (minL xs).map (·, st)
  | .max, xs, _ => (maxL xs).map (·, st)
  | _, _, _ => none

def indexAddrL (E : Env) (t : TypeId) (x i : LV) : Option LV :=
  match natOf i with
  | some n => match E.und t, x with
    | some (.array len e), .ptr b o => match E.size e with
      | some sz => cond (Nat.blt n len) (some (.ptr b (o + n * sz))) none
      | none => none
    | some (.slice e), .sl b o sz len _ _ => match E.size e with
      | some sz' => cond (Nat.blt n len && Nat.beq sz' sz) (some (.ptr b (o + n * sz))) none
      | none => none
    | _, _ => none
  | none => none

def indexL (E : Env) (t : TypeId) (x i : LV) : Option LV :=
  match natOf i with
  | some n => match E.und t, x with
    | some (.array len e), .agg cs => match E.size e with
      | some sz => cond (Nat.blt n len) (partL E e cs (n * sz)) none
      | none => none
    | some .string, .str s => match s.data.toList[n]? with
      | some b => some (.int .u8 b.toNat)
      | none => none
    | _, _ => none
  | none => none

def fieldAddrL (E : Env) (s : TypeId) (x : LV) (f : Nat) : Option LV :=
  match E.und s, x with
  | some (.struct fs), .ptr b o => match fs.toList[f]? with
    | some fd => match E.size fd.type with
      | some n => cond (Nat.beq n 0) none (some (.ptr b (o + fd.offset)))
      | none => none
    | none => none
  | _, _ => none

def fieldL (E : Env) (s : TypeId) (x : LV) (f : Nat) : Option LV :=
  match E.und s, x with
  | some (.struct fs), .agg cs => match fs.toList[f]? with
    | some fd => partL E fd.type cs fd.offset
    | none => none
  | _, _ => none

abbrev CallFn := Nat → FuncId → List LV → LSt → Option (LV × LSt)

/- one operation each: the value, and the state behind it -/
def opMove (fr : LFr) (st : LSt) (x : Operand) : Option (LV × LSt) :=
  match leval fr x with
  | some v => some (v, st)
  | none => none
def opPick (fr : LFr) (st : LSt) (c a b : Operand) : Option (LV × LSt) :=
  match leval fr c with
  | some (.bool t) => opMove fr st (cond t a b)
  | _ => none
def opAlloc (E : Env) (st : LSt) (t : TypeId) : Option (LV × LSt) :=
  match E.zero t with
  | some z => cond (z.cells.all LV.scalar) (newK (.ptr (.own st.nxt) 0) st (.cells z.cells)) none
  | none => none
def opBox (fr : LFr) (st : LSt) (x : Operand) : Option (LV × LSt) :=
  match leval fr x with
  | some v => cond (v.cells.all LV.scalar) (newK (.ptr (.own st.nxt) 0) st (.cells v.cells)) none
  | none => none
def opBuild (E : Env) (fr : LFr) (st : LSt) (t : TypeId) (ps : Array (Nat × Operand)) : Option (LV × LSt) :=
  match evalParts fr ps.toList with
  | some l => match buildL E t l with
    | some v => some (v, st)
    | none => none
  | none => none
def opBuildSlice (E : Env) (fr : LFr) (st : LSt) (t : TypeId) (n : Nat) (ps : Array (Nat × Operand)) : Option (LV × LSt) :=
  match E.und t with
  | some (.slice e) => match zeroCellsL E e n with
    | some z => match E.size e with
      | some sz => match evalParts fr ps.toList with
        | some l => match fillL (fun i => some (i * sz, sz)) z l with
          | some cs => cond (cs.all LV.scalar && Nat.ble (n * sz) 16777216) (newK (.sl (.own st.nxt) 0 sz n n true) st (.cells cs)) none
          | none => none
        | none => none
      | none => none
    | none => none
  | _ => none
def opLoad (E : Env) (fr : LFr) (st : LSt) (t : TypeId) (a : Operand) : Option (LV × LSt) :=
  match leval fr a with
  | some (.ptr b o) => match loadV E st t b o with
    | some v => some (v, st)
    | none => none
  | _ => none
def opStore (E : Env) (lo : Nat) (fr : LFr) (st : LSt) (t : TypeId) (a x : Operand) : Option (LV × LSt) :=
  match leval fr a with
  | some (.ptr b o) => match leval fr x with
    | some v => match storeV E lo st t b o v with
      | some st' => some (lundef, st')
      | none => none
    | none => none
  | _ => none
def opNil (fr : LFr) (st : LSt) (x : Operand) : Option (LV × LSt) :=
  match leval fr x with
  | some (.ptr b o) => some (.ptr b o, st)
  | _ => none
def opBin (E : Env) (fr : LFr) (st : LSt) (op : BinOp) (t : TypeId) (x y : Operand) : Option (LV × LSt) :=
  match leval fr x with
  | some a => match leval fr y with
    | some b => match binL E op t a b with
      | some v => some (v, st)
      | none => none
    | none => none
  | none => none
def opUn (fr : LFr) (st : LSt) (op : UnOp) (x : Operand) : Option (LV × LSt) :=
  match leval fr x with
  | some a => match unL op a with
    | some v => some (v, st)
    | none => none
  | none => none
def opConv (E : Env) (fr : LFr) (st : LSt) (s d : TypeId) (x : Operand) : Option (LV × LSt) :=
  match leval fr x with
  | some a => convL E st s d a
  | none => none
def opFunc (fr : LFr) (st : LSt) (fn : Fn) (a c : Array Operand) : Option (LV × LSt) :=
  match fn with
  | .func f => match levals fr a.toList with
    | some first => match levals fr c.toList with
      | some cap => some (.fn f first cap, st)
      | none => none
    | none => none
  | _ => none
def opMakeMap (E : Env) (st : LSt) (t : TypeId) (r : Option Operand) : Option (LV × LSt) :=
  match r with
  | none => match E.und t with
    | some (.map kt _) => newK (.map st.nxt) st (.map kt [])
    | _ => none
  | some _ => none
def opMakeSlice (E : Env) (fr : LFr) (st : LSt) (t : TypeId) (l c : Operand) : Option (LV × LSt) :=
  match E.und t with
  | some (.slice e) => match leval fr l with
    | some lv => match leval fr c with
      | some cv => match natOf lv with
        | some n => match natOf cv with
          | some m => match E.bytes e with
            | some by_ => match zeroCellsL E e m with
              | some cs => match E.size e with
                | some sz => cond (Nat.ble n m && Nat.ble (m * by_ + m) 140737488355328)
                    (newK (.sl (.own st.nxt) 0 sz n m true) st (.cells cs)) none
                | none => none
              | none => none
            | none => none
          | none => none
        | none => none
      | none => none
    | none => none
  | _ => none
def opSlice (E : Env) (fr : LFr) (st : LSt) (t : TypeId) (x : Operand) (l h m : Option Operand) : Option (LV × LSt) :=
  match leval fr x with
  | some v => match sliceL E fr t v l h m with
    | some u => some (u, st)
    | none => none
  | none => none
def opFieldAddr (E : Env) (fr : LFr) (st : LSt) (s : TypeId) (x : Operand) (f : Nat) : Option (LV × LSt) :=
  match leval fr x with
  | some v => match fieldAddrL E s v f with
    | some u => some (u, st)
    | none => none
  | none => none
def opField (E : Env) (fr : LFr) (st : LSt) (s : TypeId) (x : Operand) (f : Nat) : Option (LV × LSt) :=
  match leval fr x with
  | some v => match fieldL E s v f with
    | some u => some (u, st)
    | none => none
  | none => none
def opIndexAddr (E : Env) (fr : LFr) (st : LSt) (t : TypeId) (x i : Operand) : Option (LV × LSt) :=
  match leval fr x with
  | some v => match leval fr i with
    | some n => match indexAddrL E t v n with
      | some u => some (u, st)
      | none => none
    | none => none
  | none => none
def opIndex (E : Env) (fr : LFr) (st : LSt) (t : TypeId) (x i : Operand) : Option (LV × LSt) :=
  match leval fr x with
  | some v => match leval fr i with
    | some n => match indexL E t v n with
      | some u => some (u, st)
      | none => none
    | none => none
  | none => none
def opLookup (E : Env) (fr : LFr) (st : LSt) (t : TypeId) (x i : Operand) (ok : Bool) : Option (LV × LSt) :=
  match leval fr x with
  | some v => match leval fr i with
    | some k => match lookupL E st t v k ok with
      | some u => some (u, st)
      | none => none
    | none => none
  | none => none
def opMapUpdate (E : Env) (lo : Nat) (fr : LFr) (st : LSt) (t : TypeId) (m k x : Operand) : Option (LV × LSt) :=
  match leval fr m with
  | some mv => match leval fr k with
    | some kv => match leval fr x with
      | some v => match mapSetL E lo st t mv kv v with
        | some st' => some (lundef, st')
        | none => none
      | none => none
    | none => none
  | none => none
def opMapEntry (E : Env) (lo : Nat) (fr : LFr) (st : LSt) (t : TypeId) (m k : Operand) : Option (LV × LSt) :=
  match leval fr m with
  | some mv => match leval fr k with
    | some kv => mapEntryL E lo st t mv kv
    | none => none
  | none => none
def opEntryStore (lo : Nat) (fr : LFr) (st : LSt) (m k x : Operand) : Option (LV × LSt) :=
  match leval fr m with
  | some mv => match leval fr k with
    | some kv => match leval fr x with
      | some v => match entryStoreL lo st mv kv v with
        | some st' => some (lundef, st')
        | none => none
      | none => none
    | none => none
  | none => none
def opRange (E : Env) (fr : LFr) (st : LSt) (t : TypeId) (x : Operand) : Option (LV × LSt) :=
  match leval fr x with
  | some v => rangeL E st t v
  | none => none
def opEntry (fr : LFr) (st : LSt) (x : Operand) : Option (LV × LSt) :=
  match leval fr x with
  | some v => match entryL st v with
    | some u => some (u, st)
    | none => none
  | none => none
def opExtract (fr : LFr) (st : LSt) (t : Operand) (i : Nat) : Option (LV × LSt) :=
  match leval fr t with
  | some (.tup vs) => match vs[i]? with
    | some v => some (v, st)
    | none => none
  | _ => none
def opCall (E : Env) (call : CallFn) (lo : Nat) (cover : Bool) (fr : LFr) (st : LSt) (c : Call) : Option (LV × LSt) :=
  match levals fr c.args.toList with
  | some args => match c.callee with
    | .value f => match leval fr f with
      | some (.fn g first cap) => call lo g ((first ++ args) ++ cap) st
      | _ => none
    | .builtin b => builtinL E lo cover st b c.argTypes args
    | .invoke .. => none
  | none => none

/-- One operation: the value, and the state behind it. 'call lo': a call under a barrier. 'cover': see appendL. -/
def vop (E : Env) (call : CallFn) (lo : Nat) (cover : Bool) (fr : LFr) (st : LSt) (op : Op) : Option (LV × LSt) :=
  match op with
  | .move x => opMove fr st x
  | .assign x => opMove fr st x
  | .pick c a b => opPick fr st c a b
  | .alloc t => opAlloc E st t
  | .box _ x => opBox fr st x
  | .build t ps => opBuild E fr st t ps
  | .buildSlice t n ps => opBuildSlice E fr st t n ps
  | .load t a => opLoad E fr st t a
  | .store t a x => opStore E lo fr st t a x
  | .nilCheck x => opNil fr st x
  | .binOp op t x y _ => opBin E fr st op t x y
  | .unOp op _ x => opUn fr st op x
  | .convert s d x => opConv E fr st s d x
  | .makeFunc fn a c => opFunc fr st fn a c
  | .makeMap t r => opMakeMap E st t r
  | .makeSlice t l c => opMakeSlice E fr st t l c
  | .slice t x l h m => opSlice E fr st t x l h m
  | .fieldAddr s x f => opFieldAddr E fr st s x f
  | .field s x f => opField E fr st s x f
  | .indexAddr t x i => opIndexAddr E fr st t x i
  | .index t x i => opIndex E fr st t x i
  | .lookup t x i ok => opLookup E fr st t x i ok
  | .mapUpdate t m k x => opMapUpdate E lo fr st t m k x
  | .extract t i => opExtract fr st t i
  | .mapEntry t m k => opMapEntry E lo fr st t m k
  | .entryStore _ m k x => opEntryStore lo fr st m k x
  | .range t x => opRange E fr st t x
  | .entry x => opEntry fr st x
  | .call c => opCall E call lo cover fr st c
  | _ => none

/-- Is it wanted? (none: not known) -/
def lwanted (ops : List Oper) (fr : LFr) (o : Oper) : Option Bool :=
  match o.guard with
  | none => some true
  | some (j, w) => match ops[j]? with
    | some g => match g.dst with
      | some d => match fr.m.get d with
        | some (.bool b) => some (b == w)
        | some _ => some false
        | none => none
      | none => some false
    | none => some false

/-- An operation in its region. -/
def vOper (E : Env) (call : CallFn) (lo : Nat) (cover : Bool) (ops : List Oper) (o : Oper) (fr : LFr) (st : LSt) : Option (LFr × LSt) :=
  match lwanted ops fr o with
  | some true => match vop E call lo cover fr st o.op with
    | some (v, st') => lputK fr o.dst v fun fr' => some (fr', st')
    | none => none
  | some false => lputK fr o.dst lundef fun fr' => some (fr', st)
  | none => none

def vOpers (E : Env) (call : CallFn) (lo : Nat) (cover : Bool) (ops : List Oper) (l : List Oper) : LFr → LSt → Option (LFr × LSt) :=
  List.rec (fun fr st => some (fr, st)) (fun o _ ih fr st => match vOper E call lo cover ops o fr st with
    | some (fr', st') => ih fr' st'
    | none => none) l

inductive LExit where
  | normal
  | exit (id : Nat)
  | ret

abbrev RecFn := Nat → Code → LFr → LSt → Option (LExit × LFr × LSt)

def vresult (E : Env) (fr : LFr) (st : LSt) : ResultVar → Option LV
  | .tmp t => fr.m.get t
  | .cell a t => match fr.m.get a with
    | some (.ptr b o) => loadV E st t b o
    | _ => none

def vresultsL (E : Env) (fr : LFr) (st : LSt) : List ResultVar → Option (List LV)
  | [] => some []
  | r :: rs => match vresult E fr st r with
    | some v => match vresultsL E fr st rs with
      | some vs => some (v :: vs)
      | none => none
    | none => none

def vresults (E : Env) (fn : Func) (fr : LFr) (st : LSt) : Option LV :=
  match vresultsL E fr st fn.results.toList with
  | some [v] => some v
  | some vs => some (.tup vs)
  | none => none

def vcall (E : Env) (rec : RecFn) : CallFn := fun lo f args st =>
  match E.ext f with
  | some g => g args st
  | none => match E.code f with
    | some fn => match fn.body with
      | some c => match cond (Nat.ble args.length fn.ntmps) (argsF args 0 .leaf fun m => rec lo c { m := m, n := fn.ntmps } st) none with
        | some (.normal, fr, st') => (vresults E fn fr st').map (·, st')
        | some (.ret, fr, st') => (vresults E fn fr st').map (·, st')
        | _ => none
      | none => none
    | none => none

/- which operations may stand in a region that draws its order, and which must wait for which -/
inductive Cl where
  | pure | read | fresh | grow | call | write
  deriving DecidableEq

def clOf : Op → Option Cl
  | .move _ | .assign _ | .pick .. | .build .. | .nilCheck _ | .binOp .. | .unOp .. | .makeFunc .. | .slice .. | .fieldAddr .. | .field .. | .indexAddr .. | .index .. | .extract .. => some .pure
  | .load .. | .lookup .. | .entry _ => some .read
  | .range .. | .alloc _ | .box .. | .buildSlice .. | .makeMap .. | .makeSlice .. | .convert .. => some .fresh
  | .store .. | .mapUpdate .. | .mapEntry .. | .entryStore .. => some .write
  | .call c => match c.callee with
    | .value _ => some .call
    | .builtin .append => some .grow
    | .builtin .len => some .read
    | .builtin .min | .builtin .max => some .pure
    | _ => none
  | _ => none

/-- Must the second wait for the first? -/
def mustWait : Cl → Cl → Bool
  | .pure, _ => false
  | _, .pure => false
  | .write, _ => true
  | _, .write => true
  | .read, .grow => true
  | .fresh, .call => true
  | .fresh, .grow => true
  | .call, .call => true
  | .call, .grow => true
  | .grow, .call => true
  | .grow, .grow => true
  | _, _ => false

def waitB : Option Cl → Option Cl → Bool
  | some a, some b => mustWait a b
  | _, _ => true

/-- Behind a write there are only writes and what does not touch memory. -/
def lateB : Option Cl → Option Cl → Bool
  | some .write, some .pure => true
  | some .write, some .write => true
  | some .write, _ => false
  | _, _ => true

def drawOk (ops : Array Oper) : Bool :=
  let b := Region.before ops
  let l := ops.toList.zipIdx
  l.all fun oj => (clOf oj.1.op).isSome && (oj.1.after.toList.all (fun e => !Region.binds .any e || Nat.blt e.on oj.2) &&
    l.all fun oi => !Nat.blt oi.2 oj.2 || ((oi.1.dst.isNone || oi.1.dst != oj.1.dst) && lateB (clOf oi.1.op) (clOf oj.1.op) &&
      ((b.getD oj.2 0).testBit oi.2 || (oi.1.apart ops oj.1 && !waitB (clOf oi.1.op) (clOf oj.1.op)))))

def vregion (E : Env) (rec : RecFn) (lo : Nat) (ops : Array Oper) (draw : Bool) (fr : LFr) (st : LSt) : Option (LFr × LSt) :=
  cond draw
    (cond (drawOk ops) (vOpers E (fun _ f args st => vcall E rec st.nxt f args st) lo true ops.toList ops.toList fr st) none)
    (vOpers E (vcall E rec) lo false ops.toList ops.toList fr st)

/-- The slots that a code writes. -/
def dstsO : List Oper → List Nat
  | [] => []
  | o :: os => match o.dst with
    | some d => d :: dstsO os
    | none => dstsO os
def dsts : Code → List Nat
  | .region _ ops _ => dstsO ops.toList
  | .seq a b => dsts a ++ dsts b
  | .cond _ a b => dsts a ++ dsts b
  | .block _ a => dsts a
  | .loop a => dsts a
  | _ => []

def clearF (fr : LFr) : List Nat → LFr
  | [] => fr
  | d :: ds => clearF { m := fr.m.del d, n := fr.n } ds

/-- A loop over a map: the iterator's slot, those of the step and of its answer, and the round's code. -/
def walkOf : Code → Option (Nat × Nat × Nat × Nat × Code)
  | .loop (.seq (.region _ ops false) (.seq (.cond (.tmp c) .skip (.exit i)) body)) => match ops.toList with
    | [⟨some n, .next (.tmp x) false, _, _, _, none⟩, ⟨some c', .extract (.tmp n') 0, _, _, _, none⟩] =>
      cond (Nat.beq c c' && (Nat.beq n n' && (!Nat.beq x n && (!Nat.beq x c && !Nat.beq n c)))) (some (x, n, c, i, body)) none
    | _ => none
  | _ => none

/-- What the rounds come to, whatever their order: each goes on, or ends the function with one and the same answer. The frame (cleared of what a round writes), the iterator, the map. -/
inductive WEnd where
  | on
  | back (fr : LFr)

/-- The slots that two frames have alike, of some. -/
def alikeF (fr a b : LFr) : List Nat → LFr
  | [] => fr
  | d :: ds => match a.m.get d, b.m.get d with
    | some (.bool x), some (.bool y) => cond (x == y) (alikeF { m := fr.m.set d (.bool x), n := fr.n } a b ds) (alikeF fr a b ds)
    | _, _ => alikeF fr a b ds

def rounds (rec : RecFn) (n c : Nat) (body : Code) (fr : LFr) (st : LSt) (L m len : Nat) (ds : List Nat) : List (LV × LV) → Nat → WEnd → Option WEnd
  | [], _, e => some e
  | (k, v) :: es, i, e =>
    match lputK fr (some n) (.tup [.bool true, k, v]) fun fr1 => lputK fr1 (some c) (.bool true) fun fr2 =>
        match setObjK st L (.iter m len (some i)) with
        | some st1 => rec st.nxt body fr2 st1
        | none => none with
    | some (.normal, _, _) => rounds rec n c body fr st L m len ds es (i + 1) e
    | some (.ret, fr', _) => match e with
      | .on => rounds rec n c body fr st L m len ds es (i + 1) (.back (alikeF fr fr' fr' ds))
      | .back fr0 => rounds rec n c body fr st L m len ds es (i + 1) (.back (alikeF fr fr0 fr' ds))
    | _ => none

def vwalk (rec : RecFn) (lo x n c : Nat) (body : Code) (fr : LFr) (st : LSt) : Option (LExit × LFr × LSt) :=
  match (clearF fr (n :: c :: dsts body)).m.get x with
  | some (.ptr (.own L) 0) => cond (Nat.ble lo L) (match st.mem.get L with
    | some (.iter m len none) => match st.mem.get m with
      | some (.map _ es) => cond (Nat.beq es.length len && (Nat.blt n fr.n && Nat.blt c fr.n))
          (let ds := n :: c :: dsts body
           let fr0 := clearF fr ds
           match rounds rec n c body fr0 st L m len ds es 0 .on with
           | some .on => match setObjK st L .dead with
             | some st' => some (.normal, fr0, st')
             | none => none
           | some (.back fr') => match setObjK st L .dead with
             | some st' => some (.ret, fr', st')
             | none => none
           | none => none) none
      | _ => none
    | _ => none) none
  | _ => none

def vstep (E : Env) (rec : RecFn) : RecFn := fun lo c fr st =>
  match c with
  | .skip | .label _ => some (.normal, fr, st)
  | .region _ ops draw => match vregion E rec lo ops draw fr st with
    | some (fr', st') => some (.normal, fr', st')
    | none => none
  | .seq a b => match rec lo a fr st with
    | some (.normal, fr', st') => rec lo b fr' st'
    | r => r
  | .cond c a b => match leval fr c with
    | some (.bool t) => rec lo (if t then a else b) fr st
    | _ => none
  | .block id body => match walkOf body with
    | some (x, n, c, i, b) => cond (Nat.beq i id) (vwalk rec lo x n c b fr st) none
    | none => match rec lo body fr st with
      | some (.exit i, fr', st') => cond (Nat.beq i id) (some (.normal, fr', st')) (some (.exit i, fr', st'))
      | r => r
  | .loop body => match rec lo body fr st with
    | some (.normal, fr', st') => rec lo (.loop body) fr' st'
    | r => r
  | .exit id => some (.exit id, fr, st)
  | .ret => some (.ret, fr, st)
  | _ => none

def vcode (E : Env) (n : Nat) : RecFn :=
  Nat.rec (fun _ _ _ _ => none) (fun _ ih => vstep E ih) n

def vrun (E : Env) (n : Nat) : CallFn := vcall E (vcode E n)

end
end Go.Proofs.Ytpkeggejofeeeaa.Lvm
