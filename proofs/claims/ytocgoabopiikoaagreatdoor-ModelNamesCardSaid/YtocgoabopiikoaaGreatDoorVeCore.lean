/- The evaluator: values, operations, heap. No statement of the program stands here. -/
import GoSem.Dispatch
import GoSem.Core.Machine
import Derived.Calls
set_option linter.all false
namespace Go.VE

/-- Values: what the model's values are, with blocks by numbers of our own; 'isl', 'iptr': rows that nobody writes, told whole. -/
inductive V where
  | top
  | int (k : IntKind) (n : Int)
  | bool (b : Bool)
  | str (s : List UInt8)
  | ptr (b off : Nat)
  | nilp
  | sl (b off len cap sz : Nat)
  | nils
  | isl (cells : List V) (len : Nat) (cap : Option Nat)
  | iptr (cells : List V)
  | fn (f : Nat) (caps : List V)
  | yld (b : Nat)
  | nilf
  | ifc (t : Nat) (v : V)
  | nili
  | agg (cs : List V)
  | tup (cs : List V)
  | mp (b : Nat)
  | nilm
instance : Inhabited V := ⟨.top⟩

/-- A trie over numbers. -/
inductive Tr (α : Type) where
  | lf
  | nd (v : Option α) (l r : Tr α)

namespace Tr
variable {α : Type}
def get : Tr α → Nat → Option α
  | .lf, _ => none
  | .nd v l r, i => bif Nat.beq i 0 then v else bif Nat.beq (i % 2) 1 then get l (i / 2) else get r (i / 2 - 1)
def setF : Nat → Tr α → Nat → α → Tr α
  | 0, t, _, _ => t
  | f + 1, t, i, x =>
    match t with
    | .lf => bif Nat.beq i 0 then .nd (some x) .lf .lf else bif Nat.beq (i % 2) 1 then .nd none (setF f .lf (i / 2) x) .lf else .nd none .lf (setF f .lf (i / 2 - 1) x)
    | .nd v l r => bif Nat.beq i 0 then .nd (some x) l r else bif Nat.beq (i % 2) 1 then .nd v (setF f l (i / 2) x) r else .nd v l (setF f r (i / 2 - 1) x)
def set (t : Tr α) (i : Nat) (x : α) : Tr α := setF (i + 1) t i x
end Tr

abbrev Slots := Tr V
def Slots.at (s : Slots) (i : Nat) : V := (s.get i).getD (.tup [])

inductive Opd where
  | t (i : Nat)
  | k (v : V)
instance : Inhabited Opd := ⟨.k .top⟩

def Opd.ev (s : Slots) : Opd → V
  | .t i => s.at i
  | .k v => v

inductive VOp where
  | mv (x : Opd)
  | pick (c a b : Opd)
  | alloc (z : List V)
  | box (n : Nat) (x : Opd)
  | build (z : List V) (ps : List (Nat × Nat × Opd))
  | bsl (len sz : Nat) (z : List V) (ps : List (Nat × Nat × Opd))
  | ld (n : Option Nat) (a : Opd)
  | st (n : Nat) (a x : Opd)
  | nck (x : Opd)
  | bin (op : BinOp) (x y : Opd)
  | eqb (neg : Bool) (x y : Opd)
  | eqn (neg : Bool) (k : Nat) (x y : Opd)
  | eqa (neg : Bool) (ks : List Nat) (x y : Opd)
  | un (op : UnOp) (x : Opd)
  | cnv (k : IntKind) (x : Opd)
  | s2b (x : Opd)
  | b2s (x : Opd)
  | mkf (f : Nat) (caps : List Opd)
  | mks (bytes : Nat) (z : List V) (len cap : Opd)
  | slc (sz : Nat) (x : Opd) (lo hi mx : Option Opd)
  | slcs (x : Opd) (lo hi : Option Opd)
  | slca (n sz : Nat) (x : Opd) (lo hi mx : Option Opd)
  | fa (off : Nat) (x : Opd)
  | fld (off : Nat) (n : Option Nat) (x : Opd)
  | ia (sz : Nat) (x i : Opd)
  | iaa (len sz : Nat) (x i : Opd)
  | ix (len sz : Nat) (n : Option Nat) (x i : Opd)
  | ixs (x i : Opd)
  | ext (i : Nat) (x : Opd)
  | len (x : Opd)
  | lens (x : Opd)
  | lenc (n : Nat)
  | app (sz bytes : Nat) (s x : Opd)
  | apps (bytes : Nat) (s x : Opd)
  | app0 (bytes : Nat) (z : List V) (s x : Opd)
  | cpy (sz : Nat) (d s : Opd)
  | cpys (d s : Opd)
  | mini (xs : List Opd)
  | maxi (xs : List Opd)
  | mkif (t : Nat) (x : Opd)
  | call (f : Nat) (args : List Opd)
  | callp (f : Nat) (args : List Opd)
  | callo (f : Nat) (args : List Opd)
  | callv (x : Opd) (args : List Opd)
  | carry (sub : Bool) (x y c : Opd)
  | tasrt (t : Nat) (ok : Bool) (z : V) (x : Opd)
  | rngs (x : Opd)
  | nxts (x : Opd)
  | mkmap
  | look (z : V) (ok : Bool) (m k : Opd)
  | mupd (m k x : Opd)
  | mdel (m k : Opd)
  | lenm (m : Opd)
  | clr (x : Opd) (z : List V)
  | bad
instance : Inhabited VOp := ⟨.bad⟩

structure VOper where
  dst : Option Nat
  g : Option (Nat × Bool)
  op : VOp
instance : Inhabited VOper := ⟨⟨none, none, .bad⟩⟩

inductive VCode where
  | skip
  | reg (ops : List VOper) (chk : List (Nat × Nat))
  | seq (a b : VCode)
  | cond (c : Opd) (a b : VCode)
  | block (id : Nat) (c : VCode)
  | loop (c : VCode)
  | exit (id : Nat)
  | ret
  | rngf (f : Opd) (ps : List Nat) (assign body : VCode)
  | scope (c : VCode)
instance : Inhabited VCode := ⟨.skip⟩

inductive VRes where
  | t (i : Nat)
  | c (i : Nat) (n : Option Nat)
instance : Inhabited VRes := ⟨.t 0⟩

structure VFn where
  prim : Option (Nat × Nat) := none
  mode : Nat
  res : List VRes
  body : VCode
instance : Inhabited VFn := ⟨⟨none, 0, [], .skip⟩⟩

inductive VX where
  | norm
  | exit (id : Nat)
  | ret
instance : Inhabited VX := ⟨.norm⟩
instance : DecidableEq VX := fun a b =>
  match a, b with
  | .norm, .norm => isTrue rfl
  | .ret, .ret => isTrue rfl
  | .exit i, .exit j => if h : i = j then isTrue (by rw [h]) else isFalse (fun e => h (by cases e; rfl))
  | .norm, .ret => isFalse (fun h => nomatch h)
  | .norm, .exit _ => isFalse (fun h => nomatch h)
  | .ret, .norm => isFalse (fun h => nomatch h)
  | .ret, .exit _ => isFalse (fun h => nomatch h)
  | .exit _, .norm => isFalse (fun h => nomatch h)
  | .exit _, .ret => isFalse (fun h => nomatch h)

inductive Blk where
  | dead
  | cells (c : List V) (opn : Bool)
  | siter (s : List UInt8) (pos : Nat)
  | map (es : List (V × V × Nat)) (clock : Nat)
  | miter (m : Option Nat) (since : Nat) (seen : List Nat) (last : Nat)
  | loop (st : Nat) (pend : Option VX) (tmps : Tr V) (ps : List Nat) (assign body : VCode)
instance : Inhabited Blk := ⟨.dead⟩

structure Heap where
  nx : Nat
  lo : Nat
  tr : Tr Blk

namespace Heap
def get (h : Heap) (b : Nat) : Blk := (h.tr.get b).getD .dead
def set (h : Heap) (b : Nat) (x : Blk) : Heap := { h with tr := h.tr.set b x }
def new (h : Heap) (x : Blk) : Heap := { nx := h.nx + 1, lo := h.lo, tr := h.tr.set h.nx x }
end Heap

-- ------------------------------------------------------------------ operations

def slotsPut (s : Slots) (d : Option Nat) (v : V) : Slots :=
  match d with
  | some i => s.set i v
  | none => s

def asNat : V → Option Nat
  | .int _ (.ofNat n) => some n
  | _ => none

/-- the cells from a place on -/
def cellsAt (h : Heap) : V → Option (List V)
  | .ptr b off => match h.get b with
    | .cells c _ => some (c.drop off)
    | _ => none
  | .iptr cs => some cs
  | _ => none

/-- n cells from a list, all of them -/
def takeN : Nat → List V → Option (List V)
  | 0, _ => some []
  | _ + 1, [] => none
  | n + 1, x :: xs => match takeN n xs with
    | some r => some (x :: r)
    | none => none

/-- the cells of a slice -/
def rowOf (h : Heap) (sz : Nat) : V → Option (List V)
  | .sl b off len _ sz' => bif Nat.beq sz sz' then match h.get b with
      | .cells c _ => takeN (len * sz) (c.drop off)
      | _ => none
    else none
  | .nils => some []
  | .isl cs len _ => bif Nat.beq cs.length (len * sz) then some cs else none
  | _ => none

def lenOf : V → Option Nat
  | .sl _ _ len _ _ => some len
  | .nils => some 0
  | .isl _ len _ => some len
  | .str s => some s.length
  | _ => none

/-- may a value stand in a cell? -/
def oneCell : V → Bool
  | .agg _ | .tup _ | .top => false
  | _ => true

/-- new cells over old ones, from a place on -/
def over : Nat → List V → List V → Option (List V)
  | _, l, [] => some l
  | _, [], _ :: _ => none
  | 0, _ :: l, x :: xs => bif oneCell x then match over 0 l xs with
    | some r => some (x :: r)
    | none => none
    else none
  | n + 1, y :: l, x :: xs => match over n l (x :: xs) with
    | some r => some (y :: r)
    | none => none

def store (h : Heap) (b off : Nat) (xs : List V) : Option Heap :=
  match xs with
  | [] => some h
  | x :: xs => bif Nat.blt b h.lo then none else match h.get b with
    | .cells c o => match over off c (x :: xs) with
      | some c' => some (h.set b (.cells c' o))
      | none => none
    | _ => none

def cellsO : V → Option (List V)
  | .agg cs => some cs
  | .top | .tup _ => none
  | v => some [v]

def fill (cells : List V) : List (Nat × Nat × V) → Option (List V)
  | [] => some cells
  | (off, sz, v) :: r => match cellsO v with
    | some l => bif Nat.beq l.length sz && Nat.blt 0 sz then match over off cells l with
      | some c => fill c r
      | none => none
      else none
    | none => none

def part (n : Option Nat) (cs : List V) : Option V :=
  match n with
  | none => match cs with
    | x :: _ => some x
    | [] => none
  | some n => match takeN n cs with
    | some l => some (.agg l)
    | none => none

def kEq : IntKind → IntKind → Bool
  | .i8, .i8 | .i16, .i16 | .i32, .i32 | .i64, .i64 | .u8, .u8 | .u16, .u16 | .u32, .u32 | .u64, .u64 => true
  | _, _ => false
def eqI : Int → Int → Bool
  | .ofNat a, .ofNat b => Nat.beq a b
  | .negSucc a, .negSucc b => Nat.beq a b
  | _, _ => false
def ltI : Int → Int → Bool
  | .ofNat a, .ofNat b => Nat.blt a b
  | .negSucc a, .negSucc b => Nat.blt b a
  | .negSucc _, .ofNat _ => true
  | .ofNat _, .negSucc _ => false
def md : IntKind → Nat
  | .i8 | .u8 => 256
  | .i16 | .u16 => 65536
  | .i32 | .u32 => 4294967296
  | .i64 | .u64 => 18446744073709551616
def hf : IntKind → Option Nat
  | .i8 => some 128
  | .i16 => some 32768
  | .i32 => some 2147483648
  | .i64 => some 9223372036854775808
  | _ => none
/-- a number modulo the kind's span -/
def low (k : IntKind) : Int → Nat
  | .ofNat n => n % md k
  | .negSucc n => md k - 1 - n % md k
/-- IntKind.wrap -/
def wr (k : IntKind) (n : Int) : Int :=
  match hf k with
  | none => .ofNat (low k n)
  | some h => bif Nat.blt (low k n) h then .ofNat (low k n) else Int.negSucc (md k - 1 - low k n)
def eqBytes : List UInt8 → List UInt8 → Bool
  | [], [] => true
  | a :: x, b :: y => bif Nat.beq a.toNat b.toNat then eqBytes x y else false
  | _, _ => false

def eqS : V → V → Option Bool
  | .int k a, .int k' b => bif kEq k k' then some (eqI a b) else none
  | .bool a, .bool b => some (a == b)
  | .str a, .str b => some (eqBytes a b)
  | _, _ => none

/-- cells of kinds: 0: a number, 1: a bool, 2: a string -/
def eqK : Nat → V → V → Option Bool
  | 0, .int k a, .int k' b => bif kEq k k' then some (eqI a b) else none
  | 1, .bool a, .bool b => some (a == b)
  | 2, .str a, .str b => some (eqBytes a b)
  | _, _, _ => none
def eqCells : List Nat → List V → List V → Option Bool
  | [], [], [] => some true
  | k :: ks, x :: xs, y :: ys => match eqK k x y with
    | some true => eqCells ks xs ys
    | some false => some false
    | none => none
  | _, _, _ => none

/-- is a value of a kind (0: pointer, 1: slice, 2: map, 3: function, 4: interface) nil? -/
def isNil : Nat → V → Option Bool
  | 0, .nilp => some true
  | 0, .ptr _ _ => some false
  | 0, .iptr _ => some false
  | 1, .nils => some true
  | 1, .sl _ _ _ _ _ => some false
  | 1, .isl _ _ _ => some false
  | 2, .nilm => some true
  | 2, .mp _ => some false
  | 3, .nilf => some true
  | 3, .fn _ _ => some false
  | 3, .yld _ => some false
  | 4, .nili => some true
  | 4, .ifc _ _ => some false
  | _, _ => none

/-- '==', one of the two being nil -/
def eqNil (k : Nat) (x y : V) : Option Bool :=
  match isNil k x, isNil k y with
  | some true, some n => some n
  | some n, some true => some n
  | _, _ => none

def bitOp (op : BinOp) (k : IntKind) (x y : Int) : Option Int :=
  match op with
  | .and => some (wr k (.ofNat (low k x &&& low k y)))
  | .or => some (wr k (.ofNat (low k x ||| low k y)))
  | .xor => some (wr k (.ofNat (low k x ^^^ low k y)))
  | .andNot => some (wr k (.ofNat (low k x &&& (md k - 1 - low k y))))
  | _ => none

def binInt (op : BinOp) (k : IntKind) (x y : Int) : Option V :=
  match op with
  | .add => some (.int k (wr k (x + y)))
  | .sub => some (.int k (wr k (x - y)))
  | .mul => some (.int k (wr k (x * y)))
  | .quo => bif eqI y 0 then none else some (.int k (wr k (x.tdiv y)))
  | .rem => bif eqI y 0 then none else some (.int k (x.tmod y))
  | .and => (bitOp .and k x y).map (.int k)
  | .or => (bitOp .or k x y).map (.int k)
  | .xor => (bitOp .xor k x y).map (.int k)
  | .andNot => (bitOp .andNot k x y).map (.int k)
  | .eql => some (.bool (eqI x y))
  | .neq => some (.bool (!(eqI x y)))
  | .lss => some (.bool (ltI x y))
  | .leq => some (.bool (!(ltI y x)))
  | .gtr => some (.bool (ltI y x))
  | .geq => some (.bool (!(ltI x y)))
  | _ => none

def shiftInt (op : BinOp) (k : IntKind) (x : Int) : Int → Option V
  | .negSucc _ => none
  | .ofNat y =>
    match op with
    | .shl => some (.int k (wr k (x * .ofNat (2 ^ Nat.min y k.bits))))
    | .shr => some (.int k (match x with
      | .ofNat a => .ofNat (a / 2 ^ Nat.min y k.bits)
      | .negSucc a => .negSucc (a / 2 ^ Nat.min y k.bits)))
    | _ => none

def strLess : List UInt8 → List UInt8 → Bool
  | _, [] => false
  | [], _ :: _ => true
  | a :: x, b :: y => bif Nat.blt a.toNat b.toNat then true else bif Nat.beq a.toNat b.toNat then strLess x y else false

def binStr (op : BinOp) (x y : List UInt8) : Option V :=
  match op with
  | .add => bif Nat.blt 140737488355328 (x.length + y.length) then none else some (.str (x ++ y))
  | .eql => some (.bool (eqBytes x y))
  | .neq => some (.bool (!(eqBytes x y)))
  | .lss => some (.bool (strLess x y))
  | .leq => some (.bool (strLess x y || eqBytes x y))
  | .gtr => some (.bool (!(strLess x y || eqBytes x y)))
  | .geq => some (.bool (!(strLess x y)))
  | _ => none

def binOp (op : BinOp) (x y : V) : Option V :=
  match x, y with
  | .int k a, .int k' b =>
    match op with
    | .shl => shiftInt .shl k a b
    | .shr => shiftInt .shr k a b
    | op => bif kEq k k' then binInt op k a b else none
  | .str a, .str b => binStr op a b
  | _, _ => none

def unOp (op : UnOp) (x : V) : Option V :=
  match op, x with
  | .neg, .int k n => some (.int k (wr k (0 - n)))
  | .xor, .int k n => (bitOp .xor k (if k.signed then -1 else k.max) n).map (.int k)
  | .not, .bool b => some (.bool (!b))
  | _, _ => none

def rep (n : Nat) (z : List V) : List V :=
  match n with
  | 0 => []
  | n + 1 => z ++ rep n z

/-- a bound: none: as given; some: a number from 0 on, at most m -/
def bound (x : Option V) (dflt m : Nat) : Option Nat :=
  match x with
  | none => some dflt
  | some v => match asNat v with
    | some n => bif Nat.ble n m then some n else none
    | none => none

def sliceV (h : Heap) (sz : Nat) (x : V) (lo hi mx : Option V) : Option V :=
  match x with
  | .nils =>
    match bound mx 0 0, bound hi 0 0, bound lo 0 0 with
    | some _, some _, some _ => some .nils
    | _, _, _ => none
  | .sl b off len cap sz' => bif Nat.beq sz sz' then
    match bound mx cap cap with
    | none => none
    | some m => match bound hi len m with
      | none => none
      | some hh => match bound lo 0 hh with
        | none => none
        | some l =>
          match mx with
          | none => some (.sl b (off + l * sz) (hh - l) (m - l) sz)
          | some _ => match h.get b with
            | .cells c o => bif o && Nat.beq (off + m * sz) c.length then some .top else some (.sl b (off + l * sz) (hh - l) (m - l) sz)
            | _ => none
    else none
  | .isl cs len cap =>
    match bound mx len (cap.getD len) with
    | none => none
    | some m => match bound hi len (Nat.min m len) with
      | none => none
      | some hh => match bound lo 0 hh with
        | none => none
        | some l => match takeN ((hh - l) * sz) (cs.drop (l * sz)) with
          | none => none
          | some cs' => some (.isl cs' (hh - l) (match mx with | some _ => some (m - l) | none => cap.map (· - l)))
  | _ => none

def appendV (h : Heap) (sz bytes : Nat) (s : V) (n : Nat) (new : List V) : Option (V × Heap) :=
  match n with
  | 0 => match s with
    | .nils | .sl .. | .isl .. => some (s, h)
    | _ => none
  | _ =>
  match s with
  | .nils => bif Nat.blt 140737488355328 (n * bytes) then none else some (.sl h.nx 0 n n sz, h.new (.cells new true))
  | .isl cs len (some c) =>
    bif Nat.ble (len + n) c then none else bif Nat.blt 140737488355328 ((len + n) * bytes) then none else
    bif Nat.beq cs.length (len * sz) then some (.sl h.nx 0 (len + n) (len + n) sz, h.new (.cells (cs ++ new) true)) else none
  | .sl b off len cap sz' => bif Nat.beq sz sz' then match h.get b with
    | .cells c o =>
      bif Nat.ble (len + n) cap then
        bif Nat.blt b h.lo then none else match over (off + len * sz) c new with
          | some c' => some (.sl b off (len + n) cap sz, h.set b (.cells c' o))
          | none => none
      else bif Nat.blt 140737488355328 ((len + n) * bytes) then none else
      match takeN (len * sz) (c.drop off) with
      | none => none
      | some old =>
        bif o && Nat.beq (off + cap * sz) c.length then
          bif Nat.blt b h.lo || !(new.all oneCell) then none else some (.sl h.nx 0 (len + n) (len + n) sz, (h.set b .dead).new (.cells (old ++ new) true))
        else some (.sl h.nx 0 (len + n) (len + n) sz, h.new (.cells (old ++ new) true))
    | _ => none
    else none
  | _ => none

/-- slices.Insert. -/
def insertV (h : Heap) (sz bytes : Nat) (s iv v : V) : Option (V × Heap) :=
  match iv, lenOf s, rowOf h sz s, lenOf v, rowOf h sz v with
  | .int .i64 (.ofNat i), some n, some old, some m, some new =>
    bif Nat.beq m 0 then (bif Nat.ble i n then some (s, h) else none) else
    bif Nat.beq i n then appendV h sz bytes s m new else
    bif Nat.ble n i || Nat.blt 140737488355328 ((n + m) * bytes) || !(new.all oneCell) || !(old.all oneCell) then none else
    match v with
    | .sl b2 _ _ _ _ =>
      match s with
      | .isl _ _ (some c) => bif Nat.ble (n + m) c then none else some (.sl h.nx 0 (n + m) (n + m) sz, h.new (.cells (old.take (i * sz) ++ (new ++ old.drop (i * sz))) true))
      | .sl b off _ cap _ => match h.get b with
        | .cells c o =>
          bif Nat.beq b b2 || Nat.blt b h.lo then none else
          bif Nat.ble (n + m) cap then match over (off + i * sz) c (new ++ old.drop (i * sz)) with
            | some c' => some (.sl b off (n + m) cap sz, h.set b (.cells c' o))
            | none => none
          else bif o && Nat.beq (off + cap * sz) c.length then
            some (.sl h.nx 0 (n + m) (n + m) sz, (h.set b .dead).new (.cells (old.take (i * sz) ++ (new ++ old.drop (i * sz))) true))
          else some (.sl h.nx 0 (n + m) (n + m) sz, h.new (.cells (old.take (i * sz) ++ (new ++ old.drop (i * sz))) true))
        | _ => none
      | _ => none
    | _ => none
  | _, _, _, _, _ => none

/-- what is copied: k elements -/
def srcCells (h : Heap) (sz k : Nat) (s : V) : Option (List V) :=
  match rowOf h sz s with
  | some row => takeN (k * sz) row
  | none => none

def copyTo (h : Heap) (sz : Nat) (d : V) (n : Nat) (cs : List V) : Option (V × Heap) :=
  match d with
  | .sl b off _ _ sz' => bif Nat.beq sz sz' then match store h b off cs with
      | some h => some (.int .i64 n, h)
      | none => none
    else none
  | .nils => some (.int .i64 0, h)
  | _ => none

def copyV (h : Heap) (sz : Nat) (d s : V) : Option (V × Heap) :=
  match lenOf d, lenOf s with
  | some nd, some ns =>
    match srcCells h sz (Nat.min ns nd) s with
    | none => none
    | some cs => copyTo h sz d (Nat.min ns nd) cs
  | _, _ => none

def copyS (h : Heap) (d : V) (l : List UInt8) : Option (V × Heap) :=
  match lenOf d with
  | some nd =>
    match takeN (Nat.min l.length nd) (l.map fun b => .int .u8 b.toNat) with
    | none => none
    | some cs => copyTo h 1 d (Nat.min l.length nd) cs
  | none => none

def min2 : V → V → Option V
  | .int k x, .int _ y => some (.int k (bif ltI y x then y else x))
  | _, _ => none
def max2 : V → V → Option V
  | .int k x, .int _ y => some (.int k (bif ltI x y then y else x))
  | _, _ => none
def fold2 (f : V → V → Option V) : V → List V → Option V
  | x, [] => some x
  | x, y :: l => match f x y with
    | some z => fold2 f z l
    | none => none

def bytesOf : List V → Option (List UInt8)
  | [] => some []
  | .int .u8 n :: l => match bytesOf l with
    | some r => some (UInt8.ofNat n.toNat :: r)
    | none => none
  | _ :: _ => none

def findK (k : V) : List (V × V × Nat) → Nat → Option (Option (Nat × V))
  | [], _ => some none
  | (k', v, _) :: r, i => match eqS k k' with
    | some true => some (some (i, v))
    | some false => findK k r (i + 1)
    | none => none

def carryV (sub : Bool) (x y c : Nat) : V :=
  bif sub then .tup [.int .u64 (.ofNat ((x + 18446744073709551616 - y - c) % 18446744073709551616)), .int .u64 (bif Nat.blt x (y + c) then 1 else 0)]
  else .tup [.int .u64 (.ofNat ((x + y + c) % 18446744073709551616)), .int .u64 (.ofNat ((x + y + c) / 18446744073709551616))]

def evs (s : Slots) (xs : List Opd) : List V := xs.map (Opd.ev s)
def evo (s : Slots) (x : Option Opd) : Option V := x.map (Opd.ev s)

def op_mv (x : Opd) (s : Slots) (h : Heap) : Option (V × Heap) :=
  some (x.ev s, h)

def op_pick (c : Opd) (a : Opd) (b : Opd) (s : Slots) (h : Heap) : Option (V × Heap) :=
  match c.ev s with
    | .bool true => some (a.ev s, h)
    | .bool false => some (b.ev s, h)
    | _ => none

def op_alloc (z : List V) (s : Slots) (h : Heap) : Option (V × Heap) :=
  some (.ptr h.nx 0, h.new (.cells z false))

def op_box (n : Nat) (x : Opd) (s : Slots) (h : Heap) : Option (V × Heap) :=
  match cellsO (x.ev s) with
  | some l => bif Nat.beq l.length n then some (.ptr h.nx 0, h.new (.cells l false)) else none
  | none => none

def op_build (z : List V) (ps : List (Nat × Nat × Opd)) (s : Slots) (h : Heap) : Option (V × Heap) :=
  (fill z (ps.map fun p => (p.1, p.2.1, p.2.2.ev s))).map fun cs => (.agg cs, h)

def op_bsl (n : Nat) (sz : Nat) (z : List V) (ps : List (Nat × Nat × Opd)) (s : Slots) (h : Heap) : Option (V × Heap) :=
  (fill z (ps.map fun p => (p.1, p.2.1, p.2.2.ev s))).map fun cs => (.sl h.nx 0 n n sz, h.new (.cells cs false))

def op_ld (n : Option Nat) (a : Opd) (s : Slots) (h : Heap) : Option (V × Heap) :=
  match cellsAt h (a.ev s) with
    | some cs => (part n cs).map fun v => (v, h)
    | none => none

def op_st (n : Nat) (a : Opd) (x : Opd) (s : Slots) (h : Heap) : Option (V × Heap) :=
  match cellsO (x.ev s) with
  | some l => bif Nat.beq l.length n then match a.ev s with
      | .ptr b off => (store h b off l).map fun h => (.tup [], h)
      | _ => none
    else none
  | none => none

def op_nck (x : Opd) (s : Slots) (h : Heap) : Option (V × Heap) :=
  match x.ev s with
    | .ptr b o => some (.ptr b o, h)
    | .iptr c => some (.iptr c, h)
    | .fn f c => some (.fn f c, h)
    | .yld b => some (.yld b, h)
    | .ifc t v => some (.ifc t v, h)
    | _ => none

def op_bin (op : BinOp) (x : Opd) (y : Opd) (s : Slots) (h : Heap) : Option (V × Heap) :=
  (binOp op (x.ev s) (y.ev s)).map fun v => (v, h)

def op_eqb (neg : Bool) (x : Opd) (y : Opd) (s : Slots) (h : Heap) : Option (V × Heap) :=
  match x.ev s, y.ev s with
  | .bool a, .bool b => some (.bool (bif neg then !(a == b) else a == b), h)
  | _, _ => none

def op_eqn (neg : Bool) (k : Nat) (x : Opd) (y : Opd) (s : Slots) (h : Heap) : Option (V × Heap) :=
  match eqNil k (x.ev s) (y.ev s) with
  | some r => some (.bool (bif neg then !r else r), h)
  | none => none

def op_eqa (neg : Bool) (ks : List Nat) (x : Opd) (y : Opd) (s : Slots) (h : Heap) : Option (V × Heap) :=
  match x.ev s, y.ev s with
  | .agg a, .agg b => bif Nat.beq a.length ks.length && Nat.beq b.length ks.length then match eqCells ks a b with
    | some r => some (.bool (bif neg then !r else r), h)
    | none => none
    else none
  | _, _ => none

def op_un (op : UnOp) (x : Opd) (s : Slots) (h : Heap) : Option (V × Heap) :=
  (unOp op (x.ev s)).map fun v => (v, h)

def op_cnv (k : IntKind) (x : Opd) (s : Slots) (h : Heap) : Option (V × Heap) :=
  match x.ev s with
    | .int _ n => some (.int k (wr k n), h)
    | _ => none

def op_s2b (x : Opd) (s : Slots) (h : Heap) : Option (V × Heap) :=
  match x.ev s with
    | .str l => bif Nat.blt 140737488355328 l.length then none else some (.sl h.nx 0 l.length l.length 1, h.new (.cells (l.map fun b => .int .u8 b.toNat) true))
    | _ => none

def op_b2s (x : Opd) (s : Slots) (h : Heap) : Option (V × Heap) :=
  match rowOf h 1 (x.ev s) with
    | some cs => (bytesOf cs).map fun l => (.str l, h)
    | none => none

def op_mkf (f : Nat) (caps : List Opd) (s : Slots) (h : Heap) : Option (V × Heap) :=
  some (.fn f (evs s caps), h)

def op_mks (bytes : Nat) (z : List V) (l : Opd) (c : Opd) (s : Slots) (h : Heap) : Option (V × Heap) :=
  match asNat (l.ev s), asNat (c.ev s) with
    | some l, some c => bif Nat.ble l c && Nat.ble (c * bytes) 140737488355328 && Nat.ble c 9223372036854775807 then some (.sl h.nx 0 l c z.length, h.new (.cells (rep c z) false)) else none
    | _, _ => none

def op_slc (sz : Nat) (x : Opd) (lo : Option Opd) (hi : Option Opd) (mx : Option Opd) (s : Slots) (h : Heap) : Option (V × Heap) :=
  (sliceV h sz (x.ev s) (evo s lo) (evo s hi) (evo s mx)).map fun v => (v, h)

def op_slcs (x : Opd) (lo : Option Opd) (hi : Option Opd) (s : Slots) (h : Heap) : Option (V × Heap) :=
  match x.ev s with
    | .str l => match bound (evo s hi) l.length l.length with
      | none => none
      | some hh => match bound (evo s lo) 0 hh with
        | none => none
        | some ll => some (.str ((l.drop ll).take (hh - ll)), h)
    | _ => none

def op_slca (n : Nat) (sz : Nat) (x : Opd) (lo : Option Opd) (hi : Option Opd) (mx : Option Opd) (s : Slots) (h : Heap) : Option (V × Heap) :=
 
    match bound (evo s mx) n n with
    | none => none
    | some m => match bound (evo s hi) n m with
      | none => none
      | some hh => match bound (evo s lo) 0 hh with
        | none => none
        | some l => match x.ev s with
          | .ptr b off => match h.get b with
            | .cells c o => bif o && Nat.beq (off + m * sz) c.length then none else bif Nat.ble (off + n * sz) c.length then some (.sl b (off + l * sz) (hh - l) (m - l) sz, h) else none
            | _ => none
          | .iptr cs => (takeN ((hh - l) * sz) (cs.drop (l * sz))).map fun cs => (.isl cs (hh - l) (some (m - l)), h)
          | _ => none

def op_fa (off : Nat) (x : Opd) (s : Slots) (h : Heap) : Option (V × Heap) :=
  match x.ev s with
    | .ptr b o => some (.ptr b (o + off), h)
    | .iptr cs => some (.iptr (cs.drop off), h)
    | _ => none

def op_fld (off : Nat) (n : Option Nat) (x : Opd) (s : Slots) (h : Heap) : Option (V × Heap) :=
  match x.ev s with
    | .agg cs => (part n (cs.drop off)).map fun v => (v, h)
    | _ => none

def op_ia (sz : Nat) (x : Opd) (i : Opd) (s : Slots) (h : Heap) : Option (V × Heap) :=
  match asNat (i.ev s), x.ev s with
    | some i, .sl b off len _ _ => bif Nat.blt i len then some (.ptr b (off + i * sz), h) else none
    | some i, .isl cs len _ => bif Nat.blt i len && Nat.blt (i * sz) cs.length then some (.iptr (cs.drop (i * sz)), h) else none
    | _, _ => none

def op_iaa (len : Nat) (sz : Nat) (x : Opd) (i : Opd) (s : Slots) (h : Heap) : Option (V × Heap) :=
  match asNat (i.ev s), x.ev s with
    | some i, .ptr b off => bif Nat.blt i len then some (.ptr b (off + i * sz), h) else none
    | some i, .iptr cs => bif Nat.blt i len then some (.iptr (cs.drop (i * sz)), h) else none
    | _, _ => none

def op_ix (len : Nat) (sz : Nat) (n : Option Nat) (x : Opd) (i : Opd) (s : Slots) (h : Heap) : Option (V × Heap) :=
  match asNat (i.ev s), x.ev s with
    | some i, .agg cs => bif Nat.blt i len then (part n (cs.drop (i * sz))).map fun v => (v, h) else none
    | _, _ => none

def op_ixs (x : Opd) (i : Opd) (s : Slots) (h : Heap) : Option (V × Heap) :=
  match asNat (i.ev s), x.ev s with
    | some i, .str l => (l[i]?).map fun b => (.int .u8 b.toNat, h)
    | _, _ => none

def op_ext (i : Nat) (x : Opd) (s : Slots) (h : Heap) : Option (V × Heap) :=
  match x.ev s with
    | .tup cs => (cs[i]?).map fun v => (v, h)
    | _ => none

def op_len (x : Opd) (s : Slots) (h : Heap) : Option (V × Heap) :=
  match x.ev s with
  | .str _ => none
  | v => match lenOf v with
    | some n => some (.int .i64 n, h)
    | none => none

def op_lens (x : Opd) (s : Slots) (h : Heap) : Option (V × Heap) :=
  match x.ev s with
  | .str l => some (.int .i64 l.length, h)
  | _ => none

def op_lenc (n : Nat) (s : Slots) (h : Heap) : Option (V × Heap) :=
  some (.int .i64 n, h)

def op_app (sz bytes : Nat) (a : Opd) (x : Opd) (s : Slots) (h : Heap) : Option (V × Heap) :=
  match lenOf (x.ev s), rowOf h sz (x.ev s) with
  | some n, some cs => appendV h sz bytes (a.ev s) n cs
  | _, _ => none

def op_apps (bytes : Nat) (a : Opd) (x : Opd) (s : Slots) (h : Heap) : Option (V × Heap) :=
  match x.ev s with
  | .str l => appendV h 1 bytes (a.ev s) l.length (l.map fun b => .int .u8 b.toNat)
  | _ => none

def op_app0 (bytes : Nat) (z : List V) (a : Opd) (x : Opd) (s : Slots) (h : Heap) : Option (V × Heap) :=
  match asNat (x.ev s) with
    | some n => bif Nat.ble (n * bytes) 140737488355328 then appendV h z.length bytes (a.ev s) n (rep n z) else none
    | none => none

def op_cpy (sz : Nat) (d : Opd) (a : Opd) (s : Slots) (h : Heap) : Option (V × Heap) :=
  copyV h sz (d.ev s) (a.ev s)

def op_cpys (d : Opd) (a : Opd) (s : Slots) (h : Heap) : Option (V × Heap) :=
  match a.ev s with
  | .str l => copyS h (d.ev s) l
  | _ => none

def op_mini (xs : List Opd) (s : Slots) (h : Heap) : Option (V × Heap) :=
  match evs s xs with
    | x :: l => (fold2 min2 x l).map fun v => (v, h)
    | [] => none

def op_maxi (xs : List Opd) (s : Slots) (h : Heap) : Option (V × Heap) :=
  match evs s xs with
    | x :: l => (fold2 max2 x l).map fun v => (v, h)
    | [] => none

def op_mkif (t : Nat) (x : Opd) (s : Slots) (h : Heap) : Option (V × Heap) :=
  some (.ifc t (x.ev s), h)

def op_carry (sub : Bool) (x : Opd) (y : Opd) (c : Opd) (s : Slots) (h : Heap) : Option (V × Heap) :=
  match x.ev s, y.ev s, c.ev s with
    | .int .u64 (.ofNat x), .int .u64 (.ofNat y), .int .u64 (.ofNat c) => bif Nat.ble c 1 then some (carryV sub x y c, h) else none
    | _, _, _ => none

def op_tasrt (t : Nat) (ok : Bool) (z : V) (x : Opd) (s : Slots) (h : Heap) : Option (V × Heap) :=
  match x.ev s with
    | .ifc u v => bif Nat.beq t u then some (if ok then .tup [v, .bool true] else v, h) else bif ok then some (.tup [z, .bool false], h) else none
    | .nili => bif ok then some (.tup [z, .bool false], h) else none
    | _ => none

def op_nxts (x : Opd) (s : Slots) (h : Heap) : Option (V × Heap) :=
  match x.ev s with
    | .ptr b 0 => bif Nat.blt b h.lo then none else match h.get b with
      | .siter l p => match l.drop p with
        | [] => some (.tup [.bool false], h)
        | c :: _ => bif Nat.blt c.toNat 128 then some (.tup [.bool true, .int .i64 p, .int .i32 c.toNat], h.set b (.siter l (p + 1))) else none
      | _ => none
    | _ => none

def op_clr (x : Opd) (z : List V) (s : Slots) (h : Heap) : Option (V × Heap) :=
  match x.ev s with
    | .nils => some (.tup [], h)
    | .sl b off len _ sz => (store h b off (rep len z)).bind fun h => bif Nat.beq sz z.length then some (.tup [], h) else none
    | _ => none

def op_rngs (x : Opd) (s : Slots) (h : Heap) : Option (V × Heap) :=
  match x.ev s with
    | .str l => some (.ptr h.nx 0, h.new (.siter l 0))
    | _ => none

def op_mkmap  (s : Slots) (h : Heap) : Option (V × Heap) :=
  some (.mp h.nx, h.new (.map [] 0))

def op_look (z : V) (ok : Bool) (m : Opd) (k : Opd) (s : Slots) (h : Heap) : Option (V × Heap) :=
  match m.ev s with
    | .nilm => some (if ok then .tup [z, .bool false] else z, h)
    | .mp b => match h.get b with
      | .map es _ => match findK (k.ev s) es 0 with
        | some (some (_, v)) => some (if ok then .tup [v, .bool true] else v, h)
        | some none => some (if ok then .tup [z, .bool false] else z, h)
        | none => none
      | _ => none
    | _ => none

def op_mupd (m : Opd) (k : Opd) (x : Opd) (s : Slots) (h : Heap) : Option (V × Heap) :=
  match m.ev s with
    | .mp b => bif Nat.blt b h.lo then none else match h.get b with
      | .map es clock => match findK (k.ev s) es 0 with
        | some (some (i, _)) => some (.tup [], h.set b (.map (es.modify i fun e => (k.ev s, x.ev s, e.2.2)) clock))
        | some none => some (.tup [], h.set b (.map (es ++ [(k.ev s, x.ev s, clock)]) (clock + 1)))
        | none => none
      | _ => none
    | _ => none

def op_mdel (m : Opd) (k : Opd) (s : Slots) (h : Heap) : Option (V × Heap) :=
  match m.ev s with
    | .nilm => some (.tup [], h)
    | .mp b => bif Nat.blt b h.lo then none else match h.get b with
      | .map es clock => match findK (k.ev s) es 0 with
        | some (some (i, _)) => some (.tup [], h.set b (.map (es.eraseIdx i) clock))
        | some none => some (.tup [], h)
        | none => none
      | _ => none
    | _ => none

def op_lenm (m : Opd) (s : Slots) (h : Heap) : Option (V × Heap) :=
  match m.ev s with
    | .nilm => some (.int .i64 0, h)
    | .mp b => match h.get b with
      | .map es _ => some (.int .i64 es.length, h)
      | _ => none
    | _ => none

/-- An operation that calls nothing. -/
def opE (o : VOp) (s : Slots) (h : Heap) : Option (V × Heap) :=
  match o with
  | .mv x => op_mv x s h
  | .pick c a b => op_pick c a b s h
  | .alloc z => op_alloc z s h
  | .box n x => op_box n x s h
  | .build z ps => op_build z ps s h
  | .bsl n sz z ps => op_bsl n sz z ps s h
  | .ld n a => op_ld n a s h
  | .st n a x => op_st n a x s h
  | .nck x => op_nck x s h
  | .bin op x y => op_bin op x y s h
  | .eqb neg x y => op_eqb neg x y s h
  | .eqn neg k x y => op_eqn neg k x y s h
  | .eqa neg ks x y => op_eqa neg ks x y s h
  | .un op x => op_un op x s h
  | .cnv k x => op_cnv k x s h
  | .s2b x => op_s2b x s h
  | .b2s x => op_b2s x s h
  | .mkf f caps => op_mkf f caps s h
  | .mks bytes z l c => op_mks bytes z l c s h
  | .slc sz x lo hi mx => op_slc sz x lo hi mx s h
  | .slcs x lo hi => op_slcs x lo hi s h
  | .slca n sz x lo hi mx => op_slca n sz x lo hi mx s h
  | .fa off x => op_fa off x s h
  | .fld off n x => op_fld off n x s h
  | .ia sz x i => op_ia sz x i s h
  | .iaa len sz x i => op_iaa len sz x i s h
  | .ix len sz n x i => op_ix len sz n x i s h
  | .ixs x i => op_ixs x i s h
  | .ext i x => op_ext i x s h
  | .len x => op_len x s h
  | .lens x => op_lens x s h
  | .lenc n => op_lenc n s h
  | .app sz bytes a x => op_app sz bytes a x s h
  | .apps bytes a x => op_apps bytes a x s h
  | .app0 bytes z a x => op_app0 bytes z a x s h
  | .cpy sz d a => op_cpy sz d a s h
  | .cpys d a => op_cpys d a s h
  | .mini xs => op_mini xs s h
  | .maxi xs => op_maxi xs s h
  | .mkif t x => op_mkif t x s h
  | .carry sub x y c => op_carry sub x y c s h
  | .tasrt t ok z x => op_tasrt t ok z x s h
  | .nxts x => op_nxts x s h
  | .clr x z => op_clr x z s h
  | .rngs x => op_rngs x s h
  | .mkmap => op_mkmap s h
  | .look z ok m k => op_look z ok m k s h
  | .mupd m k x => op_mupd m k x s h
  | .mdel m k => op_mdel m k s h
  | .lenm m => op_lenm m s h
  | _ => none

end Go.VE
namespace Go.VE
def p (d : Nat) (o : VOp) : VOper := ⟨some d, none, o⟩
def n (o : VOp) : VOper := ⟨none, none, o⟩
def g (d g : Nat) (w : Bool) (o : VOp) : VOper := ⟨some d, some (g, w), o⟩
end Go.VE
