/- The evaluator: values, operations, heap. No statement of the program stands here. -/
import GoSem.Dispatch
import GoSem.Core.Machine
import Derived.Calls
set_option linter.all false
section
namespace Go.VE
inductive V where
 | top
 | int (k : IntKind) (n : Int)
 | bool (b : Bool)
 | str (s : List UInt8)
 | ptr (b off : Nat)
 | nilp
 | sl (b off len cap sz : Nat)
 | nils
 | isl (cells : List V) (len : Nat) (cap : Option Nat)
 | iptr (cells : List V)
 | fn (f : Nat) (caps : List V)
 | yld (b : Nat)
 | nilf
 | ifc (t : Nat) (v : V)
 | nili
 | agg (cs : List V)
 | tup (cs : List V)
 | mp (b : Nat)
 | nilm
instance : Inhabited V := ⟨.top⟩
inductive Tr (α : Type) where
 | lf
 | nd (v : Option α) (l r : Tr α)
namespace Tr
variable {α : Type}
def get : Tr α → Nat → Option α
 | .lf, _ => none
 | .nd v l r, i => bif Nat.beq i 0 then v else bif Nat.beq (i % 2) 1 then get l (i / 2) else get r (i / 2 - 1)
def setF : Nat → Tr α → Nat → α → Tr α
 | 0, t, _, _ => t
 | f + 1, t, i, x =>
  match t with
  | .lf => bif Nat.beq i 0 then .nd (some x) .lf .lf else bif Nat.beq (i % 2) 1 then .nd none (setF f .lf (i / 2) x) .lf else .nd none .lf (setF f .lf (i / 2 - 1) x)
  | .nd v l r => bif Nat.beq i 0 then .nd (some x) l r else bif Nat.beq (i % 2) 1 then .nd v (setF f l (i / 2) x) r else .nd v l (setF f r (i / 2 - 1) x)
def set (t : Tr α) (i : Nat) (x : α) : Tr α := setF (i + 1) t i x
end Tr
abbrev Slots := Tr V
def Slots.at (s : Slots) (i : Nat) : V := (s.get i).getD (.tup [])
inductive Opd where
 | t (i : Nat)
 | k (v : V)
instance : Inhabited Opd := ⟨.k .top⟩
def Opd.ev (s : Slots) : Opd → V
 | .t i => s.at i
 | .k v => v
inductive VOp where
 | mv (x : Opd)
 | pick (c a b : Opd)
 | alloc (t : Nat) (z : List V)
 | box (n : Nat) (x : Opd)
 | build (z : List V) (ps : List (Nat × Nat × Opd))
 | bsl (len sz : Nat) (z : List V) (ps : List (Nat × Nat × Opd))
 | ld (n : Option Nat) (a : Opd)
 | st (n : Nat) (a x : Opd)
 | nck (x : Opd)
 | bin (op : BinOp) (x y : Opd)
 | eqb (neg : Bool) (x y : Opd)
 | eqn (neg : Bool) (k : Nat) (x y : Opd)
 | eqa (neg : Bool) (ks : List Nat) (x y : Opd)
 | un (op : UnOp) (x : Opd)
 | cnv (k : IntKind) (x : Opd)
 | mkf (f : Nat) (caps : List Opd)
 | mks (e bytes : Nat) (z : List V) (len cap : Opd)
 | slc (sz : Nat) (x : Opd) (lo hi mx : Option Opd)
 | slca (n sz : Nat) (x : Opd) (lo hi mx : Option Opd)
 | fa (off : Nat) (x : Opd)
 | fld (off : Nat) (n : Option Nat) (x : Opd)
 | ia (sz : Nat) (x i : Opd)
 | iaa (len sz : Nat) (x i : Opd)
 | ix (len sz : Nat) (n : Option Nat) (x i : Opd)
 | ext (i : Nat) (x : Opd)
 | len (x : Opd)
 | lenc (n : Nat)
 | app (sz bytes : Nat) (s x : Opd)
 | cpy (sz : Nat) (d s : Opd)
 | mini (xs : List Opd)
 | maxi (xs : List Opd)
 | mkif (t : Nat) (x : Opd)
 | call (f : Nat) (args : List Opd)
 | callp (f : Nat) (args : List Opd)
 | callo (f : Nat) (args : List Opd)
 | callc (f : Nat) (args : List Opd) (t : Nat)
 | callv (x : Opd) (args : List Opd)
 | callvo (x : Opd) (args : List Opd)
 | bad
instance : Inhabited VOp := ⟨.bad⟩
structure VOper where
 dst : Option Nat
 g : Option (Nat × Bool)
 op : VOp
instance : Inhabited VOper := ⟨⟨none, none, .bad⟩⟩
inductive VCode where
 | skip
 | reg (ops : List VOper) (chk : List (Nat × Nat))
 | seq (a b : VCode)
 | cond (c : Opd) (a b : VCode)
 | block (id : Nat) (c : VCode)
 | loop (c : VCode)
 | exit (id : Nat)
 | ret
 | rngf (f : Opd) (ps : List Nat) (assign body : VCode)
 | scope (c : VCode)
instance : Inhabited VCode := ⟨.skip⟩
inductive VRes where
 | t (i : Nat)
 | c (i : Nat) (n : Option Nat)
instance : Inhabited VRes := ⟨.t 0⟩
structure VFn where
 prim : Option (Nat × Nat) := none
 mode : Nat
 res : List VRes
 body : VCode
instance : Inhabited VFn := ⟨⟨none, 0, [], .skip⟩⟩
inductive VX where
 | norm
 | exit (id : Nat)
 | ret
instance : Inhabited VX := ⟨.norm⟩
instance : DecidableEq VX := fun a b =>
 match a, b with
 | .norm, .norm => isTrue rfl
 | .ret, .ret => isTrue rfl
 | .exit i, .exit j => if h : i = j then isTrue (by rw [h]) else isFalse (fun e => h (by cases e; rfl))
 | .norm, .ret => isFalse (fun h => nomatch h)
 | .norm, .exit _ => isFalse (fun h => nomatch h)
 | .ret, .norm => isFalse (fun h => nomatch h)
 | .ret, .exit _ => isFalse (fun h => nomatch h)
 | .exit _, .norm => isFalse (fun h => nomatch h)
 | .exit _, .ret => isFalse (fun h => nomatch h)
inductive Tag where
 | cl
 | op
 | ct (t : Nat)
 | ot (t : Nat)
def Tag.opn : Tag → Bool
 | .cl | .ct _ => false
 | .op | .ot _ => true
def Tag.ty : Tag → Option Nat
 | .cl | .op => none
 | .ct t | .ot t => some t
def tagN : Option Nat → Tag
 | none => .op
 | some t => .ot t
def tagM (o : Tag) (off : Nat) : Option Nat → Tag
 | none => .op
 | some t => match o.ty with
  | some u => bif Nat.beq off 0 && Nat.beq u t then .ot t else .op
  | none => .op
inductive Blk where
 | dead
 | cells (c : List V) (tag : Tag)
 | siter (s : List UInt8) (pos : Nat)
 | map (es : List (V × V × Nat)) (clock : Nat)
 | miter (m : Option Nat) (since : Nat) (seen : List Nat) (last : Nat)
 | loop (st : Nat) (pend : Option VX) (tmps : Tr V) (ps : List Nat) (assign body : VCode)
instance : Inhabited Blk := ⟨.dead⟩
structure Heap where
 nx : Nat
 lo : Nat
 tr : Tr Blk
namespace Heap
def get (h : Heap) (b : Nat) : Blk := (h.tr.get b).getD .dead
def set (h : Heap) (b : Nat) (x : Blk) : Heap := { h with tr := h.tr.set b x }
def new (h : Heap) (x : Blk) : Heap := { nx := h.nx + 1, lo := h.lo, tr := h.tr.set h.nx x }
end Heap
def slotsPut (s : Slots) (d : Option Nat) (v : V) : Slots :=
 match d with
 | some i => s.set i v
 | none => s
def asNat : V → Option Nat
 | .int _ (.ofNat n) => some n
 | _ => none
def cellsAt (h : Heap) : V → Option (List V)
 | .ptr b off => match h.get b with
  | .cells c _ => some (c.drop off)
  | _ => none
 | .iptr cs => some cs
 | _ => none
def takeN : Nat → List V → Option (List V)
 | 0, _ => some []
 | _ + 1, [] => none
 | n + 1, x :: xs => match takeN n xs with
  | some r => some (x :: r)
  | none => none
def rowOf (h : Heap) (sz : Nat) : V → Option (List V)
 | .sl b off len _ sz' => bif Nat.beq sz sz' then match h.get b with
   | .cells c _ => takeN (len * sz) (c.drop off)
   | _ => none
  else none
 | .nils => some []
 | .isl cs len _ => bif Nat.beq cs.length (len * sz) then some cs else none
 | _ => none
def lenOf : V → Option Nat
 | .sl _ _ len _ _ => some len
 | .nils => some 0
 | .isl _ len _ => some len
 | .str s => some s.length
 | _ => none
def oneCell : V → Bool
 | .agg _ | .tup _ | .top => false
 | _ => true
def over : Nat → List V → List V → Option (List V)
 | _, l, [] => some l
 | _, [], _ :: _ => none
 | 0, _ :: l, x :: xs => bif oneCell x then match over 0 l xs with
  | some r => some (x :: r)
  | none => none
  else none
 | n + 1, y :: l, x :: xs => match over n l (x :: xs) with
  | some r => some (y :: r)
  | none => none
def store (h : Heap) (b off : Nat) (xs : List V) : Option Heap :=
 match xs with
 | [] => some h
 | x :: xs => bif Nat.blt b h.lo then none else match h.get b with
  | .cells c o => match over off c (x :: xs) with
   | some c' => some (h.set b (.cells c' o))
   | none => none
  | _ => none
def cellsO : V → Option (List V)
 | .agg cs => some cs
 | .top | .tup _ => none
 | v => some [v]
def fill (cells : List V) : List (Nat × Nat × V) → Option (List V)
 | [] => some cells
 |(off, sz, v) :: r => match cellsO v with
  | some l => bif Nat.beq l.length sz && Nat.blt 0 sz then match over off cells l with
   | some c => fill c r
   | none => none
   else none
  | none => none
def part (n : Option Nat) (cs : List V) : Option V :=
 match n with
 | none => match cs with
  | x :: _ => some x
  | [] => none
 | some n => match takeN n cs with
  | some l => some (.agg l)
  | none => none
def kEq : IntKind → IntKind → Bool
 | .i8, .i8 | .i16, .i16 | .i32, .i32 | .i64, .i64 | .u8, .u8 | .u16, .u16 | .u32, .u32 | .u64, .u64 => true
 | _, _ => false
def eqI : Int → Int → Bool
 | .ofNat a, .ofNat b => Nat.beq a b
 | .negSucc a, .negSucc b => Nat.beq a b
 | _, _ => false
def ltI : Int → Int → Bool
 | .ofNat a, .ofNat b => Nat.blt a b
 | .negSucc a, .negSucc b => Nat.blt b a
 | .negSucc _, .ofNat _ => true
 | .ofNat _, .negSucc _ => false
def md : IntKind → Nat
 | .i8 | .u8 => 256
 | .i16 | .u16 => 65536
 | .i32 | .u32 => 4294967296
 | .i64 | .u64 => 18446744073709551616
def hf : IntKind → Option Nat
 | .i8 => some 128
 | .i16 => some 32768
 | .i32 => some 2147483648
 | .i64 => some 9223372036854775808
 | _ => none
def low (k : IntKind) : Int → Nat
 | .ofNat n => n % md k
 | .negSucc n => md k - 1 - n % md k
def wr (k : IntKind) (n : Int) : Int :=
 match hf k with
 | none => .ofNat (low k n)
 | some h => bif Nat.blt (low k n) h then .ofNat (low k n) else Int.negSucc (md k - 1 - low k n)
def eqBytes : List UInt8 → List UInt8 → Bool
 | [], [] => true
 | a :: x, b :: y => bif Nat.beq a.toNat b.toNat then eqBytes x y else false
 | _, _ => false
def eqK : Nat → V → V → Option Bool
 | 0, .int k a, .int k' b => bif kEq k k' then some (eqI a b) else none
 | 1, .bool a, .bool b => some (a == b)
 | 2, .str a, .str b => some (eqBytes a b)
 | _, _, _ => none
def eqCells : List Nat → List V → List V → Option Bool
 | [], [], [] => some true
 | k :: ks, x :: xs, y :: ys => match eqK k x y with
  | some true => eqCells ks xs ys
  | some false => some false
  | none => none
 | _, _, _ => none
def isNil : Nat → V → Option Bool
 | 0, .nilp => some true
 | 0, .ptr _ _ => some false
 | 0, .iptr _ => some false
 | 1, .nils => some true
 | 1, .sl _ _ _ _ _ => some false
 | 1, .isl _ _ _ => some false
 | 2, .nilm => some true
 | 2, .mp _ => some false
 | 3, .nilf => some true
 | 3, .fn _ _ => some false
 | 3, .yld _ => some false
 | 4, .nili => some true
 | 4, .ifc _ _ => some false
 | _, _ => none
def eqNil (k : Nat) (x y : V) : Option Bool :=
 match isNil k x, isNil k y with
 | some true, some n => some n
 | some n, some true => some n
 | _, _ => none
def bitOp (op : BinOp) (k : IntKind) (x y : Int) : Option Int :=
 match op with
 | .and => some (wr k (.ofNat (low k x &&& low k y)))
 | .or => some (wr k (.ofNat (low k x ||| low k y)))
 | .xor => some (wr k (.ofNat (low k x ^^^ low k y)))
 | .andNot => some (wr k (.ofNat (low k x &&& (md k - 1 - low k y))))
 | _ => none
def binInt (op : BinOp) (k : IntKind) (x y : Int) : Option V :=
 match op with
 | .add => some (.int k (wr k (x + y)))
 | .sub => some (.int k (wr k (x - y)))
 | .mul => some (.int k (wr k (x * y)))
 | .quo => bif eqI y 0 then none else some (.int k (wr k (x.tdiv y)))
 | .rem => bif eqI y 0 then none else some (.int k (x.tmod y))
 | .and => (bitOp .and k x y).map (.int k)
 | .or => (bitOp .or k x y).map (.int k)
 | .xor => (bitOp .xor k x y).map (.int k)
 | .andNot => (bitOp .andNot k x y).map (.int k)
 | .eql => some (.bool (eqI x y))
 | .neq => some (.bool (!(eqI x y)))
 | .lss => some (.bool (ltI x y))
 | .leq => some (.bool (!(ltI y x)))
 | .gtr => some (.bool (ltI y x))
 | .geq => some (.bool (!(ltI x y)))
 | _ => none
def shiftInt (op : BinOp) (k : IntKind) (x : Int) : Int → Option V
 | .negSucc _ => none
 | .ofNat y =>
  match op with
  | .shl => some (.int k (wr k (x * .ofNat (2 ^ Nat.min y k.bits))))
  | .shr => some (.int k (match x with
   | .ofNat a => .ofNat (a / 2 ^ Nat.min y k.bits)
   | .negSucc a => .negSucc (a / 2 ^ Nat.min y k.bits)))
  | _ => none
def strLess : List UInt8 → List UInt8 → Bool
 | _, [] => false
 | [], _ :: _ => true
 | a :: x, b :: y => bif Nat.blt a.toNat b.toNat then true else bif Nat.beq a.toNat b.toNat then strLess x y else false
def binStr (op : BinOp) (x y : List UInt8) : Option V :=
 match op with
 | .add => bif Nat.blt 140737488355328 (x.length + y.length) then none else some (.str (x ++ y))
 | .eql => some (.bool (eqBytes x y))
 | .neq => some (.bool (!(eqBytes x y)))
 | .lss => some (.bool (strLess x y))
 | .leq => some (.bool (strLess x y || eqBytes x y))
 | .gtr => some (.bool (!(strLess x y || eqBytes x y)))
 | .geq => some (.bool (!(strLess x y)))
 | _ => none
def binOp (op : BinOp) (x y : V) : Option V :=
 match x, y with
 | .int k a, .int k' b =>
  match op with
  | .shl => shiftInt .shl k a b
  | .shr => shiftInt .shr k a b
  | op => bif kEq k k' then binInt op k a b else none
 | .str a, .str b => binStr op a b
 | _, _ => none
def unOp (op : UnOp) (x : V) : Option V :=
 match op, x with
 | .neg, .int k n => some (.int k (wr k (0 - n)))
 | .xor, .int k n => (bitOp .xor k (if k.signed then -1 else k.max) n).map (.int k)
 | .not, .bool b => some (.bool (!b))
 | _, _ => none
def rep (n : Nat) (z : List V) : List V :=
 match n with
 | 0 => []
 | n + 1 => z ++ rep n z
def bound (x : Option V) (dflt m : Nat) : Option Nat :=
 match x with
 | none => some dflt
 | some v => match asNat v with
  | some n => bif Nat.ble n m then some n else none
  | none => none
def sliceV (h : Heap) (sz : Nat) (x : V) (lo hi mx : Option V) : Option V :=
 match x with
 | .nils =>
  match bound mx 0 0, bound hi 0 0, bound lo 0 0 with
  | some _, some _, some _ => some .nils
  | _, _, _ => none
 | .sl b off len cap sz' => bif Nat.beq sz sz' then
  match bound mx cap cap with
  | none => none
  | some m => match bound hi len m with
   | none => none
   | some hh => match bound lo 0 hh with
    | none => none
    | some l =>
     match mx with
     | none => some (.sl b (off + l * sz) (hh - l) (m - l) sz)
     | some _ => match h.get b with
      | .cells c o => bif o.opn && Nat.beq (off + m * sz) c.length then some .top else some (.sl b (off + l * sz) (hh - l) (m - l) sz)
      | _ => none
  else none
 | .isl cs len cap =>
  match bound mx len (cap.getD len) with
  | none => none
  | some m => match bound hi len (Nat.min m len) with
   | none => none
   | some hh => match bound lo 0 hh with
    | none => none
    | some l => match takeN ((hh - l) * sz) (cs.drop (l * sz)) with
     | none => none
     | some cs' => some (.isl cs' (hh - l) (match mx with | some _ => some (m - l) | none => cap.map (· - l)))
 | _ => none
def appendV (h : Heap) (tg : Option Nat) (sz bytes : Nat) (s : V) (n : Nat) (new : List V) : Option (V × Heap) :=
 match n with
 | 0 => match s with
  | .nils | .sl .. | .isl .. => some (s, h)
  | _ => none
 | _ =>
 match s with
 | .nils => bif Nat.blt 140737488355328 (n * bytes) then none else some (.sl h.nx 0 n n sz, h.new (.cells new (tagN tg)))
 | .isl cs len (some c) =>
  bif Nat.ble (len + n) c then none else bif Nat.blt 140737488355328 ((len + n) * bytes) then none else
  bif Nat.beq cs.length (len * sz) then some (.sl h.nx 0 (len + n) (len + n) sz, h.new (.cells (cs ++ new) (tagN tg))) else none
 | .sl b off len cap sz' => bif Nat.beq sz sz' then match h.get b with
  | .cells c o =>
   bif Nat.ble (len + n) cap then
    bif Nat.blt b h.lo then none else match over (off + len * sz) c new with
     | some c' => some (.sl b off (len + n) cap sz, h.set b (.cells c' o))
     | none => none
   else bif Nat.blt 140737488355328 ((len + n) * bytes) then none else
   match takeN (len * sz) (c.drop off) with
   | none => none
   | some old =>
    bif o.opn && Nat.beq (off + cap * sz) c.length then
     bif Nat.blt b h.lo || !(new.all oneCell) then none else some (.sl h.nx 0 (len + n) (len + n) sz, (h.set b .dead).new (.cells (old ++ new) (tagM o off tg)))
    else some (.sl h.nx 0 (len + n) (len + n) sz, h.new (.cells (old ++ new) (tagN tg)))
  | _ => none
  else none
 | _ => none
def insertV (h : Heap) (sz bytes : Nat) (s iv v : V) : Option (V × Heap) :=
 match iv, lenOf s, rowOf h sz s, lenOf v, rowOf h sz v with
 | .int .i64 (.ofNat i), some n, some old, some m, some new =>
  bif Nat.beq m 0 then (bif Nat.ble i n then some (s, h) else none) else
  bif Nat.beq i n then appendV h none sz bytes s m new else
  bif Nat.ble n i || Nat.blt 140737488355328 ((n + m) * bytes) || !(new.all oneCell) || !(old.all oneCell) then none else
  match v with
  | .sl b2 _ _ _ _ =>
   match s with
   | .isl _ _ (some c) => bif Nat.ble (n + m) c then none else some (.sl h.nx 0 (n + m) (n + m) sz, h.new (.cells (old.take (i * sz) ++ (new ++ old.drop (i * sz))) .op))
   | .sl b off _ cap _ => match h.get b with
    | .cells c o =>
     bif Nat.beq b b2 || Nat.blt b h.lo then none else
     bif Nat.ble (n + m) cap then match over (off + i * sz) c (new ++ old.drop (i * sz)) with
      | some c' => some (.sl b off (n + m) cap sz, h.set b (.cells c' o))
      | none => none
     else bif o.opn && Nat.beq (off + cap * sz) c.length then
      some (.sl h.nx 0 (n + m) (n + m) sz, (h.set b .dead).new (.cells (old.take (i * sz) ++ (new ++ old.drop (i * sz))) .op))
     else some (.sl h.nx 0 (n + m) (n + m) sz, h.new (.cells (old.take (i * sz) ++ (new ++ old.drop (i * sz))) .op))
    | _ => none
   | _ => none
  | _ => none
 | _, _, _, _, _ => none
def srcCells (h : Heap) (sz k : Nat) (s : V) : Option (List V) :=
 match rowOf h sz s with
 | some row => takeN (k * sz) row
 | none => none
def copyTo (h : Heap) (sz : Nat) (d : V) (n : Nat) (cs : List V) : Option (V × Heap) :=
 match d with
 | .sl b off _ _ sz' => bif Nat.beq sz sz' then match store h b off cs with
   | some h => some (.int .i64 n, h)
   | none => none
  else none
 | .nils => some (.int .i64 0, h)
 | _ => none
def copyV (h : Heap) (sz : Nat) (d s : V) : Option (V × Heap) :=
 match lenOf d, lenOf s with
 | some nd, some ns =>
  match srcCells h sz (Nat.min ns nd) s with
  | none => none
  | some cs => copyTo h sz d (Nat.min ns nd) cs
 | _, _ => none
def min2 : V → V → Option V
 | .int k x, .int _ y => some (.int k (bif ltI y x then y else x))
 | _, _ => none
def max2 : V → V → Option V
 | .int k x, .int _ y => some (.int k (bif ltI x y then y else x))
 | _, _ => none
def fold2 (f : V → V → Option V) : V → List V → Option V
 | x, [] => some x
 | x, y :: l => match f x y with
  | some z => fold2 f z l
  | none => none
def evs (s : Slots) (xs : List Opd) : List V := xs.map (Opd.ev s)
def evo (s : Slots) (x : Option Opd) : Option V := x.map (Opd.ev s)
def op_mv (x : Opd) (s : Slots) (h : Heap) : Option (V × Heap) :=
 some (x.ev s, h)
def op_pick (c : Opd) (a : Opd) (b : Opd) (s : Slots) (h : Heap) : Option (V × Heap) :=
 match c.ev s with
  | .bool true => some (a.ev s, h)
  | .bool false => some (b.ev s, h)
  | _ => none
def op_alloc (t : Nat) (z : List V) (s : Slots) (h : Heap) : Option (V × Heap) :=
 some (.ptr h.nx 0, h.new (.cells z (.ct t)))
def op_box (n : Nat) (x : Opd) (s : Slots) (h : Heap) : Option (V × Heap) :=
 match cellsO (x.ev s) with
 | some l => bif Nat.beq l.length n then some (.ptr h.nx 0, h.new (.cells l .cl)) else none
 | none => none
def op_build (z : List V) (ps : List (Nat × Nat × Opd)) (s : Slots) (h : Heap) : Option (V × Heap) :=
 (fill z (ps.map fun p => (p.1, p.2.1, p.2.2.ev s))).map fun cs => (.agg cs, h)
def op_bsl (n : Nat) (sz : Nat) (z : List V) (ps : List (Nat × Nat × Opd)) (s : Slots) (h : Heap) : Option (V × Heap) :=
 (fill z (ps.map fun p => (p.1, p.2.1, p.2.2.ev s))).map fun cs => (.sl h.nx 0 n n sz, h.new (.cells cs .cl))
def op_ld (n : Option Nat) (a : Opd) (s : Slots) (h : Heap) : Option (V × Heap) :=
 match cellsAt h (a.ev s) with
  | some cs => (part n cs).map fun v => (v, h)
  | none => none
def op_st (n : Nat) (a : Opd) (x : Opd) (s : Slots) (h : Heap) : Option (V × Heap) :=
 match cellsO (x.ev s) with
 | some l => bif Nat.beq l.length n then match a.ev s with
   | .ptr b off => (store h b off l).map fun h => (.tup [], h)
   | _ => none
  else none
 | none => none
def op_nck (x : Opd) (s : Slots) (h : Heap) : Option (V × Heap) :=
 match x.ev s with
  | .ptr b o => some (.ptr b o, h)
  | .iptr c => some (.iptr c, h)
  | .fn f c => some (.fn f c, h)
  | .yld b => some (.yld b, h)
  | .ifc t v => some (.ifc t v, h)
  | _ => none
def op_bin (op : BinOp) (x : Opd) (y : Opd) (s : Slots) (h : Heap) : Option (V × Heap) :=
 (binOp op (x.ev s) (y.ev s)).map fun v => (v, h)
def op_eqb (neg : Bool) (x : Opd) (y : Opd) (s : Slots) (h : Heap) : Option (V × Heap) :=
 match x.ev s, y.ev s with
 | .bool a, .bool b => some (.bool (bif neg then !(a == b) else a == b), h)
 | _, _ => none
def op_eqn (neg : Bool) (k : Nat) (x : Opd) (y : Opd) (s : Slots) (h : Heap) : Option (V × Heap) :=
 match eqNil k (x.ev s) (y.ev s) with
 | some r => some (.bool (bif neg then !r else r), h)
 | none => none
def op_eqa (neg : Bool) (ks : List Nat) (x : Opd) (y : Opd) (s : Slots) (h : Heap) : Option (V × Heap) :=
 match x.ev s, y.ev s with
 | .agg a, .agg b => bif Nat.beq a.length ks.length && Nat.beq b.length ks.length then match eqCells ks a b with
  | some r => some (.bool (bif neg then !r else r), h)
  | none => none
  else none
 | _, _ => none
def op_un (op : UnOp) (x : Opd) (s : Slots) (h : Heap) : Option (V × Heap) :=
 (unOp op (x.ev s)).map fun v => (v, h)
def op_cnv (k : IntKind) (x : Opd) (s : Slots) (h : Heap) : Option (V × Heap) :=
 match x.ev s with
  | .int _ n => some (.int k (wr k n), h)
  | _ => none
def op_mkf (f : Nat) (caps : List Opd) (s : Slots) (h : Heap) : Option (V × Heap) :=
 some (.fn f (evs s caps), h)
def op_mks (e bytes : Nat) (z : List V) (l : Opd) (c : Opd) (s : Slots) (h : Heap) : Option (V × Heap) :=
 match asNat (l.ev s), asNat (c.ev s) with
  | some l, some c => bif Nat.ble l c && Nat.ble (c * bytes) 140737488355328 && Nat.ble c 9223372036854775807 then some (.sl h.nx 0 l c z.length, h.new (.cells (rep c z) (.ct e))) else none
  | _, _ => none
def op_slc (sz : Nat) (x : Opd) (lo : Option Opd) (hi : Option Opd) (mx : Option Opd) (s : Slots) (h : Heap) : Option (V × Heap) :=
 (sliceV h sz (x.ev s) (evo s lo) (evo s hi) (evo s mx)).map fun v => (v, h)
def op_slca (n : Nat) (sz : Nat) (x : Opd) (lo : Option Opd) (hi : Option Opd) (mx : Option Opd) (s : Slots) (h : Heap) : Option (V × Heap) :=
  match bound (evo s mx) n n with
  | none => none
  | some m => match bound (evo s hi) n m with
   | none => none
   | some hh => match bound (evo s lo) 0 hh with
    | none => none
    | some l => match x.ev s with
     | .ptr b off => match h.get b with
      | .cells c o => bif o.opn && Nat.beq (off + m * sz) c.length then none else bif Nat.ble (off + n * sz) c.length then some (.sl b (off + l * sz) (hh - l) (m - l) sz, h) else none
      | _ => none
     | .iptr cs => (takeN ((hh - l) * sz) (cs.drop (l * sz))).map fun cs => (.isl cs (hh - l) (some (m - l)), h)
     | _ => none
def op_fa (off : Nat) (x : Opd) (s : Slots) (h : Heap) : Option (V × Heap) :=
 match x.ev s with
  | .ptr b o => some (.ptr b (o + off), h)
  | .iptr cs => some (.iptr (cs.drop off), h)
  | _ => none
def op_fld (off : Nat) (n : Option Nat) (x : Opd) (s : Slots) (h : Heap) : Option (V × Heap) :=
 match x.ev s with
  | .agg cs => (part n (cs.drop off)).map fun v => (v, h)
  | _ => none
def op_ia (sz : Nat) (x : Opd) (i : Opd) (s : Slots) (h : Heap) : Option (V × Heap) :=
 match asNat (i.ev s), x.ev s with
  | some i, .sl b off len _ _ => bif Nat.blt i len then some (.ptr b (off + i * sz), h) else none
  | some i, .isl cs len _ => bif Nat.blt i len && Nat.blt (i * sz) cs.length then some (.iptr (cs.drop (i * sz)), h) else none
  | _, _ => none
def op_iaa (len : Nat) (sz : Nat) (x : Opd) (i : Opd) (s : Slots) (h : Heap) : Option (V × Heap) :=
 match asNat (i.ev s), x.ev s with
  | some i, .ptr b off => bif Nat.blt i len then some (.ptr b (off + i * sz), h) else none
  | some i, .iptr cs => bif Nat.blt i len then some (.iptr (cs.drop (i * sz)), h) else none
  | _, _ => none
def op_ix (len : Nat) (sz : Nat) (n : Option Nat) (x : Opd) (i : Opd) (s : Slots) (h : Heap) : Option (V × Heap) :=
 match asNat (i.ev s), x.ev s with
  | some i, .agg cs => bif Nat.blt i len then (part n (cs.drop (i * sz))).map fun v => (v, h) else none
  | _, _ => none
def op_ext (i : Nat) (x : Opd) (s : Slots) (h : Heap) : Option (V × Heap) :=
 match x.ev s with
  | .tup cs => (cs[i]?).map fun v => (v, h)
  | _ => none
def op_len (x : Opd) (s : Slots) (h : Heap) : Option (V × Heap) :=
 match x.ev s with
 | .str _ => none
 | v => match lenOf v with
  | some n => some (.int .i64 n, h)
  | none => none
def op_lenc (n : Nat) (s : Slots) (h : Heap) : Option (V × Heap) :=
 some (.int .i64 n, h)
def op_app (sz bytes : Nat) (a : Opd) (x : Opd) (s : Slots) (h : Heap) : Option (V × Heap) :=
 match lenOf (x.ev s), rowOf h sz (x.ev s) with
 | some n, some cs => appendV h none sz bytes (a.ev s) n cs
 | _, _ => none
def op_cpy (sz : Nat) (d : Opd) (a : Opd) (s : Slots) (h : Heap) : Option (V × Heap) :=
 copyV h sz (d.ev s) (a.ev s)
def op_mini (xs : List Opd) (s : Slots) (h : Heap) : Option (V × Heap) :=
 match evs s xs with
  | x :: l => (fold2 min2 x l).map fun v => (v, h)
  | [] => none
def op_maxi (xs : List Opd) (s : Slots) (h : Heap) : Option (V × Heap) :=
 match evs s xs with
  | x :: l => (fold2 max2 x l).map fun v => (v, h)
  | [] => none
def op_mkif (t : Nat) (x : Opd) (s : Slots) (h : Heap) : Option (V × Heap) :=
 some (.ifc t (x.ev s), h)
def opE (o : VOp) (s : Slots) (h : Heap) : Option (V × Heap) :=
 match o with
 | .mv x => op_mv x s h
 | .pick c a b => op_pick c a b s h
 | .alloc t z => op_alloc t z s h
 | .box n x => op_box n x s h
 | .build z ps => op_build z ps s h
 | .bsl n sz z ps => op_bsl n sz z ps s h
 | .ld n a => op_ld n a s h
 | .st n a x => op_st n a x s h
 | .nck x => op_nck x s h
 | .bin op x y => op_bin op x y s h
 | .eqb neg x y => op_eqb neg x y s h
 | .eqn neg k x y => op_eqn neg k x y s h
 | .eqa neg ks x y => op_eqa neg ks x y s h
 | .un op x => op_un op x s h
 | .cnv k x => op_cnv k x s h
 | .mkf f caps => op_mkf f caps s h
 | .mks e bytes z l c => op_mks e bytes z l c s h
 | .slc sz x lo hi mx => op_slc sz x lo hi mx s h
 | .slca n sz x lo hi mx => op_slca n sz x lo hi mx s h
 | .fa off x => op_fa off x s h
 | .fld off n x => op_fld off n x s h
 | .ia sz x i => op_ia sz x i s h
 | .iaa len sz x i => op_iaa len sz x i s h
 | .ix len sz n x i => op_ix len sz n x i s h
 | .ext i x => op_ext i x s h
 | .len x => op_len x s h
 | .lenc n => op_lenc n s h
 | .app sz bytes a x => op_app sz bytes a x s h
 | .cpy sz d a => op_cpy sz d a s h
 | .mini xs => op_mini xs s h
 | .maxi xs => op_maxi xs s h
 | .mkif t x => op_mkif t x s h
 | _ => none
end Go.VE
namespace Go.VE
def p (d : Nat) (o : VOp) : VOper := ⟨some d, none, o⟩
def n (o : VOp) : VOper := ⟨none, none, o⟩
def g (d g : Nat) (w : Bool) (o : VOp) : VOper := ⟨some d, some (g, w), o⟩
end Go.VE
end
section
namespace Go.VE
mutual
def frz (f : Nat) (h : Heap) (base : Nat) (inn : Bool) (v : V) : Option V :=
 match f with
 | 0 => none
 | f + 1 => match v with
  | .top => none
  | .sl b off len cap sz => bif Nat.blt b base then (bif inn then none else some v) else match h.get b with
   | .cells c o => match takeN (len * sz) (c.drop off) with
    | some l => match frzs f h base true l with
     | some l' => some (.isl l' len (bif o.opn && Nat.beq (off + cap * sz) c.length then none else some cap))
     | none => none
    | none => none
   | _ => none
  | .ptr b off => bif Nat.blt b base then (bif inn then none else some v) else match h.get b with
   | .cells c _ => match frzs f h base true (c.drop off) with
    | some l' => some (.iptr l')
    | none => none
   | _ => none
  | .agg cs => (frzs f h base inn cs).map .agg
  | .tup cs => (frzs f h base inn cs).map .tup
  | .fn g cs => (frzs f h base inn cs).map (.fn g)
  | .ifc t v => (frz f h base inn v).map (.ifc t)
  | .yld _ | .mp _ => none
  | v => some v
def frzs (f : Nat) (h : Heap) (base : Nat) (inn : Bool) (l : List V) : Option (List V) :=
 match f with
 | 0 => none
 | f + 1 => match l with
  | [] => some []
  | x :: r => match frz f h base inn x, frzs f h base inn r with
   | some x', some r' => some (x' :: r')
   | _, _ => none
end
def argSlots (args : List V) : Slots := go 0 args .lf
where
 go : Nat → List V → Slots → Slots
  | _, [], s => s
  | i, x :: r, s => go (i + 1) r (Tr.set s i x)
def resV (s : Slots) (h : Heap) : VRes → Option V
 | .t i => some (s.at i)
 | .c i n => match cellsAt h (s.at i) with
  | some cs => part n cs
  | none => none
def resVs (s : Slots) (h : Heap) : List VRes → Option (List V)
 | [] => some []
 | r :: l => match resV s h r, resVs s h l with
  | some x, some y => some (x :: y)
  | _, _ => none
def resOf (s : Slots) (h : Heap) (l : List VRes) : Option V :=
 match resVs s h l with
 | some [x] => some x
 | some xs => some (.tup xs)
 | none => none
def frzFuel : Nat := 1000000
def finish (mode : Nat) (h h' : Heap) (v : V) : Option (V × Heap) :=
 match mode with
 | 0 => some (v, h')
 | 1 => (frz frzFuel h' h.nx false v).map fun v => (v, h)
 | _ => some (v, { h' with lo := h.lo })
def enterH (mode : Nat) (h : Heap) : Heap :=
 match mode with
 | 0 => h
 | _ => { h with lo := h.nx }
def h0 : Heap := { nx := 0, lo := 0, tr := .lf }
def isoArgs (mode : Nat) (args : List V) : Option (List V) := bif Nat.beq mode 1 then frzs frzFuel h0 0 false args else none
def finishI (h h' : Heap) (v : V) : Option (V × Heap) := (frz frzFuel h' 0 false v).map fun v => (v, h)
def killFrom (h : Heap) : Nat → Nat → Heap
 | 0, _ => h
 | n + 1, c => killFrom (h.set c .dead) n (c + 1)
def backFrom (h h' : Heap) : Nat → Nat → Heap
 | 0, _ => h'
 | n + 1, c => backFrom h (h'.set c (h.get c)) n (c + 1)
def cutH (h : Heap) (b : Nat) : Heap := { killFrom h (h.nx - (b + 1)) (b + 1) with lo := b }
def backH (h h' : Heap) (b : Nat) : Heap := { backFrom h h' (h.nx - (b + 1)) (b + 1) with lo := h.lo }
def gEval (g : Option (Nat × Bool)) (s : Slots) : Option Bool :=
 match g with
 | none => some true
 | some (g, w) => match s.at g with
  | .bool b => some (bif w then b else !b)
  | .tup [] => some false
  | _ => none
def apartV : V → V → Bool
 | .ptr b _, .ptr c _ => !(Nat.beq b c)
 | .ptr b _, .sl c _ _ _ _ => !(Nat.beq b c)
 | .sl b _ _ _ _, .ptr c _ => !(Nat.beq b c)
 | _, _ => true
def chkOk : List (Nat × Nat) → Slots → Bool
 | [], _ => true
 | p :: r, s => bif apartV (s.at p.1) (s.at p.2) then chkOk r s else false
section
variable (vp : Nat → Option VFn)
mutual
def exec (n : Nat) (c : VCode) (s : Slots) (h : Heap) : Option (VX × Slots × Heap) :=
 match n with
 | 0 => none
 | n + 1 => match c with
  | .skip => some (.norm, s, h)
  | .reg ops chk => match runOps n ops s h with
   | some (s, h) => bif chkOk chk s then some (.norm, s, h) else none
   | none => none
  | .seq a b => match exec n a s h with
   | some (.norm, s, h) => exec n b s h
   | r => r
  | .cond c a b => match c.ev s with
   | .bool true => exec n a s h
   | .bool false => exec n b s h
   | _ => none
  | .block id c => match exec n c s h with
   | some (.exit i, s, h) => some (bif Nat.beq i id then .norm else .exit i, s, h)
   | r => r
  | .loop c => match exec n c s h with
   | some (.norm, s, h) => exec n (.loop c) s h
   | r => r
  | .exit id => some (.exit id, s, h)
  | .ret => some (.ret, s, h)
  | .scope c => exec n c s h
  | .rngf f ps asg body =>
   let l := h.nx
   match (match f.ev s with | .fn g caps => callF n g (.yld l :: caps) (h.new (.loop 0 none s ps asg body)) | _ => none) with
   | some (_, h) => match h.get l with
    | .loop st pend _ _ _ _ => bif Nat.beq st 1 then none else match pend with
     | none => some (.norm, s, h.set l .dead)
     | some x => some (x, s, h.set l .dead)
    | _ => none
   | none => none
def runOps (n : Nat) (ops : List VOper) (s : Slots) (h : Heap) : Option (Slots × Heap) :=
 match n with
 | 0 => none
 | n + 1 => match ops with
  | [] => some (s, h)
  | o :: r =>
   match gEval o.g s with
   | some true => match stepOp n o.op s h with
    | some (v, h) => runOps n r (slotsPut s o.dst v) h
    | none => none
   | some false => runOps n r (slotsPut s o.dst (.tup [])) h
   | none => none
def stepOp (n : Nat) (o : VOp) (s : Slots) (h : Heap) : Option (V × Heap) :=
 match n with
 | 0 => none
 | n + 1 => match o with
  | .call f args => callF n f (evs s args) h
  | .callp f args => match vp f with
   | some fn => match fn.prim with
    | none => bif Nat.beq fn.mode 1 then callF n f (evs s args) h else none
    | some _ => none
   | none => none
  | .callo f args => match vp f with
   | some fn => match fn.prim with
    | none => bif Nat.beq fn.mode 2 then callF n f (evs s args) h else none
    | some _ => none
   | none => none
  | .callc f args t => match s.at t with
   | .ptr b _ => bif Nat.ble h.lo b && Nat.blt b h.nx then match callF n f (evs s args) (cutH h b) with
     | some (v, h') => some (v, backH h h' b)
     | none => none
    else none
   | _ => none
  | .callv x args => callV n (x.ev s) (evs s args) h
  | .callvo x args => match x.ev s with
   | .fn f caps => match vp f with
    | some fn => match fn.prim with
     | none => bif Nat.beq fn.mode 2 then callF n f (evs s args ++ caps) h else none
     | some _ => none
    | none => none
   | _ => none
  | o => opE o s h
def callV (n : Nat) (x : V) (args : List V) (h : Heap) : Option (V × Heap) :=
 match n with
 | 0 => none
 | n + 1 => match x with
  | .fn f caps => callF n f (args ++ caps) h
  | .yld b => bif Nat.blt b h.lo then none else match h.get b with
   | .loop 0 _ tm ps asg body => bif Nat.beq ps.length args.length then
     match exec n asg ((ps.zip args).foldl (fun s p => s.set p.1 p.2) tm) h with
     | some (.norm, s, h1) => match h1.get b with
      | .loop 0 pd tm1 ps1 asg1 body1 => match exec n body s (h1.set b (.loop 1 pd tm1 ps1 asg1 body1)) with
       | some (x, _, h2) => match h2.get b with
        | .loop _ _ tm2 ps2 asg2 body2 => match x with
         | .norm => some (.bool true, h2.set b (.loop 0 none tm2 ps2 asg2 body2))
         | x => some (.bool false, h2.set b (.loop 2 (some x) tm2 ps2 asg2 body2))
        | _ => none
       | none => none
      | _ => none
     | _ => none
    else none
   | _ => none
  | _ => none
def callF (n : Nat) (f : Nat) (args : List V) (h : Heap) : Option (V × Heap) :=
 match n with
 | 0 => none
 | n + 1 => match vp f with
  | none => none
  | some fn => match fn.prim with
   | some (sz, bytes) => match args with
    | [s, i, v] => insertV h sz bytes s i v
    | _ => none
   | none => match isoArgs fn.mode args with
   | some as => match exec n fn.body (argSlots as) h0 with
    | some (.norm, s', h') => match resOf s' h' fn.res with
     | some v => finishI h h' v
     | none => none
    | some (.ret, s', h') => match resOf s' h' fn.res with
     | some v => finishI h h' v
     | none => none
    | _ => none
   | none => match exec n fn.body (argSlots args) (enterH fn.mode h) with
    | some (.norm, s', h') => match resOf s' h' fn.res with
     | some v => finish fn.mode h h' v
     | none => none
    | some (.ret, s', h') => match resOf s' h' fn.res with
     | some v => finish fn.mode h h' v
     | none => none
    | _ => none
end
end
end Go.VE
end
section
namespace Go.VE
def cst : Value → Option V
 | .int k n => some (.int k n)
 | .bool b => some (.bool b)
 | .string s => some (.str s.data.toList)
 | .pointer none => some .nilp
 | .slice none 0 0 => some .nils
 | .nilFunc => some .nilf
 | .nilIface => some .nili
 | .map none => some .nilm
 | _ => none
def csts : List Value → Option (List V)
 | [] => some []
 | x :: r => match cst x, csts r with
  | some a, some b => some (a :: b)
  | _, _ => none
def cstA : Value → Option V
 | .agg cs => (csts cs.toList).map .agg
 | v => cst v
section
variable (P : Program) (gl : Nat → Option (List V)) (pu : Nat → Nat) (N : Nat)
def opd : Operand → Option Opd
 | .tmp t => some (.t t)
 | .const v => (cstA v).map .k
 | .func f => some (.k (.fn f []))
 | .global g => (gl g).map fun cs => .k (.iptr cs)
def opds : List Operand → Option (List Opd)
 | [] => some []
 | x :: r => match opd gl x, opds r with
  | some a, some b => some (a :: b)
  | _, _ => none
def opdo : Option Operand → Option (Option Opd)
 | none => some none
 | some x => (opd gl x).map some
def szOf (t : TypeId) : Option Nat := (P.info? t).map (·.size)
def aggOf (t : TypeId) : Option (Option Nat) :=
 match P.underlying t, P.info? t with
 | some (.struct _), some i | some (.array _ _), some i => some (some i.size)
 | some _, some _ => some none
 | _, _ => none
def zeroOf (t : TypeId) : Option (List V) :=
 match P.info? t with
 | some i => match i.zero with
  | some z => (csts z.cells.toList).bind fun l => if l.length = i.size then some l else none
  | none => none
 | none => none
def plainFs (q : TypeId → Option (List Nat)) : Nat → List Field → Option (List Nat)
 | _, [] => some []
 | off, f :: r => if f.name ≠ "_" ∧ f.offset = off then match q f.type, szOf P f.type with
   | some l, some n => if l.length = n then (plainFs q (off + n) r).map (l ++ ·) else none
   | _, _ => none
  else none
def plainK : Nat → TypeId → Option (List Nat)
 | 0, _ => none
 | d + 1, t => match P.underlying t with
  | some .bool => some [1]
  | some (.int _) => some [0]
  | some .string => some [2]
  | some (.struct fs) => if P.stoodInHeld t then none else plainFs P (plainK d) 0 fs.toList
  | some (.array n e) => match plainK d e, szOf P e with
   | some l, some m => if l.length = m then some ((List.replicate n l).flatten) else none
   | _, _ => none
  | _ => none
def placed (f : Nat → Option (Nat × Nat)) : List (Nat × Operand) → Option (List (Nat × Nat × Opd))
 | [] => some []
 |(i, x) :: r => match f i, opd gl x, placed f r with
  | some (o, s), some a, some b => some ((o, s, a) :: b)
  | _, _, _ => none
def opdR : Opd → List Nat
 | .t i => [i]
 | .k _ => []
def opdsR : List Opd → List Nat
 | [] => []
 | x :: r => opdR x ++ opdsR r
def callAs : Nat → Nat → List Opd → VOp
 | 0, f, as => .call f as
 | 1, f, as => .callp f as
 | 3, f, as => match opdsR as with
  | [t] => .callc f as t
  | _ => .call f as
 | _, f, as => .callo f as
def compCall (c : Call) : Option VOp :=
 match c.callee, opds gl c.args.toList with
 | .value f, some as => match f with
  | .func f => match P.funcs[f]? with
   | some fn => if fn.body.isSome then (if fn.name = "runtime.NumGoroutine" then none else some (callAs (pu f) f as)) else
    none
   | none => none
  | x => (opd gl x).map fun x => bif Nat.beq (pu (1000000 + c.argTypes[0]?.getD 0)) 2 then .callvo x as else .callv x as
 | .builtin b, some as =>
  match b, as, c.argTypes.toList with
  | .len, [x], [t] => match P.underlying t with
   | some (.slice _) => some (.len x)
   | some (.array n _) => some (.lenc n)
   | some (.pointer e) => match P.underlying e with
    | some (.array n _) => some (.lenc n)
    | _ => none
   | _ => none
  | .append, [s, x], [t, u] => match P.underlying t with
   | some (.slice e) => match P.info? e, zeroOf P e, P.underlying u with
    | some i, some z, some (.slice _) => if z.length = 0 ∨ i.bytes = 0 then none else some (.app i.size i.bytes s x)
    | _, _, _ => none
   | _ => none
  | .copy, [d, s], t :: u :: _ => match P.underlying t, P.underlying u with
   | some (.slice e), some (.slice _) => (szOf P e).map fun n => .cpy n d s
   | _, _ => none
  | .min, x :: xs, _ => some (.mini (x :: xs))
  | .max, x :: xs, _ => some (.maxi (x :: xs))
  | _, _, _ => none
 | _, _ => none
def negOf (op : BinOp) (f : Bool → VOp) : Option VOp :=
 match op with
 | .eql => some (f false)
 | .neq => some (f true)
 | _ => none
def isC : Operand → Bool
 | .const _ => true
 | _ => false
def compOp (o : Oper) : Option VOp :=
 match o.op with
 | .move x | .assign x => (opd gl x).map .mv
 | .pick c a b => match opd gl c, opd gl a, opd gl b with
  | some c, some a, some b => some (.pick c a b)
  | _, _, _ => none
 | .alloc e => (zeroOf P e).map fun z => .alloc e z
 | .box e x => match szOf P e, opd gl x with
  | some n, some x => some (.box n x)
  | _, _ => none
 | .build t ps => match zeroOf P t, P.underlying t with
  | some z, some (.struct fs) => if fs.toList.all (fun f => (szOf P f.type).isSome) then (placed gl (fun i => (fs[i]?).bind fun f => (szOf P f.type).map fun s => (f.offset, s)) ps.toList).map fun ps => .build z ps
   else none
  | some z, some (.array _ e) => match szOf P e with
   | some s => (placed gl (fun i => some (i * s, s)) ps.toList).map fun ps => .build z ps
   | none => none
  | _, _ => none
 | .buildSlice t n ps => match P.underlying t with
  | some (.slice e) => match zeroOf P e with
   | some z => if n * z.length > 2 ^ 24 ∨ z.length = 0 then none else (placed gl (fun i => some (i * z.length, z.length)) ps.toList).map fun ps => .bsl n z.length (rep n z) ps
   | none => none
  | _ => none
 | .load t a => match aggOf P t, opd gl a with
  | some n, some a => some (.ld n a)
  | _, _ => none
 | .store t a x => match szOf P t, opd gl a, opd gl x with
  | some n, some a, some x => some (.st n a x)
  | _, _, _ => none
 | .nilCheck x => (opd gl x).map .nck
 | .binOp op t x0 y0 _ => match opd gl x0, opd gl y0 with
  | some x, some y => match P.underlying t with
   | some (.struct _) | some (.array _ _) => if P.eqGuardType P.depth t then none else match plainK P 50 t with
    | some ks => negOf op fun n => .eqa n ks x y
    | none => none
   | some (.int _) | some .string => some (.bin op x y)
   | some .bool => negOf op fun n => .eqb n x y
   | some (.pointer e) => if isC x0 || isC y0 then negOf op fun n => .eqn n 0 x y else none
   | some (.slice _) => negOf op fun n => .eqn n 1 x y
   | some (.map _ _) => negOf op fun n => .eqn n 2 x y
   | some (.func _ _ _) => negOf op fun n => .eqn n 3 x y
   | some (.interface _) => if isC x0 || isC y0 then negOf op fun n => .eqn n 4 x y else none
   | _ => none
  | _, _ => none
 | .unOp op _ x => (opd gl x).map (.un op)
 | .convert s d x => match P.underlying s, P.underlying d, opd gl x with
  | some (.int _), some (.int k), some x => some (.cnv k x)
  | _, _, _ => none
 | .makeInterface t x => match P.underlying t, opd gl x with
  | some (.interface _), _ => none
  | some _, some x => some (.mkif t x)
  | _, _ => none
 | .makeFunc (.func f) first caps => if first.size = 0 then (opds gl caps.toList).map (.mkf f) else none
 | .makeSlice t l c => match P.underlying t with
  | some (.slice e) => match P.info? e, zeroOf P e, opd gl l, opd gl c with
   | some i, some z, some l, some c => if z.length = 0 then none else some (.mks e i.bytes z l c)
   | _, _, _, _ => none
  | _ => none
 | .slice t x lo hi mx => match P.underlying t, opd gl x, opdo gl lo, opdo gl hi, opdo gl mx with
  | some (.slice e), some x, some lo, some hi, some mx => if mx.isSome && hi.isNone then none else (szOf P e).map fun s => .slc s x lo hi mx
  | some (.array n e), some x, some lo, some hi, some mx => if mx.isSome && hi.isNone then none else (szOf P e).map fun s => .slca n s x lo hi mx
  | _, _, _, _, _ => none
 | .fieldAddr t x f => match P.underlying t, opd gl x with
  | some (.struct fs), some x => match fs[f]? with
   | some fl => match szOf P fl.type with
    | some (_ + 1) => some (.fa fl.offset x)
    | _ => none
   | none => none
  | _, _ => none
 | .field t x f => match P.underlying t, opd gl x with
  | some (.struct fs), some x => match fs[f]? with
   | some fl => (aggOf P fl.type).map fun n => .fld fl.offset n x
   | none => none
  | _, _ => none
 | .indexAddr t x i => match P.underlying t, opd gl x, opd gl i with
  | some (.slice e), some x, some i => match szOf P e with
   | some (s + 1) => some (.ia (s + 1) x i)
   | _ => none
  | some (.array n e), some x, some i => (szOf P e).map fun s => .iaa n s x i
  | _, _, _ => none
 | .index t x i => match P.underlying t, opd gl x, opd gl i with
  | some (.array n e), some x, some i => match szOf P e, aggOf P e with
   | some s, some a => some (.ix n s a x i)
   | _, _ => none
  | _, _, _ => none
 | .extract t i => (opd gl t).map (.ext i)
 | .call c => compCall P gl pu c
 | _ => none
def okOp : VOp → Bool := fun _ => true
def okd : Option VOp → VOp
 | some o => if okOp o then o else .bad
 | none => .bad
def dstOk (N : Nat) : Option Nat → Bool
 | some d => decide (d < N)
 | none => true
def opdoR : Option Opd → List Nat
 | some x => opdR x
 | none => []
def psR : List (Nat × Nat × Opd) → List Nat
 | [] => []
 | x :: r => opdR x.2.2 ++ psR r
def rdOp : VOp → List Nat
 | .mv x | .box _ x | .ld _ x | .nck x | .un _ x | .cnv _ x | .fa _ x | .fld _ _ x | .ext _ x | .len x
 | .mkif _ x => opdR x
 | .pick c a b => opdR c ++ (opdR a ++ opdR b)
 | .alloc .. | .lenc _ | .bad => []
 | .build _ ps | .bsl _ _ _ ps => psR ps
 | .st _ a x | .bin _ a x | .eqb _ a x | .eqn _ _ a x | .eqa _ _ a x | .mks _ _ _ a x | .ia _ a x | .iaa _ _ a x | .ix _ _ _ a x
 | .app _ _ a x | .cpy _ a x => opdR a ++ opdR x
 | .mkf _ xs | .mini xs | .maxi xs | .call _ xs | .callp _ xs | .callo _ xs => opdsR xs
 | .callv x xs | .callvo x xs => opdR x ++ opdsR xs
 | .callc _ xs t => t :: opdsR xs
 | .slc _ x lo hi mx | .slca _ _ x lo hi mx => opdR x ++ (opdoR lo ++ (opdoR hi ++ opdoR mx))
def VOper.reads (o : VOper) : List Nat :=
 match o.g with
 | some (g, _) => g :: rdOp o.op
 | none => rdOp o.op
def kLd : Opd → Nat
 | .t _ => 2
 | .k (.iptr _) => 0
 | .k _ => 5
def kSt : Opd → Nat
 | .t _ => 3
 | .k _ => 5
def kMx : Option Opd → Nat
 | none => 0
 | some _ => 4
def kindOf : VOp → Nat
 | .mv _ | .pick .. | .build .. | .nck _ | .bin .. | .eqb .. | .eqn .. | .eqa .. | .un .. | .cnv .. | .mkf .. | .fa .. | .fld .. | .ia .. | .iaa ..
 | .ix .. | .ext .. | .len _ | .lenc _ | .mini _ | .maxi _ | .mkif .. => 0
 | .slc _ _ _ _ mx => kMx mx
 | .alloc .. | .box .. | .bsl .. | .mks .. => 1
 | .ld _ a => kLd a
 | .st _ a _ => kSt a
 | .callp .. | .slca .. => 4
 | .callo .. | .callvo .. => 6
 | _ => 5
def memN (t : Nat) : List Nat → Bool
 | [] => false
 | x :: r => bif Nat.beq x t then true else memN t r
def dstIn (d : Option Nat) (l : List Nat) : Bool :=
 match d with
 | some t => memN t l
 | none => false
def sameDst : Option Nat → Option Nat → Bool
 | some a, some b => Nat.beq a b
 | _, _ => false
def apartOps (x y : VOper) : Bool := !(dstIn x.dst y.reads) && !(sameDst x.dst y.dst) && !(dstIn y.dst x.reads)
def compatK (a b : Nat) : Bool :=
 match a, b with
 | 0, _ => true
 | _, 0 => true
 | 5, 1 => true
 | 5, _ => false
 | _, 5 => false
 | 3, 6 => false
 | 6, 3 => false
 | 1, _ => true
 | _, 1 => true
 | 6, _ => true
 | _, 6 => true
 | 3, _ => false
 | _, 3 => false
 | _, _ => true
def memP (a b : Nat) : List (Nat × Nat) → Bool
 | [] => false
 | x :: r => bif Nat.beq x.1 a && Nat.beq x.2 b then true else memP a b r
def noDst (t : Nat) : List VOper → Bool
 | [] => true
 | o :: r => bif sameDst o.dst (some t) then false else noDst t r
def ldst (x y : VOp) : Option (Nat × Nat) :=
 match x, y with
 | .ld _ (.t a), .st _ (.t b) _ => some (a, b)
 | .ld _ (.t a), .app _ _ (.t b) _ => some (a, b)
 | .app _ _ (.t b) _, .ld _ (.t a) => some (b, a)
 | .ld _ (.t a), .callc _ _ b => some (a, b)
 | .callc _ _ b, .ld _ (.t a) => some (b, a)
 | _, _ => none
def pairOk (chk : List (Nat × Nat)) (x y : VOper) (xs ys : List VOper) : Bool :=
 bif apartOps x y then
  bif compatK (kindOf x.op) (kindOf y.op) then true else match ldst x.op y.op with
   | some (a, b) => memP a b chk && noDst a xs && noDst a ys && noDst b ys
   | none => false
 else false
def okAgainst (chk : List (Nat × Nat)) (y : VOper) (ys : List VOper) : Nat → List VOper → Bool
 | _, [] => true
 | m, x :: xs => bif Nat.beq (m % 2) 1 then okAgainst chk y ys (m / 2) xs else bif pairOk chk x y (x :: xs) ys then okAgainst chk y ys (m / 2) xs else false
def maskOf (masks : List Nat) : List Edge → Option Nat
 | [] => some 0
 | e :: r => match maskOf masks r with
  | none => none
  | some m => match e.ground with
   | .textOnly _ | .gcOnly _ => some m
   | _ => match masks[e.on]? with
    | some k => some (m ||| ((1 <<< e.on) ||| k))
    | none => none
def dregGo (chk : List (Nat × Nat)) : List VOper → List Nat → List Oper → List VOper → Bool
 | _, _, [], [] => true
 | done, masks, o :: os, y :: ys => match maskOf masks o.after.toList with
  | none => false
  | some m => bif okAgainst chk y (y :: ys) m done then dregGo chk (done ++ [y]) (masks ++ [m]) os ys else false
 | _, _, _, _ => false
def chkGo : List VOper → List Nat → List Oper → List VOper → List (Nat × Nat)
 | done, masks, o :: os, y :: ys => match maskOf masks o.after.toList with
  | none => []
  | some m => go m y 0 done ++ chkGo (done ++ [y]) (masks ++ [m]) os ys
 | _, _, _, _ => []
where
 go (m : Nat) (y : VOper) : Nat → List VOper → List (Nat × Nat)
  | _, [] => []
  | i, x :: xs => match ldst x.op y.op with
   | some p => bif Nat.beq ((m >>> i) % 2) 1 then go m y (i + 1) xs else p :: go m y (i + 1) xs
   | none => go m y (i + 1) xs
def regOf (drawn : Bool) (os : List Oper) (l : List VOper) : Option VCode :=
 match drawn with
 | false => some (.reg l [])
 | true => let chk := chkGo [] [] os l
  if dregGo chk [] [] os l then some (.reg l chk) else none
def compOps (ops : Array Oper) : List Oper → Option (List VOper)
 | [] => some []
 | o :: r => match compOps ops r with
  | some l => if dstOk N o.dst then match o.guard with
   | none => some ({ dst := o.dst, g := none, op := okd (compOp P gl pu o) } :: l)
   | some (g, w) => match (ops[g]?).bind (·.dst) with
    | some d => if d < N then some ({ dst := o.dst, g := some (d, w), op := okd (compOp P gl pu o) } :: l) else none
    | none => none
   else none
  | none => none
def noRF : Code → Bool
 | .seq a b => noRF a && noRF b
 | .cond _ a b => noRF a && noRF b
 | .block _ c => noRF c
 | .loop c => noRF c
 | .scope c => noRF c
 | .rangeFunc .. => false
 | _ => true
def comp : Code → Option VCode
 | .skip => some .skip
 | .region _ ops drawn => match compOps P gl pu N ops ops.toList with
  | some l => regOf drawn ops.toList l
  | none => none
 | .seq a b => match comp a, comp b with
  | some a, some b => some (.seq a b)
  | _, _ => none
 | .cond c a b => match opd gl c, comp a, comp b with
  | some c, some a, some b => some (.cond c a b)
  | _, _, _ => none
 | .block id c => (comp c).map (.block id)
 | .loop c => (comp c).map .loop
 | .exit id => some (.exit id)
 | .ret => some .ret
 | .scope c => (comp c).map .scope
 | .label _ => some .skip
 | .refuse _ => some (.reg [⟨none, none, .bad⟩] [])
 | .rangeFunc f ps a b => match opd gl f, comp a, comp b with
  | some f', some a', some b' => if noRF a && noRF b && ps.toList.all (fun t => decide (t < N)) then some (.rngf f' ps.toList a' b') else none
  | _, _, _ => none
 | _ => none
def compRes : List ResultVar → Option (List VRes)
 | [] => some []
 | .tmp t :: r => (compRes r).map (.t t :: ·)
 | .cell a t :: r => match aggOf P t, compRes r with
  | some n, some l => some (.c a n :: l)
  | _, _ => none
def compFn (mode : Nat) (f : Func) : Option VFn :=
 if f.name = "runtime.NumGoroutine" then none else
 if f.origin = "slices.Insert" then match f.params[0]? with
  | some t => match P.underlying t with
   | some (.slice e) => if f.body.isSome then (P.info? e).map fun i => { prim := some (i.size, i.bytes), mode := 0, res := [], body := .skip } else none
   | _ => none
  | none => none
 else
 match f.body with
 | some c => match comp P gl pu f.ntmps c, compRes P f.results.toList with
  | some b, some r => some { mode, res := r, body := b }
  | _, _ => none
 | none => none
end
end Go.VE
end

