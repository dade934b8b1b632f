/- A part of a proof that a small evaluator of the translated code agrees with the model (part Comp). No statement of the program stands here. -/
import Derived.Test.YtocgoabopiikoaaGreatDoorVeExec
set_option linter.all false
namespace Go.VE

def cst : Value → Option V
  | .int k n => some (.int k n)
  | .bool b => some (.bool b)
  | .string s => some (.str s.data.toList)
  | .pointer none => some .nilp
  | .slice none 0 0 => some .nils
  | .nilFunc => some .nilf
  | .nilIface => some .nili
  | .map none => some .nilm
  | _ => none
def csts : List Value → Option (List V)
  | [] => some []
  | x :: r => match cst x, csts r with
    | some a, some b => some (a :: b)
    | _, _ => none
def cstA : Value → Option V
  | .agg cs => (csts cs.toList).map .agg
  | v => cst v

section
variable (P : Program) (gl : Nat → Option (List V)) (pu : Nat → Nat) (N : Nat)
def opd : Operand → Option Opd
  | .tmp t => some (.t t)
  | .const v => (cstA v).map .k
  | .func f => some (.k (.fn f []))
  | .global g => (gl g).map fun cs => .k (.iptr cs)
def opds : List Operand → Option (List Opd)
  | [] => some []
  | x :: r => match opd gl x, opds r with
    | some a, some b => some (a :: b)
    | _, _ => none
def opdo : Option Operand → Option (Option Opd)
  | none => some none
  | some x => (opd gl x).map some

def szOf (t : TypeId) : Option Nat := (P.info? t).map (·.size)
/-- none: a scalar; some n: an aggregate of n cells -/
def aggOf (t : TypeId) : Option (Option Nat) :=
  match P.underlying t, P.info? t with
  | some (.struct _), some i | some (.array _ _), some i => some (some i.size)
  | some _, some _ => some none
  | _, _ => none
def zeroOf (t : TypeId) : Option (List V) :=
  match P.info? t with
  | some i => match i.zero with
    | some z => (csts z.cells.toList).bind fun l => if l.length = i.size then some l else none
    | none => none
  | none => none
def zeroV (t : TypeId) : Option V :=
  match P.info? t with
  | some i => i.zero.bind cstA
  | none => none

def plainFs (q : TypeId → Option (List Nat)) : Nat → List Field → Option (List Nat)
  | _, [] => some []
  | off, f :: r => if f.name ≠ "_" ∧ f.offset = off then match q f.type, szOf P f.type with
      | some l, some n => if l.length = n then (plainFs q (off + n) r).map (l ++ ·) else none
      | _, _ => none
    else none

/-- the kinds of a type's cells, if '==' looks at these, in their order, and at nothing else -/
def plainK : Nat → TypeId → Option (List Nat)
  | 0, _ => none
  | d + 1, t => match P.underlying t with
    | some .bool => some [1]
    | some (.int _) => some [0]
    | some .string => some [2]
    | some (.struct fs) => if P.stoodInHeld t then none else plainFs P (plainK d) 0 fs.toList
    | some (.array n e) => match plainK d e, szOf P e with
      | some l, some m => if l.length = m then some ((List.replicate n l).flatten) else none
      | _, _ => none
    | _ => none

def placed (f : Nat → Option (Nat × Nat)) : List (Nat × Operand) → Option (List (Nat × Nat × Opd))
  | [] => some []
  | (i, x) :: r => match f i, opd gl x, placed f r with
    | some (o, s), some a, some b => some ((o, s, a) :: b)
    | _, _, _ => none

def callAs : Nat → Nat → List Opd → VOp
  | 0, f, as => .call f as
  | 1, f, as => .callp f as
  | _, f, as => .callo f as

def compCall (c : Call) : Option VOp :=
  match c.callee, opds gl c.args.toList with
  | .value f, some as => match f with
    | .func f => match P.funcs[f]? with
      | some fn => if fn.body.isSome then (if fn.name = "runtime.NumGoroutine" then none else some (callAs (pu f) f as)) else
        if fn.origin ≠ "" then none else
        if fn.name = "math/bits.Add64" then match as with | [x, y, z] => some (.carry false x y z) | _ => none
        else if fn.name = "math/bits.Sub64" then match as with | [x, y, z] => some (.carry true x y z) | _ => none
        else none
      | none => none
    | x => (opd gl x).map fun x => .callv x as
  | .builtin b, some as =>
    match b, as, c.argTypes.toList with
    | .len, [x], [t] => match P.underlying t with
      | some .string => some (.lens x)
      | some (.slice _) => some (.len x)
      | some (.array n _) => some (.lenc n)
      | some (.pointer e) => match P.underlying e with
        | some (.array n _) => some (.lenc n)
        | _ => none
      | some (.map _ _) => some (.lenm x)
      | _ => none
    | .append, [s, x], [t, u] => match P.underlying t with
      | some (.slice e) => match P.info? e, zeroOf P e, P.underlying u with
        | some i, some z, some (.int _) => if z.length = 0 ∨ i.bytes = 0 then none else some (.app0 i.bytes z s x)
        | some i, some z, some (.slice _) => if z.length = 0 ∨ i.bytes = 0 then none else some (.app i.size i.bytes s x)
        | some i, some z, some .string => if z.length = 1 ∧ i.bytes ≠ 0 then some (.apps i.bytes s x) else none
        | _, _, _ => none
      | _ => none
    | .copy, [d, s], t :: u :: _ => match P.underlying t, P.underlying u with
      | some (.slice e), some (.slice _) => (szOf P e).map fun n => .cpy n d s
      | some (.slice e), some .string => if szOf P e = some 1 then some (.cpys d s) else none
      | _, _ => none
    | .min, x :: xs, _ => some (.mini (x :: xs))
    | .max, x :: xs, _ => some (.maxi (x :: xs))
    | .delete, [m, k], _ => some (.mdel m k)
    | .clear, [x], [t] => match P.underlying t with
      | some (.slice e) => match zeroOf P e with
        | some z => if z.length = 0 then none else some (.clr x z)
        | none => none
      | _ => none
    | _, _, _ => none
  | _, _ => none

def negOf (op : BinOp) (f : Bool → VOp) : Option VOp :=
  match op with
  | .eql => some (f false)
  | .neq => some (f true)
  | _ => none
def isC : Operand → Bool
  | .const _ => true
  | _ => false

def compOp (o : Oper) : Option VOp :=
  match o.op with
  | .move x | .assign x => (opd gl x).map .mv
  | .pick c a b => match opd gl c, opd gl a, opd gl b with
    | some c, some a, some b => some (.pick c a b)
    | _, _, _ => none
  | .alloc e => (zeroOf P e).map fun z => .alloc z
  | .box e x => match szOf P e, opd gl x with
    | some n, some x => some (.box n x)
    | _, _ => none
  | .build t ps => match zeroOf P t, P.underlying t with
    | some z, some (.struct fs) => if fs.toList.all (fun f => (szOf P f.type).isSome) then (placed gl (fun i => (fs[i]?).bind fun f => (szOf P f.type).map fun s => (f.offset, s)) ps.toList).map fun ps => .build z ps
      else none
    | some z, some (.array _ e) => match szOf P e with
      | some s => (placed gl (fun i => some (i * s, s)) ps.toList).map fun ps => .build z ps
      | none => none
    | _, _ => none
  | .buildSlice t n ps => match P.underlying t with
    | some (.slice e) => match zeroOf P e with
      | some z => if n * z.length > 2 ^ 24 ∨ z.length = 0 then none else (placed gl (fun i => some (i * z.length, z.length)) ps.toList).map fun ps => .bsl n z.length (rep n z) ps
      | none => none
    | _ => none
  | .load t a => match aggOf P t, opd gl a with
    | some n, some a => some (.ld n a)
    | _, _ => none
  | .store t a x => match szOf P t, opd gl a, opd gl x with
    | some n, some a, some x => some (.st n a x)
    | _, _, _ => none
  | .nilCheck x => (opd gl x).map .nck
  | .binOp op t x0 y0 _ => match opd gl x0, opd gl y0 with
    | some x, some y => match P.underlying t with
      | some (.struct _) | some (.array _ _) => if P.eqGuardType P.depth t then none else match plainK P 50 t with
        | some ks => negOf op fun n => .eqa n ks x y
        | none => none
      | some (.int _) | some .string => some (.bin op x y)
      | some .bool => negOf op fun n => .eqb n x y
      | some (.pointer _) => negOf op fun n => .eqn n 0 x y
      | some (.slice _) => negOf op fun n => .eqn n 1 x y
      | some (.map _ _) => negOf op fun n => .eqn n 2 x y
      | some (.func _ _ _) => negOf op fun n => .eqn n 3 x y
      | some (.interface _) => if isC x0 || isC y0 then negOf op fun n => .eqn n 4 x y else none
      | _ => none
    | _, _ => none
  | .unOp op _ x => (opd gl x).map (.un op)
  | .convert s d x => match P.underlying s, P.underlying d, opd gl x with
    | some (.int _), some (.int k), some x => some (.cnv k x)
    | some .string, some (.slice e), some x => match P.underlying e with
      | some (.int .u8) => some (.s2b x)
      | _ => none
    | some (.slice e), some .string, some x => match P.underlying e with
      | some (.int .u8) => some (.b2s x)
      | _ => none
    | _, _, _ => none
  | .makeInterface t x => match P.underlying t, opd gl x with
    | some (.interface _), _ => none
    | some _, some x => some (.mkif t x)
    | _, _ => none
  | .makeFunc (.func f) first caps => if first.size = 0 then (opds gl caps.toList).map (.mkf f) else none
  | .makeMap _ none => some .mkmap
  | .makeSlice t l c => match P.underlying t with
    | some (.slice e) => match P.info? e, zeroOf P e, opd gl l, opd gl c with
      | some i, some z, some l, some c => if z.length = 0 then none else some (.mks i.bytes z l c)
      | _, _, _, _ => none
    | _ => none
  | .slice t x lo hi mx => match P.underlying t, opd gl x, opdo gl lo, opdo gl hi, opdo gl mx with
    | some .string, some x, some lo, some hi, some none => some (.slcs x lo hi)
    | some (.slice e), some x, some lo, some hi, some mx => if mx.isSome && hi.isNone then none else (szOf P e).map fun s => .slc s x lo hi mx
    | some (.array n e), some x, some lo, some hi, some mx => if mx.isSome && hi.isNone then none else (szOf P e).map fun s => .slca n s x lo hi mx
    | _, _, _, _, _ => none
  | .fieldAddr t x f => match P.underlying t, opd gl x with
    | some (.struct fs), some x => match fs[f]? with
      | some fl => match szOf P fl.type with
        | some (_ + 1) => some (.fa fl.offset x)
        | _ => none
      | none => none
    | _, _ => none
  | .field t x f => match P.underlying t, opd gl x with
    | some (.struct fs), some x => match fs[f]? with
      | some fl => (aggOf P fl.type).map fun n => .fld fl.offset n x
      | none => none
    | _, _ => none
  | .indexAddr t x i => match P.underlying t, opd gl x, opd gl i with
    | some (.slice e), some x, some i => match szOf P e with
      | some (s + 1) => some (.ia (s + 1) x i)
      | _ => none
    | some (.array n e), some x, some i => (szOf P e).map fun s => .iaa n s x i
    | _, _, _ => none
  | .index t x i => match P.underlying t, opd gl x, opd gl i with
    | some .string, some x, some i => some (.ixs x i)
    | some (.array n e), some x, some i => match szOf P e, aggOf P e with
      | some s, some a => some (.ix n s a x i)
      | _, _ => none
    | _, _, _ => none
  | .lookup t m k ok => match P.underlying t, opd gl m, opd gl k with
    | some (.map kt e), some m, some k => match P.underlying kt, zeroV P e with
      | some (.int _), some z => some (.look z ok m k)
      | some .string, some z => some (.look z ok m k)
      | _, _ => none
    | _, _, _ => none
  | .mapUpdate t m k x | .insert t m k x => match P.underlying t, opd gl m, opd gl k, opd gl x with
    | some (.map kt _), some m, some k, some x => match P.underlying kt with
      | some (.int _) | some .string => some (.mupd m k x)
      | _ => none
    | _, _, _, _ => none
  | .extract t i => (opd gl t).map (.ext i)
  | .typeAssert x _ t ok => match P.underlying t, opd gl x, zeroV P t with
    | some (.interface _), _, _ => none
    | some _, some x, some z => some (.tasrt t ok z x)
    | _, _, _ => none
  | .range t x => match P.underlying t, opd gl x with
    | some .string, some x => some (.rngs x)
    | _, _ => none
  | .next it true => (opd gl it).map .nxts
  | .call c => compCall P gl pu c
  | _ => none

/-- the operations whose likeness is proved -/
def okOp : VOp → Bool
  | .s2b _ | .b2s _ | .slcs .. | .tasrt .. | .rngs _ | .nxts _ | .mkmap | .look .. | .mupd .. | .mdel .. | .lenm _ => false
  | _ => true
def okd : Option VOp → VOp
  | some o => if okOp o then o else .bad
  | none => .bad

def dstOk (N : Nat) : Option Nat → Bool
  | some d => decide (d < N)
  | none => true
-- ------------------------------------------------------------------ drawn regions
def opdR : Opd → List Nat
  | .t i => [i]
  | .k _ => []
def opdsR : List Opd → List Nat
  | [] => []
  | x :: r => opdR x ++ opdsR r
def opdoR : Option Opd → List Nat
  | some x => opdR x
  | none => []
def psR : List (Nat × Nat × Opd) → List Nat
  | [] => []
  | x :: r => opdR x.2.2 ++ psR r
/-- the slots that an operation reads -/
def rdOp : VOp → List Nat
  | .mv x | .box _ x | .ld _ x | .nck x | .un _ x | .cnv _ x | .s2b x | .b2s x | .fa _ x | .fld _ _ x | .ext _ x | .len x | .lens x
  | .mkif _ x | .tasrt _ _ _ x | .rngs x | .nxts x | .lenm x | .clr x _ => opdR x
  | .pick c a b | .carry _ c a b | .mupd c a b => opdR c ++ (opdR a ++ opdR b)
  | .alloc _ | .lenc _ | .mkmap | .bad => []
  | .build _ ps | .bsl _ _ _ ps => psR ps
  | .st _ a x | .bin _ a x | .eqb _ a x | .eqn _ _ a x | .eqa _ _ a x | .mks _ _ a x | .ia _ a x | .iaa _ _ a x | .ix _ _ _ a x | .ixs a x
  | .app _ _ a x | .apps _ a x | .app0 _ _ a x | .cpy _ a x | .cpys a x | .look _ _ a x | .mdel a x => opdR a ++ opdR x
  | .mkf _ xs | .mini xs | .maxi xs | .call _ xs | .callp _ xs | .callo _ xs => opdsR xs
  | .callv x xs => opdR x ++ opdsR xs
  | .slc _ x lo hi mx | .slca _ _ x lo hi mx => opdR x ++ (opdoR lo ++ (opdoR hi ++ opdoR mx))
  | .slcs x lo hi => opdR x ++ (opdoR lo ++ opdoR hi)
def VOper.reads (o : VOper) : List Nat :=
  match o.g with
  | some (g, _) => g :: rdOp o.op
  | none => rdOp o.op
def kLd : Opd → Nat
  | .t _ => 2
  | .k (.iptr _) => 0
  | .k _ => 5
def kSt : Opd → Nat
  | .t _ => 3
  | .k _ => 5
def kMx : Option Opd → Nat
  | none => 0
  | some _ => 4
/-- 0: nothing of the heap; 1: makes a new block, reads nothing; 2: reads the block of its address; 3: writes it; 4: reads; 5: anything; 6: reads, and makes new blocks -/
def kindOf : VOp → Nat
  | .mv _ | .pick .. | .build .. | .nck _ | .bin .. | .eqb .. | .eqn .. | .eqa .. | .un .. | .cnv .. | .mkf .. | .fa .. | .fld .. | .ia .. | .iaa ..
  | .ix .. | .ixs .. | .ext .. | .len _ | .lens _ | .lenc _ | .mini _ | .maxi _ | .mkif .. => 0
  | .slc _ _ _ _ mx => kMx mx
  | .alloc _ | .box .. | .bsl .. | .mks .. => 1
  | .ld _ a => kLd a
  | .st _ a _ => kSt a
  | .callp .. | .slca .. => 4
  | .callo .. => 6
  | _ => 5
def memN (t : Nat) : List Nat → Bool
  | [] => false
  | x :: r => bif Nat.beq x t then true else memN t r
def dstIn (d : Option Nat) (l : List Nat) : Bool :=
  match d with
  | some t => memN t l
  | none => false
def sameDst : Option Nat → Option Nat → Bool
  | some a, some b => Nat.beq a b
  | _, _ => false
def apartOps (x y : VOper) : Bool := !(dstIn x.dst y.reads) && !(sameDst x.dst y.dst) && !(dstIn y.dst x.reads)
def compatK (a b : Nat) : Bool :=
  match a, b with
  | 0, _ => true
  | _, 0 => true
  | 5, 1 => true
  | 5, _ => false
  | _, 5 => false
  | 3, 6 => false
  | 6, 3 => false
  | 1, _ => true
  | _, 1 => true
  | 6, _ => true
  | _, 6 => true
  | 3, _ => false
  | _, 3 => false
  | _, _ => true
def memP (a b : Nat) : List (Nat × Nat) → Bool
  | [] => false
  | x :: r => bif Nat.beq x.1 a && Nat.beq x.2 b then true else memP a b r
def noDst (t : Nat) : List VOper → Bool
  | [] => true
  | o :: r => bif sameDst o.dst (some t) then false else noDst t r
def ldst (x y : VOp) : Option (Nat × Nat) :=
  match x, y with
  | .ld _ (.t a), .st _ (.t b) _ => some (a, b)
  | _, _ => none
/-- two operations, the first ahead of the second in the text, that may come in either order -/
def pairOk (chk : List (Nat × Nat)) (x y : VOper) (xs ys : List VOper) : Bool :=
  bif apartOps x y then
    bif compatK (kindOf x.op) (kindOf y.op) then true else match ldst x.op y.op with
      | some (a, b) => memP a b chk && noDst a xs && noDst a ys && noDst b ys
      | none => false
  else false
def okAgainst (chk : List (Nat × Nat)) (y : VOper) (ys : List VOper) : Nat → List VOper → Bool
  | _, [] => true
  | m, x :: xs => bif Nat.beq (m % 2) 1 then okAgainst chk y ys (m / 2) xs else bif pairOk chk x y (x :: xs) ys then okAgainst chk y ys (m / 2) xs else false
/-- those that must come before: bits; none: an edge that does not point back -/
def maskOf (masks : List Nat) : List Edge → Option Nat
  | [] => some 0
  | e :: r => match maskOf masks r with
    | none => none
    | some m => match e.ground with
      | .textOnly _ | .gcOnly _ => some m
      | _ => match masks[e.on]? with
        | some k => some (m ||| ((1 <<< e.on) ||| k))
        | none => none
def dregGo (chk : List (Nat × Nat)) : List VOper → List Nat → List Oper → List VOper → Bool
  | _, _, [], [] => true
  | done, masks, o :: os, y :: ys => match maskOf masks o.after.toList with
    | none => false
    | some m => bif okAgainst chk y (y :: ys) m done then dregGo chk (done ++ [y]) (masks ++ [m]) os ys else false
  | _, _, _, _ => false
/-- the pairs of a load and a later store that no edge orders -/
def chkGo : List VOper → List Nat → List Oper → List VOper → List (Nat × Nat)
  | done, masks, o :: os, y :: ys => match maskOf masks o.after.toList with
    | none => []
    | some m => go m y 0 done ++ chkGo (done ++ [y]) (masks ++ [m]) os ys
  | _, _, _, _ => []
where
  go (m : Nat) (y : VOper) : Nat → List VOper → List (Nat × Nat)
    | _, [] => []
    | i, x :: xs => match ldst x.op y.op with
      | some p => bif Nat.beq ((m >>> i) % 2) 1 then go m y (i + 1) xs else p :: go m y (i + 1) xs
      | none => go m y (i + 1) xs
def regOf (drawn : Bool) (os : List Oper) (l : List VOper) : Option VCode :=
  match drawn with
  | false => some (.reg l [])
  | true => let chk := chkGo [] [] os l
    if dregGo chk [] [] os l then some (.reg l chk) else none

def compOps (ops : Array Oper) : List Oper → Option (List VOper)
  | [] => some []
  | o :: r => match compOps ops r with
    | some l => if dstOk N o.dst then match o.guard with
      | none => some ({ dst := o.dst, g := none, op := okd (compOp P gl pu o) } :: l)
      | some (g, w) => match (ops[g]?).bind (·.dst) with
        | some d => if d < N then some ({ dst := o.dst, g := some (d, w), op := okd (compOp P gl pu o) } :: l) else none
        | none => none
      else none
    | none => none

def comp : Code → Option VCode
  | .skip => some .skip
  | .region _ ops drawn => match compOps P gl pu N ops ops.toList with
    | some l => regOf drawn ops.toList l
    | none => none
  | .seq a b => match comp a, comp b with
    | some a, some b => some (.seq a b)
    | _, _ => none
  | .cond c a b => match opd gl c, comp a, comp b with
    | some c, some a, some b => some (.cond c a b)
    | _, _, _ => none
  | .block id c => (comp c).map (.block id)
  | .loop c => (comp c).map .loop
  | .exit id => some (.exit id)
  | .ret => some .ret
  | .scope c => (comp c).map .scope
  | .label _ => some .skip
  | _ => none

def compRes : List ResultVar → Option (List VRes)
  | [] => some []
  | .tmp t :: r => (compRes r).map (.t t :: ·)
  | .cell a t :: r => match aggOf P t, compRes r with
    | some n, some l => some (.c a n :: l)
    | _, _ => none
def compFn (mode : Nat) (f : Func) : Option VFn :=
  if f.name = "runtime.NumGoroutine" then none else
  if f.origin = "slices.Insert" then match f.params[0]? with
    | some t => match P.underlying t with
      | some (.slice e) => if f.body.isSome then (P.info? e).map fun i => { prim := some (i.size, i.bytes), mode := 0, res := [], body := .skip } else none
      | _ => none
    | none => none
  else
  match f.body with
  | some c => match comp P gl pu f.ntmps c, compRes P f.results.toList with
    | some b, some r => some { mode, res := r, body := b }
    | _, _ => none
  | none => none
end
end Go.VE
