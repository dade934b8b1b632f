/- A part of a proof that a small evaluator of the translated code agrees with the model (part Exec). No statement of the program stands here. -/
import Derived.Test.YtocgoabopiikoaaGreatDoorVeCore
set_option linter.all false
namespace Go.VE

mutual
/-- A value whose own blocks (from base on) are told whole; inside such a block nothing may point to other blocks. -/
def frz (f : Nat) (h : Heap) (base : Nat) (inn : Bool) (v : V) : Option V :=
  match f with
  | 0 => none
  | f + 1 => match v with
    | .top => none
    | .sl b off len cap sz => bif Nat.blt b base then (bif inn then none else some v) else match h.get b with
      | .cells c o => match takeN (len * sz) (c.drop off) with
        | some l => match frzs f h base true l with
          | some l' => some (.isl l' len (bif o && Nat.beq (off + cap * sz) c.length then none else some cap))
          | none => none
        | none => none
      | _ => none
    | .ptr b off => bif Nat.blt b base then (bif inn then none else some v) else match h.get b with
      | .cells c _ => match frzs f h base true (c.drop off) with
        | some l' => some (.iptr l')
        | none => none
      | _ => none
    | .agg cs => (frzs f h base inn cs).map .agg
    | .tup cs => (frzs f h base inn cs).map .tup
    | .fn g cs => (frzs f h base inn cs).map (.fn g)
    | .ifc t v => (frz f h base inn v).map (.ifc t)
    | .yld _ | .mp _ => none
    | v => some v
def frzs (f : Nat) (h : Heap) (base : Nat) (inn : Bool) (l : List V) : Option (List V) :=
  match f with
  | 0 => none
  | f + 1 => match l with
    | [] => some []
    | x :: r => match frz f h base inn x, frzs f h base inn r with
      | some x', some r' => some (x' :: r')
      | _, _ => none
end

def argSlots (args : List V) : Slots := go 0 args .lf
where
  go : Nat → List V → Slots → Slots
    | _, [], s => s
    | i, x :: r, s => go (i + 1) r (Tr.set s i x)

def resV (s : Slots) (h : Heap) : VRes → Option V
  | .t i => some (s.at i)
  | .c i n => match cellsAt h (s.at i) with
    | some cs => part n cs
    | none => none
def resVs (s : Slots) (h : Heap) : List VRes → Option (List V)
  | [] => some []
  | r :: l => match resV s h r, resVs s h l with
    | some x, some y => some (x :: y)
    | _, _ => none
def resOf (s : Slots) (h : Heap) (l : List VRes) : Option V :=
  match resVs s h l with
  | some [x] => some x
  | some xs => some (.tup xs)
  | none => none

def frzFuel : Nat := 1000000

/-- What becomes of a callee's result and heap. -/
def finish (mode : Nat) (h h' : Heap) (v : V) : Option (V × Heap) :=
  match mode with
  | 0 => some (v, h')
  | 1 => (frz frzFuel h' h.nx false v).map fun v => (v, h)
  | _ => some (v, { h' with lo := h.lo })

def enterH (mode : Nat) (h : Heap) : Heap :=
  match mode with
  | 0 => h
  | _ => { h with lo := h.nx }

def gEval (g : Option (Nat × Bool)) (s : Slots) : Option Bool :=
  match g with
  | none => some true
  | some (g, w) => match s.at g with
    | .bool b => some (bif w then b else !b)
    | .tup [] => some false
    | _ => none
def apartV : V → V → Bool
  | .ptr b _, .ptr c _ => !(Nat.beq b c)
  | _, _ => true
def chkOk : List (Nat × Nat) → Slots → Bool
  | [], _ => true
  | p :: r, s => bif apartV (s.at p.1) (s.at p.2) then chkOk r s else false

section
variable (vp : Nat → Option VFn)

mutual
def exec (n : Nat) (c : VCode) (s : Slots) (h : Heap) : Option (VX × Slots × Heap) :=
  match n with
  | 0 => none
  | n + 1 => match c with
    | .skip => some (.norm, s, h)
    | .reg ops chk => match runOps n ops s h with
      | some (s, h) => bif chkOk chk s then some (.norm, s, h) else none
      | none => none
    | .seq a b => match exec n a s h with
      | some (.norm, s, h) => exec n b s h
      | r => r
    | .cond c a b => match c.ev s with
      | .bool true => exec n a s h
      | .bool false => exec n b s h
      | _ => none
    | .block id c => match exec n c s h with
      | some (.exit i, s, h) => some (bif Nat.beq i id then .norm else .exit i, s, h)
      | r => r
    | .loop c => match exec n c s h with
      | some (.norm, s, h) => exec n (.loop c) s h
      | r => r
    | .exit id => some (.exit id, s, h)
    | .ret => some (.ret, s, h)
    | .scope c => exec n c s h
    | .rngf f ps asg body =>
      let l := h.nx
      match callV n (f.ev s) [.yld l] (h.new (.loop 0 none s ps asg body)) with
      | some (_, h) => match h.get l with
        | .loop st pend _ _ _ _ => bif Nat.beq st 1 then none else match pend with
          | none => some (.norm, s, h.set l .dead)
          | some x => some (x, s, h.set l .dead)
        | _ => none
      | none => none
def runOps (n : Nat) (ops : List VOper) (s : Slots) (h : Heap) : Option (Slots × Heap) :=
  match n with
  | 0 => none
  | n + 1 => match ops with
    | [] => some (s, h)
    | o :: r =>
      match gEval o.g s with
      | some true => match stepOp n o.op s h with
        | some (v, h) => runOps n r (slotsPut s o.dst v) h
        | none => none
      | some false => runOps n r (slotsPut s o.dst (.tup [])) h
      | none => none
def stepOp (n : Nat) (o : VOp) (s : Slots) (h : Heap) : Option (V × Heap) :=
  match n with
  | 0 => none
  | n + 1 => match o with
    | .call f args => callF n f (evs s args) h
    | .callp f args => match vp f with
      | some fn => match fn.prim with
        | none => bif Nat.beq fn.mode 1 then callF n f (evs s args) h else none
        | some _ => none
      | none => none
    | .callo f args => match vp f with
      | some fn => match fn.prim with
        | none => bif Nat.beq fn.mode 2 then callF n f (evs s args) h else none
        | some _ => none
      | none => none
    | .callv x args => callV n (x.ev s) (evs s args) h
    | o => opE o s h
def callV (n : Nat) (x : V) (args : List V) (h : Heap) : Option (V × Heap) :=
  match n with
  | 0 => none
  | n + 1 => match x with
    | .fn f caps => callF n f (args ++ caps) h
    | .yld b => bif Nat.blt b h.lo then none else match h.get b with
      | .loop 0 _ tm ps asg body => bif Nat.beq ps.length args.length then
          match exec n asg ((ps.zip args).foldl (fun s p => s.set p.1 p.2) tm) h with
          | some (.norm, s, h) => match exec n body s (h.set b (.loop 1 none tm ps asg body)) with
            | some (.norm, _, h) => some (.bool true, h.set b (.loop 0 none tm ps asg body))
            | some (x, _, h) => some (.bool false, h.set b (.loop 2 (some x) tm ps asg body))
            | none => none
          | _ => none
        else none
      | _ => none
    | _ => none
def callF (n : Nat) (f : Nat) (args : List V) (h : Heap) : Option (V × Heap) :=
  match n with
  | 0 => none
  | n + 1 => match vp f with
    | none => none
    | some fn => match fn.prim with
     | some (sz, bytes) => match args with
       | [s, i, v] => insertV h sz bytes s i v
       | _ => none
     | none => match exec n fn.body (argSlots args) (enterH fn.mode h) with
      | some (.norm, s', h') => match resOf s' h' fn.res with
        | some v => finish fn.mode h h' v
        | none => none
      | some (.ret, s', h') => match resOf s' h' fn.res with
        | some v => finish fn.mode h h' v
        | none => none
      | _ => none
end
end
def h0 : Heap := { nx := 0, lo := 0, tr := .lf }
end Go.VE
