/- From the model's code to the abstract machine's: what is compiled, and what isn't. -/
import Derived.Test.YtcofdkcccggmjaaA0
import Derived.Orders
namespace Go.Proofs.Ytcofdkcccggmjaa.Am
open Go

def xOf (N : Nat) : Operand → Option X
  | .tmp t => if t < N then some (.t t) else none
  | .const v => if flatB v then some (.c v) else none
  | .func f => some (.f f)
  | .global _ => none

def optM {α β : Type} (f : α → Option β) : Option α → Option (Option β)
  | none => some none
  | some a => (f a).map some

def mapO {α β : Type} (f : α → Option β) : List α → Option (List β)
  | [] => some []
  | a :: r => match f a, mapO f r with
    | some b, some bs => some (b :: bs)
    | _, _ => none

section
variable (P : Program) (N : Nat)

def szOf (t : TypeId) : Option Nat := evalP P (sizeOf t)
def undOf (t : TypeId) : Option TypeDesc := evalP P (underlying t)
def zeroOf (t : TypeId) : Option (List Value) := (evalP P (zeroValue t)).map fun v => v.cells.toList
def bytesOf (t : TypeId) : Option Nat := (evalP P (typeInfo t)).map (·.bytes)
/-- How a variable of a type is read: so many cells, or one. -/
def ldOf (t : TypeId) : Option (Option Nat) := match evalP P (isAgg t), szOf P t with
  | some true, some n => some (some n)
  | some false, _ => some none
  | _, _ => none
def elemOf' (t : TypeId) : Option TypeId := match undOf P t with
  | some (.slice e) => some e
  | _ => none

def callOf (c : Call) : Option AOp :=
  match mapO (xOf N) c.args.toList with
  | none => none
  | some as => match c.callee with
    | .value (.func g) => some (.h (.call g as))
    | .value x => (xOf N x).map fun y => .h (.callv y as)
    | .builtin .append => match c.argTypes.toList, as with
      | [t, u], [x, y] => match elemOf' P t with
        | some e => match szOf P e, bytesOf P e, zeroOf P e with
          | some sz, some by_, some z => if t = u ∧ z.length = sz then some (.h (.app sz by_ x y)) else none
          | _, _, _ => none
        | none => none
      | _, _ => none
    | .builtin .len => match c.argTypes.toList, as with
      | [t], [x] => (elemOf' P t).map fun _ => .p (.len x)
      | _, _ => none
    | .builtin .max => match c.argTypes.toList, as with
      | [_, _], [x, y] => some (.p (.max [x, y]))
      | _, _ => none
    | .builtin .min => match c.argTypes.toList, as with
      | [_, _], [x, y] => some (.p (.min [x, y]))
      | _, _ => none
    | .builtin .clear => match c.argTypes.toList, as with
      | [t], [x] => match elemOf' P t with
        | some e => match szOf P e, zeroOf P e with
          | some sz, some z => if z.length = sz ∧ z.all flatB = true ∧ 0 < sz then some (.h (.clr sz z x)) else none
          | _, _ => none
        | none => none
      | _, _ => none
    | _ => none

def partOf (fs : Array Field) (p : Nat × Operand) : Option (Nat × Nat × X) := match fs[p.1]? with
  | some f => match szOf P f.type, xOf N p.2 with
    | some n, some x => some (f.offset, n, x)
    | _, _ => none
  | none => none

def placesOk (fs : Array Field) (pl : Array (Nat × Nat)) : Bool := (List.range fs.size).all fun i => match fs[i]? with
  | some f => match szOf P f.type with
    | some n => match pl[i]? with
      | some q => q.1 == f.offset && q.2 == n
      | none => false
    | none => true
  | none => true

def elemPart (sz : Nat) (p : Nat × Operand) : Option (Nat × Nat × X) := (xOf N p.2).map fun x => (p.1 * sz, sz, x)

def isNil : Operand → Bool
  | .const (.slice none 0 0) => true
  | _ => false

def opOf (o : Oper) : Option AOp := match o.op with
  | .move x | .assign x => (xOf N x).map fun y => .p (.mv y)
  | .pick c a b => match xOf N c, xOf N a, xOf N b with
    | some c, some a, some b => some (.p (.pick c a b))
    | _, _, _ => none
  | .alloc e => match zeroOf P e with
    | some z => if z.all flatB then some (.h (.new z)) else none
    | none => none
  | .box _ x => (xOf N x).map fun y => .h (.box y)
  | .build t ps => match undOf P t, zeroOf P t with
    | some (.struct fs), some z => match evalP P (fs.mapM fun f => do pure (f.offset, ← sizeOf f.type)) with
      | some pl => if placesOk P fs pl = true ∧ z.all flatB = true then (mapO (partOf P N fs) ps.toList).map fun qs => .p (.bld z qs) else none
      | none => none
    | _, _ => none
  | .buildSlice t n ps => match elemOf' P t with
    | some e => match szOf P e, zeroOf P e with
      | some sz, some z => if z.length = sz ∧ 0 < sz ∧ n * sz ≤ 16777216 ∧ z.all flatB = true ∧ (n = 0 → ps.size = 0) then (mapO (elemPart N sz) ps.toList).map fun qs => .h (.bsl sz z n qs) else none
      | _, _ => none
    | none => none
  | .load t x => match ldOf P t, xOf N x with
    | some n, some y => some (.h (.ld n y))
    | _, _ => none
  | .store t x y => match szOf P t, xOf N x, xOf N y with
    | some n, some x, some y => some (.h (.st n x y))
    | _, _, _ => none
  | .nilCheck x => (xOf N x).map fun y => .p (.nck y)
  | .binOp op ty x y _ => match xOf N x, xOf N y with
    | some x', some y' =>
      if isNil y then match op, elemOf' P ty with
        | .eql, some _ => some (.p (.eqn false x'))
        | .neq, some _ => some (.p (.eqn true x'))
        | _, _ => none
      else match op with
        | .eql => some (.p (.eq false ty x' y'))
        | .neq => some (.p (.eq true ty x' y'))
        | op => some (.p (.ar op x' y'))
    | _, _ => none
  | .unOp .not _ x => (xOf N x).map fun y => .p (.not y)
  | .unOp .neg _ x => (xOf N x).map fun y => .p (.neg y)
  | .convert s d x => match undOf P s, undOf P d with
    | some _, some (.int k) => (xOf N x).map fun y => .p (.conv k y)
    | _, _ => none
  | .makeSlice t l c => match elemOf' P t with
    | some e => match szOf P e, bytesOf P e, zeroOf P e with
      | some sz, some by_, some z => if z.length = sz ∧ 0 < sz ∧ z.all flatB = true then match xOf N l, xOf N c with
          | some l, some c => some (.h (.mks sz by_ z l c))
          | _, _ => none
        else none
      | _, _, _ => none
    | none => none
  | .slice t x lo hi none => match elemOf' P t with
    | some e => match szOf P e, xOf N x, optM (xOf N) lo, optM (xOf N) hi with
      | some sz, some x, some l, some h => if 0 < sz then some (.p (.sli sz x l h)) else none
      | _, _, _, _ => none
    | none => none
  | .fieldAddr s x i => match undOf P s with
    | some (.struct fs) => match fs[i]? with
      | some f => match szOf P f.type, xOf N x with
        | some n, some y => if n = 0 then none else some (.p (.fa f.offset y))
        | _, _ => none
      | none => none
    | _ => none
  | .field s x i => match undOf P s with
    | some (.struct fs) => match fs[i]? with
      | some f => match ldOf P f.type, xOf N x with
        | some n, some y => some (.p (.fld n f.offset y))
        | _, _ => none
      | none => none
    | _ => none
  | .indexAddr t x i => match elemOf' P t with
    | some e => match szOf P e, xOf N x, xOf N i with
      | some sz, some x, some i => some (.p (.ia sz x i))
      | _, _, _ => none
    | none => none
  | .extract x i => (xOf N x).map fun y => .p (.ext y i)
  | .makeFunc (.func g) first cap => match mapO (xOf N) first.toList, mapO (xOf N) cap.toList with
    | some a, some b => some (.p (.fn g a b))
    | _, _ => none
  | .call c => callOf P N c
  | _ => none

def guardOf (ops : Array Oper) (o : Oper) : Option (Option (Nat × Bool)) := match o.guard with
  | none => some none
  | some (j, want) => match (ops[j]?).bind (·.dst) with
    | some d => if d < N then some (some (d, want)) else none
    | none => none

def aoOf (ops : Array Oper) (o : Oper) : Option AO :=
  match guardOf N ops o, opOf P N o with
  | some g, some op => match o.dst with
    | some d => if d < N then some ⟨some d, g, op⟩ else none
    | none => some ⟨none, g, op⟩
  | _, _ => none

/-- Behind which operations each one comes, whatever the order: ascending. -/
def befs : Nat → List Oper → List (List Nat) → Option (List (List Nat))
  | _, [], acc => some acc
  | i, o :: r, acc =>
    let es := o.after.toList.filter (Region.binds .any)
    if es.all (fun e => decide (e.on < i)) then
      befs (i + 1) r (acc ++ [(List.range i).filter fun j => es.any fun e => e.on == j || (acc.getD e.on []).contains j])
    else none

def isH : AO → Bool
  | ⟨_, _, .h _⟩ => true
  | _ => false
def cmpOf (os : List AO) (bs : List (List Nat)) (i : Nat) : Bool :=
  (List.range os.length).all fun j => j == i || !((os[j]?).map isH).getD false || (bs.getD i []).contains j || (bs.getD j []).contains i
/-- Whoever writes what another one looks at or writes stands in one order with it. -/
def apartOk (os : List AO) (bs : List (List Nat)) : Bool :=
  (List.range os.length).all fun i => (List.range os.length).all fun j => j == i || match os[i]?, os[j]? with
    | some oi, some oj => match oj.d with
      | some d => !((oi.us).contains d || oi.d == some d) || (if j < i then (bs.getD i []).contains j else (bs.getD j []).contains i)
      | none => true
    | _, _ => true

def doOf (os : List AO) (bs : List (List Nat)) : List DO := (List.range os.length).map fun i => ⟨os.getD i ⟨none, none, .p (.mv (.t 0))⟩, bs.getD i [], cmpOf os bs i⟩

def codeOf : Code → Option AC
  | .skip => some .nop
  | .region _ ops false => (mapO (aoOf P N ops) ops.toList).map .reg
  | .region _ ops true => match mapO (aoOf P N ops) ops.toList, befs 0 ops.toList [] with
    | some os, some bs => if apartOk os bs then some (.draw (doOf os bs)) else none
    | _, _ => none
  | .seq a b => match codeOf a, codeOf b with
    | some x, some y => some (.seq x y)
    | _, _ => none
  | .cond c a b => match xOf N c, codeOf a, codeOf b with
    | some c, some x, some y => some (.ite c x y)
    | _, _, _ => none
  | .block id b => (codeOf b).map (.blk id)
  | .loop b => (codeOf b).map .loop
  | .exit id => some (.exit id)
  | .ret => some .ret
  | _ => none

def resOf : ResultVar → Option Rs
  | .tmp t => if t < N then some (.t t) else none
  | .cell a t => match ldOf P t with
    | some n => if a < N then some (.c a n) else none
    | none => none
end

def fnOf (P : Program) (gc : Bool) (fn : Func) : Option AFn :=
  if fn.name == "runtime.NumGoroutine" then none else
  match fn.body with
  | some c => match codeOf P fn.ntmps c, mapO (resOf P fn.ntmps) fn.results.toList with
    | some b, some rs => some ⟨fn.ntmps, rs, gc, b⟩
    | _, _ => none
  | none => none

/-- The program's functions, compiled. -/
def table (P : Program) (gcs : FuncId → Bool) (f : FuncId) : Option AFn := match P.funcs[f]? with
  | some fn => fnOf P (gcs f) fn
  | none => none
end Go.Proofs.Ytcofdkcccggmjaa.Am
