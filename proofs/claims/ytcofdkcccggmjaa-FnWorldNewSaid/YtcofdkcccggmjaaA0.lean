/- An abstract machine for Go code without panics: values, a heap of numbered rows, regions, loops, calls; its limit equations. -/
import GoSem.Step
namespace Go.Proofs.Ytcofdkcccggmjaa.Am
open Go

/-- An operand. -/
inductive X where
  | t (i : Nat)
  | c (v : Value)
  | f (g : FuncId)
/-- A number as operand. -/
abbrev X.n (i : Int) : X := .c (.int .i64 i)
abbrev X.b (b : Bool) : X := .c (.bool b)
abbrev X.nil : X := .c (.slice none 0 0)

def X.ev (t : Nat → Value) : X → Value
  | .t i => t i
  | .c v => v
  | .f g => .func (.func g) #[] #[]

/-- A row of the abstract heap. -/
structure Ob where
  cells : List Value
  ro : Bool := false

structure Hp where
  next : Nat
  get : Nat → Option Ob

theorem Hp.ext' {H K : Hp} (h : H.next = K.next) (g : ∀ i, H.get i = K.get i) : H = K := by
  cases H; cases K; simp only at h g; subst h; congr; exact funext g

def Hp.add (H : Hp) (o : Ob) : Hp := ⟨H.next + 1, fun i => if i = H.next then some o else H.get i⟩
def Hp.set (H : Hp) (id : Nat) (o : Option Ob) : Hp := ⟨H.next, fun i => if i = id then o else H.get i⟩

/-- A number without a row. -/
def Hp.addN (H : Hp) : Hp := ⟨H.next + 1, fun i => if i = H.next then none else H.get i⟩

@[simp] theorem Hp.add_next (H : Hp) (o : Ob) : (H.add o).next = H.next + 1 := rfl
@[simp] theorem Hp.set_next (H : Hp) (id : Nat) (o : Option Ob) : (H.set id o).next = H.next := rfl
theorem Hp.add_get (H : Hp) (o : Ob) (i : Nat) : (H.add o).get i = if i = H.next then some o else H.get i := rfl
theorem Hp.set_get (H : Hp) (id : Nat) (o : Option Ob) (i : Nat) : (H.set id o).get i = if i = id then o else H.get i := rfl
@[simp] theorem Hp.add_get_self (H : Hp) (o : Ob) : (H.add o).get H.next = some o := by simp [Hp.add_get]
@[simp] theorem Hp.set_get_self (H : Hp) (id : Nat) (o : Option Ob) : (H.set id o).get id = o := by simp [Hp.set_get]
theorem Hp.add_get_ne {H : Hp} {o : Ob} {i : Nat} (h : i ≠ H.next) : (H.add o).get i = H.get i := by simp [Hp.add_get, h]
theorem Hp.set_get_ne {H : Hp} {id : Nat} {o : Option Ob} {i : Nat} (h : i ≠ id) : (H.set id o).get i = H.get i := by simp [Hp.set_get, h]
theorem Hp.set_set (H : Hp) (id : Nat) (o p : Option Ob) : (H.set id o).set id p = H.set id p := by
  apply Hp.ext'
  · rfl
  · intro i; simp only [Hp.set_get]; split <;> rfl

/-- Operations that look at no memory. -/
inductive PO where
  | mv (x : X)
  | pick (c a b : X)
  | bld (z : List Value) (ps : List (Nat × Nat × X))
  | nck (x : X)
  | ar (op : BinOp) (x y : X)
  | eq (neg : Bool) (ty : TypeId) (x y : X)
  | eqn (neg : Bool) (x : X)
  | not (x : X)
  | neg (x : X)
  | conv (k : IntKind) (x : X)
  | ext (x : X) (i : Nat)
  | fld (n : Option Nat) (off : Nat) (x : X)
  | fa (off : Nat) (x : X)
  | ia (sz : Nat) (x i : X)
  | sli (sz : Nat) (x : X) (lo hi : Option X)
  | fn (g : FuncId) (first cap : List X)
  | len (x : X)
  | max (xs : List X)
  | min (xs : List X)

/-- Operations that look at memory. -/
inductive HO where
  | new (z : List Value)
  | box (x : X)
  | bsl (sz : Nat) (z : List Value) (len : Nat) (ps : List (Nat × Nat × X))
  | mks (sz bytes : Nat) (z : List Value) (l c : X)
  | ld (n : Option Nat) (x : X)
  | st (n : Nat) (x y : X)
  | call (f : FuncId) (as : List X)
  | callv (x : X) (as : List X)
  | app (sz bytes : Nat) (x y : X)
  | clr (sz : Nat) (z : List Value) (x : X)

/-- A value of one cell. -/
def one1 : Value → Bool
  | .agg _ | .tuple _ | .chan _ => false
  | _ => true
def flatB : Value → Bool
  | .bool _ | .int _ _ | .string _ | .pointer none | .slice none 0 0 | .nilFunc | .nilIface => true
  | _ => false
def groundB : Value → Bool
  | .agg cs => cs.toList.all flatB
  | v => flatB v

/-- What a piece of the model's code that asks the program alone comes to. -/
def evalP {α : Type} (P : Program) : Sem α → Option α
  | .pure a => some a
  | .program k => evalP P (k P)
  | _ => none

def aint (op : BinOp) (k : IntKind) (a b : Int) : Option Value :=
  match op with
  | .add => some (.int k (k.wrap (a + b)))
  | .sub => some (.int k (k.wrap (a - b)))
  | .mul => some (.int k (k.wrap (a * b)))
  | .quo => if b = 0 then none else some (.int k (k.wrap (a.tdiv b)))
  | .rem => if b = 0 then none else some (.int k (a.tmod b))
  | .xor => some (.int k (k.wrap (BitVec.ofInt k.bits a ^^^ BitVec.ofInt k.bits b).toNat))
  | .eql => some (.bool (a == b))
  | .neq => some (.bool (a != b))
  | .lss => some (.bool (a < b))
  | .leq => some (.bool (a ≤ b))
  | .gtr => some (.bool (a > b))
  | .geq => some (.bool (a ≥ b))
  | _ => none

def aar (op : BinOp) (v w : Value) : Option Value :=
  match v, w with
  | .int k a, .int k' b => if k = k' then aint op k a b else none
  | _, _ => none
def eqOp (neg : Bool) : BinOp := bif neg then .neq else .eql
def notIf : Value → Bool
  | .nilIface => false
  | _ => true
/-- Whether two values without addresses are equal, as the model tells it. -/
def eqP (P : Program) (neg : Bool) (ty : TypeId) (v w : Value) : Option Bool :=
  if groundB v && groundB w && notIf v then match evalP P (do eqGuard (eqOp neg) ty (.tmp 0) (.tmp 0) v w; binOp (eqOp neg) ty v w) with
    | some (.bool b) => some b
    | _ => none
  else none
def aeq (P : Program) (neg : Bool) (ty : TypeId) (v w : Value) : Option Value :=
  match v, w with
  | .int k a, .int k' b => if k = k' then some (.bool (bif neg then a != b else a == b)) else none
  | v, w => (eqP P neg ty v w).map Value.bool

/-- Cells laid into cells, from 'off' on. -/
def splice (cs : List Value) (off : Nat) (vs : List Value) : List Value := cs.take off ++ vs ++ cs.drop (off + vs.length)
def afill (cs : List Value) : List (Nat × Nat × Value) → Option (List Value)
  | [] => some cs
  | (off, n, v) :: r => if v.cells.toList.length = n ∧ off + n ≤ cs.length ∧ v.cells.toList.all one1 = true then afill (splice cs off v.cells.toList) r else none

def asNat (v : Value) : Option Nat := match v with
  | .int _ i => if 0 ≤ i then some i.toNat else none
  | _ => none

/-- A slice's third number: 0: its capacity isn't known; 1: it has none; s + 2: it goes to the end of its row, s cells an element. -/
def asli (sz : Nat) (v : Value) (lo hi : Option Nat) : Option Value := match v with
  | .slice a len m =>
    let l := lo.getD 0
    let h := hi.getD len
    if l ≤ h ∧ h ≤ len ∧ (m = 0 ∨ m = 1 ∨ m = sz + 2) then match a with
      | some ⟨id, off, none⟩ => some (.slice (some ⟨id, off + l * sz, none⟩) (h - l) m)
      | none => if m = 0 then some (.slice none 0 0) else none
      | _ => none
    else none
  | _ => none

def evs (t : Nat → Value) (xs : List X) : List Value := xs.map (·.ev t)

def optNat (t : Nat → Value) : Option X → Option (Option Nat)
  | none => some none
  | some x => (asNat (x.ev t)).map some

def aint2 (f : Int → Int → Int) : List Value → Option Value
  | [.int k a, .int k' b] => if k = k' then some (.int k (f a b)) else none
  | _ => none

/-- A part of a value: so many cells, or one. -/
def partA (n : Option Nat) (cs : Array Value) (off : Nat) : Option Value := match n with
  | some k => some (.agg (cs.extract off (off + k)))
  | none => cs[off]?

def pop (P : Program) (t : Nat → Value) : PO → Option Value
  | .mv x => some (x.ev t)
  | .pick c a b => match c.ev t with
    | .bool q => some (bif q then a.ev t else b.ev t)
    | _ => none
  | .bld z ps => (afill z (ps.map fun p => (p.1, p.2.1, p.2.2.ev t))).map fun cs => .agg cs.toArray
  | .nck x => match x.ev t with
    | .pointer (some a) => some (.pointer (some a))
    | _ => none
  | .ar op x y => aar op (x.ev t) (y.ev t)
  | .eq neg ty x y => aeq P neg ty (x.ev t) (y.ev t)
  | .eqn neg x => match x.ev t with
    | .slice a _ _ => some (.bool (a.isNone != neg))
    | _ => none
  | .not x => match x.ev t with
    | .bool b => some (.bool !b)
    | _ => none
  | .neg x => match x.ev t with
    | .int k a => some (.int k (k.wrap (0 - a)))
    | _ => none
  | .conv k x => match x.ev t with
    | .int _ a => some (.int k (k.wrap a))
    | _ => none
  | .ext x i => match x.ev t with
    | .tuple vs => vs[i]?
    | _ => none
  | .fld n off x => match x.ev t with
    | .agg cs => partA n cs off
    | _ => none
  | .fa off x => match x.ev t with
    | .pointer (some ⟨id, o, none⟩) => some (.pointer (some ⟨id, o + off, none⟩))
    | _ => none
  | .ia sz x i => match x.ev t, asNat (i.ev t) with
    | .slice (some ⟨id, o, none⟩) len _, some k => if k < len then some (.pointer (some ⟨id, o + k * sz, none⟩)) else none
    | _, _ => none
  | .sli sz x lo hi => match optNat t lo, optNat t hi with
    | some l, some h => asli sz (x.ev t) l h
    | _, _ => none
  | .fn g first cap => some (.func (.func g) (evs t first).toArray (evs t cap).toArray)
  | .len x => match x.ev t with
    | .slice _ n _ => some (.int .i64 n)
    | _ => none
  | .max xs => aint2 max (evs t xs)
  | .min xs => aint2 min (evs t xs)

def ldCells (H : Hp) (id off k : Nat) : Option (List Value) := match H.get id with
  | some o => if off + k ≤ o.cells.length then some ((o.cells.drop off).take k) else none
  | none => none

/-- What a variable holds: so many cells, or one. -/
def ldA (H : Hp) (n : Option Nat) (id off : Nat) : Option Value := match n with
  | some k => (ldCells H id off k).map fun cs => .agg cs.toArray
  | none => match H.get id with
    | some o => o.cells[off]?
    | none => none

/-- What is appended: its cells and their elements' number. -/
def srcCells (H : Hp) (sz : Nat) : Value → Option (List Value × Nat)
  | .slice (some ⟨id, off, none⟩) len _ => if len = 0 then some ([], 0) else (ldCells H id off (len * sz)).map fun cs => (cs, len)
  | .slice none 0 0 => some ([], 0)
  | _ => none

def appendA (H : Hp) (sz bytes : Nat) (v w : Value) : Option (Value × Hp) :=
  match srcCells H sz w with
  | none => none
  | some (new, n) =>
    if bytes ≤ 65536 ∧ 0 < sz then match v with
      | .slice a len m =>
        if len + n ≤ 1073741824 then
          if n = 0 then some (v, H) else
          match a with
          | none => if len = 0 ∧ m = 0 then some (.slice (some ⟨H.next, 0, none⟩) n (sz + 2), H.add ⟨new, false⟩) else none
          | some ⟨id, off, none⟩ =>
            if m = 1 ∧ len = 0 then some (.slice (some ⟨H.next, 0, none⟩) n (sz + 2), H.add ⟨new, false⟩)
            else if m = sz + 2 then match H.get id with
              | some o =>
                if o.ro then none
                else if ¬ off = 0 then none
                else if o.cells.length = len * sz then
                  some (.slice (some ⟨H.next, 0, none⟩) (len + n) (sz + 2), (H.set id none).add ⟨o.cells ++ new, false⟩)
                else if (len + n) * sz ≤ o.cells.length then
                  some (.slice (some ⟨id, 0, none⟩) (len + n) (sz + 2), H.set id (some ⟨splice o.cells (len * sz) new, false⟩))
                else none
              | none => none
            else none
          | _ => none
        else none
      | _ => none
    else none

def zeroes (z : List Value) : Nat → List Value
  | 0 => []
  | n + 1 => z ++ zeroes z n

def hop (cf : FuncId → List Value → Hp → Option (Value × Hp)) (t : Nat → Value) (H : Hp) : HO → Option (Value × Hp)
  | .new z => some (.pointer (some ⟨H.next, 0, none⟩), H.add ⟨z, false⟩)
  | .box x => if (x.ev t).cells.toList.all one1 = true then some (.pointer (some ⟨H.next, 0, none⟩), H.add ⟨(x.ev t).cells.toList, false⟩) else none
  | .bsl sz z len ps =>
    if len = 0 then some (.slice (some ⟨H.next, 0, none⟩) 0 1, H.addN) else
    (afill (zeroes z len) (ps.map fun p => (p.1, p.2.1, p.2.2.ev t))).bind fun cs => if cs.all one1 = true then some (.slice (some ⟨H.next, 0, none⟩) len (sz + 2), H.add ⟨cs, false⟩) else none
  | .mks sz bytes z l c => match l.ev t, c.ev t with
    | .int .i64 n, .int .i64 m => if 0 ≤ n ∧ n = m ∧ n ≤ 1073741824 ∧ bytes ≤ 65536 then some (.slice (some ⟨H.next, 0, none⟩) n.toNat (sz + 2), H.add ⟨zeroes z n.toNat, false⟩) else none
    | _, _ => none
  | .ld n x => match x.ev t with
    | .pointer (some ⟨id, off, none⟩) => (ldA H n id off).map fun v => (v, H)
    | _ => none
  | .st n x y => match x.ev t with
    | .pointer (some ⟨id, off, none⟩) =>
      let vs := (y.ev t).cells.toList
      if vs.length = n ∧ vs.all one1 = true then match H.get id with
        | some o => if o.ro = false ∧ off + n ≤ o.cells.length then some (.tuple #[], H.set id (some ⟨splice o.cells off vs, false⟩)) else none
        | none => none
      else none
    | _ => none
  | .call f as => cf f (evs t as) H
  | .callv x as => match x.ev t with
    | .func (.func f) first cap => cf f (first.toList ++ evs t as ++ cap.toList) H
    | _ => none
  | .app sz bytes x y => appendA H sz bytes (x.ev t) (y.ev t)
  | .clr sz z x => match x.ev t with
    | .slice (some ⟨id, off, none⟩) len _ => if len = 0 then some (.tuple #[], H) else match H.get id with
      | some o => if o.ro = false ∧ off + len * sz ≤ o.cells.length then some (.tuple #[], H.set id (some ⟨splice o.cells off (zeroes z len), false⟩)) else none
      | none => none
    | _ => none

inductive AOp where
  | p (o : PO)
  | h (o : HO)

/-- An operation: where its value goes; whether it is done; what it is. -/
structure AO where
  d : Option Nat
  g : Option (Nat × Bool)
  op : AOp

def X.us : X → List Nat
  | .t i => [i]
  | _ => []
def PO.us : PO → List Nat
  | .mv x | .nck x | .eqn _ x | .not x | .neg x | .conv _ x | .ext x _ | .fld _ _ x | .fa _ x | .len x => x.us
  | .pick c a b => c.us ++ a.us ++ b.us
  | .bld _ ps => ps.flatMap fun p => p.2.2.us
  | .ar _ x y | .eq _ _ x y => x.us ++ y.us
  | .ia _ x i => x.us ++ i.us
  | .sli _ x lo hi => x.us ++ lo.toList.flatMap X.us ++ hi.toList.flatMap X.us
  | .fn _ a b => a.flatMap X.us ++ b.flatMap X.us
  | .max xs | .min xs => xs.flatMap X.us
def HO.us : HO → List Nat
  | .new _ => []
  | .box x | .ld _ x | .clr _ _ x => x.us
  | .bsl _ _ _ ps => ps.flatMap fun p => p.2.2.us
  | .mks _ _ _ l c => l.us ++ c.us
  | .st _ x y | .app _ _ x y => x.us ++ y.us
  | .call _ as => as.flatMap X.us
  | .callv x as => x.us ++ as.flatMap X.us
def AO.us (o : AO) : List Nat := (match o.g with | some (i, _) => [i] | none => []) ++ match o.op with
  | .p p => p.us
  | .h q => q.us

/-- An operation of a region whose order is open: behind which ones it comes; whether all that look at memory stand in one order with it. -/
structure DO where
  o : AO
  bef : List Nat
  cmp : Bool

inductive AC where
  | nop
  | reg (ops : List AO)
  | draw (ops : List DO)
  | seq (a b : AC)
  | ite (c : X) (a b : AC)
  | blk (id : Nat) (b : AC)
  | loop (b : AC)
  | exit (id : Nat)
  | ret

inductive Rs where
  | t (i : Nat)
  | c (i : Nat) (n : Option Nat)

structure AFn where
  n : Nat
  res : List Rs
  gc : Bool
  body : AC

structure St where
  t : Nat → Value
  H : Hp

inductive Ex where
  | nm
  | ex (id : Nat)
  | rt

def upd (t : Nat → Value) (d : Nat) (v : Value) : Nat → Value := fun i => if i = d then v else t i
def put (t : Nat → Value) (d : Option Nat) (v : Value) : Nat → Value := match d with
  | some d => upd t d v
  | none => t

def wanted (g : Option (Nat × Bool)) (t : Nat → Value) : Option Bool := match g with
  | none => some true
  | some (i, b) => match t i with
    | .bool c => some (c == b)
    | _ => none

abbrev CF := FuncId → List Value → Hp → Option (Value × Hp)
abbrev AG := AC → St → Option (Ex × St)

section
variable (P : Program)

def step1 (cf : CF) (o : AO) (s : St) : Option St :=
  match wanted o.g s.t with
  | none => none
  | some false => some ⟨put s.t o.d undef, s.H⟩
  | some true => match o.op with
    | .p p => (pop P s.t p).map fun v => ⟨put s.t o.d v, s.H⟩
    | .h h => (hop cf s.t s.H h).map fun r => ⟨put s.t o.d r.1, r.2⟩

def steps (cf : CF) : List AO → St → Option St
  | [], s => some s
  | o :: r, s => (step1 P cf o s).bind (steps cf r)

/-- What an operation of such a region made of the heap. -/
structure DR where
  lo : Nat
  hi : Nat
  /-- Which rows it changed of those that were there. -/
  wr : Nat → Prop
  get : Nat → Option Ob
  /-- What it looked at: nothing; all (none); a row. -/
  lk : Option (Option Nat) := none

open Classical in
noncomputable def mrg (_n0 : Nat) (g : Nat → Option Ob) (r : DR) : Nat → Option Ob := fun id => if (r.lo ≤ id ∧ id < r.hi) ∨ r.wr id then r.get id else g id

noncomputable def heapAt (n0 : Nat) (g0 : Nat → Option Ob) (rs : List DR) (bef : List Nat) : Nat → Option Ob :=
  bef.foldl (fun g j => match rs[j]? with
    | some r => mrg n0 g r
    | none => g) g0

structure DS where
  t : Nat → Value
  rs : List DR
  nx : Nat

/-- What an operation does that looks at no memory, or is not done. -/
def DR.no (nx : Nat) (g0 : Nat → Option Ob) : DR := ⟨nx, nx, fun _ => False, g0, none⟩

open Classical in
noncomputable def draw1 (cf : CF) (n0 : Nat) (g0 : Nat → Option Ob) (o : DO) (s : DS) : Option DS :=
  match wanted o.o.g s.t with
  | none => none
  | some false => some ⟨put s.t o.o.d undef, s.rs ++ [.no s.nx g0], s.nx⟩
  | some true => match o.o.op with
    | .p p => (pop P s.t p).map fun v => ⟨put s.t o.o.d v, s.rs ++ [.no s.nx g0], s.nx⟩
    | .h (.ld n x) => match x.ev s.t with
      | .pointer (some ⟨id, off, none⟩) => (ldA ⟨s.nx, heapAt n0 g0 s.rs o.bef⟩ n id off).map fun v => ⟨put s.t o.o.d v, s.rs ++ [⟨s.nx, s.nx, fun _ => False, g0, some (some id)⟩], s.nx⟩
      | _ => none
    | .h h => (hop cf s.t ⟨s.nx, heapAt n0 g0 s.rs o.bef⟩ h).map fun r =>
      ⟨put s.t o.o.d r.1, s.rs ++ [⟨s.nx, r.2.next, fun id => id < s.nx ∧ r.2.get id ≠ heapAt n0 g0 s.rs o.bef id, r.2.get, some none⟩], r.2.next⟩

/-- Whoever changed a row stands in one order with whoever looked at it. -/
def okAll (bs : List (List Nat)) (rs : List DR) : Prop :=
  ∀ k i rk ri, rs[k]? = some rk → rs[i]? = some ri → k ≠ i → ¬ k ∈ bs.getD i [] → ¬ i ∈ bs.getD k [] →
    ∀ id, rk.wr id → match ri.lk with
      | none => True
      | some none => False
      | some (some rid) => rid ≠ id

noncomputable def draws (cf : CF) (n0 : Nat) (g0 : Nat → Option Ob) : List DO → DS → Option DS
  | [], s => some s
  | o :: r, s => (draw1 P cf n0 g0 o s).bind (draws cf n0 g0 r)

noncomputable def DS.done (s : DS) (n0 : Nat) (g0 : Nat → Option Ob) : St := ⟨s.t, ⟨s.nx, heapAt n0 g0 s.rs (List.range s.rs.length)⟩⟩

open Classical in
noncomputable def exec (cf : CF) (ag : AG) : AC → St → Option (Ex × St)
  | .nop, s => some (.nm, s)
  | .reg ops, s => (steps P cf ops s).map fun s' => (.nm, s')
  | .draw ops, s => (draws P cf s.H.next s.H.get ops ⟨s.t, [], s.H.next⟩).bind fun d =>
    if okAll (ops.map (·.bef)) d.rs then some (.nm, d.done s.H.next s.H.get) else none
  | .seq a b, s => match exec cf ag a s with
    | some (.nm, s') => exec cf ag b s'
    | r => r
  | .ite c a b, s => match c.ev s.t with
    | .bool q => bif q then exec cf ag a s else exec cf ag b s
    | _ => none
  | .blk id b, s => match exec cf ag b s with
    | some (.ex i, s') => if i = id then some (.nm, s') else some (.ex i, s')
    | r => r
  | .loop b, s => match exec cf ag b s with
    | some (.nm, s') => ag b s'
    | r => r
  | .exit id, s => some (.ex id, s)
  | .ret, s => some (.rt, s)
end

/-! ### What a call hands back: what it made and didn't hand back is forgotten, if the function says so -/

def cellIds : Value → List Nat
  | .pointer (some a) => [a.block]
  | .slice (some a) _ _ => [a.block]
  | _ => []
def comps : Value → List Value
  | .tuple vs => vs.toList.flatMap fun u => u.cells.toList
  | u => u.cells.toList
/-- A value of one cell that renaming knows. -/
def cellB : Value → Bool
  | .bool _ | .int _ _ | .string _ | .pointer _ | .slice _ _ _ | .nilFunc | .nilIface => true
  | _ => false
def dedup : List Nat → List Nat
  | [] => []
  | a :: r => if a ∈ r then dedup r else a :: dedup r
def newIds (n : Nat) (v : Value) : List Nat := dedup (((comps v).flatMap cellIds).filter fun i => decide (n ≤ i))
def idx (ids : List Nat) (i : Nat) : Nat := match ids with
  | [] => 0
  | a :: r => if i = a then 0 else idx r i + 1
def renC (σ : Nat → Nat) : Value → Value
  | .pointer (some a) => .pointer (some { a with block := σ a.block })
  | .slice (some a) n m => .slice (some { a with block := σ a.block }) n m
  | v => v
def renA (σ : Nat → Nat) : Value → Value
  | .agg cs => .agg (cs.map (renC σ))
  | v => renC σ v
def renV (σ : Nat → Nat) : Value → Value
  | .tuple vs => .tuple (vs.map (renA σ))
  | v => renA σ v

/-- The rows of these numbers: flat and the call's own, or none. -/
def takeObs (H : Hp) : List Nat → Option (List (Option Ob))
  | [] => some []
  | i :: r => match H.get i with
    | some o => if o.ro = false ∧ o.cells.all flatB = true then (takeObs H r).map (some o :: ·) else none
    | none => (takeObs H r).map (none :: ·)
def Hp.addO (H : Hp) : Option Ob → Hp
  | some o => H.add o
  | none => H.addN
def Hp.addAll (H : Hp) : List (Option Ob) → Hp
  | [] => H
  | o :: r => (H.addO o).addAll r

open Classical in
noncomputable def gcRet (H : Hp) (v : Value) (K : Hp) : Option (Value × Hp) :=
  if (∀ id, id < H.next → K.get id = H.get id) ∧ (comps v).all cellB = true then
    (takeObs K (newIds H.next v)).map fun os => (renV (fun i => if i < H.next then i else H.next + idx (newIds H.next v) i) v, H.addAll os)
  else none

def resVal (s : St) : Rs → Option Value
  | .t i => some (s.t i)
  | .c i n => match s.t i with
    | .pointer (some ⟨id, off, none⟩) => ldA s.H n id off
    | _ => none
def resVals (s : St) : List Rs → Option (List Value)
  | [] => some []
  | r :: rs => (resVal s r).bind fun v => (resVals s rs).map (v :: ·)
def oneVal : List Value → Value
  | [v] => v
  | vs => .tuple vs.toArray

noncomputable def finish (a : AFn) (H : Hp) (r : Option (Ex × St)) : Option (Value × Hp) := match r with
  | some (.nm, s) | some (.rt, s) => (resVals s a.res).bind fun vs => bif a.gc then gcRet H (oneVal vs) s.H else some (oneVal vs, s.H)
  | _ => none

def init (as : List Value) : Nat → Value := fun i => as.getD i undef

section
variable (P : Program) (F : FuncId → Option AFn)

noncomputable def body (cf : CF) (ag : AG) (f : FuncId) (as : List Value) (H : Hp) : Option (Value × Hp) := match F f with
  | none => none
  | some a => if as.length ≤ a.n then finish a H (exec P cf ag a.body ⟨init as, H⟩) else none

noncomputable def ev : Nat → CF × AG
  | 0 => (fun _ _ _ => none, fun _ _ => none)
  | n + 1 => (body P F (ev n).1 (ev n).2, fun b s => exec P (ev n).1 (ev n).2 (.loop b) s)

open Classical in
noncomputable def lim {α : Type} (g : Nat → Option α) : Option α := if h : ∃ x n, g n = some x then some (Classical.choose h) else none

noncomputable def call (f : FuncId) (as : List Value) (H : Hp) : Option (Value × Hp) := lim fun n => (ev P F n).1 f as H
noncomputable def loop (b : AC) (s : St) : Option (Ex × St) := lim fun n => (ev P F n).2 b s
end

/-! ### The limit's equations -/

def LeO {α : Type} (a b : Option α) : Prop := ∀ x, a = some x → b = some x
theorem LeO.refl {α : Type} (a : Option α) : LeO a a := fun _ h => h
def LeC (a b : CF) : Prop := ∀ f as H, LeO (a f as H) (b f as H)
def LeA (a b : AG) : Prop := ∀ c s, LeO (a c s) (b c s)

theorem hop_mono {cf cf' : CF} (h : LeC cf cf') (t : Nat → Value) (H : Hp) (o : HO) : LeO (hop cf t H o) (hop cf' t H o) := by
  cases o with
  | call f as => exact h _ _ _
  | callv x as =>
    simp only [hop]
    split
    · exact h _ _ _
    · exact LeO.refl _
  | _ => exact LeO.refl _

section
variable {P : Program} {cf cf' : CF} {ag ag' : AG}
theorem step1_mono (h : LeC cf cf') (o : AO) (s : St) : LeO (step1 P cf o s) (step1 P cf' o s) := by
  intro x hx
  unfold step1 at *
  split at hx
  · cases hx
  · exact hx
  · split at hx
    · exact hx
    · simp only [Option.map_eq_some_iff] at *
      obtain ⟨r, hr, e⟩ := hx
      exact ⟨r, hop_mono h _ _ _ _ hr, e⟩
theorem steps_mono (h : LeC cf cf') : ∀ (ops : List AO) (s : St), LeO (steps P cf ops s) (steps P cf' ops s)
  | [], s => LeO.refl _
  | o :: r, s => by
    intro x hx
    simp only [steps, Option.bind_eq_some_iff] at *
    obtain ⟨y, hy, e⟩ := hx
    exact ⟨y, step1_mono h _ _ _ hy, steps_mono h r y _ e⟩
theorem draw1_mono (h : LeC cf cf') (n0 : Nat) (g0 : Nat → Option Ob) (o : DO) (s : DS) : LeO (draw1 P cf n0 g0 o s) (draw1 P cf' n0 g0 o s) := by
  intro x hx
  unfold draw1 at *
  split at hx
  · cases hx
  · exact hx
  · split at hx
    · exact hx
    · exact hx
    · simp only [Option.map_eq_some_iff] at *
      obtain ⟨r, hr, e⟩ := hx
      exact ⟨r, hop_mono h _ _ _ _ hr, e⟩
theorem draws_mono (h : LeC cf cf') (n0 : Nat) (g0 : Nat → Option Ob) : ∀ (ops : List DO) (s : DS), LeO (draws P cf n0 g0 ops s) (draws P cf' n0 g0 ops s)
  | [], s => LeO.refl _
  | o :: r, s => by
    intro x hx
    simp only [draws, Option.bind_eq_some_iff] at *
    obtain ⟨y, hy, e⟩ := hx
    exact ⟨y, draw1_mono h _ _ _ _ _ hy, draws_mono h n0 g0 r y _ e⟩
theorem exec_mono (h : LeC cf cf') (k : LeA ag ag') : ∀ (c : AC) (s : St), LeO (exec P cf ag c s) (exec P cf' ag' c s)
  | .nop, s => LeO.refl _
  | .reg ops, s => by
    intro x hx
    simp only [exec, Option.map_eq_some_iff] at *
    obtain ⟨y, hy, e⟩ := hx
    exact ⟨y, steps_mono h _ _ _ hy, e⟩
  | .draw ops, s => by
    intro x hx
    simp only [exec, Option.bind_eq_some_iff] at *
    obtain ⟨y, hy, e⟩ := hx
    exact ⟨y, draws_mono h _ _ _ _ _ hy, e⟩
  | .seq a b, s => by
    intro x hx
    simp only [exec] at *
    cases ha : exec P cf ag a s with
    | none => rw [ha] at hx; cases hx
    | some r =>
      have := exec_mono h k a s _ ha
      rw [this]
      rw [ha] at hx
      obtain ⟨e, s'⟩ := r
      cases e with
      | nm => exact exec_mono h k b s' _ hx
      | _ => exact hx
  | .ite c a b, s => by
    intro x hx
    simp only [exec] at *
    split at hx
    · rename_i q hq
      cases q
      · exact exec_mono h k b s _ hx
      · exact exec_mono h k a s _ hx
    · cases hx
  | .blk id b, s => by
    intro x hx
    simp only [exec] at *
    cases ha : exec P cf ag b s with
    | none => rw [ha] at hx; cases hx
    | some r => rw [exec_mono h k b s _ ha]; rw [ha] at hx; exact hx
  | .loop b, s => by
    intro x hx
    simp only [exec] at *
    cases ha : exec P cf ag b s with
    | none => rw [ha] at hx; cases hx
    | some r =>
      rw [exec_mono h k b s _ ha]
      rw [ha] at hx
      obtain ⟨e, s'⟩ := r
      cases e with
      | nm => exact k _ _ _ hx
      | _ => exact hx
  | .exit id, s => LeO.refl _
  | .ret, s => LeO.refl _
end

section
variable {P : Program} {F : FuncId → Option AFn}
theorem body_mono {cf cf' : CF} {ag ag' : AG} (h : LeC cf cf') (k : LeA ag ag') (f : FuncId) (as : List Value) (H : Hp) : LeO (body P F cf ag f as H) (body P F cf' ag' f as H) := by
  intro x hx
  unfold body at *
  split at hx
  · cases hx
  · rename_i a ha
    split at hx
    · rename_i hl
      rw [if_pos hl]
      cases he : exec P cf ag a.body ⟨init as, H⟩ with
      | none => rw [he] at hx; cases hx
      | some r => rw [exec_mono h k _ _ _ he]; rw [he] at hx; exact hx
    · cases hx
theorem ev_succ (n : Nat) : LeC (ev P F n).1 (ev P F (n + 1)).1 ∧ LeA (ev P F n).2 (ev P F (n + 1)).2 := by
  induction n with
  | zero => exact ⟨fun f as H => (fun x hx => by cases hx), fun c s => (fun x hx => by cases hx)⟩
  | succ n ih => exact ⟨fun f as H => body_mono ih.1 ih.2 f as H, fun c s => exec_mono ih.1 ih.2 _ s⟩
theorem ev_le {n m : Nat} (h : n ≤ m) : LeC (ev P F n).1 (ev P F m).1 ∧ LeA (ev P F n).2 (ev P F m).2 := by
  induction h with
  | refl => exact ⟨fun _ _ _ => LeO.refl _, fun _ _ => LeO.refl _⟩
  | step _ ih => exact ⟨fun f as H x hx => (ev_succ _).1 f as H x (ih.1 f as H x hx), fun c s x hx => (ev_succ _).2 c s x (ih.2 c s x hx)⟩

theorem lim_of {α : Type} {g : Nat → Option α} (hm : ∀ n m, n ≤ m → LeO (g n) (g m)) {x : α} {n : Nat} (h : g n = some x) : lim g = some x := by
  unfold lim
  have hx : ∃ x n, g n = some x := ⟨x, n, h⟩
  rw [dif_pos hx]
  obtain ⟨m, hc⟩ := Classical.choose_spec hx
  have h1 := hm n (max n m) (Nat.le_max_left _ _) _ h
  have h2 := hm m (max n m) (Nat.le_max_right _ _) _ hc
  rw [h1] at h2
  exact h2.symm
theorem of_lim {α : Type} {g : Nat → Option α} {x : α} (h : lim g = some x) : ∃ n, g n = some x := by
  unfold lim at h
  split at h
  · rename_i hx
    obtain ⟨n, hn⟩ := Classical.choose_spec hx
    injection h with h
    exact ⟨n, h ▸ hn⟩
  · cases h
theorem call_of {f : FuncId} {as : List Value} {H : Hp} {x : Value × Hp} {n : Nat} (h : (ev P F n).1 f as H = some x) : call P F f as H = some x :=
  lim_of (fun _ _ hnm => (ev_le hnm).1 f as H) h
theorem loop_of {b : AC} {s : St} {x : Ex × St} {n : Nat} (h : (ev P F n).2 b s = some x) : loop P F b s = some x :=
  lim_of (fun _ _ hnm => (ev_le hnm).2 b s) h
theorem ev_call (n : Nat) : LeC (ev P F n).1 (call P F) := fun _ _ _ _ h => call_of h
theorem ev_loop (n : Nat) : LeA (ev P F n).2 (loop P F) := fun _ _ _ h => loop_of h

/-! what is done with the limits is done by some number of rounds -/
theorem hop_lim {t : Nat → Value} {H : Hp} {o : HO} {x : Value × Hp} (h : hop (call P F) t H o = some x) : ∃ n, hop (ev P F n).1 t H o = some x := by
  cases o with
  | call f as => exact of_lim h
  | callv y as =>
    simp only [hop] at *
    split at h
    · rename_i f first cap he
      obtain ⟨n, hn⟩ := of_lim h
      exact ⟨n, hn⟩
    · cases h
  | _ => exact ⟨0, h⟩
theorem step1_lim {o : AO} {s : St} {x : St} (h : step1 P (call P F) o s = some x) : ∃ n, step1 P (ev P F n).1 o s = some x := by
  unfold step1 at *
  split at h
  · cases h
  · exact ⟨0, h⟩
  · split at h
    · exact ⟨0, h⟩
    · simp only [Option.map_eq_some_iff] at *
      obtain ⟨r, hr, e⟩ := h
      obtain ⟨n, hn⟩ := hop_lim hr
      exact ⟨n, r, hn, e⟩
theorem steps_lim : ∀ {ops : List AO} {s : St} {x : St}, steps P (call P F) ops s = some x → ∃ n, steps P (ev P F n).1 ops s = some x
  | [], _, _, h => ⟨0, h⟩
  | o :: r, s, x, h => by
    simp only [steps, Option.bind_eq_some_iff] at *
    obtain ⟨y, hy, e⟩ := h
    obtain ⟨n, hn⟩ := step1_lim hy
    obtain ⟨m, hm⟩ := steps_lim e
    exact ⟨max n m, y, step1_mono (ev_le (Nat.le_max_left n m)).1 _ _ _ hn, steps_mono (ev_le (Nat.le_max_right n m)).1 _ _ _ hm⟩
theorem draw1_lim {n0 : Nat} {g0 : Nat → Option Ob} {o : DO} {s x : DS} (h : draw1 P (call P F) n0 g0 o s = some x) : ∃ n, draw1 P (ev P F n).1 n0 g0 o s = some x := by
  unfold draw1 at *
  split at h
  · cases h
  · exact ⟨0, h⟩
  · split at h
    · exact ⟨0, h⟩
    · exact ⟨0, h⟩
    · simp only [Option.map_eq_some_iff] at *
      obtain ⟨r, hr, e⟩ := h
      obtain ⟨n, hn⟩ := hop_lim hr
      exact ⟨n, r, hn, e⟩
theorem draws_lim {n0 : Nat} {g0 : Nat → Option Ob} : ∀ {ops : List DO} {s x : DS}, draws P (call P F) n0 g0 ops s = some x → ∃ n, draws P (ev P F n).1 n0 g0 ops s = some x
  | [], _, _, h => ⟨0, h⟩
  | o :: r, s, x, h => by
    simp only [draws, Option.bind_eq_some_iff] at *
    obtain ⟨y, hy, e⟩ := h
    obtain ⟨n, hn⟩ := draw1_lim hy
    obtain ⟨m, hm⟩ := draws_lim e
    exact ⟨max n m, y, draw1_mono (ev_le (Nat.le_max_left n m)).1 _ _ _ _ _ hn, draws_mono (ev_le (Nat.le_max_right n m)).1 _ _ _ _ _ hm⟩
theorem exec_up {n m : Nat} (h : n ≤ m) {c : AC} {s : St} {x : Ex × St} (hx : exec P (ev P F n).1 (ev P F n).2 c s = some x) : exec P (ev P F m).1 (ev P F m).2 c s = some x :=
  exec_mono (ev_le h).1 (ev_le h).2 c s x hx
theorem exec_lim : ∀ {c : AC} {s : St} {x : Ex × St}, exec P (call P F) (loop P F) c s = some x → ∃ n, exec P (ev P F n).1 (ev P F n).2 c s = some x
  | .nop, _, _, h => ⟨0, h⟩
  | .reg ops, s, x, h => by
    simp only [exec, Option.map_eq_some_iff] at *
    obtain ⟨y, hy, e⟩ := h
    obtain ⟨n, hn⟩ := steps_lim hy
    exact ⟨n, y, hn, e⟩
  | .draw ops, s, x, h => by
    simp only [exec, Option.bind_eq_some_iff] at *
    obtain ⟨y, hy, e⟩ := h
    obtain ⟨n, hn⟩ := draws_lim hy
    exact ⟨n, y, hn, e⟩
  | .seq a b, s, x, h => by
    simp only [exec] at h
    cases ha : exec P (call P F) (loop P F) a s with
    | none => rw [ha] at h; cases h
    | some r =>
      obtain ⟨n, hn⟩ := exec_lim ha
      rw [ha] at h
      obtain ⟨e, s'⟩ := r
      cases e with
      | nm =>
        obtain ⟨m, hm⟩ := exec_lim h
        refine ⟨max n m, ?_⟩
        simp only [exec]
        rw [exec_up (Nat.le_max_left n m) hn]
        exact exec_up (Nat.le_max_right n m) hm
      | ex i => exact ⟨n, by simp only [exec]; rw [hn]; exact h⟩
      | rt => exact ⟨n, by simp only [exec]; rw [hn]; exact h⟩
  | .ite c a b, s, x, h => by
    simp only [exec] at *
    split at h
    · rename_i q hq
      cases q
      · exact exec_lim h
      · exact exec_lim h
    · cases h
  | .blk id b, s, x, h => by
    simp only [exec] at h
    cases ha : exec P (call P F) (loop P F) b s with
    | none => rw [ha] at h; cases h
    | some r =>
      obtain ⟨n, hn⟩ := exec_lim ha
      rw [ha] at h
      exact ⟨n, by simp only [exec]; rw [hn]; exact h⟩
  | .loop b, s, x, h => by
    simp only [exec] at h
    cases ha : exec P (call P F) (loop P F) b s with
    | none => rw [ha] at h; cases h
    | some r =>
      obtain ⟨n, hn⟩ := exec_lim ha
      rw [ha] at h
      obtain ⟨e, s'⟩ := r
      cases e with
      | nm =>
        obtain ⟨m, hm⟩ := of_lim h
        refine ⟨max n m, ?_⟩
        simp only [exec]
        rw [exec_up (Nat.le_max_left n m) hn]
        exact (ev_le (Nat.le_max_right n m)).2 _ _ _ hm
      | ex i => exact ⟨n, by simp only [exec]; rw [hn]; exact h⟩
      | rt => exact ⟨n, by simp only [exec]; rw [hn]; exact h⟩
  | .exit id, _, _, h => ⟨0, h⟩
  | .ret, _, _, h => ⟨0, h⟩

theorem eq_of_le {α : Type} {a b : Option α} (h : LeO a b) (k : LeO b a) : a = b := by
  cases a with
  | none => cases b with
    | none => rfl
    | some y => exact k y rfl
  | some x => exact (h x rfl).symm

/-- A call is what its body comes to. -/
theorem call_eq (f : FuncId) (as : List Value) (H : Hp) : call P F f as H = body P F (call P F) (loop P F) f as H := by
  refine eq_of_le (fun x hx => ?_) (fun x hx => ?_)
  · obtain ⟨n, hn⟩ := of_lim hx
    cases n with
    | zero => cases hn
    | succ n => exact body_mono (ev_call n) (ev_loop n) f as H x hn
  · have : ∃ n, body P F (ev P F n).1 (ev P F n).2 f as H = some x := by
      unfold body at *
      split at hx
      · cases hx
      · rename_i a ha
        split at hx
        · rename_i hl
          cases he : exec P (call P F) (loop P F) a.body ⟨init as, H⟩ with
          | none => rw [he] at hx; cases hx
          | some r =>
            obtain ⟨n, hn⟩ := exec_lim he
            rw [he] at hx
            exact ⟨n, by rw [if_pos hl, hn]; exact hx⟩
        · cases hx
    obtain ⟨n, hn⟩ := this
    exact call_of (n := n + 1) hn
/-- A loop goes round once, and on. -/
theorem loop_eq (b : AC) (s : St) : loop P F b s = match exec P (call P F) (loop P F) b s with
    | some (.nm, s') => loop P F b s'
    | r => r := by
  refine eq_of_le (fun x hx => ?_) (fun x hx => ?_)
  · obtain ⟨n, hn⟩ := of_lim hx
    cases n with
    | zero => cases hn
    | succ n => exact exec_mono (ev_call n) (ev_loop n) (.loop b) s x hn
  · obtain ⟨n, hn⟩ := exec_lim (c := .loop b) (s := s) (x := x) hx
    exact loop_of (n := n + 1) hn
theorem exec_loop (b : AC) (s : St) : exec P (call P F) (loop P F) (.loop b) s = loop P F b s := (loop_eq b s).symm
end
end Go.Proofs.Ytcofdkcccggmjaa.Am
