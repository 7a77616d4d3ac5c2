/-
  The canonical semantics: a deterministic interpreter over a resolved form of the model's code, with a heap of its own. Definitions only; nothing is claimed here.
-/
import Derived.Calls
namespace Go.Can
open Go

/-! Tries keyed by numbers. -/
inductive Tr (α : Type) where
  | nil
  | node (l : Tr α) (v : Option α) (r : Tr α)
  | cons (k : Nat) (a : α) (t : Tr α)

def Tr.get {α : Type} : Tr α → Nat → Option α
  | .nil, _ => none
  | .node l v r, k => Bool.casesOn (motive := fun _ => Option α) (Nat.beq k 0) (Bool.casesOn (motive := fun _ => Option α) (Nat.beq (Nat.mod k 2) 1) (r.get (Nat.pred (Nat.div k 2))) (l.get (Nat.div k 2))) v
  | .cons k a t, j => Bool.casesOn (motive := fun _ => Option α) (Nat.beq j k) (t.get j) (some a)

def Tr.setF {α : Type} : Nat → Tr α → Nat → α → Tr α
  | 0, t, _, _ => t
  | f + 1, .nil, k, a => Bool.casesOn (motive := fun _ => Tr α) (Nat.beq k 0) (Bool.casesOn (motive := fun _ => Tr α) (Nat.beq (Nat.mod k 2) 1) (.node .nil none (Tr.setF f .nil (Nat.pred (Nat.div k 2)) a)) (.node (Tr.setF f .nil (Nat.div k 2) a) none .nil)) (.node .nil (some a) .nil)
  | f + 1, .node l v r, k, a => Bool.casesOn (motive := fun _ => Tr α) (Nat.beq k 0) (Bool.casesOn (motive := fun _ => Tr α) (Nat.beq (Nat.mod k 2) 1) (.node l v (Tr.setF f r (Nat.pred (Nat.div k 2)) a)) (.node (Tr.setF f l (Nat.div k 2) a) v r)) (.node l (some a) r)
  | _ + 1, .cons k' a' t, k, a => .cons k a (.cons k' a' t)

def Tr.set {α : Type} (t : Tr α) (k : Nat) (a : α) : Tr α := Tr.setF (k + 1) t k a

/-! The heap. -/
inductive CObj where
  | row (cs : List Value) (own : Bool)
  | map (es : List (Value × Value))
  | dead

/-- What was written: some cells of a block, or all of it. -/
inductive LE where
  | at_ (b lo hi : Nat)
  | all (b : Nat)

structure CW where
  next : Nat
  heap : Tr CObj
  log : List LE

def CW.get (W : CW) (b : Nat) : Option CObj := W.heap.get b
def CW.put (W : CW) (b : Nat) (o : CObj) : CW := { next := W.next, heap := W.heap.set b o, log := .all b :: W.log }
/-- Some cells of a row are written. -/
def CW.putR (W : CW) (b : Nat) (cs : List Value) (lo n : Nat) : CW := { next := W.next, heap := W.heap.set b (.row cs true), log := .at_ b lo (lo + n) :: W.log }
def CW.push (W : CW) (o : CObj) : CW := { next := W.next + 1, heap := W.heap.set W.next o, log := W.log }
/-- Numbers of blocks are set aside. -/
def CW.reserve (W : CW) (k : Nat) : CW := { next := W.next + k, heap := W.heap, log := W.log }
/-- A block that was set aside is made. -/
def CW.bear (W : CW) (b : Nat) (o : CObj) : CW := { next := W.next, heap := W.heap.set b o, log := W.log }
def CW.empty : CW := ⟨0, .nil, []⟩

abbrev CAct := Tr Value

/-! The resolved code. -/
inductive RX where
  | t (n : Nat)
  | c (v : Value)

inductive EqK where
  | prim | str | ptr | ifc | slc | mp | fn
  | flat (ks : List Bool)

inductive POp where
  | mv (x : RX)
  | pick (c a b : RX)
  | build (z : List Value) (ps : List (Nat × Nat × RX))
  | nchk (x : RX)
  | bin (op : BinOp) (x y : RX)
  | eq (k : EqK) (neg : Bool) (x y : RX)
  | un (op : UnOp) (x : RX)
  | conv (k : IntKind) (x : RX)
  | iface (t : TypeId) (x : RX)
  | func (fn : Fn) (first cap : List RX)
  | slc (arr : Option Nat) (size : Nat) (x : RX) (lo hi mx : Option RX)
  | fad (off : Nat) (x : RX)
  | fld (k : Option Nat) (off : Nat) (x : RX)
  | iad (arr : Option Nat) (size : Nat) (x i : RX)
  | idx (n : Nat) (k : Option Nat) (size : Nat) (x i : RX)
  | tass (want : Array (String × TypeId)) (z : Value) (x : RX) (ok : Bool)
  | ext (x : RX) (i : Nat)
  | slen (x : RX)
  | tlen (x : RX)
  | lenc (n : Nat) (x : RX)
  | max2 (x y : RX)
  | min2 (x y : RX)
  | sidx (x i : RX)
  | fail

inductive LOp where
  | load (k : Option Nat) (a : RX)
  | look (z : Value) (m k : RX) (ok : Bool)
  | mlen (m : RX)

inductive AOp where
  | new (z : List Value)
  | box (x : RX)
  | lit (n : Nat) (z : List Value) (ps : List (Nat × Nat × RX))
  | mkmap
  | mkslice (bytes : Nat) (z : List Value) (l c : RX)

inductive XOp where
  | store (n : Nat) (a x : RX)
  | mput (m k x : RX)
  | app (size bytes : Nat) (s x : RX)
  | cpy (size : Nat) (d x : RX)
  | clr (z : List Value) (s : RX)
  | callF (f : FuncId) (args : List RX)
  | call (f : RX) (args : List RX)
  | invoke (name : String) (r : RX) (args : List RX)

inductive ROp where
  | p (o : POp)
  | l (o : LOp)
  | a (o : AOp)
  | x (o : XOp)

structure RStep where
  dst : Option Nat
  guard : Option (Nat × Bool)
  pre : Nat
  look : List Nat
  op : ROp

inductive RCode where
  | skip
  | region (ops : List RStep)
  | draw (ops : List RStep)
  | seq (a b : RCode)
  | cond (c : RX) (a b : RCode)
  | block (id : Nat) (b : RCode)
  | loop (b : RCode)
  | exit (id : Nat)
  | ret

structure RFunc where
  body : RCode
  res : List (Nat × Option (Option Nat))

/-! Evaluation of pure operations. -/
def RX.ev (a : CAct) : RX → Option Value
  | .t n => a.get n
  | .c v => some v

def evs (a : CAct) : List RX → Option (List Value)
  | [] => some []
  | x :: l => match x.ev a, evs a l with
    | some v, some vs => some (v :: vs)
    | _, _ => none

def evo (a : CAct) : Option RX → Option (Option Value)
  | none => some none
  | some x => match x.ev a with
    | some v => some (some v)
    | none => none

def cells (v : Value) : List Value := match v with | .agg cs => cs.toList | v => [v]

/-- Does a value fit one cell? -/
def one : Value → Bool
  | .agg _ | .tuple _ => false
  | _ => true

def cut (off n : Nat) (cs : List Value) : Option (List Value) :=
  if ((cs.drop off).take n).length = n then some ((cs.drop off).take n) else none

def puts (cs : List Value) (off : Nat) (xs : List Value) : Option (List Value) :=
  if off + xs.length ≤ cs.length then some (cs.take off ++ (xs ++ cs.drop (off + xs.length))) else none

def part (k : Option Nat) (cs : List Value) (off : Nat) : Option Value :=
  match k with
  | some n => match cut off n cs with
    | some l => some (.agg l.toArray)
    | none => none
  | none => cs[off]?

def fill (a : CAct) : List Value → List (Nat × Nat × RX) → Option (List Value)
  | cs, [] => some cs
  | cs, (off, size, x) :: rest => match x.ev a with
    | none => none
    | some v => if (cells v).length = size then
        match puts cs off (cells v) with
        | some cs' => fill a cs' rest
        | none => none
      else none

def ptr (b off : Nat) : Value := .pointer (some ⟨b, off, none⟩)

/-- Cells one by one: bools where the list says so, integers elsewhere. -/
def flatEq : List Bool → List Value → List Value → Option Bool
  | [], [], [] => some true
  | true :: ks, .bool a :: xs, .bool b :: ys => if a = b then flatEq ks xs ys else some false
  | false :: ks, .int j a :: xs, .int k b :: ys => if j = k then (if a = b then flatEq ks xs ys else some false) else none
  | _, _, _ => none

def ceq : EqK → Value → Value → Option Bool
  | .prim, .bool a, .bool b => some (a == b)
  | .str, .string a, .string b => some (a.toList == b.toList)
  | .ptr, .pointer none, .pointer b => some b.isNone
  | .ptr, .pointer (some _), .pointer none => some false
  | .ifc, .nilIface, .nilIface => some true
  | .ifc, .nilIface, .iface _ _ => some false
  | .ifc, .iface _ _, .nilIface => some false
  | .slc, .slice none _ _, .slice b _ _ => some b.isNone
  | .slc, .slice (some _) _ _, .slice none _ _ => some false
  | .mp, .map none, .map b => some b.isNone
  | .mp, .map (some _), .map none => some false
  | .fn, .nilFunc, .nilFunc => some true
  | .fn, .nilFunc, .func _ _ _ => some false
  | .fn, .func _ _ _, .nilFunc => some false
  | .flat ks, .agg a, .agg b => flatEq ks a.toList b.toList
  | _, _, _ => none

def cint (op : BinOp) (k : IntKind) (x y : Int) : Option Value :=
  match op with
  | .add => some (.int k (k.wrap (x + y)))
  | .sub => some (.int k (k.wrap (x - y)))
  | .mul => some (.int k (k.wrap (x * y)))
  | .quo => if y = 0 then none else some (.int k (k.wrap (x.tdiv y)))
  | .rem => if y = 0 then none else some (.int k (x.tmod y))
  | .and => some (.int k (k.wrap (BitVec.ofInt k.bits x &&& BitVec.ofInt k.bits y).toNat))
  | .or => some (.int k (k.wrap (BitVec.ofInt k.bits x ||| BitVec.ofInt k.bits y).toNat))
  | .xor => some (.int k (k.wrap (BitVec.ofInt k.bits x ^^^ BitVec.ofInt k.bits y).toNat))
  | .andNot => some (.int k (k.wrap (BitVec.ofInt k.bits x &&& ~~~(BitVec.ofInt k.bits y)).toNat))
  | .eql => some (.bool (x == y))
  | .neq => some (.bool (x != y))
  | .lss => some (.bool (x < y))
  | .leq => some (.bool (x ≤ y))
  | .gtr => some (.bool (x > y))
  | .geq => some (.bool (x ≥ y))
  | _ => none

def cshift (op : BinOp) (k : IntKind) (x y : Int) : Option Value :=
  if y < 0 then none else
    match op with
    | .shl => some (.int k (k.wrap (x * 2 ^ (min y.toNat k.bits))))
    | .shr => some (.int k (x.fdiv (2 ^ (min y.toNat k.bits))))
    | _ => none

def cbin (op : BinOp) (x y : Value) : Option Value :=
  match x, y with
  | .int k a, .int k' b => match op with
    | .shl => cshift .shl k a b
    | .shr => cshift .shr k a b
    | op => if k = k' then cint op k a b else none
  | _, _ => none

def cun (op : UnOp) (x : Value) : Option Value :=
  match op, x with
  | .neg, .int k n => some (.int k (k.wrap (0 - n)))
  | .xor, .int k n => some (.int k (k.wrap (BitVec.ofInt k.bits (if k.signed then -1 else k.max) ^^^ BitVec.ofInt k.bits n).toNat))
  | .not, .bool b => some (.bool (!b))
  | _, _ => none

def bound (v : Option Value) (dflt most : Nat) : Option Nat :=
  match v with
  | none => some dflt
  | some (.int _ i) => if 0 ≤ i ∧ i ≤ most then some i.toNat else none
  | some _ => none

def cslice (size b off : Nat) (sp : Option Nat) (len cap : Nat) (lo hi mx : Option Value) : Option Value :=
  match bound mx cap cap with
  | none => none
  | some m => match bound hi len m with
    | none => none
    | some h => match bound lo 0 h with
      | none => none
      | some l => if h ≤ m ∧ l ≤ h ∧ (mx.isSome = true → hi.isSome = true) then
          some (.slice (some ⟨b, if m = l then off else off + l * size, if mx.isSome || sp == some 1 then some 1 else if sp == some (2 + size) then sp else none⟩) (h - l) (m - l))
        else none

/-! What depends on the program's tables. -/
def oneOf (want : Array (String × TypeId)) (got : Array Method) : Bool :=
  want.all fun (name, sig) => got.any fun m => m.name == name && m.sig == sig

def csat (P : Program) (t : TypeId) (want : Array (String × TypeId)) : Option Bool :=
  match P.info? t with
  | some i => some (oneOf want i.methods)
  | none => none

def cmethod (P : Program) (t : TypeId) (name : String) : Option FuncId :=
  match P.info? t with
  | some i => match i.methods.find? (·.name == name) with
    | some m => if m.path.isEmpty then
        match m.func, P.underlying t with
        | some (f, true), some (.pointer _) => some f
        | some (_, false), some (.pointer _) => none
        | some (f, false), some _ => some f
        | _, _ => none
      else none
    | none => none
  | none => none

def pop (P : Program) (a : CAct) : POp → Option Value
  | .mv x => x.ev a
  | .pick c x y => match c.ev a with
    | some (.bool t) => if t then x.ev a else y.ev a
    | _ => none
  | .build z ps => match fill a z ps with
    | some cs => some (.agg cs.toArray)
    | none => none
  | .nchk x => match x.ev a with
    | some (.pointer (some p)) => some (.pointer (some p))
    | some (.iface t v) => some (.iface t v)
    | some (.func (.func f) x y) => some (.func (.func f) x y)
    | some (.int k n) => some (.int k n)
    | _ => none
  | .bin op x y => match x.ev a, y.ev a with
    | some u, some v => cbin op u v
    | _, _ => none
  | .eq k neg x y => match x.ev a, y.ev a with
    | some u, some v => match ceq k u v with
      | some b => some (.bool (b != neg))
      | none => none
    | _, _ => none
  | .un op x => match x.ev a with
    | some u => cun op u
    | none => none
  | .conv k x => match x.ev a with
    | some (.int _ n) => some (.int k (k.wrap n))
    | _ => none
  | .iface t x => match x.ev a with
    | some v => some (.iface t v)
    | none => none
  | .func fn first cap => match evs a first, evs a cap with
    | some u, some v => some (.func fn u.toArray v.toArray)
    | _, _ => none
  | .slc arr size x lo hi mx => match x.ev a, evo a lo, evo a hi, evo a mx with
    | some v, some lo, some hi, some mx => match arr, v with
      | some n, .pointer (some ⟨b, off, _⟩) => cslice size b off (some 1) n n lo hi mx
      | none, .slice (some ⟨b, off, sp⟩) len cap => cslice size b off sp len cap lo hi mx
      | none, .slice none 0 0 => match bound mx 0 0, bound hi 0 0, bound lo 0 0 with
        | some _, some _, some _ => if mx.isSome = true → hi.isSome = true then some (.slice none 0 0) else none
        | _, _, _ => none
      | _, _ => none
    | _, _, _, _ => none
  | .fad off x => match x.ev a with
    | some (.pointer (some ⟨b, o, _⟩)) => some (ptr b (o + off))
    | _ => none
  | .fld k off x => match x.ev a with
    | some (.agg cs) => part k cs.toList off
    | _ => none
  | .iad arr size x i => match x.ev a, i.ev a with
    | some v, some (.int _ i) => match arr, v with
      | some n, .pointer (some ⟨b, off, _⟩) => if 0 ≤ i ∧ i < n then some (ptr b (off + i.toNat * size)) else none
      | none, .slice (some ⟨b, off, _⟩) n _ => if 0 ≤ i ∧ i < n then some (ptr b (off + i.toNat * size)) else none
      | _, _ => none
    | _, _ => none
  | .idx n k size x i => match x.ev a, i.ev a with
    | some (.agg cs), some (.int _ i) => if 0 ≤ i ∧ i < n then part k cs.toList (i.toNat * size) else none
    | _, _ => none
  | .tass want z x ok => match x.ev a with
    | some .nilIface => if ok then some (.tuple #[z, .bool false]) else none
    | some (.iface t v) => match csat P t want with
      | some true => some (if ok then .tuple #[.iface t v, .bool true] else .iface t v)
      | some false => if ok then some (.tuple #[z, .bool false]) else none
      | none => none
    | _ => none
  | .ext x i => match x.ev a with
    | some (.tuple vs) => vs.toList[i]?
    | _ => none
  | .slen x => match x.ev a with
    | some (.slice _ n _) => some (.int .i64 n)
    | _ => none
  | .tlen x => match x.ev a with
    | some (.string s) => some (.int .i64 s.size)
    | _ => none
  | .lenc n x => match x.ev a with
    | some _ => some (.int .i64 n)
    | none => none
  | .max2 x y => match x.ev a, y.ev a with
    | some (.int k m), some (.int k' n) => if k = k' then some (.int k (if n > m then n else m)) else none
    | _, _ => none
  | .min2 x y => match x.ev a, y.ev a with
    | some (.int k m), some (.int k' n) => if k = k' then some (.int k (if n < m then n else m)) else none
    | _, _ => none
  | .sidx x i => match x.ev a, i.ev a with
    | some (.string s), some (.int _ i) => if 0 ≤ i then match s.data.toList[i.toNat]? with
        | some b => some (.int .u8 b.toNat)
        | none => none
      else none
    | _, _ => none
  | .fail => none

/-! Operations that read one block. -/
def mapFind (kk : IntKind) (k : Int) : List (Value × Value) → Nat → Option (Option (Nat × Value))
  | [], _ => some none
  | (.int kk' n, v) :: es, i => if kk = kk' then (if k = n then some (some (i, v)) else mapFind kk k es (i + 1)) else none
  | _ :: _, _ => none

inductive LT where
  | val (v : Value)
  | blk (b : Nat)

def ltarget (a : CAct) : LOp → Option LT
  | .load _ x => match x.ev a with
    | some (.pointer (some ⟨b, _, _⟩)) => some (.blk b)
    | _ => none
  | .look z m k ok => match m.ev a, k.ev a with
    | some (.map none), some (.int _ _) => some (.val (if ok then .tuple #[z, .bool false] else z))
    | some (.map (some r)), some (.int _ _) => some (.blk r)
    | _, _ => none
  | .mlen m => match m.ev a with
    | some (.map none) => some (.val (.int .i64 0))
    | some (.map (some r)) => some (.blk r)
    | _ => none

def lval (a : CAct) (o : LOp) (ob : CObj) : Option Value :=
  match o, ob with
  | .load k x, .row cs _ => match x.ev a with
    | some (.pointer (some ⟨_, off, _⟩)) => part k cs off
    | _ => none
  | .look z _ k ok, .map es => match k.ev a with
    | some (.int kk k) => match mapFind kk k es 0 with
      | some (some (_, v)) => some (if ok then .tuple #[v, .bool true] else v)
      | some none => some (if ok then .tuple #[z, .bool false] else z)
      | none => none
    | _ => none
  | .mlen _, .map es => some (.int .i64 es.length)
  | _, _ => none

/-- Which cells a load reads. -/
def lspan (a : CAct) : LOp → Option (Nat × Nat)
  | .load k x => match x.ev a with
    | some (.pointer (some ⟨_, off, _⟩)) => some (off, off + k.getD 1)
    | _ => some (0, 0)
  | _ => none

def lop (a : CAct) (o : LOp) (W : CW) : Option Value :=
  match ltarget a o with
  | some (.val v) => some v
  | some (.blk b) => match W.get b with
    | some ob => lval a o ob
    | none => none
  | none => none

/-! Operations that make one block. -/
def reps : Nat → List Value → List Value
  | 0, _ => []
  | n + 1, l => l ++ reps n l

def aobj (a : CAct) : AOp → Option CObj
  | .new z => some (.row z true)
  | .box x => match x.ev a with
    | some v => some (.row (cells v) true)
    | none => none
  | .lit _ z ps => match fill a z ps with
    | some cs => some (.row cs true)
    | none => none
  | .mkmap => some (.map [])
  | .mkslice bytes z l c => match l.ev a, c.ev a with
    | some (.int _ l), some (.int _ c) => if 0 ≤ l ∧ l ≤ c ∧ c < 2 ^ 40 ∧ c.toNat * bytes ≤ 2 ^ 40 then some (.row (reps c.toNat z) true) else none
    | _, _ => none

def aval (a : CAct) (b : Nat) : AOp → Value
  | .new _ => ptr b 0
  | .box _ => ptr b 0
  | .lit n _ _ => .slice (some ⟨b, 0, some 1⟩) n n
  | .mkmap => .map (some b)
  | .mkslice _ _ l c => match l.ev a, c.ev a with
    | some (.int _ l), some (.int _ c) => .slice (some ⟨b, 0, some 1⟩) l.toNat c.toNat
    | _, _ => .nilIface

/-! Operations that write. -/
inductive RNext where
  | value (v : Value)
  | enter (f : FuncId) (args : List Value)

def undefV : Value := .tuple #[]

def cstore (n : Nat) (p x : Value) (W : CW) : Option CW :=
  match p with
  | .pointer (some ⟨b, off, _⟩) => match W.get b with
    | some (.row cs true) => if (cells x).length = n ∧ (cells x).all one = true then
        match puts cs off (cells x) with
        | some cs' => some (W.putR b cs' off n)
        | none => none
      else none
    | _ => none
  | _ => none

def srcRow (size : Nat) (x : Value) (W : CW) : Option (Nat × List Value) :=
  match x with
  | .slice none 0 _ => some (0, [])
  | .slice (some ⟨b, off, _⟩) n _ => if n = 0 then some (0, []) else
    match W.get b with
    | some (.row cs _) => match cut off (n * size) cs with
      | some l => some (n, l)
      | none => none
    | _ => none
  | _ => none

def capp (size bytes : Nat) (s x : Value) (W : CW) : Option (Value × CW) :=
  match s, srcRow size x W with
  | .slice base sLen sCap, some (n, new) =>
    if (sLen + n) * bytes ≤ 2 ^ 40 ∧ sLen + n ≤ 2 ^ 40 then
      if n = 0 then (if sLen ≤ sCap then some (s, W) else none) else
      match base with
      | none => if sLen = 0 ∧ sCap = 0 then some (.slice (some ⟨W.next, 0, some (2 + size)⟩) n n, W.push (.row new true)) else none
      | some ⟨b, off, sp⟩ => match W.get b with
        | some (.row cs own) =>
          if sLen + n ≤ sCap then
            if own = true ∧ new.all one = true then
              match puts cs (off + sLen * size) new with
              | some cs' => some (.slice base (sLen + n) sCap, W.putR b cs' (off + sLen * size) (n * size))
              | none => none
            else none
          else match cut off (sLen * size) cs with
            | none => none
            | some old =>
              if sp = some 1 then some (.slice (some ⟨W.next, 0, some (2 + size)⟩) (sLen + n) (sLen + n), W.push (.row (old ++ new) true))
              else if own = true ∧ sp = some (2 + size) ∧ new.all one = true then some (.slice (some ⟨W.next, 0, some (2 + size)⟩) (sLen + n) (sLen + n), (W.put b .dead).push (.row (old ++ new) true))
              else none
        | _ => none
    else none
  | _, _ => none

def ccpy (size : Nat) (d x : Value) (W : CW) : Option (Value × CW) :=
  match d, x with
  | .slice base dLen _, .slice sb sLen _ =>
    if min sLen dLen = 0 then some (.int .i64 0, W) else
    match base, sb with
    | some ⟨b, off, _⟩, some ⟨b2, off2, _⟩ => match W.get b2, W.get b with
      | some (.row cs2 _), some (.row cs true) => match cut off2 (min sLen dLen * size) cs2 with
        | some l => match (if l.all one = true then puts cs off l else none) with
          | some cs' => some (.int .i64 (min sLen dLen : Nat), W.putR b cs' off (min sLen dLen * size))
          | none => none
        | none => none
      | _, _ => none
    | _, _ => none
  | _, _ => none

def cclr (z : List Value) (s : Value) (W : CW) : Option CW :=
  match s with
  | .slice none 0 _ => some W
  | .slice (some ⟨b, off, _⟩) n _ => if n = 0 then some W else
    match W.get b with
    | some (.row cs true) => match (if z.all one = true then puts cs off (reps n z) else none) with
      | some cs' => some (W.putR b cs' off (n * z.length))
      | none => none
    | _ => none
  | _ => none

def xop (P : Program) (a : CAct) (o : XOp) (W : CW) : Option (RNext × CW) :=
  match o with
  | .store n p x => match p.ev a, x.ev a with
    | some p, some v => match cstore n p v W with
      | some W => some (.value undefV, W)
      | none => none
    | _, _ => none
  | .mput m k x => match m.ev a, k.ev a, x.ev a with
    | some (.map (some r)), some (.int kk k), some v => match W.get r with
      | some (.map es) => match mapFind kk k es 0 with
        | some (some (i, _)) => some (.value undefV, W.put r (.map (es.set i (.int kk k, v))))
        | some none => some (.value undefV, W.put r (.map (es ++ [(.int kk k, v)])))
        | none => none
      | _ => none
    | _, _, _ => none
  | .app size bytes s x => match s.ev a, x.ev a with
    | some s, some x => match capp size bytes s x W with
      | some (v, W) => some (.value v, W)
      | none => none
    | _, _ => none
  | .cpy size d x => match d.ev a, x.ev a with
    | some d, some x => match ccpy size d x W with
      | some (v, W) => some (.value v, W)
      | none => none
    | _, _ => none
  | .clr z s => match s.ev a with
    | some s => match cclr z s W with
      | some W => some (.value undefV, W)
      | none => none
    | none => none
  | .callF f args => match evs a args with
    | some vs => some (.enter f vs, W)
    | none => none
  | .call f args => match f.ev a, evs a args with
    | some (.func (.func f) first cap), some vs => some (.enter f (first.toList ++ (vs ++ cap.toList)), W)
    | _, _ => none
  | .invoke name r args => match r.ev a, evs a args with
    | some (.iface t v), some vs => match cmethod P t name with
      | some f => some (.enter f (v :: vs), W)
      | none => none
    | _, _ => none

/-! Steps. -/
abbrev CCall := FuncId → List Value → CW → Option (Value × CW)

def putd (a : CAct) : Option Nat → Value → CAct
  | some d, v => a.set d v
  | none, _ => a

def wanted (a : CAct) : Option (Nat × Bool) → Option Bool
  | none => some true
  | some (d, want) => match a.get d with
    | some (.bool b) => some (b == want)
    | some (.tuple _) => some false
    | _ => none

def doX (P : Program) (call : CCall) (a : CAct) (o : XOp) (W : CW) : Option (Value × CW) :=
  match xop P a o W with
  | some (.value v, W') => some (v, W')
  | some (.enter f args, W') => call f args W'
  | none => none

def doOp (P : Program) (call : CCall) (a : CAct) (o : ROp) (W : CW) : Option (Value × CW) :=
  match o with
  | .p o => match pop P a o with
    | some v => some (v, W)
    | none => none
  | .l o => match lop a o W with
    | some v => some (v, W)
    | none => none
  | .a o => match aobj a o with
    | some ob => some (aval a W.next o, W.push ob)
    | none => none
  | .x o => doX P call a o W

def rsteps (P : Program) (call : CCall) : List RStep → CAct → CW → Option (CAct × CW)
  | [], a, W => some (a, W)
  | s :: rest, a, W => match wanted a s.guard with
    | some true => match doOp P call a s.op W with
      | some (v, W') => rsteps P call rest (putd a s.dst v) W'
      | none => none
    | some false => rsteps P call rest (putd a s.dst undefV) W
    | none => none

/-! Regions whose order is drawn: what came of each step so far. -/
inductive Rec where
  | p
  | l (b lo hi : Nat)
  | m (b : Nat)
  | a (b : Nat)
  | x (log : List LE)

/-- Does a log leave some cells of a block alone? -/
def clean (log : List LE) (b lo hi : Nat) : Bool :=
  log.all fun
    | .at_ b' lo' hi' => b' != b || hi' ≤ lo || hi ≤ lo'
    | .all b' => b' != b

/-- Does a log leave a whole block alone? -/
def cleanB (log : List LE) (b : Nat) : Bool :=
  log.all fun
    | .at_ b' _ _ => b' != b
    | .all b' => b' != b

def maskL (W : CW) : List Nat → CW
  | [] => W
  | b :: l => (maskL W l).bear b .dead

def unmaskL (W0 W : CW) : List Nat → CW
  | [] => W
  | b :: l => (unmaskL W0 W l).bear b ((W0.get b).getD .dead)

def masks (pre : Nat) : List Rec → Nat → List Nat
  | [], _ => []
  | .a b :: l, i => if pre.testBit i then masks pre l (i + 1) else b :: masks pre l (i + 1)
  | _ :: l, i => masks pre l (i + 1)

/-- May cells of a block be read by a step, whatever order the steps ahead of it have? -/
def okL (pre : Nat) (b lo hi : Nat) : List Rec → Nat → Bool
  | [], _ => true
  | .a b' :: l, i => (pre.testBit i || b' != b) && okL pre b lo hi l (i + 1)
  | .x log :: l, i => (pre.testBit i || clean log b lo hi) && okL pre b lo hi l (i + 1)
  | _ :: l, i => okL pre b lo hi l (i + 1)

def okM (pre : Nat) (b : Nat) : List Rec → Nat → Bool
  | [], _ => true
  | .a b' :: l, i => (pre.testBit i || b' != b) && okM pre b l (i + 1)
  | .x log :: l, i => (pre.testBit i || cleanB log b) && okM pre b l (i + 1)
  | _ :: l, i => okM pre b l (i + 1)

/-- May a step that wrote so stand in any order with the steps ahead of it? -/
def okX (pre : Nat) (log : List LE) : List Rec → Nat → Bool
  | [], _ => true
  | .l b lo hi :: l, i => (pre.testBit i || clean log b lo hi) && okX pre log l (i + 1)
  | .m b :: l, i => (pre.testBit i || cleanB log b) && okX pre log l (i + 1)
  | .x _ :: l, i => pre.testBit i && okX pre log l (i + 1)
  | _ :: l, i => okX pre log l (i + 1)

/-- What a step looks at of the frame. -/
def sub (a : CAct) : List Nat → CAct
  | [] => .nil
  | d :: l => match a.get d with
    | some v => (sub a l).set d v
    | none => sub a l

def CW.relog (W : CW) (l : List LE) : CW := { next := W.next, heap := W.heap, log := l }

/-- One step of such a region: its value, the world behind it, and its record. -/
def dstep (P : Program) (call : CCall) (base : Nat) (s : RStep) (recs : List Rec) (a : CAct) (W : CW) : Option (Value × CW × Rec) :=
  match wanted a s.guard with
  | none => none
  | some false => some (undefV, W, .p)
  | some true => match s.op with
    | .p o => match pop P a o with
      | some v => some (v, W, .p)
      | none => none
    | .l o => match ltarget a o with
      | some (.val v) => some (v, W, .p)
      | some (.blk b) => match W.get b with
        | none => none
        | some ob => match lval a o ob with
          | none => none
          | some v => match lspan a o with
            | some (lo, hi) => if okL s.pre b lo hi recs 0 = true then some (v, W, .l b lo hi) else none
            | none => if okM s.pre b recs 0 = true then some (v, W, .m b) else none
      | none => none
    | .a o => match aobj a o with
      | some ob => some (aval a (base + recs.length) o, W.bear (base + recs.length) ob, .a (base + recs.length))
      | none => none
    | .x o => match doX P call a o ((maskL W (masks s.pre recs 0)).relog []) with
      | some (v, W') => if okX s.pre W'.log recs 0 = true then
          some (v, (unmaskL W W' (masks s.pre recs 0)).relog (W'.log ++ W.log), .x W'.log)
        else none
      | none => none

def rdraw (P : Program) (call : CCall) (base : Nat) : List RStep → List Rec → CAct → CW → Option (CAct × CW)
  | [], _, a, W => some (a, W)
  | s :: rest, recs, a, W => match dstep P call base s recs (sub a s.look) W with
    | some (v, W', r) => rdraw P call base rest (recs ++ [r]) (putd a s.dst v) W'
    | none => none

inductive CExit where
  | normal
  | exit (id : Nat)
  | ret

def rexec (P : Program) (call : CCall) : Nat → RCode → CAct → CW → Option (CExit × CAct × CW)
  | 0, _, _, _ => none
  | n + 1, c, a, W =>
    match c with
    | .skip => some (.normal, a, W)
    | .region ops => match rsteps P call ops a W with
      | some (a, W) => some (.normal, a, W)
      | none => none
    | .draw ops => match rdraw P call W.next ops [] a (W.reserve ops.length) with
      | some (a, W) => some (.normal, a, W)
      | none => none
    | .seq x y => match rexec P call n x a W with
      | some (.normal, a, W) => rexec P call n y a W
      | r => r
    | .cond o x y => match o.ev a with
      | some (.bool true) => rexec P call n x a W
      | some (.bool false) => rexec P call n y a W
      | _ => none
    | .block id b => match rexec P call n b a W with
      | some (.exit i, a, W) => if i = id then some (.normal, a, W) else some (.exit i, a, W)
      | r => r
    | .loop b => match rexec P call n b a W with
      | some (.normal, a, W) => rexec P call n (.loop b) a W
      | r => r
    | .exit id => some (.exit id, a, W)
    | .ret => some (.ret, a, W)

def params : Nat → List Value → CAct → CAct
  | _, [], a => a
  | i, v :: vs, a => params (i + 1) vs (a.set i v)

def result1 (a : CAct) (W : CW) : Nat × Option (Option Nat) → Option Value
  | (t, none) => a.get t
  | (t, some k) => match a.get t with
    | some (.pointer (some ⟨b, off, _⟩)) => match W.get b with
      | some (.row cs _) => part k cs off
      | _ => none
    | _ => none

def resultsL (a : CAct) (W : CW) : List (Nat × Option (Option Nat)) → Option (List Value)
  | [] => some []
  | r :: rs => match result1 a W r, resultsL a W rs with
    | some v, some vs => some (v :: vs)
    | _, _ => none

def resultOf : List Value → Value
  | [v] => v
  | vs => .tuple vs.toArray

/-! Resolving. -/
def rx : Operand → Option RX
  | .tmp t => some (.t t)
  | .const v => some (.c v)
  | .func f => some (.c (.func (.func f) #[] #[]))
  | .global _ => none

def okC1 : Value → Bool
  | .bool _ | .int _ _ | .string _ | .pointer none | .slice none 0 0 | .map none | .nilFunc | .nilIface => true
  | .func (.func _) first cap => first.isEmpty && cap.isEmpty
  | _ => false

def okC : Value → Bool
  | .agg cs => cs.toList.all okC1
  | v => okC1 v

def rxc (o : Operand) : Option RX :=
  match rx o with
  | some (.t t) => some (.t t)
  | some (.c v) => if okC v then some (.c v) else none
  | none => none

def rxs : List Operand → Option (List RX)
  | [] => some []
  | o :: l => match rxc o, rxs l with
    | some x, some xs => some (x :: xs)
    | _, _ => none

def rxo : Option Operand → Option (Option RX)
  | none => some none
  | some o => match rxc o with
    | some x => some (some x)
    | none => none

def zeroC (P : Program) (t : TypeId) : Option Value :=
  match P.info? t with
  | some i => match i.zero with
    | some z => if okC z ∧ (cells z).length = i.size then some z else none
    | none => none
  | none => none

def aggK (P : Program) (t : TypeId) : Option (Option Nat) :=
  match P.info? t, P.underlying t with
  | some i, some (.struct _) => some (some i.size)
  | some i, some (.array _ _) => some (some i.size)
  | some _, some _ => some none
  | _, _ => none

def sizeC (P : Program) (t : TypeId) : Option Nat :=
  match P.info? t with
  | some i => some i.size
  | none => none

def rparts (P : Program) (place : Nat → Option (Nat × Nat)) : List (Nat × Operand) → Option (List (Nat × Nat × RX))
  | [] => some []
  | (i, o) :: l => match place i, rxc o, rparts P place l with
    | some (off, size), some x, some xs => some ((off, size, x) :: xs)
    | _, _, _ => none

/-- Is a type bool (true), or an integer (false)? -/
def scalar (P : Program) (t : TypeId) : Option Bool :=
  match P.underlying t with
  | some .bool => some true
  | some (.int _) => some false
  | _ => none

/-- A struct of plain fields, one cell each, in a row, none blank. -/
def flatFields (P : Program) : List Field → Nat → Option (List Bool)
  | [], _ => some []
  | f :: fs, i => if f.offset = i ∧ f.name ≠ "_" then
      match scalar P f.type, flatFields P fs (i + 1) with
      | some k, some ks => some (k :: ks)
      | _, _ => none
    else none

def flatT (P : Program) (t : TypeId) : Option (List Bool) :=
  if P.eqGuardType P.depth t then none else
  match P.underlying t with
  | some (.struct fs) => if P.stoodInHeld t then none else flatFields P fs.toList 0
  | some (.array n e) => match scalar P e, sizeC P e with
    | some k, some 1 => some (List.replicate n k)
    | _, _ => none
  | _ => none

def isConstO : Operand → Bool
  | .const _ => true
  | _ => false

def eqK (P : Program) (t : TypeId) (x y : Operand) : Option EqK :=
  match P.underlying t with
  | some .bool => some .prim
  | some .string => some .str
  | some (.pointer _) => some .ptr
  | some (.interface _) => if isConstO x || isConstO y then some .ifc else none
  | some (.slice _) => some .slc
  | some (.map _ _) => some .mp
  | some (.func _ _ _) => some .fn
  | some (.struct _) => match flatT P t with
    | some ks => some (.flat ks)
    | none => none
  | some (.array _ _) => match flatT P t with
    | some ks => some (.flat ks)
    | none => none
  | _ => none

def rbin (P : Program) (op : BinOp) (t : TypeId) (x y : Operand) : Option ROp :=
  match rxc x, rxc y with
  | some a, some b =>
    match op with
    | .eql => match P.underlying t with
      | some (.int _) => some (.p (.bin .eql a b))
      | _ => match eqK P t x y with
        | some k => some (.p (.eq k false a b))
        | none => none
    | .neq => match P.underlying t with
      | some (.int _) => some (.p (.bin .neq a b))
      | _ => match eqK P t x y with
        | some k => some (.p (.eq k true a b))
        | none => none
    | op => some (.p (.bin op a b))
  | _, _ => none

def rbuiltin (P : Program) (b : Builtin) (ts : List TypeId) (args : List Operand) : Option ROp :=
  match b, ts, args with
  | .len, [t], [x] => match P.underlying t, rxc x with
    | some .string, some x => some (.p (.tlen x))
    | some (.slice _), some x => some (.p (.slen x))
    | some (.array n _), some x => some (.p (.lenc n x))
    | some (.pointer e), some x => match P.underlying e with
      | some (.array n _) => some (.p (.lenc n x))
      | _ => none
    | some (.map _ _), some x => some (.l (.mlen x))
    | _, _ => none
  | .append, [t, u], [s, x] => match P.underlying t, P.underlying u, rxc s, rxc x with
    | some (.slice e), some (.slice _), some s, some x => match P.info? e, zeroC P e with
      | some i, some _ => if 0 < i.size then some (.x (.app i.size i.bytes s x)) else none
      | _, _ => none
    | _, _, _, _ => none
  | .copy, [t, _], [d, x] => match P.underlying t, rxc d, rxc x with
    | some (.slice e), some d, some x => match P.info? e with
      | some i => some (.x (.cpy i.size d x))
      | none => none
    | _, _, _ => none
  | .clear, [t], [s] => match P.underlying t, rxc s with
    | some (.slice e), some s => match zeroC P e with
      | some z => some (.x (.clr (cells z) s))
      | none => none
    | _, _ => none
  | .max, _, [x, y] => match rxc x, rxc y with
    | some x, some y => some (.p (.max2 x y))
    | _, _ => none
  | .min, _, [x, y] => match rxc x, rxc y with
    | some x, some y => some (.p (.min2 x y))
    | _, _ => none
  | _, _, _ => none

def rcall0 (P : Program) (c : Call) : Option ROp :=
  match c.callee with
  | .builtin b => rbuiltin P b c.argTypes.toList c.args.toList
  | .invoke r name => match rxc r, rxs c.args.toList with
    | some r, some xs => some (.x (.invoke name r xs))
    | _, _ => none
  | .value (.func f) => match rxs c.args.toList with
    | some xs => some (.x (.callF f xs))
    | none => none
  | .value f => match rxc f, rxs c.args.toList with
    | some f, some xs => some (.x (.call f xs))
    | _, _ => none

def rop (P : Program) (o : Op) : Option ROp :=
  match o with
  | .move x => match rxc x with
    | some x => some (.p (.mv x))
    | none => none
  | .assign x => match rxc x with
    | some x => some (.p (.mv x))
    | none => none
  | .pick c a b => match rxc c, rxc a, rxc b with
    | some c, some a, some b => some (.p (.pick c a b))
    | _, _, _ => none
  | .alloc e => match zeroC P e with
    | some z => some (.a (.new (cells z)))
    | none => none
  | .box _ x => match rxc x with
    | some x => some (.a (.box x))
    | none => none
  | .build t parts => match zeroC P t, P.underlying t with
    | some (.agg z), some (.struct fs) => match rparts P (fun i => match fs[i]? with | some f => (match sizeC P f.type with | some s => some (f.offset, s) | none => none) | none => none) parts.toList with
      | some ps => if fs.toList.all (fun f => (sizeC P f.type).isSome) then some (.p (.build z.toList ps)) else none
      | none => none
    | some (.agg z), some (.array _ e) => match sizeC P e with
      | some s => match rparts P (fun i => some (i * s, s)) parts.toList with
        | some ps => some (.p (.build z.toList ps))
        | none => none
      | none => none
    | _, _ => none
  | .buildSlice t n parts => match P.underlying t with
    | some (.slice e) => match zeroC P e, sizeC P e with
      | some z, some s => match rparts P (fun i => some (i * s, s)) parts.toList with
        | some ps => if n * s ≤ 2 ^ 24 ∧ 0 < s then some (.a (.lit n (reps n (cells z)) ps)) else none
        | none => none
      | _, _ => none
    | _ => none
  | .load t x => match aggK P t, rxc x with
    | some k, some x => some (.l (.load k x))
    | _, _ => none
  | .store t p x => match sizeC P t, rxc p, rxc x with
    | some n, some p, some x => some (.x (.store n p x))
    | _, _, _ => none
  | .nilCheck x => match rxc x with
    | some x => some (.p (.nchk x))
    | none => none
  | .binOp op t x y _ => rbin P op t x y
  | .unOp op _ x => match rxc x with
    | some x => some (.p (.un op x))
    | none => none
  | .convert src dst x => match P.underlying src, P.underlying dst, rxc x with
    | some (.int _), some (.int k), some x => some (.p (.conv k x))
    | _, _, _ => none
  | .makeInterface t x => match P.underlying t, rxc x with
    | some (.interface _), _ => none
    | some _, some x => some (.p (.iface t x))
    | _, _ => none
  | .makeFunc fn first cap => match rxs first.toList, rxs cap.toList with
    | some a, some b => some (.p (.func fn a b))
    | _, _ => none
  | .makeMap _ none => some (.a .mkmap)
  | .makeSlice t l c => match P.underlying t with
    | some (.slice e) => match zeroC P e, P.info? e, rxc l, rxc c with
      | some z, some i, some l, some c => if 0 < i.size then some (.a (.mkslice i.bytes (cells z) l c)) else none
      | _, _, _, _ => none
    | _ => none
  | .slice t x lo hi mx => match rxc x, rxo lo, rxo hi, rxo mx with
    | some x, some lo, some hi, some mx => match P.underlying t with
      | some (.array n e) => match sizeC P e with
        | some s => some (.p (.slc (some n) s x lo hi mx))
        | none => none
      | some (.slice e) => match sizeC P e with
        | some s => some (.p (.slc none s x lo hi mx))
        | none => none
      | _ => none
    | _, _, _, _ => none
  | .fieldAddr t x i => match P.underlying t, rxc x with
    | some (.struct fs), some x => match fs[i]? with
      | some f => match sizeC P f.type with
        | some s => if 0 < s then some (.p (.fad f.offset x)) else none
        | none => none
      | none => none
    | _, _ => none
  | .field t x i => match P.underlying t, rxc x with
    | some (.struct fs), some x => match fs[i]? with
      | some f => match aggK P f.type with
        | some k => some (.p (.fld k f.offset x))
        | none => none
      | none => none
    | _, _ => none
  | .indexAddr t x i => match P.underlying t, rxc x, rxc i with
    | some (.array n e), some x, some i => match sizeC P e with
      | some s => some (.p (.iad (some n) s x i))
      | none => none
    | some (.slice e), some x, some i => match sizeC P e with
      | some s => some (.p (.iad none s x i))
      | none => none
    | _, _, _ => none
  | .panic _ => some (.p .fail)
  | .index t x i => match P.underlying t, rxc x, rxc i with
    | some .string, some x, some i => some (.p (.sidx x i))
    | some (.array n e), some x, some i => match sizeC P e, aggK P e with
      | some s, some k => some (.p (.idx n k s x i))
      | _, _ => none
    | _, _, _ => none
  | .lookup t m k ok => match P.underlying t, rxc m, rxc k with
    | some (.map kt e), some m, some k => match P.underlying kt, zeroC P e with
      | some (.int _), some z => some (.l (.look z m k ok))
      | _, _ => none
    | _, _, _ => none
  | .mapUpdate t m k x => match P.underlying t, rxc m, rxc k, rxc x with
    | some (.map kt _), some m, some k, some x => match P.underlying kt with
      | some (.int _) => some (.x (.mput m k x))
      | _ => none
    | _, _, _, _ => none
  | .typeAssert x _ a ok => match rxc x, P.underlying a, zeroC P a with
    | some x, some (.interface want), some z => some (.p (.tass want z x ok))
    | _, _, _ => none
  | .extract x i => match rxc x with
    | some x => some (.p (.ext x i))
    | none => none
  | .call c => rcall0 P c
  | _ => none

/-- The set of the operations that come ahead of each, as numbers of bits. -/
def preOf (pres : List Nat) (o : Oper) : Nat :=
  o.after.toList.foldl (fun s e => if Region.binds .any e then s ||| 2 ^ e.on ||| pres.getD e.on 0 else s) 0

def okEdges (o : Oper) (i : Nat) : Bool := o.after.toList.all fun e => !Region.binds .any e || e.on < i

def dstOk (N : Nat) : Option Nat → Bool
  | none => true
  | some d => d < N

/-- The temporaries that an operation looks at, its guard's too. -/
def looks (ops : List Oper) (o : Oper) : List Nat :=
  (o.op.operands.toList.filterMap fun | .tmp t => some t | _ => none) ++
    (match o.guard with | some (g, _) => (match (ops[g]?).bind (·.dst) with | some d => [d] | none => []) | none => [])

/-- Operation x, ahead of operation y in the text, and not known to come ahead of it: do they leave one another's temporaries alone? -/
def apartS (x y : RStep) : Bool :=
  (match x.dst with | some d => !y.look.contains d && y.dst != some d | none => true) &&
  (match y.dst with | some d => !x.look.contains d | none => true)

def rguard (ops : List Oper) (o : Oper) : Option (Option (Nat × Bool)) :=
  match o.guard with
  | none => some none
  | some (g, want) => match ops[g]? with
    | some og => match og.dst with
      | some d => some (some (d, want))
      | none => none
    | none => none

def rregion (P : Program) (N : Nat) (all : List Oper) : List Oper → List Nat → Option (List RStep)
  | [], _ => some []
  | o :: rest, pres => match rguard all o, rop P o.op with
    | some g, some r => if dstOk N o.dst then
        match rregion P N all rest (pres ++ [preOf pres o]) with
        | some l => some ({ dst := o.dst, guard := g, pre := preOf pres o, look := looks all o, op := r } :: l)
        | none => none
      else none
    | _, _ => none

/-- All that a region whose order is drawn is asked statically. -/
def drawOk (ops : List Oper) (l : List RStep) : Bool :=
  (List.range ops.length).all fun j => match ops[j]?, l[j]? with
    | some oj, some sj => okEdges oj j && (List.range j).all fun i => match l[i]? with
      | some si => sj.pre.testBit i || apartS si sj
      | none => false
    | _, _ => false

def rcode (P : Program) (N : Nat) : Code → Option RCode
  | .skip => some .skip
  | .label _ => some .skip
  | .scope c => rcode P N c
  | .region _ ops false => match rregion P N ops.toList ops.toList [] with
    | some l => some (.region l)
    | none => none
  | .region _ ops true => match rregion P N ops.toList ops.toList [] with
    | some l => if drawOk ops.toList l then some (.draw l) else none
    | none => none
  | .seq a b => match rcode P N a, rcode P N b with
    | some a, some b => some (.seq a b)
    | _, _ => none
  | .cond c a b => match rxc c, rcode P N a, rcode P N b with
    | some c, some a, some b => some (.cond c a b)
    | _, _, _ => none
  | .block id b => match rcode P N b with
    | some b => some (.block id b)
    | none => none
  | .loop b => match rcode P N b with
    | some b => some (.loop b)
    | none => none
  | .exit id => some (.exit id)
  | .ret => some .ret
  | _ => none

def rres (P : Program) : List ResultVar → Option (List (Nat × Option (Option Nat)))
  | [] => some []
  | .tmp t :: l => match rres P l with
    | some r => some ((t, none) :: r)
    | none => none
  | .cell t ty :: l => match aggK P ty, rres P l with
    | some k, some r => some ((t, some k) :: r)
    | _, _ => none

def rfunc (P : Program) (fn : Func) : Option RFunc :=
  match fn.body with
  | none => none
  | some c => match rcode P fn.ntmps c, rres P fn.results.toList with
    | some body, some res => if fn.name == "runtime.NumGoroutine" then none else if fn.params.size + fn.nfree ≤ fn.ntmps then some ⟨body, res⟩ else none
    | _, _ => none

def rfn (P : Program) (f : FuncId) : Option RFunc :=
  match P.funcs[f]? with
  | some fn => rfunc P fn
  | none => none

/-- What is known of functions: one that takes nothing is a bool, and turns nothing; one sorts integers. -/
inductive OrcK where
  | word (b : Bool)
  | sort

abbrev Orc := FuncId → Option OrcK

def noOrc : Orc := fun _ => none

def intsOf : List Value → Option (List Int)
  | [] => some []
  | .int .i64 n :: l => match intsOf l with
    | some r => some (n :: r)
    | none => none
  | _ => none

def sortV (v : Value) (W : CW) : Option CW :=
  match v with
  | .slice q n c => if n = 0 then some W else
    match q with
    | some ⟨b, off, _⟩ => match W.get b with
      | some (.row cs true) => match cut off n cs with
        | some l => match intsOf l with
          | some zs => match puts cs off ((zs.mergeSort fun x y => decide (x ≤ y)).map (.int .i64)) with
            | some cs' => if n ≤ 2 ^ 40 then some (W.putR b cs' off n) else none
            | none => none
          | none => none
        | none => none
      | _ => none
    | none => none
  | _ => none

def sortR (r : Option CW) : Option (Value × CW) :=
  match r with
  | some W => some (.tuple #[], W)
  | none => none

def ask (orc : Orc) (f : FuncId) (args : List Value) (W : CW) : Option (Option (Value × CW)) :=
  match orc f, args with
  | some (.word b), [] => some (some (.bool b, W))
  | some .sort, [v] => some (sortR (sortV v W))
  | _, _ => none

def rcall (P : Program) (orc : Orc) : Nat → FuncId → List Value → CW → Option (Value × CW)
  | 0, _, _, _ => none
  | n + 1, f, args, W => match ask orc f args W with
    | some r => r
    | none => match rfn P f with
      | none => none
      | some R => match rexec P (rcall P orc n) (n + 1) R.body (params 0 args .nil) W with
        | some (.exit _, _, _) => none
        | some (_, a, W') => match resultsL a W' R.res with
          | some vs => some (resultOf vs, W')
          | none => none
        | none => none

end Go.Can
