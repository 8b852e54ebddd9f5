/- Values, stores and small steps of a plain evaluator of loaded Go code; no program in sight. -/
import GoSem.Dispatch
import Derived.Laws.Sem
import Derived.Laws.World
set_option linter.unusedSimpArgs false
set_option linter.unusedVariables false
set_option linter.unusedSectionVars false
namespace Go.Q

/-- Values: trees (`sl`, `box`: memory that never changes again) and references (`ref`, `ptr`) into rows of the store; `own`: what a call hands back for its caller alone. -/
inductive V where
  | int (k : IntKind) (n : Int)
  | bool (b : Bool)
  | str (s : ByteArray)
  | nilS
  | sl (sz : Nat) (xs : List V)
  | own (sz : Nat) (xs : List V)
  | ref (id off len sz : Nat)
  | agg (cs : List V)
  | tup (cs : List V)
  | nilP
  | ptr (id sz i j : Nat)
  | box (cs : List V)
  | fn (f : Nat) (caps : List V)
  | yld (l : Nat)
  | nilF
  | iface (t : Nat) (v : V)
  | nilI
  | undef
  deriving Inhabited

def V.cells : V → List V
  | .agg cs => cs
  | v => [v]

/-- May it lie in one cell? -/
def V.one : V → Bool
  | .agg _ | .tup _ | .undef | .yld _ | .own .. => false
  | _ => true

/-- Kinds of cells that may be held against each other. -/
inductive CK where
  | int | bool | str
  deriving DecidableEq

/-- Operands. -/
inductive Opd where
  | tmp (t : Nat)
  | con (v : V)

/-- Operations, all that is static worked in. -/
inductive AI where
  | mov (x : Opd)
  | pick (c a b : Opd)
  | alloc (e : V)
  | box (x : Opd)
  | build (z : List V) (ps : List (Nat × Nat × Opd))
  | lit (sz : Nat) (es : List Opd)
  | load (agg : Bool) (sz : Nat) (x : Opd)
  | store (sz : Nat) (x v : Opd)
  | nilck (x : Opd)
  | bin (op : BinOp) (x y : Opd)
  | eqB (neg : Bool) (x y : Opd)
  | eqA (neg : Bool) (ks : List CK) (x y : Opd)
  | eqN (neg : Bool) (x : Opd)
  | eqF (neg : Bool) (x : Opd)
  | un (op : UnOp) (x : Opd)
  | conv (k : IntKind) (x : Opd)
  | mkfn (f : Nat) (caps : List Opd)
  | mksl (sz bytes : Nat) (e : V) (len : Opd)
  | slice (sz : Nat) (x : Opd) (lo hi : Option Opd)
  | sliceS (x : Opd) (lo hi : Option Opd)
  | faddr (x : Opd) (off : Nat)
  | fld (agg : Bool) (sz off : Nat) (x : Opd)
  | iaddr (sz : Nat) (x i : Opd)
  | iaddrA (n es : Nat) (x i : Opd)
  | idxA (agg : Bool) (n es : Nat) (x i : Opd)
  | idxS (x i : Opd)
  | ext (x : Opd) (i : Nat)
  | len (x : Opd)
  | lenS (x : Opd)
  | min (xs : List Opd)
  | max (xs : List Opd)
  | append (sz bytes : Nat) (x y : Opd)
  | mkif (t : Nat) (x : Opd)
  | call (f : Nat) (args : List Opd)
  | callv (g : Opd) (args : List Opd)

structure AOp where
  dst : Option Nat
  guard : Option (Nat × Bool)
  op : AI

/-- An operation of a region that draws its order: does it touch the store, write what was there, lay objects; how many ahead of it lay objects; the ranks that it must not see. -/
structure DOp where
  o : AOp
  pure : Bool
  wr : Bool
  lays : Bool
  rank : Nat
  hid : List Nat

/-- A part of a region that draws its order: some operations in whatever order that fits, the room for what they lay, then some one by one. -/
structure Seg where
  ds : List DOp
  lays : Nat
  ops : List AOp

inductive AC where
  | skip
  | reg (ops : List AOp)
  | regd (segs : List Seg)
  | seq (a b : AC)
  | cond (x : Opd) (a b : AC)
  | block (id : Nat) (c : AC)
  | loop (c : AC)
  | rangeF (g : Opd) (ps : List Nat) (assign body : AC)
  | exit (id : Nat)
  | ret

/-- How code is left. -/
inductive Ex where
  | normal
  | exit (id : Nat)
  | ret
  deriving DecidableEq

inductive LSt where
  | ready | busy | done
  deriving DecidableEq

/-- What the store holds: rows of elements; the records of loops over functions. -/
inductive Ob where
  | row (sz : Nat) (xs : List V)
  | loop (env : Nat → V) (ps : List Nat) (assign body : AC) (st : LSt) (pend : Option Ex)

abbrev Sto := Nat → Option Ob

def Sto.empty : Sto := fun _ => none
def upd (σ : Sto) (id : Nat) (o : Option Ob) : Sto := fun i => if i = id then o else σ i

structure St where
  env : Nat → V
  σ : Sto
  n : Nat
  lk : Nat

def St.val (s : St) : Opd → V
  | .tmp t => s.env t
  | .con v => v

def St.put (s : St) (d : Option Nat) (v : V) : St :=
  match d with
  | some d => { s with env := fun t => if t = d then v else s.env t }
  | none => s

/-- A pure run of the model's own operation on numbers, bools and strings. -/
def pureV : Sem Value → Option V
  | .pure (.int k n) => some (.int k n)
  | .pure (.bool b) => some (.bool b)
  | .pure (.string s) => some (.str s)
  | _ => none

def binV (op : BinOp) : V → V → Option V
  | .int k a, .int k' b => pureV (Go.binOp op 0 (.int k a) (.int k' b))
  | .str a, .str b => pureV (Op.stringOp op a b)
  | _, _ => none

def unV (op : UnOp) : V → Option V
  | .int k a => pureV (Op.unary op (.int k a))
  | .bool b => pureV (Op.unary op (.bool b))
  | _ => none

/-- Equality of two cells that are numbers, bools or strings. -/
def eqCell : CK → V → V → Option Bool
  | .int, .int k a, .int k' b => if k = k' then some (a == b) else none
  | .bool, .bool a, .bool b => some (a == b)
  | .str, .str a, .str b => some (a == b)
  | _, _, _ => none

def eqCells : List CK → List V → List V → Option Bool
  | [], [], [] => some true
  | k :: ks, x :: xs, y :: ys => (eqCell k x y).bind fun b => (eqCells ks xs ys).map fun c => b && c
  | _, _, _ => none

/-- Element i of a row, from its cell j on: s cells. -/
def loadC (agg : Bool) (s : Nat) (cs : List V) : Option V :=
  if agg then (if s ≤ cs.length then some (.agg (cs.take s)) else none) else cs.head?

def rowAt (σ : Sto) (id sz i : Nat) : Option V :=
  match σ id with
  | some (.row sz' xs) => if sz' = sz then xs[i]? else none
  | _ => none

def spliceC (x : V) (j : Nat) (cs : List V) : V :=
  match x with
  | .agg old => .agg (old.take j ++ cs ++ old.drop (j + cs.length))
  | _ => match cs with | [c] => c | _ => .agg cs

def partsOf (ρ : Opd → V) : List V → List (Nat × Nat × Opd) → Option (List V)
  | z, [] => some z
  | z, (off, size, x) :: ps =>
    let cs := (ρ x).cells
    if cs.length = size ∧ off + size ≤ z.length then partsOf ρ (z.take off ++ cs ++ z.drop (off + size)) ps else none

def intOf : V → Option Int
  | .int _ n => some n
  | _ => none

def boundOf (ρ : Opd → V) (o : Option Opd) (d : Nat) (most : Nat) : Option Nat :=
  match o with
  | none => some d
  | some x => match intOf (ρ x) with
    | some n => if 0 ≤ n ∧ n ≤ most then some n.toNat else none
    | none => none

/-- The elements of a slice, as they are now. -/
def elems (σ : Sto) (sz : Nat) : V → Option (List V)
  | .nilS => some []
  | .sl sz' xs => if sz' = sz then some xs else none
  | .ref id off len sz' => match σ id with
    | some (.row sz'' xs) => if sz' = sz ∧ sz'' = sz ∧ off + len ≤ xs.length then some ((xs.drop off).take len) else none
    | _ => none
  | _ => none

def lenOf : V → Option Nat
  | .nilS => some 0
  | .sl _ xs => some xs.length
  | .ref _ _ len _ => some len
  | _ => none

def minV (a b : V) : Option V := match a, b with
  | .int k x, .int _ y => some (.int k (if y < x then y else x))
  | _, _ => none
def maxV (a b : V) : Option V := match a, b with
  | .int k x, .int _ y => some (.int k (if x < y then y else x))
  | _, _ => none

/-- How many bytes a row may come to. -/
def LIM : Nat := 160000000000000

/-- One operation that is no call: its value, the store, the counter. -/
def ev (ρ : Opd → V) (σ : Sto) (n lk : Nat) : AI → Option (V × Sto × Nat)
  | .mov x => some (ρ x, σ, n)
  | .pick c a b => match ρ c with
    | .bool t => some (if t then ρ a else ρ b, σ, n)
    | _ => none
  | .alloc e => some (.ptr n e.cells.length 0 0, upd σ n (some (.row e.cells.length [e])), n + 1)
  | .box x => if (ρ x).cells.all V.one then some (.ptr n (ρ x).cells.length 0 0, upd σ n (some (.row (ρ x).cells.length [ρ x])), n + 1) else none
  | .build z ps => (partsOf ρ z ps).map fun cs => (.agg cs, σ, n)
  | .lit sz es =>
    if es.all (fun x => (ρ x).cells.length = sz && (ρ x).cells.all V.one) then
      some (.ref n 0 es.length sz, upd σ n (some (.row sz (es.map ρ))), n + 1)
    else none
  | .load agg s x => match ρ x with
    | .ptr id sz i j => (rowAt σ id sz i).bind fun e => (loadC agg s (e.cells.drop j)).map fun v => (v, σ, n)
    | .box cs => (loadC agg s cs).map fun v => (v, σ, n)
    | _ => none
  | .store s x v => match ρ x with
    | .ptr id sz i j =>
      match σ id with
      | some (.row sz' xs) =>
        match xs[i]? with
        | some e =>
          if sz' = sz ∧ lk ≤ id ∧ 0 < s ∧ (ρ v).cells.length = s ∧ (ρ v).cells.all V.one = true ∧ j + s ≤ sz then
            some (.undef, upd σ id (some (.row sz (xs.set i (spliceC e j (ρ v).cells)))), n)
          else none
        | none => none
      | _ => none
    | _ => none
  | .nilck x => match ρ x with
    | .ptr id sz i j => some (.ptr id sz i j, σ, n)
    | .box cs => some (.box cs, σ, n)
    | .fn f caps => some (.fn f caps, σ, n)
    | _ => none
  | .bin op x y => (binV op (ρ x) (ρ y)).map fun v => (v, σ, n)
  | .eqB neg x y => match ρ x, ρ y with
    | .bool a, .bool b => some (.bool ((a == b) != neg), σ, n)
    | _, _ => none
  | .eqA neg ks x y => match ρ x, ρ y with
    | .agg xs, .agg ys => (eqCells ks xs ys).map fun (b : Bool) => (.bool (b != neg), σ, n)
    | _, _ => none
  | .eqN neg x => match ρ x with
    | .nilS => some (.bool (!neg), σ, n)
    | .sl .. | .ref .. => some (.bool neg, σ, n)
    | _ => none
  | .eqF neg x => match ρ x with
    | .nilF => some (.bool (!neg), σ, n)
    | .fn .. => some (.bool neg, σ, n)
    | _ => none
  | .un op x => (unV op (ρ x)).map fun v => (v, σ, n)
  | .conv k x => match ρ x with
    | .int _ a => some (.int k (k.wrap a), σ, n)
    | _ => none
  | .mkfn f caps => some (.fn f (caps.map ρ), σ, n)
  | .mksl sz bytes e len => match ρ len with
    | .int .i64 l => if 0 ≤ l ∧ bytes * l ≤ 140737488355328 ∧ e.cells.length = sz then
        some (.ref n 0 l.toNat sz, upd σ n (some (.row sz (List.replicate l.toNat e))), n + 1) else none
    | _ => none
  | .slice sz x lo hi => match ρ x with
    | .nilS => (boundOf ρ hi 0 0).bind fun h => (boundOf ρ lo 0 h).bind fun l => if l = 0 ∧ h = 0 then some (.nilS, σ, n) else none
    | .sl sz' xs => (boundOf ρ hi xs.length xs.length).bind fun h => (boundOf ρ lo 0 h).bind fun l =>
        if sz' = sz then some (.sl sz ((xs.take h).drop l), σ, n) else none
    | .ref id off len sz' => (boundOf ρ hi len len).bind fun h => (boundOf ρ lo 0 h).bind fun l =>
        if sz' = sz then some (.ref id (off + l) (h - l) sz, σ, n) else none
    | _ => none
  | .sliceS x lo hi => match ρ x with
    | .str s => (boundOf ρ hi s.size s.size).bind fun h => (boundOf ρ lo 0 h).bind fun l => some (.str (s.extract l h), σ, n)
    | _ => none
  | .faddr x off => match ρ x with
    | .ptr id sz i j => some (.ptr id sz i (j + off), σ, n)
    | .box cs => some (.box (cs.drop off), σ, n)
    | _ => none
  | .fld agg s off x => match ρ x with
    | .agg cs => (loadC agg s (cs.drop off)).map fun v => (v, σ, n)
    | _ => none
  | .iaddr sz x i => match ρ x, ρ i with
    | .sl sz' xs, .int _ k => if 0 ≤ k ∧ sz' = sz then (xs[k.toNat]?).map fun e => (.box e.cells, σ, n) else none
    | .ref id off len sz', .int _ k => if 0 ≤ k ∧ k < len ∧ sz' = sz then some (.ptr id sz (off + k.toNat) 0, σ, n) else none
    | _, _ => none
  | .iaddrA m es x i => match ρ x, ρ i with
    | .ptr id sz e j, .int _ k => if 0 ≤ k ∧ k < m then some (.ptr id sz e (j + k.toNat * es), σ, n) else none
    | .box cs, .int _ k => if 0 ≤ k ∧ k < m then some (.box (cs.drop (k.toNat * es)), σ, n) else none
    | _, _ => none
  | .idxA agg m es x i => match ρ x, ρ i with
    | .agg cs, .int _ k => if 0 ≤ k ∧ k < m then (loadC agg es (cs.drop (k.toNat * es))).map fun v => (v, σ, n) else none
    | _, _ => none
  | .idxS x i => match ρ x, ρ i with
    | .str s, .int _ k => if 0 ≤ k then (s[k.toNat]?).map fun b => (.int .u8 b.toNat, σ, n) else none
    | _, _ => none
  | .ext x i => match ρ x with
    | .tup vs => (vs[i]?).map fun v => (v, σ, n)
    | _ => none
  | .len x => (lenOf (ρ x)).map fun (l : Nat) => (.int .i64 (l : Int), σ, n)
  | .lenS x => match ρ x with
    | .str s => some (.int .i64 s.size, σ, n)
    | _ => none
  | .min xs => match xs.map ρ with
    | x :: ys => (ys.foldlM minV x).map fun v => (v, σ, n)
    | [] => none
  | .max xs => match xs.map ρ with
    | x :: ys => (ys.foldlM maxV x).map fun v => (v, σ, n)
    | [] => none
  | .append sz bytes x y =>
    match elems σ sz (ρ y) with
    | none => none
    | some ys =>
      match ρ x with
      | .nilS => if ys.isEmpty then some (.nilS, σ, n) else
        if ys.length * bytes ≤ LIM then some (.ref n 0 ys.length sz, upd σ n (some (.row sz ys)), n + 1) else none
      | .ref id off len sz' => match σ id with
        | some (.row sz'' xs) =>
          if sz' = sz ∧ sz'' = sz ∧ off = 0 ∧ len = xs.length ∧ lk ≤ id ∧ (len + ys.length) * bytes ≤ LIM then
            some (.ref n 0 (len + ys.length) sz, upd (upd σ id none) n (some (.row sz (xs ++ ys))), n + 1)
          else none
        | _ => none
      | _ => none
  | .mkif t x => some (.iface t (ρ x), σ, n)
  | .call .. | .callv .. => none

end Go.Q
