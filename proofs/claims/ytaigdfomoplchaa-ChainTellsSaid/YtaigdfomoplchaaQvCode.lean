/- Loaded code, its static parts worked in. -/
import Derived.Test.YtaigdfomoplchaaQvOp
import Derived.Test.YtaigdfomoplchaaQvRun
set_option linter.unusedSimpArgs false
set_option linter.unusedVariables false
set_option linter.unusedSectionVars false
namespace Go.Q

def fits (N : Nat) : Option Nat → Bool
  | some d => d < N
  | none => true

def cOper (P : Program) (N : Nat) (ops : Array Oper) (o : Oper) : Option AOp :=
  match cOp P o with
  | none => none
  | some ai =>
    if fits N o.dst then
      match o.guard with
      | none => some ⟨o.dst, none, ai⟩
      | some (j, want) => match (ops[j]?).bind (·.dst) with
        | some t => some ⟨o.dst, some (t, want), ai⟩
        | none => none
    else none

/-- The operands of an operation. -/
def AI.opds : AI → List Opd
  | .mov x | .box x | .load _ _ x | .nilck x | .eqN _ x | .eqF _ x | .un _ x | .conv _ x | .mksl _ _ _ x | .faddr x _ | .fld _ _ _ x | .ext x _ | .len x | .lenS x | .mkif _ x => [x]
  | .pick c a b => [c, a, b]
  | .alloc _ => []
  | .build _ ps => ps.map (·.2.2)
  | .lit _ es | .mkfn _ es | .min es | .max es | .call _ es => es
  | .callv g es => g :: es
  | .store _ x y | .bin _ x y | .eqB _ x y | .eqA _ _ x y | .iaddr _ x y | .iaddrA _ _ x y | .idxA _ _ _ x y | .idxS x y | .append _ _ x y => [x, y]
  | .slice _ x l h | .sliceS x l h => x :: (l.toList ++ h.toList)

/-- Does it neither look at the store nor change it? -/
def AI.pure : AI → Bool
  | .mov _ | .nilck _ | .eqN .. | .eqF .. | .un .. | .conv .. | .faddr .. | .fld .. | .ext .. | .len _ | .lenS _ | .mkif .. | .pick .. | .build .. | .mkfn .. | .min _ | .max _
  | .bin .. | .eqB .. | .eqA .. | .iaddr .. | .iaddrA .. | .idxA .. | .idxS .. | .slice .. | .sliceS .. => true
  | _ => false

def AI.lays (own : Nat → Bool) : AI → Bool
  | .alloc _ | .box _ | .lit .. | .mksl .. | .append .. => true
  | .call f _ => own f
  | _ => false

def AOp.reads (o : AOp) : List Nat := (o.op.opds.filterMap fun x => match x with | .tmp t => some t | .con _ => none) ++ (match o.guard with | some (t, _) => [t] | none => [])

/-- What must come earlier, for each operation: as bits. -/
def cBef (ops : List Oper) : Option (List Nat) :=
  let go := ops.foldl (init := some ([] : List Nat)) fun acc o => acc.bind fun (l : List Nat) =>
    let i := l.length
    (o.after.toList.foldl (init := some 0) fun (m : Option Nat) e => m.bind fun m =>
      if Region.binds .any e then (l[e.on]?).map fun m' => m ||| m' ||| (1 <<< e.on) else some m).map fun m => l ++ [m]
  go

def apart (bef : List Nat) (i j : Nat) : Bool := !((bef[i]?).getD 0).testBit j && !((bef[j]?).getD 0).testBit i

def meets : Option Nat → List Nat → Bool
  | some d, l => l.contains d
  | none, _ => false

def DOp.calm (d : DOp) : Bool := !d.pure && !d.wr

/-- May these two, the first listed ahead, come in either order? -/
def pairOk (a b : DOp) : Bool :=
  !meets a.o.dst b.o.reads && !meets b.o.dst a.o.reads && !(meets a.o.dst b.o.dst.toList) && (!a.wr || b.pure) && (!b.wr || a.pure) &&
  (!(b.calm && a.lays) || b.hid.contains a.rank) && (!(a.calm && b.lays) || a.hid.contains b.rank)

/-- Is the table of what comes earlier closed? -/
def befOk (bef : List Nat) (ops : List Oper) : Bool :=
  ops.zipIdx.all fun (o, i) => (o.after.toList.all fun e => !Region.binds .any e || e.on < i) && (List.range ops.length).all fun j => !((bef[i]?).getD 0).testBit j ||
    (j < i && o.after.toList.any fun e => Region.binds .any e && (e.on == j || ((bef[e.on]?).getD 0).testBit j))

/-- Is every pair that may come in either order fit for it, and are the ranks in order? -/
def okDraw (bef : List Nat) (tot : Nat) : List DOp → Nat → Bool
  | [], _ => true
  | d :: ds, i => (d.rank + (if d.lays then 1 else 0) ≤ tot) && (!d.pure || (d.o.op.pure && !d.lays)) &&
      (ds.zipIdx.all fun (b, k) => (d.rank + (if d.lays then 1 else 0) ≤ b.rank) && (!apart bef i (i + 1 + k) || pairOk d b)) && okDraw bef tot ds (i + 1)

/-- A constant that speaks of no object. -/
def V.plain1 : V → Bool
  | .int .. | .bool _ | .str _ | .nilS | .nilP | .nilF | .nilI | .fn _ [] => true
  | _ => false
def V.plain : V → Bool
  | .agg cs => cs.all V.plain1
  | v => v.plain1

/-- Must everything behind h come later than everything ahead of it? -/
def bar (bef : List Nat) (n h : Nat) : Bool := (List.range n).all fun j => j < h || (List.range h).all fun i => ((bef[j]?).getD 0).testBit i

/-- Operations that draw their order, from number lo on. -/
def mkWin (bef : List Nat) (own : Nat → Bool) (lo : Nat) (os : List AOp) : List DOp × Nat :=
  let n := os.length
  let pu := os.map fun o => o.op.pure
  let la := os.map fun o => o.op.lays own
  let at' := fun (l : List Bool) i => (l[i]?).getD false
  let ap := fun i j => apart bef (lo + i) (lo + j)
  let rank := fun i => ((la.take i).filter id).length
  let wr := os.zipIdx.map fun (o, i) => match o.op with
    | .store .. => true
    | .append .. => (List.range n).all fun j => j == i || !ap i j || at' pu j
    | _ => false
  (os.zipIdx.map fun (o, i) =>
    (⟨o, at' pu i, at' wr i, at' la i, rank i, (if at' pu i || at' wr i then [] else ((List.range n).filter fun j => j != i && ap i j && at' la j).map rank)⟩ : DOp),
   (la.filter id).length)

/-- How many, from number h on, come one by one. -/
def ones (bef : List Nat) (n : Nat) : Nat → Nat → Nat
  | 0, _ => 0
  | k + 1, h => if h < n && bar bef n (h + 1) then ones bef n k (h + 1) + 1 else 0

/-- How many, from number h on, up to the next place that everything behind waits for, with one behind it. -/
def some' (bef : List Nat) (n : Nat) : Nat → Nat → Nat
  | 0, _ => 0
  | k + 1, h => if bar bef n h && bar bef n (h + 1) then 0 else some' bef n k (h + 1) + 1

def okOps (ops : List Oper) (os : List AOp) : Bool :=
  (ops.zip os).all (fun p => p.1.op.operands.toList.all fun x => match x with | .tmp t => p.2.reads.contains t | _ => true) &&
  os.all (fun o => o.op.opds.all fun x => match x with | .con v => v.plain | .tmp _ => true)

def mkSegs (bef : List Nat) (own : Nat → Bool) (n : Nat) : Nat → Nat → List AOp → Option (List Seg)
  | 0, _, os => if os.isEmpty then some [] else none
  | k + 1, lo, os => if os.isEmpty then some [] else
    let m := some' bef n (n - lo) lo
    let p := ones bef n (n - (lo + m)) (lo + m)
    let w := mkWin bef own lo (os.take m)
    if 0 < m + p && m + p ≤ os.length && bar bef n (lo + m) && okDraw bef w.2 w.1 lo && (List.range p).all (fun i => bar bef n (lo + m + (i + 1))) then
      (mkSegs bef own n k (lo + m + p) (os.drop (m + p))).map fun gs => ⟨w.1, w.2, (os.drop m).take p⟩ :: gs
    else none

/-- Operations that draw their order, part by part. -/
def cDraw (P : Program) (N : Nat) (own : Nat → Bool) (ops : Array Oper) : Option (List Seg) := do
  let bef ← cBef ops.toList
  let os ← ops.toList.mapM (cOper P N ops)
  if befOk bef ops.toList && okOps ops.toList os then mkSegs bef own os.length (os.length + 1) 0 os else none

def cCode (P : Program) (N : Nat) (own : Nat → Bool) : Code → Option AC
  | .skip => some .skip
  | .label _ => some .skip
  | .scope c => cCode P N own c
  | .exit id => some (.exit id)
  | .ret => some .ret
  | .seq a b => do some (.seq (← cCode P N own a) (← cCode P N own b))
  | .cond c a b => do some (.cond (← cOpd c) (← cCode P N own a) (← cCode P N own b))
  | .block id c => (cCode P N own c).map (.block id)
  | .loop c => (cCode P N own c).map .loop
  | .region _ ops draw =>
    if draw then (cDraw P N own ops).map .regd else (ops.toList.mapM (cOper P N ops)).map .reg
  | .rangeFunc g ps a b => do
    let g' ← cOpd g
    let a' ← cCode P N own a
    let b' ← cCode P N own b
    if ps.toList.all (· < N) then some (.rangeF g' ps.toList a' b') else none
  | _ => none

def cRes (P : Program) : ResultVar → Option Res
  | .tmp t => some (.tmp t)
  | .cell a ty => do
    let i ← ti P ty
    if i.agg || i.size == 1 then some (.cell a i.agg i.size) else none

def cFunc (P : Program) (own : Nat → Bool) (f : Func) : Option Fn := do
  let c ← f.body
  let b ← cCode P f.ntmps own c
  let rs ← f.results.toList.mapM (cRes P)
  if f.params.size + f.nfree ≤ f.ntmps then some ⟨f.params.size + f.nfree, f.ntmps, rs, b⟩ else none

end Go.Q
