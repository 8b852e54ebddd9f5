/- Values, stores and small steps of a plain evaluator of loaded Go code; no program in sight. -/
import GoSem.Dispatch
import Derived.Laws.Sem
import Derived.Laws.World
import Derived.Below
import Derived.IntWalk
import Derived.Laws.StructEq
import Derived.ChangeKeysEq
set_option linter.unusedVariables false
set_option linter.unusedSimpArgs false
set_option linter.unusedSectionVars false
set_option linter.defProp false
section
namespace Go.Q
inductive V where
 | int (k : IntKind) (n : Int)
 | bool (b : Bool)
 | str (s : ByteArray)
 | nilS
 | sl (sz : Nat) (xs : List V)
 | own (sz : Nat) (xs : List V)
 | ref (id off len sz : Nat)
 | agg (cs : List V)
 | tup (cs : List V)
 | nilP
 | ptr (id sz i j : Nat)
 | box (cs : List V)
 | fn (f : Nat) (caps : List V)
 | bnd (f : Nat) (fs : List V)
 | yld (l : Nat)
 | nilF
 | iface (t : Nat) (v : V)
 | nilI
 | nilM
 | mp (id : Nat)
 | it (id : Nat)
 | undef
 deriving Inhabited
def V.cells : V → List V
 | .agg cs => cs
 | v => [v]
def V.one : V → Bool
 | .agg _ | .tup _ | .undef | .own .. => false
 | _ => true
inductive CK where
 | int | bool | str
 deriving DecidableEq
inductive KK where
 | one (k : CK)
 | agg (ks : List CK)
 deriving DecidableEq
inductive Opd where
 | tmp (t : Nat)
 | con (v : V)
inductive AI where
 | mov (x : Opd)
 | pick (c a b : Opd)
 | alloc (e : V)
 | box (x : Opd)
 | build (z : List V) (ps : List (Nat × Nat × Opd))
 | lit (sz : Nat) (es : List Opd)
 | load (agg : Bool) (sz : Nat) (x : Opd)
 | store (sz : Nat) (x v : Opd)
 | nilck (x : Opd)
 | bin (op : BinOp) (x y : Opd)
 | eqB (neg : Bool) (x y : Opd)
 | eqA (neg : Bool) (ks : List CK) (x y : Opd)
 | eqN (neg : Bool) (x : Opd)
 | eqF (neg : Bool) (x : Opd)
 | un (op : UnOp) (x : Opd)
 | conv (k : IntKind) (x : Opd)
 | mkfn (f : Nat) (caps : List Opd)
 | mkbnd (f : Nat) (fs : List Opd)
 | mksl (sz bytes : Nat) (e : V) (len : Opd)
 | slice (sz : Nat) (x : Opd) (lo hi : Option Opd)
 | sliceS (x : Opd) (lo hi : Option Opd)
 | faddr (x : Opd) (off : Nat)
 | fld (agg : Bool) (sz off : Nat) (x : Opd)
 | iaddr (sz : Nat) (x i : Opd)
 | iaddrA (n es : Nat) (x i : Opd)
 | idxA (agg : Bool) (n es : Nat) (x i : Opd)
 | idxS (x i : Opd)
 | ext (x : Opd) (i : Nat)
 | len (x : Opd)
 | lenS (x : Opd)
 | min (xs : List Opd)
 | max (xs : List Opd)
 | append (sz bytes : Nat) (x y : Opd)
 | mkif (t : Nat) (x : Opd)
 | tas (ok : Bool) (t : Nat) (z : V) (x : Opd)
 | slice3 (sz : Nat) (x : Opd) (lo : Option Opd) (hi mx : Opd)
 | call (f : Nat) (args : List Opd)
 | callv (g : Opd) (args : List Opd)
 | inv (x : Opd) (tbl : List (Nat × Nat × Option (Bool × Nat × Nat))) (args : List Opd)
 | mkmap
 | mupd (kk : KK) (m k v : Opd)
 | mget (ok : Bool) (kk : KK) (z : V) (m k : Opd)
 | ment (kk : KK) (z : V) (m k : Opd)
 | mest (m s v : Opd)
 | mlen (m : Opd)
 | mdel (kk : KK) (m k : Opd)
 | range (m : Opd)
 | next (it : Opd)
 | entry (it : Opd)
 | prim (f : Nat) (args : List Opd)
structure AOp where
 dst : Option Nat
 guard : Option (Nat × Bool)
 op : AI
structure DOp where
 o : AOp
 pure : Bool
 wr : Bool
 lays : Bool
 rank : Nat
 hid : List Nat
 low : Option Nat
structure Seg where
 ds : List DOp
 lays : Nat
 ops : List AOp
inductive AC where
 | skip
 | reg (ops : List AOp)
 | regd (segs : List Seg)
 | seq (a b : AC)
 | cond (x : Opd) (a b : AC)
 | block (id : Nat) (c : AC)
 | loop (c : AC)
 | rangeF (g : Opd) (ps : List Nat) (assign body : AC)
 | exit (id : Nat)
 | ret
inductive Ex where
 | normal
 | exit (id : Nat)
 | ret
 deriving DecidableEq
inductive LSt where
 | ready | busy | done
 deriving DecidableEq
inductive Ob where
 | row (sz : Nat) (xs : List V)
 | loop (env : Nat → V) (ps : List Nat) (assign body : AC) (st : LSt) (pend : Option Ex)
 | map (es : List (V × V × Nat)) (clk : Nat)
 | iter (m since : Nat) (seen : List Nat) (last : Nat)
abbrev Sto := Nat → Option Ob
def Sto.empty : Sto := fun _ => none
def upd (σ : Sto) (id : Nat) (o : Option Ob) : Sto := fun i => if i = id then o else σ i
structure St where
 env : Nat → V
 σ : Sto
 n : Nat
 lk : Nat
def St.val (s : St) : Opd → V
 | .tmp t => s.env t
 | .con v => v
def St.put (s : St) (d : Option Nat) (v : V) : St :=
 match d with
 | some d => { s with env := fun t => if t = d then v else s.env t }
 | none => s
def pureV : Sem Value → Option V
 | .pure (.int k n) => some (.int k n)
 | .pure (.bool b) => some (.bool b)
 | .pure (.string s) => some (.str s)
 | _ => none
def binV (op : BinOp) : V → V → Option V
 | .int k a, .int k' b => pureV (Go.binOp op 0 (.int k a) (.int k' b))
 | .str a, .str b => pureV (Op.stringOp op a b)
 | _, _ => none
def unV (op : UnOp) : V → Option V
 | .int k a => pureV (Op.unary op (.int k a))
 | .bool b => pureV (Op.unary op (.bool b))
 | _ => none
def eqCell : CK → V → V → Option Bool
 | .int, .int k a, .int k' b => if k = k' then some (a == b) else none
 | .bool, .bool a, .bool b => some (a == b)
 | .str, .str a, .str b => some (a == b)
 | _, _, _ => none
def eqCells : List CK → List V → List V → Option Bool
 | [], [], [] => some true
 | k :: ks, x :: xs, y :: ys => (eqCell k x y).bind fun b => (eqCells ks xs ys).map fun c => b && c
 | _, _, _ => none
def eqKey : KK → V → V → Option Bool
 | .one k, x, y => eqCell k x y
 | .agg ks, .agg xs, .agg ys => eqCells ks xs ys
 | _, _, _ => none
def findE (kk : KK) (k : V) : List (V × V × Nat) → Nat → Option (Option Nat)
 | [], _ => some none
 | e :: es, i => (eqKey kk k e.1).bind fun b => if b then some (some i) else findE kk k es (i + 1)
def mapOf (σ : Sto) : V → Option (List (V × V × Nat))
 | .nilM => some []
 | .mp id => match σ id with
   | some (.map es _) => some es
   | _ => none
 | _ => none
def loadC (agg : Bool) (s : Nat) (cs : List V) : Option V :=
 if agg then (if s ≤ cs.length then some (.agg (cs.take s)) else none) else cs.head?
def rowAt (σ : Sto) (id sz i : Nat) : Option V :=
 match σ id with
 | some (.row sz' xs) => if sz' = sz then xs[i]? else none
 | _ => none
def spliceC (x : V) (j : Nat) (cs : List V) : V :=
 match x with
 | .agg old => .agg (old.take j ++ cs ++ old.drop (j + cs.length))
 | _ => match cs with | [c] => c | _ => .agg cs
def partsOf (ρ : Opd → V) : List V → List (Nat × Nat × Opd) → Option (List V)
 | z, [] => some z
 | z, (off, size, x) :: ps =>
   let cs := (ρ x).cells
   if cs.length = size ∧ off + size ≤ z.length then partsOf ρ (z.take off ++ cs ++ z.drop (off + size)) ps else none
def intOf : V → Option Int
 | .int _ n => some n
 | _ => none
def boundOf (ρ : Opd → V) (o : Option Opd) (d : Nat) (most : Nat) : Option Nat :=
 match o with
 | none => some d
 | some x => match intOf (ρ x) with
   | some n => if 0 ≤ n ∧ n ≤ most then some n.toNat else none
   | none => none
def elems (σ : Sto) (sz : Nat) : V → Option (List V)
 | .nilS => some []
 | .sl sz' xs => if sz' = sz then some xs else none
 | .ref id off len sz' => match σ id with
   | some (.row sz'' xs) => if sz' = sz ∧ sz'' = sz ∧ off + len ≤ xs.length then some ((xs.drop off).take len) else none
   | _ => none
 | _ => none
def lenOf : V → Option Nat
 | .nilS => some 0
 | .sl _ xs => some xs.length
 | .ref _ _ len _ => some len
 | _ => none
def minV (a b : V) : Option V := match a, b with
 | .int k x, .int _ y => some (.int k (if y < x then y else x))
 | _, _ => none
def maxV (a b : V) : Option V := match a, b with
 | .int k x, .int _ y => some (.int k (if x < y then y else x))
 | _, _ => none
def LIM : Nat := 160000000000000
def ev (ρ : Opd → V) (σ : Sto) (n lk : Nat) : AI → Option (V × Sto × Nat)
 | .mov x => some (ρ x, σ, n)
 | .pick c a b => match ρ c with
   | .bool t => some (if t then ρ a else ρ b, σ, n)
   | _ => none
 | .alloc e => some (.ptr n e.cells.length 0 0, upd σ n (some (.row e.cells.length [e])), n + 1)
 | .box x => if (ρ x).cells.all V.one then some (.ptr n (ρ x).cells.length 0 0, upd σ n (some (.row (ρ x).cells.length [ρ x])), n + 1) else none
 | .build z ps => (partsOf ρ z ps).map fun cs => (.agg cs, σ, n)
 | .lit sz es =>
   if es.all (fun x => (ρ x).cells.length = sz && (ρ x).cells.all V.one) then
    some (.ref n 0 es.length sz, upd σ n (some (.row sz (es.map ρ))), n + 1)
   else none
 | .load agg s x => match ρ x with
   | .ptr id sz i j => (rowAt σ id sz i).bind fun e => (loadC agg s (e.cells.drop j)).map fun v => (v, σ, n)
   | .box cs => (loadC agg s cs).map fun v => (v, σ, n)
   | _ => none
 | .store s x v => match ρ x with
   | .ptr id sz i j =>
     match σ id with
     | some (.row sz' xs) =>
       match xs[i]? with
       | some e =>
         if sz' = sz ∧ lk ≤ id ∧ 0 < s ∧ (ρ v).cells.length = s ∧ (ρ v).cells.all V.one = true ∧ j + s ≤ sz then
          some (.undef, upd σ id (some (.row sz (xs.set i (spliceC e j (ρ v).cells)))), n)
         else none
       | none => none
     | _ => none
   | _ => none
 | .nilck x => match ρ x with
   | .ptr id sz i j => some (.ptr id sz i j, σ, n)
   | .box cs => some (.box cs, σ, n)
   | .fn f caps => some (.fn f caps, σ, n)
   | _ => none
 | .bin op x y => (binV op (ρ x) (ρ y)).map fun v => (v, σ, n)
 | .eqB neg x y => match ρ x, ρ y with
   | .bool a, .bool b => some (.bool ((a == b) != neg), σ, n)
   | _, _ => none
 | .eqA neg ks x y => match ρ x, ρ y with
   | .agg xs, .agg ys => (eqCells ks xs ys).map fun (b : Bool) => (.bool (b != neg), σ, n)
   | _, _ => none
 | .eqN neg x => match ρ x with
   | .nilS => some (.bool (!neg), σ, n)
   | .sl .. | .ref .. => some (.bool neg, σ, n)
   | _ => none
 | .eqF neg x => match ρ x with
   | .nilF => some (.bool (!neg), σ, n)
   | .fn .. => some (.bool neg, σ, n)
   | _ => none
 | .un op x => (unV op (ρ x)).map fun v => (v, σ, n)
 | .conv k x => match ρ x with
   | .int _ a => some (.int k (k.wrap a), σ, n)
   | _ => none
 | .mkfn f caps => some (.fn f (caps.map ρ), σ, n)
 | .mkbnd f fs => some (.bnd f (fs.map ρ), σ, n)
 | .mksl sz bytes e len => match ρ len with
   | .int .i64 l => if 0 ≤ l ∧ bytes * l ≤ 140737488355328 ∧ e.cells.length = sz then
    some (.ref n 0 l.toNat sz, upd σ n (some (.row sz (List.replicate l.toNat e))), n + 1) else none
   | _ => none
 | .slice sz x lo hi => match ρ x with
   | .nilS => (boundOf ρ hi 0 0).bind fun h => (boundOf ρ lo 0 h).bind fun l => if l = 0 ∧ h = 0 then some (.nilS, σ, n) else none
   | .sl sz' xs => (boundOf ρ hi xs.length xs.length).bind fun h => (boundOf ρ lo 0 h).bind fun l =>
    if sz' = sz then some (.sl sz ((xs.take h).drop l), σ, n) else none
   | .ref id off len sz' => (boundOf ρ hi len len).bind fun h => (boundOf ρ lo 0 h).bind fun l =>
    if sz' = sz then some (.ref id (off + l) (h - l) sz, σ, n) else none
   | _ => none
 | .sliceS x lo hi => match ρ x with
   | .str s => (boundOf ρ hi s.size s.size).bind fun h => (boundOf ρ lo 0 h).bind fun l => some (.str (s.extract l h), σ, n)
   | _ => none
 | .faddr x off => match ρ x with
   | .ptr id sz i j => some (.ptr id sz i (j + off), σ, n)
   | .box cs => some (.box (cs.drop off), σ, n)
   | _ => none
 | .fld agg s off x => match ρ x with
   | .agg cs => (loadC agg s (cs.drop off)).map fun v => (v, σ, n)
   | _ => none
 | .iaddr sz x i => match ρ x, ρ i with
   | .sl sz' xs, .int _ k => if 0 ≤ k ∧ sz' = sz then (xs[k.toNat]?).map fun e => (.box e.cells, σ, n) else none
   | .ref id off len sz', .int _ k => if 0 ≤ k ∧ k < len ∧ sz' = sz then some (.ptr id sz (off + k.toNat) 0, σ, n) else none
   | _, _ => none
 | .iaddrA m es x i => match ρ x, ρ i with
   | .ptr id sz e j, .int _ k => if 0 ≤ k ∧ k < m then some (.ptr id sz e (j + k.toNat * es), σ, n) else none
   | .box cs, .int _ k => if 0 ≤ k ∧ k < m then some (.box (cs.drop (k.toNat * es)), σ, n) else none
   | _, _ => none
 | .idxA agg m es x i => match ρ x, ρ i with
   | .agg cs, .int _ k => if 0 ≤ k ∧ k < m then (loadC agg es (cs.drop (k.toNat * es))).map fun v => (v, σ, n) else none
   | _, _ => none
 | .idxS x i => match ρ x, ρ i with
   | .str s, .int _ k => if 0 ≤ k then (s[k.toNat]?).map fun b => (.int .u8 b.toNat, σ, n) else none
   | _, _ => none
 | .ext x i => match ρ x with
   | .tup vs => (vs[i]?).map fun v => (v, σ, n)
   | _ => none
 | .len x => (lenOf (ρ x)).map fun (l : Nat) => (.int .i64 (l : Int), σ, n)
 | .lenS x => match ρ x with
   | .str s => some (.int .i64 s.size, σ, n)
   | _ => none
 | .min xs => match xs.map ρ with
   | x :: ys => (ys.foldlM minV x).map fun v => (v, σ, n)
   | [] => none
 | .max xs => match xs.map ρ with
   | x :: ys => (ys.foldlM maxV x).map fun v => (v, σ, n)
   | [] => none
 | .append sz bytes x y =>
   match elems σ sz (ρ y) with
   | none => none
   | some ys =>
     match ρ x with
     | .nilS => if ys.isEmpty then some (.nilS, σ, n) else
       if ys.length * bytes ≤ LIM then some (.ref n 0 ys.length sz, upd σ n (some (.row sz ys)), n + 1) else none
     | .ref id off len sz' => match σ id with
       | some (.row sz'' xs) =>
         if sz' = sz ∧ sz'' = sz ∧ off = 0 ∧ len ≤ xs.length ∧ lk ≤ id ∧ (len + ys.length) * bytes ≤ LIM then
          some (.ref n 0 (len + ys.length) sz, upd (upd σ id none) n (some (.row sz (xs.take len ++ ys))), n + 1)
         else none
       | _ => none
     | _ => none
 | .mkif t x => some (.iface t (ρ x), σ, n)
 | .tas ok t z x => match ρ x with
   | .iface t' v => if t' = t then some (if ok then .tup [v, .bool true] else v, σ, n) else if ok then some (.tup [z, .bool false], σ, n) else none
   | .nilI => if ok then some (.tup [z, .bool false], σ, n) else none
   | _ => none
 | .slice3 sz x lo hi mx => if (intOf (ρ mx)).isSome && intOf (ρ mx) == intOf (ρ hi) then (match ρ x with
   | .nilS => (boundOf ρ (some hi) 0 0).bind fun h => (boundOf ρ lo 0 h).bind fun l => if l = 0 ∧ h = 0 then some (.nilS, σ, n) else none
   | .sl sz' xs => (boundOf ρ (some hi) xs.length xs.length).bind fun h => (boundOf ρ lo 0 h).bind fun l =>
    if sz' = sz then some (.sl sz ((xs.take h).drop l), σ, n) else none
   | .ref id off len sz' => (boundOf ρ (some hi) len len).bind fun h => (boundOf ρ lo 0 h).bind fun l =>
    if sz' = sz then some (.ref id (off + l) (h - l) sz, σ, n) else none
   | _ => none) else none
 | .mkmap => some (.mp n, upd σ n (some (.map [] 0)), n + 1)
 | .mupd kk m k v => match ρ m with
   | .mp id => match σ id with
     | some (.map es clk) => if lk ≤ id ∧ eqKey kk (ρ k) (ρ k) = some true then
      (findE kk (ρ k) es 0).map fun r => match r with
       | some i => (.undef, upd σ id (some (.map (es.modify i fun e => (ρ k, ρ v, e.2.2)) clk)), n)
       | none => (.undef, upd σ id (some (.map (es ++ [(ρ k, ρ v, clk)]) (clk + 1))), n)
      else none
     | _ => none
   | _ => none
 | .mget ok kk z m k => (mapOf σ (ρ m)).bind fun es => if eqKey kk (ρ k) (ρ k) = some true then
  (findE kk (ρ k) es 0).bind fun r => match r with
   | some i => (es[i]?).map fun e => (if ok then .tup [e.2.1, .bool true] else e.2.1, σ, n)
   | none => some (if ok then .tup [z, .bool false] else z, σ, n)
  else none
 | .ment kk z m k => match ρ m with
   | .mp id => match σ id with
     | some (.map es clk) => if lk ≤ id ∧ eqKey kk (ρ k) (ρ k) = some true then
      (findE kk (ρ k) es 0).bind fun r => match r with
       | some i => (es[i]?).map fun e => (.tup [e.2.1, .int .i64 e.2.2], upd σ id (some (.map (es.modify i fun e => (ρ k, e.2)) clk)), n)
       | none => some (.tup [z, .int .i64 clk], upd σ id (some (.map (es ++ [(ρ k, z, clk)]) (clk + 1))), n)
      else none
     | _ => none
   | _ => none
 | .mest m s v => match ρ m, ρ s with
   | .mp id, .int _ b => match σ id with
     | some (.map es clk) => if lk ≤ id then
      (es.findIdx? fun e => (e.2.2 : Int) == b).map fun i => (.undef, upd σ id (some (.map (es.modify i fun e => (e.1, ρ v, e.2.2)) clk)), n)
      else none
     | _ => none
   | _, _ => none
 | .mlen m => (mapOf σ (ρ m)).map fun es => (.int .i64 es.length, σ, n)
 | .mdel kk m k => match ρ m with
   | .mp id => match σ id with
     | some (.map es clk) => if lk ≤ id ∧ eqKey kk (ρ k) (ρ k) = some true then
      (findE kk (ρ k) es 0).map fun r => match r with
       | some i => (.undef, upd σ id (some (.map (es.eraseIdx i) clk)), n)
       | none => (.undef, upd σ id (some (.map es clk)), n)
      else none
     | _ => none
   | _ => none
 | .range m => match ρ m with
   | .mp id => match σ id with
     | some (.map _ clk) => some (.it n, upd σ n (some (.iter id clk [] clk)), n + 1)
     | _ => none
   | _ => none
 | .entry it => match ρ it with
   | .it id => match σ id with
     | some (.iter m _ seen last) => match σ m, seen.getLast? with
       | some (.map es clk), some s => if clk = last then (es.find? fun e => e.2.2 == s).map fun e => (.tup [e.1, e.2.1], σ, n) else none
       | _, _ => none
     | _ => none
   | _ => none
 | .call .. | .callv .. | .inv .. | .next _ | .prim .. => none
def recvOf (σ : Sto) (v : V) : Option (Bool × Nat × Nat) → Option V
 | none => some v
 | some (agg, s, off) => match v with
   | .ptr id sz i j => (rowAt σ id sz i).bind fun e => loadC agg s (e.cells.drop (j + off))
   | .box cs => loadC agg s (cs.drop off)
   | _ => none
def invOf (σ : Sto) (tbl : List (Nat × Nat × Option (Bool × Nat × Nat))) : V → Option (Nat × V)
 | .iface t v => (tbl.find? fun r => r.1 == t).bind fun r => (recvOf σ v r.2.2).map fun u => (r.2.1, u)
 | _ => none
end Go.Q
end

section
/- How plain values stand in the machine's memory, and what stays when memory changes. -/
namespace Go.Q
inductive Rep (w : World) (X : Nat → Prop) (ι : Nat → Nat) : Nat → V → Value → Prop
 | int {n : Nat} (k : IntKind) (m : Int) : Rep w X ι n (.int k m) (.int k m)
 | bool {n : Nat} (b : Bool) : Rep w X ι n (.bool b) (.bool b)
 | str {n : Nat} (s : ByteArray) : Rep w X ι n (.str s) (.string s)
 | nilS {n : Nat} : Rep w X ι n .nilS (.slice none 0 0)
 | sl {n : Nat} (sz : Nat) (xs : List V) (b o c : Nat) (u : Nat → Nat → Value) (hc : xs.length ≤ c) (hX : ¬ X b) (hb : b < w.heap.size)
  (hs : ∀ (i : Nat) (x : V), xs[i]? = some x → x.cells.length = sz ∧ x.cells.all V.one = true)
  (hm : ∀ (i : Nat) (x : V) (j : Nat) (e : V), xs[i]? = some x → x.cells[j]? = some e → w.cell? ⟨b, o + i * sz + j, none⟩ = some (u i j))
  (hr : ∀ (i : Nat) (x : V) (j : Nat) (e : V), xs[i]? = some x → x.cells[j]? = some e → Rep w X ι 0 e (u i j)) :
  Rep w X ι n (.sl sz xs) (.slice (some ⟨b, o, none⟩) xs.length c)
 | slE {n : Nat} (sz c : Nat) (a : Addr) : Rep w X ι n (.sl sz []) (.slice (some a) 0 c)
 | ref {n : Nat} (id off len sz c o : Nat) (cells : Array Value) (ty : TypeId) (fz : Nat × Nat) (hid : id < n) (hc : len ≤ c)
  (ho : c = 0 ∨ o = off * sz) (hm : w.heap[ι id]? = some (.cells cells ty fz)) (hz : c = 0 ∨ (off + c) * sz ≤ cells.size) :
  Rep w X ι n (.ref id off len sz) (.slice (some ⟨ι id, o, none⟩) len c)
 | agg {n : Nat} (cs : List V) (us : Array Value) (hl : cs.length = us.size) (hr : ∀ (i : Nat) (e : V) (u : Value), cs[i]? = some e → us[i]? = some u → Rep w X ι n e u) :
  Rep w X ι n (.agg cs) (.agg us)
 | tup {n : Nat} (cs : List V) (us : Array Value) (hl : cs.length = us.size) (hr : ∀ (i : Nat) (e : V) (u : Value), cs[i]? = some e → us[i]? = some u → Rep w X ι n e u) :
  Rep w X ι n (.tup cs) (.tuple us)
 | nilP {n : Nat} : Rep w X ι n .nilP (.pointer none)
 | ptr {n : Nat} (id sz i j : Nat) (hid : id < n) (hb : ι id < w.heap.size) : Rep w X ι n (.ptr id sz i j) (.pointer (some ⟨ι id, i * sz + j, none⟩))
 | box {n : Nat} (cs : List V) (b o : Nat) (u : Nat → Value) (hX : ¬ X b) (hb : b < w.heap.size) (h1 : cs.all V.one = true)
  (hm : ∀ (j : Nat) (e : V), cs[j]? = some e → w.cell? ⟨b, o + j, none⟩ = some (u j)) (hr : ∀ (j : Nat) (e : V), cs[j]? = some e → Rep w X ι 0 e (u j)) :
  Rep w X ι n (.box cs) (.pointer (some ⟨b, o, none⟩))
 | fn {n : Nat} (f : Nat) (cs : List V) (us : Array Value) (hl : cs.length = us.size) (hr : ∀ (i : Nat) (e : V) (u : Value), cs[i]? = some e → us[i]? = some u → Rep w X ι n e u) :
  Rep w X ι n (.fn f cs) (.func (.func f) #[] us)
 | bnd {n : Nat} (f : Nat) (cs : List V) (us : Array Value) (hl : cs.length = us.size) (hr : ∀ (i : Nat) (e : V) (u : Value), cs[i]? = some e → us[i]? = some u → Rep w X ι n e u) :
  Rep w X ι n (.bnd f cs) (.func (.func f) us #[])
 | yld {n : Nat} (l : Nat) (hid : l < n) (hb : ι l < w.heap.size) : Rep w X ι n (.yld l) (.func (.yield (ι l)) #[] #[])
 | nilF {n : Nat} : Rep w X ι n .nilF .nilFunc
 | iface {n : Nat} (t : Nat) (x : V) (u : Value) (hr : Rep w X ι n x u) : Rep w X ι n (.iface t x) (.iface t u)
 | nilI {n : Nat} : Rep w X ι n .nilI .nilIface
 | nilM {n : Nat} : Rep w X ι n .nilM (.map none)
 | mp {n : Nat} (id : Nat) (hid : id < n) (hb : ι id < w.heap.size) : Rep w X ι n (.mp id) (.map (some (ι id)))
 | it {n : Nat} (id : Nat) (hid : id < n) (hb : ι id < w.heap.size) : Rep w X ι n (.it id) (.pointer (some ⟨ι id, 0, none⟩))
 | undef {n : Nat} : Rep w X ι n .undef (.tuple #[])
def Own (σ : Sto) (ι : Nat → Nat) (lk : Nat) (b : Nat) : Prop := ∃ id, lk ≤ id ∧ σ id ≠ none ∧ ι id = b
structure Ext (w w' : World) (X X' : Nat → Prop) (ι ι' : Nat → Nat) (σ σ' : Sto) (n n' lk : Nat) : Prop where
 hn : n ≤ n'
 os : w'.os = w.os
 tape : w'.tape = w.tape
 output : w'.output = w.output
 size : w.heap.size ≤ w'.heap.size
 heap : ∀ b, b < w.heap.size → ¬ Own σ ι lk b → w'.heap[b]? = w.heap[b]?
 cells : ∀ (b : Nat) c t f, w.heap[b]? = some (.cells c t f) → ∃ c', w'.heap[b]? = some (.cells c' t f) ∧ c'.size = c.size
 loops : ∀ (b : Nat) (r : Loop), w.heap[b]? = some (.loop r) → ∃ r', w'.heap[b]? = some (.loop r')
 hι : ∀ id, id < n → ι' id = ι id
 xnew : ∀ b, b < w.heap.size → X' b → X b
 xold : ∀ b, X b → ¬ Own σ ι lk b → X' b
 xlt : ∀ b, X b → b < w.heap.size
 own : ∀ id, lk ≤ id → σ' id ≠ none → ι' id < w.heap.size → Own σ ι lk (ι' id)
 lock : ∀ id, id < lk → σ' id = σ id
class Link where
 rel : Nat → Code → AC → Prop
variable [Link]
def stM : LSt → LoopState
 | .ready => .ready
 | .busy => .busy
 | .done => .done
def pendM : Option Ex → Option Code
 | some .ret => some .ret
 | some (.exit id) => some (.exit id)
 | _ => none
structure LoopRep (w : World) (X : Nat → Prop) (ι : Nat → Nat) (n : Nat) (r : Loop) (env : Nat → V) (ps : List Nat) (a b : AC) (st : LSt) (pend : Option Ex) : Prop where
 hst : r.state = stM st
 hpend : r.pending = pendM pend
 hpn : pend ≠ some .normal
 hps : r.params.toList = ps
 code : ∃ N, N ≤ r.tmps.size ∧ (∀ p ∈ ps, p < N) ∧ Link.rel N r.assign a ∧ Link.rel N r.body b
 rep : ∀ t, Rep w X ι n (env t) (r.tmps.getD t undef)
def MI (w : World) (X : Nat → Prop) (ι : Nat → Nat) (n b : Nat) : Ob → Prop
 | .map es clk => ∃ mes : Array MapEntry, w.heap[b]? = some (.map mes clk) ∧ mes.size = es.length ∧
  ∀ (i : Nat) (e : V × V × Nat) (me : MapEntry), es[i]? = some e → mes[i]? = some me → me.born = e.2.2 ∧ Rep w X ι n e.1 me.key ∧ Rep w X ι n e.2.1 me.val
 | .iter m since seen last => m < n ∧ ι m < w.heap.size ∧ w.heap[b]? = some (.mapIter (some (ι m)) since seen.toArray last)
 | _ => True
structure WF (w : World) (X : Nat → Prop) (ι : Nat → Nat) (σ : Sto) (n : Nat) : Prop where
 row : ∀ id sz xs, σ id = some (.row sz xs) → ∃ (cells : Array Value) (ty : TypeId) (u : Nat → Nat → Value),
  w.heap[ι id]? = some (.cells cells ty (0, 0)) ∧ xs.length * sz ≤ cells.size ∧
  (∀ (i : Nat) (x : V), xs[i]? = some x → x.cells.length = sz ∧ x.cells.all V.one = true) ∧
  (∀ (i : Nat) (x : V) (j : Nat) (e : V), xs[i]? = some x → x.cells[j]? = some e → cells[i * sz + j]? = some (u i j)) ∧
  (∀ (i : Nat) (x : V) (j : Nat) (e : V), xs[i]? = some x → x.cells[j]? = some e → Rep w X ι n e (u i j))
 loop : ∀ l env ps a b st pend, σ l = some (.loop env ps a b st pend) → ∃ r : Loop, w.heap[ι l]? = some (.loop r) ∧ LoopRep w X ι n r env ps a b st pend
 own : ∀ id, σ id ≠ none → X (ι id)
 inj : ∀ id id', σ id ≠ none → σ id' ≠ none → ι id = ι id' → id = id'
 dom : ∀ id, σ id ≠ none → id < n
 xlt : ∀ b, X b → b < w.heap.size
 mi : ∀ id o, σ id = some o → MI w X ι n (ι id) o
section
variable {w w' w'' : World} {X X' X'' : Nat → Prop} {ι ι' ι'' : Nat → Nat} {σ σ' σ'' : Sto} {n n' n'' lk : Nat}
theorem cell_block {b o : Nat} (h : w'.heap[b]? = w.heap[b]?) : w'.cell? ⟨b, o, none⟩ = w.cell? ⟨b, o, none⟩ := by
 simp only [World.cell?, h]
theorem Rep.move' (h1 : w.heap.size ≤ w'.heap.size) (h2 : ∀ b, b < w.heap.size → ¬ X b → w'.heap[b]? = w.heap[b]?)
 (h3 : ∀ (b : Nat) c t f, w.heap[b]? = some (.cells c t f) → ∃ c', w'.heap[b]? = some (.cells c' t f) ∧ c'.size = c.size)
 (h4 : ∀ id, id < n → ι id < w.heap.size → ι' id = ι id) (h5 : ∀ b, b < w.heap.size → X' b → X b) (h6 : n ≤ n') {v : V} {u : Value} (h : Rep w X ι n v u) :
 Rep w' X' ι' n' v u := by
 induction h generalizing n' with
 | int k m => exact .int k m
 | bool b => exact .bool b
 | str s => exact .str s
 | nilS => exact .nilS
 | sl sz xs b o c u hc hX hb hs hm hr ih =>
   exact .sl sz xs b o c u hc (fun hx => hX (h5 b hb hx)) (Nat.lt_of_lt_of_le hb h1) hs
    (fun i x j e hx he => (cell_block (h2 b hb hX)).trans (hm i x j e hx he)) (fun i x j e hx he => ih i x j e hx he (fun id h _ => by omega) (Nat.le_refl _))
 | slE sz c a => exact .slE sz c a
 | ref id off len sz c o cells ty fz hid hc ho hm hz =>
   rw [← h4 id hid (Array.getElem?_eq_some_iff.1 hm).1] at *
   obtain ⟨c', hc', hsz⟩ := h3 _ _ _ _ hm
   exact .ref id off len sz c o c' ty fz (by omega) hc ho hc' (by rw [hsz]; exact hz)
 | agg cs us hl hr ih => exact .agg cs us hl (fun i e u he hu => ih i e u he hu h4 h6)
 | tup cs us hl hr ih => exact .tup cs us hl (fun i e u he hu => ih i e u he hu h4 h6)
 | nilP => exact .nilP
 | ptr id sz i j hid hb => rw [← h4 id hid hb] at *; exact .ptr id sz i j (by omega) (by omega)
 | box cs b o u hX hb h1' hm hr ih =>
   exact .box cs b o u (fun hx => hX (h5 b hb hx)) (Nat.lt_of_lt_of_le hb h1) h1'
    (fun j e he => (cell_block (h2 b hb hX)).trans (hm j e he)) (fun j e he => ih j e he (fun id h _ => by omega) (Nat.le_refl _))
 | fn f cs us hl hr ih => exact .fn f cs us hl (fun i e u he hu => ih i e u he hu h4 h6)
 | bnd f cs us hl hr ih => exact .bnd f cs us hl (fun i e u he hu => ih i e u he hu h4 h6)
 | yld l hid hb => rw [← h4 l hid hb] at *; exact .yld l (by omega) (by omega)
 | nilF => exact .nilF
 | iface t x u hr ih => exact .iface t x u (ih h4 h6)
 | nilI => exact .nilI
 | nilM => exact .nilM
 | mp id hid hb => rw [← h4 id hid hb] at *; exact .mp id (by omega) (by omega)
 | it id hid hb => rw [← h4 id hid hb] at *; exact .it id (by omega) (by omega)
 | undef => exact .undef
theorem Rep.move (h1 : w.heap.size ≤ w'.heap.size) (h2 : ∀ b, b < w.heap.size → ¬ X b → w'.heap[b]? = w.heap[b]?)
 (h3 : ∀ (b : Nat) c t f, w.heap[b]? = some (.cells c t f) → ∃ c', w'.heap[b]? = some (.cells c' t f) ∧ c'.size = c.size)
 (h4 : ∀ id, id < n → ι' id = ι id) (h5 : ∀ b, b < w.heap.size → X' b → X b) (h6 : n ≤ n') {v : V} {u : Value} (h : Rep w X ι n v u) :
 Rep w' X' ι' n' v u := h.move' h1 h2 h3 (fun id hid _ => h4 id hid) h5 h6
theorem MI.move (h1 : w.heap.size ≤ w'.heap.size) (h2 : ∀ b, b < w.heap.size → ¬ X b → w'.heap[b]? = w.heap[b]?)
 (h3 : ∀ (b : Nat) c t f, w.heap[b]? = some (.cells c t f) → ∃ c', w'.heap[b]? = some (.cells c' t f) ∧ c'.size = c.size)
 (h4 : ∀ id, id < n → ι' id = ι id) (h5 : ∀ b, b < w.heap.size → X' b → X b) (h6 : n ≤ n') {b : Nat} {o : Ob} (hb : w'.heap[b]? = w.heap[b]?) (h : MI w X ι n b o) : MI w' X' ι' n' b o := by
 cases o with
 | row => trivial
 | loop => trivial
 | map es clk =>
   obtain ⟨mes, a1, a2, a3⟩ := h
   refine ⟨mes, by rw [hb]; exact a1, a2, fun i e me he hm => ?_⟩
   obtain ⟨b1, b2, b3⟩ := a3 i e me he hm
   exact ⟨b1, b2.move h1 h2 h3 h4 h5 h6, b3.move h1 h2 h3 h4 h5 h6⟩
 | iter m since seen last =>
   obtain ⟨a1, a0, a2⟩ := h
   exact ⟨by omega, by rw [h4 m a1]; omega, by rw [hb, h4 m a1]; exact a2⟩
theorem Rep.up {v : V} {u : Value} (h : Rep w X ι 0 v u) : Rep w X ι' n v u :=
 h.move (Nat.le_refl _) (fun _ _ _ => rfl) (fun _ c _ _ h => ⟨c, h, rfl⟩) (fun id h => by omega) (fun _ _ h => h) (Nat.zero_le _)
theorem Own.sub (hw : WF w X ι σ n) {b : Nat} (h : Own σ ι lk b) : X b := by
 obtain ⟨id, _, h1, h2⟩ := h
 exact h2 ▸ hw.own id h1
theorem Rep.ext (hw : WF w X ι σ n) (e : Ext w w' X X' ι ι' σ σ' n n' lk) {v : V} {u : Value} (h : Rep w X ι n v u) : Rep w' X' ι' n' v u :=
 h.move e.size (fun b hb hx => e.heap b hb (fun ho => hx (ho.sub hw))) e.cells e.hι e.xnew e.hn
theorem Ext.refl (hx : ∀ b, X b → b < w.heap.size) : Ext w w X X ι ι σ σ n n lk :=
 ⟨Nat.le_refl _, rfl, rfl, rfl, Nat.le_refl _, fun _ _ _ => rfl, fun _ c _ _ h => ⟨c, h, rfl⟩, fun _ r h => ⟨r, h⟩, fun _ _ => rfl, fun _ _ h => h, fun _ h _ => h, hx,
  fun id hl h _ => ⟨id, hl, h, rfl⟩, fun _ _ => rfl⟩
theorem Ext.trans (e : Ext w w' X X' ι ι' σ σ' n n' lk) (e' : Ext w' w'' X' X'' ι' ι'' σ' σ'' n' n'' lk) : Ext w w'' X X'' ι ι'' σ σ'' n n'' lk where
 hn := Nat.le_trans e.hn e'.hn
 os := e'.os.trans e.os
 tape := e'.tape.trans e.tape
 output := e'.output.trans e.output
 size := Nat.le_trans e.size e'.size
 heap := fun b hb ho => by
  have h1 := e.heap b hb ho
  refine (e'.heap b (Nat.lt_of_lt_of_le hb e.size) ?_).trans h1
  rintro ⟨id, hl, hs, rfl⟩
  exact ho (e.own id hl hs hb)
 cells := fun b c t f h => by
  obtain ⟨c1, h1, z1⟩ := e.cells b c t f h
  obtain ⟨c2, h2, z2⟩ := e'.cells b c1 t f h1
  exact ⟨c2, h2, z2.trans z1⟩
 loops := fun b r h => by
  obtain ⟨r1, h1⟩ := e.loops b r h
  exact e'.loops b r1 h1
 hι := fun id h => (e'.hι id (Nat.lt_of_lt_of_le h e.hn)).trans (e.hι id h)
 xnew := fun b hb h => e.xnew b hb (e'.xnew b (Nat.lt_of_lt_of_le hb e.size) h)
 xold := fun b hx ho => by
  refine e'.xold b (e.xold b hx ho) ?_
  rintro ⟨id, hl, hs, rfl⟩
  exact ho (e.own id hl hs (e.xlt _ hx))
 xlt := e.xlt
 own := fun id hl hs hb => by
  obtain ⟨id', hl', hs', h'⟩ := e'.own id hl hs (Nat.lt_of_lt_of_le hb e.size)
  rw [← h'] at hb ⊢
  exact e.own id' hl' hs' hb
 lock := fun id h => (e'.lock id h).trans (e.lock id h)
theorem WF.empty (w : World) (hx : ∀ b, X b → b < w.heap.size) : WF w X ι Sto.empty n :=
 ⟨fun _ _ _ h => by simp [Sto.empty] at h, fun _ _ _ _ _ _ _ h => by simp [Sto.empty] at h, fun _ h => absurd rfl h, fun _ _ h => absurd rfl h, fun _ h => absurd rfl h, hx, fun _ _ h => by simp [Sto.empty] at h⟩
theorem Ext.draw (hx : ∀ b, X b → b < w.heap.size) (d : Nat) : Ext w { w with drawn := d } X X ι ι σ σ n n lk :=
 ⟨Nat.le_refl _, rfl, rfl, rfl, Nat.le_refl _, fun _ _ _ => rfl, fun _ c _ _ h => ⟨c, h, rfl⟩, fun _ r h => ⟨r, h⟩, fun _ _ => rfl, fun _ _ h => h, fun _ h _ => h, hx,
  fun id hl h _ => ⟨id, hl, h, rfl⟩, fun _ _ => rfl⟩
theorem LoopRep.move (h1 : w.heap.size ≤ w'.heap.size) (h2 : ∀ b, b < w.heap.size → ¬ X b → w'.heap[b]? = w.heap[b]?)
 (h3 : ∀ (b : Nat) c t f, w.heap[b]? = some (.cells c t f) → ∃ c', w'.heap[b]? = some (.cells c' t f) ∧ c'.size = c.size)
 (h4 : ∀ id, id < n → ι' id = ι id) (h5 : ∀ b, b < w.heap.size → X' b → X b) (h6 : n ≤ n') {r : Loop} {env : Nat → V} {ps : List Nat} {a b : AC} {st : LSt} {pend : Option Ex}
 (h : LoopRep w X ι n r env ps a b st pend) : LoopRep w' X' ι' n' r env ps a b st pend :=
 ⟨h.hst, h.hpend, h.hpn, h.hps, h.code, fun t => (h.rep t).move h1 h2 h3 h4 h5 h6⟩
theorem WF.move (hw : WF w X ι σ n) (h1 : w.heap.size ≤ w'.heap.size) (h2 : ∀ b, b < w.heap.size → w'.heap[b]? = w.heap[b]?)
 (h4 : ∀ id, id < n → ι' id = ι id) (h5 : ∀ b, b < w.heap.size → (X' b ↔ X b)) (h6 : n ≤ n') (h7 : ∀ b, X' b → b < w'.heap.size) : WF w' X' ι' σ n' where
 row := fun id sz xs h => by
  have hid := hw.dom id (by rw [h]; simp)
  obtain ⟨cells, ty, u, a1, a2, a3, a4, a5⟩ := hw.row id sz xs h
  have hlt : ι id < w.heap.size := (Array.getElem?_eq_some_iff.1 a1).1
  refine ⟨cells, ty, u, by rw [h4 id hid, h2 _ hlt]; exact a1, a2, a3, a4, fun i x j e hx he => ?_⟩
  exact (a5 i x j e hx he).move h1 (fun b hb _ => h2 b hb) (fun b c t f hh => ⟨c, by rw [h2 b (Array.getElem?_eq_some_iff.1 hh).1]; exact hh, rfl⟩) h4
   (fun b hb hx => (h5 b hb).1 hx) h6
 loop := fun l env ps a b st pend h => by
  have hid := hw.dom l (by rw [h]; simp)
  obtain ⟨r, a1, a2⟩ := hw.loop l env ps a b st pend h
  have hlt : ι l < w.heap.size := (Array.getElem?_eq_some_iff.1 a1).1
  exact ⟨r, by rw [h4 l hid, h2 _ hlt]; exact a1, a2.move h1 (fun b hb _ => h2 b hb) (fun b c t f hh => ⟨c, by rw [h2 b (Array.getElem?_eq_some_iff.1 hh).1]; exact hh, rfl⟩) h4
   (fun b hb hx => (h5 b hb).1 hx) h6⟩
 own := fun id h => by
  have hid := hw.dom id h
  have := hw.own id h
  rw [h4 id hid]
  exact (h5 _ (hw.xlt _ this)).2 this
 inj := fun id id' h h' he => hw.inj id id' h h' (by rw [← h4 id (hw.dom id h), ← h4 id' (hw.dom id' h')]; exact he)
 dom := fun id h => Nat.lt_of_lt_of_le (hw.dom id h) h6
 xlt := h7
 mi := fun id o h => by
  have hid := hw.dom id (by rw [h]; simp)
  have hlt : ι id < w.heap.size := hw.xlt _ (hw.own id (by rw [h]; simp))
  rw [h4 id hid]
  exact (hw.mi id o h).move h1 (fun b hb _ => h2 b hb) (fun b c t f hh => ⟨c, by rw [h2 b (Array.getElem?_eq_some_iff.1 hh).1]; exact hh, rfl⟩) h4 (fun b hb hx => (h5 b hb).1 hx) h6 (h2 _ hlt)
def setι (ι : Nat → Nat) (n b : Nat) : Nat → Nat := fun id => if id = n then b else ι id
def addX (X : Nat → Prop) (b : Nat) : Nat → Prop := fun k => X k ∨ k = b
theorem Ext.new (hw : WF w X ι σ n) (hl : lk ≤ n) (cells : Array Value) (ty : TypeId) (o : Ob) :
 Ext w (w.alloc (.cells cells ty)) X (addX X w.heap.size) ι (setι ι n w.heap.size) σ (upd σ n (some o)) n (n + 1) lk where
 hn := by omega
 os := rfl
 tape := rfl
 output := rfl
 size := by simp
 heap := fun b hb _ => Go.RowKit.Below.heap_alloc _ _ _ hb
 cells := fun b c t f h => ⟨c, by rw [Go.RowKit.Below.heap_alloc _ _ _ (Array.getElem?_eq_some_iff.1 h).1]; exact h, rfl⟩
 loops := fun b r h => ⟨r, by rw [Go.RowKit.Below.heap_alloc _ _ _ (Array.getElem?_eq_some_iff.1 h).1]; exact h⟩
 hι := fun id h => by simp [setι]; omega
 xnew := fun b hb h => by rcases h with h | h; exact h; omega
 xold := fun b h _ => .inl h
 xlt := hw.xlt
 own := fun id hl' h hb => by
  by_cases e : id = n
  ·simp [setι, e] at hb
  ·simp only [setι, upd, e, if_false] at *
   exact ⟨id, hl', h, rfl⟩
 lock := fun id h => by simp [upd]; omega
theorem new_row (hw : WF w X ι σ n) {cells : Array Value} {ty : TypeId} {sz : Nat} {xs : List V} (u : Nat → Nat → Value) (hz : xs.length * sz ≤ cells.size)
 (hs : ∀ (i : Nat) (x : V), xs[i]? = some x → x.cells.length = sz ∧ x.cells.all V.one = true)
 (hm : ∀ (i : Nat) (x : V) (j : Nat) (e : V), xs[i]? = some x → x.cells[j]? = some e → cells[i * sz + j]? = some (u i j))
 (hr : ∀ (i : Nat) (x : V) (j : Nat) (e : V), xs[i]? = some x → x.cells[j]? = some e → Rep w X ι n e (u i j)) :
 WF (w.alloc (.cells cells ty)) (addX X w.heap.size) (setι ι n w.heap.size) (upd σ n (some (.row sz xs))) (n + 1) := by
 have hm1 : WF (w.alloc (.cells cells ty)) (addX X w.heap.size) (setι ι n w.heap.size) σ (n + 1) :=
  hw.move (by simp) (fun b hb => Go.RowKit.Below.heap_alloc _ _ _ hb) (fun id h => by simp [setι]; omega)
   (fun b hb => ⟨fun h => by rcases h with h | h; exact h; omega, fun h => .inl h⟩) (by omega)
   (fun b h => by rcases h with h | h; have := hw.xlt b h; simp; omega; simp; omega)
 have hnew : (w.alloc (.cells cells ty)).heap[w.heap.size]? = some (.cells cells ty (0, 0)) := by
  show (w.heap.push _)[w.heap.size]? = _
  simp
 have hn : σ n = none := by
  cases h : σ n with
  | none => rfl
  | some o => have := hw.dom n (by rw [h]; simp); omega
 constructor
 ·intro id sz' xs' h
  by_cases e : id = n
  ·subst e
   simp only [upd, if_true, Option.some.injEq, Ob.row.injEq] at h
   obtain ⟨rfl, rfl⟩ := h
   refine ⟨cells, ty, u, by simpa [setι] using hnew, hz, hs, hm, fun i x j e hx he => ?_⟩
   exact (hr i x j e hx he).move (by simp) (fun b hb _ => Go.RowKit.Below.heap_alloc _ _ _ hb)
    (fun b c t f hh => ⟨c, by rw [Go.RowKit.Below.heap_alloc _ _ _ (Array.getElem?_eq_some_iff.1 hh).1]; exact hh, rfl⟩)
    (fun id h => by simp [setι]; omega) (fun b hb h => by rcases h with h | h; exact h; omega) (by omega)
  ·simp only [upd, e, if_false] at h
   exact hm1.row id sz' xs' h
 ·intro l env ps a b st pend h
  by_cases e : l = n
  ·subst e; simp [upd] at h
  ·simp only [upd, e, if_false] at h
   exact hm1.loop l env ps a b st pend h
 ·intro id h
  by_cases e : id = n
  ·subst e; right; simp [setι]
  ·simp only [upd, e, if_false] at h; exact hm1.own id h
 ·intro id id' h h' he
  have hlt : ∀ i, σ i ≠ none → setι ι n w.heap.size i < w.heap.size := fun i hi => by
   have := hw.dom i hi
   have h2 := hw.xlt _ (hw.own i hi)
   simp [setι]; split <;> omega
  by_cases e : id = n <;> by_cases e' : id' = n
  ·omega
  ·simp only [upd, e', if_false] at h'
   have := hlt id' h'
   rw [← he, e] at this; simp [setι] at this
  ·simp only [upd, e, if_false] at h
   have := hlt id h
   rw [he, e'] at this; simp [setι] at this
  ·simp only [upd, e, e', if_false] at h h'
   exact hm1.inj id id' h h' he
 ·intro id h
  by_cases e : id = n
  ·omega
  ·simp only [upd, e, if_false] at h; exact hm1.dom id h
 ·exact hm1.xlt
 ·intro id o h
  by_cases e : id = n
  ·subst e
   simp only [upd, if_true, Option.some.injEq] at h
   subst h
   trivial
  ·simp only [upd, e, if_false] at h; exact hm1.mi id o h
theorem Ext.newO (hw : WF w X ι σ n) (hl : lk ≤ n) (ob : Obj) (o : Ob) :
 Ext w (w.alloc ob) X (addX X w.heap.size) ι (setι ι n w.heap.size) σ (upd σ n (some o)) n (n + 1) lk where
 hn := by omega
 os := rfl
 tape := rfl
 output := rfl
 size := by simp
 heap := fun b hb _ => Go.RowKit.Below.heap_alloc _ _ _ hb
 cells := fun b c t f h => ⟨c, by rw [Go.RowKit.Below.heap_alloc _ _ _ (Array.getElem?_eq_some_iff.1 h).1]; exact h, rfl⟩
 loops := fun b r h => ⟨r, by rw [Go.RowKit.Below.heap_alloc _ _ _ (Array.getElem?_eq_some_iff.1 h).1]; exact h⟩
 hι := fun id h => by simp [setι]; omega
 xnew := fun b hb h => by rcases h with h | h; exact h; omega
 xold := fun b h _ => .inl h
 xlt := hw.xlt
 own := fun id hl' h hb => by
  by_cases e : id = n
  ·simp [setι, e] at hb
  ·simp only [setι, upd, e, if_false] at *
   exact ⟨id, hl', h, rfl⟩
 lock := fun id h => by simp [upd]; omega
def Ob.other : Ob → Bool
 | .map .. | .iter .. => true
 | _ => false
theorem new_obj (hw : WF w X ι σ n) {ob : Obj} {o : Ob} (ho : o.other = true) (hm : MI (w.alloc ob) (addX X w.heap.size) (setι ι n w.heap.size) (n + 1) w.heap.size o) :
 WF (w.alloc ob) (addX X w.heap.size) (setι ι n w.heap.size) (upd σ n (some o)) (n + 1) := by
 have hm1 : WF (w.alloc ob) (addX X w.heap.size) (setι ι n w.heap.size) σ (n + 1) :=
  hw.move (by simp) (fun b hb => Go.RowKit.Below.heap_alloc _ _ _ hb) (fun id h => by simp [setι]; omega)
   (fun b hb => ⟨fun h => by rcases h with h | h; exact h; omega, fun h => .inl h⟩) (by omega)
   (fun b h => by rcases h with h | h; have := hw.xlt b h; simp; omega; simp; omega)
 constructor
 ·intro id sz' xs' h
  by_cases e : id = n
  ·subst e
   simp only [upd, if_true, Option.some.injEq] at h
   subst h; simp [Ob.other] at ho
  ·simp only [upd, e, if_false] at h
   exact hm1.row id sz' xs' h
 ·intro l env ps a b st pend h
  by_cases e : l = n
  ·subst e
   simp only [upd, if_true, Option.some.injEq] at h
   subst h; simp [Ob.other] at ho
  ·simp only [upd, e, if_false] at h
   exact hm1.loop l env ps a b st pend h
 ·intro id h
  by_cases e : id = n
  ·subst e; right; simp [setι]
  ·simp only [upd, e, if_false] at h; exact hm1.own id h
 ·intro id id' h h' he
  have hlt : ∀ i, σ i ≠ none → setι ι n w.heap.size i < w.heap.size := fun i hi => by
   have := hw.dom i hi
   have h2 := hw.xlt _ (hw.own i hi)
   simp [setι]; split <;> omega
  by_cases e : id = n <;> by_cases e' : id' = n
  ·omega
  ·simp only [upd, e', if_false] at h'
   have := hlt id' h'
   rw [← he, e] at this; simp [setι] at this
  ·simp only [upd, e, if_false] at h
   have := hlt id h
   rw [he, e'] at this; simp [setι] at this
  ·simp only [upd, e, e', if_false] at h h'
   exact hm1.inj id id' h h' he
 ·intro id h
  by_cases e : id = n
  ·omega
  ·simp only [upd, e, if_false] at h; exact hm1.dom id h
 ·exact hm1.xlt
 ·intro id o' h
  by_cases e : id = n
  ·subst e
   simp only [upd, if_true, Option.some.injEq] at h
   subst h
   simpa [setι] using hm
  ·simp only [upd, e, if_false] at h; exact hm1.mi id o' h
end
end Go.Q
end

section
/- The machine's own reads and writes of rows of cells, run. -/
namespace Go.Q
variable [Link]
theorem add_none (b o i : Nat) : (⟨b, o, none⟩ : Addr).add i = ⟨b, o + i, none⟩ := by
 unfold Addr.add
 split
 ·rename_i h; subst h; rfl
 ·rfl
section
variable {P : Program} {w : World}
theorem run_load_cell {a : Addr} {u : Value} (h : w.cell? a = some u) : (load a).run P w = .ok u w := by
 rw [run_load, h]
theorem run_loadFrom (b o : Nat) : ∀ (us : List Value) (i : Nat) (acc : Array Value), (∀ (j : Nat) (u : Value), us[j]? = some u → w.cell? ⟨b, o + (i + j), none⟩ = some u) →
 (loadCellsFrom ⟨b, o, none⟩ i us.length acc).run P w = .ok (acc ++ us.toArray) w
 | [], i, acc, _ => by simp [loadCellsFrom]
 | u :: us, i, acc, h => by
   have h0 := h 0 u rfl
   have ih := run_loadFrom b o us (i + 1) (acc.push u) (fun j v hj => by have := h (j + 1) v (by simpa using hj); rwa [show i + (j + 1) = i + 1 + j by omega] at this)
   simp only [List.length_cons, loadCellsFrom, Sem.run_bind, add_none]
   rw [run_load_cell (by simpa using h0)]
   simp only [Result.andThen_ok]
   rw [ih]
   simp
theorem run_loadCells (b o : Nat) (us : List Value) (h : ∀ (j : Nat) (u : Value), us[j]? = some u → w.cell? ⟨b, o + j, none⟩ = some u) :
 (loadCells ⟨b, o, none⟩ us.length).run P w = .ok us.toArray w := by
 have := run_loadFrom (P := P) (w := w) b o us 0 #[] (fun j u hj => by simpa using h j u hj)
 simpa [loadCells] using this
def writeAt (cs : Array Value) (o : Nat) : List Value → Array Value
 | [] => cs
 | v :: vs => writeAt (cs.setIfInBounds o v) (o + 1) vs
@[simp] theorem writeAt_size (vs : List Value) : ∀ (cs : Array Value) (o : Nat), (writeAt cs o vs).size = cs.size := by
 induction vs with
 | nil => intro cs o; rfl
 | cons v vs ih => intro cs o; simp [writeAt, ih]
theorem writeAt_get (vs : List Value) : ∀ (cs : Array Value) (o k : Nat), o + vs.length ≤ cs.size →
 (writeAt cs o vs)[k]? = if o ≤ k ∧ k < o + vs.length then vs[k - o]? else cs[k]? := by
 induction vs with
 | nil => intro cs o k h; simp [writeAt]; intro h1 h2; omega
 | cons v vs ih =>
   intro cs o k h
   simp only [List.length_cons] at h
   rw [writeAt, ih _ _ _ (by simp; omega)]
   by_cases h1 : k = o
   ·subst h1
    rw [if_neg (by omega), if_pos (by simp)]
    simp [Array.getElem?_setIfInBounds]; omega
   ·by_cases h2 : o + 1 ≤ k ∧ k < o + 1 + vs.length
    ·rw [if_pos h2, if_pos (by simp; omega)]
     rw [show k - o = (k - (o + 1)) + 1 by omega]; simp
    ·rw [if_neg h2, if_neg (by simp; omega), Array.getElem?_setIfInBounds_ne (by omega)]
def putRow (w : World) (b : Nat) (cs : Array Value) (ty : TypeId) : World := { w with heap := w.heap.setIfInBounds b (.cells cs ty (0, 0)) }
theorem setCell_putRow {b o : Nat} {cs : Array Value} {ty : TypeId} (v : Value) (h : w.heap[b]? = some (.cells cs ty (0, 0))) :
 w.setCell ⟨b, o, none⟩ v = putRow w b (cs.setIfInBounds o v) ty := by
 obtain ⟨hlt, hg⟩ := Array.getElem?_eq_some_iff.1 h
 unfold World.setCell putRow
 congr 1
 apply Array.ext_getElem?
 intro k
 rw [Array.getElem?_modify, Array.getElem?_setIfInBounds]
 by_cases e : b = k
 ·subst e; simp [hlt, hg]
 ·simp [e]
theorem putRow_heap_same {b : Nat} {cs : Array Value} {ty : TypeId} (h : b < w.heap.size) : (putRow w b cs ty).heap[b]? = some (.cells cs ty (0, 0)) := by
 simp [putRow, h]
theorem putRow_heap_other {b k : Nat} {cs : Array Value} {ty : TypeId} (h : k ≠ b) : (putRow w b cs ty).heap[k]? = w.heap[k]? := by
 simp only [putRow]; rw [Array.getElem?_setIfInBounds_ne (Ne.symm h)]
@[simp] theorem putRow_size {b : Nat} {cs : Array Value} {ty : TypeId} : (putRow w b cs ty).heap.size = w.heap.size := by simp [putRow]
theorem putRow_twice {b : Nat} {cs cs' : Array Value} {ty : TypeId} : putRow (putRow w b cs ty) b cs' ty = putRow w b cs' ty := by
 simp [putRow]
theorem putRow_id {b : Nat} {cs : Array Value} {ty : TypeId} (h : w.heap[b]? = some (.cells cs ty (0, 0))) : putRow w b cs ty = w := by
 have : w.heap.setIfInBounds b (.cells cs ty (0, 0)) = w.heap := by
  apply Array.ext_getElem?
  intro k
  rw [Array.getElem?_setIfInBounds]
  by_cases e : b = k
  ·subst e; rw [if_pos rfl, if_pos (Array.getElem?_eq_some_iff.1 h).1, h]
  ·simp [e]
 simp [putRow, this]
theorem run_storeFrom (b o : Nat) (ty : TypeId) : ∀ (vs : List Value) (w : World) (i : Nat) (cs : Array Value), w.heap[b]? = some (.cells cs ty (0, 0)) → o + i + vs.length ≤ cs.size →
 vs.all Value.oneCell' = true → (storeCells ⟨b, o, none⟩ vs i).run P w = .ok () (putRow w b (writeAt cs (o + i) vs) ty)
 | [], w, i, cs, h, _, _ => by simp [storeCells, writeAt, putRow_id h]
 | v :: vs, w, i, cs, h, hz, h1 => by
   simp only [List.length_cons] at hz
   simp only [List.all_cons, Bool.and_eq_true] at h1
   have hlt := (Array.getElem?_eq_some_iff.1 h).1
   have hc : w.cell? ⟨b, o + i, none⟩ = some (cs[o + i]'(by omega)) := by
    simp [World.cell?, h]
   have hf : w.frozen? ⟨b, o + i, none⟩ = false := by simp [World.frozen?, h]
   have hp := putRow_heap_same (w := w) (cs := cs.setIfInBounds (o + i) v) (ty := ty) hlt
   have ih := run_storeFrom b o ty vs (putRow w b (cs.setIfInBounds (o + i) v) ty) (i + 1) _ hp (by simp; omega) h1.2
   simp only [storeCells, Sem.run_bind, add_none]
   rw [run_store _ _ _ _ _ h1.1, hc]
   simp only [hf, Bool.false_eq_true, if_false, Result.andThen_ok]
   rw [setCell_putRow v h, ih, putRow_twice, ← Nat.add_assoc]
   rfl
theorem run_storeCells {b o : Nat} {ty : TypeId} {vs : List Value} {cs : Array Value} (h : w.heap[b]? = some (.cells cs ty (0, 0))) (hz : o + vs.length ≤ cs.size)
 (h1 : vs.all Value.oneCell' = true) : (storeCells ⟨b, o, none⟩ vs).run P w = .ok () (putRow w b (writeAt cs o vs) ty) := by
 have := run_storeFrom (P := P) b o ty vs w 0 cs h (by simpa using hz) h1
 simpa using this
end
section
variable {w w' : World} {X : Nat → Prop} {ι : Nat → Nat} {σ : Sto} {n lk : Nat}
theorem set_row (hw : WF w X ι σ n) {id sz : Nat} {xs xs' : List V} {cs cs' : Array Value} {ty : TypeId} (h : σ id = some (.row sz xs)) (hl : lk ≤ id)
 (hc : w.heap[ι id]? = some (.cells cs ty (0, 0))) (hcz : cs'.size = cs.size) (u : Nat → Nat → Value) (hz : xs'.length * sz ≤ cs.size)
 (hs : ∀ (i : Nat) (x : V), xs'[i]? = some x → x.cells.length = sz ∧ x.cells.all V.one = true)
 (hm : ∀ (i : Nat) (x : V) (j : Nat) (e : V), xs'[i]? = some x → x.cells[j]? = some e → cs'[i * sz + j]? = some (u i j))
 (hr : ∀ (i : Nat) (x : V) (j : Nat) (e : V), xs'[i]? = some x → x.cells[j]? = some e → Rep w X ι n e (u i j)) :
 WF (putRow w (ι id) cs' ty) X ι (upd σ id (some (.row sz xs'))) n ∧ Ext w (putRow w (ι id) cs' ty) X X ι ι σ (upd σ id (some (.row sz xs'))) n n lk := by
 have hlt := (Array.getElem?_eq_some_iff.1 hc).1
 have hX := hw.own id (by rw [h]; simp)
 have hcells : ∀ (b : Nat) c t f, w.heap[b]? = some (.cells c t f) → ∃ c', (putRow w (ι id) cs' ty).heap[b]? = some (.cells c' t f) ∧ c'.size = c.size := by
  intro b c t f hb
  by_cases e : b = ι id
  ·subst e; rw [hc] at hb; cases hb; exact ⟨cs', putRow_heap_same hlt, hcz⟩
  ·exact ⟨c, by rw [putRow_heap_other e]; exact hb, rfl⟩
 have hrep : ∀ {v u}, Rep w X ι n v u → Rep (putRow w (ι id) cs' ty) X ι n v u := fun hh =>
  hh.move (by simp) (fun b _ hx => putRow_heap_other (fun e => hx (e ▸ hX))) hcells (fun _ _ => rfl) (fun _ _ h => h) (Nat.le_refl _)
 constructor
 ·constructor
  ·intro id' sz' ys hh
   by_cases e : id' = id
   ·subst e
    simp only [upd, if_true, Option.some.injEq, Ob.row.injEq] at hh
    obtain ⟨rfl, rfl⟩ := hh
    exact ⟨cs', ty, u, putRow_heap_same hlt, by rw [hcz]; exact hz, hs, hm, fun i x j e hx he => hrep (hr i x j e hx he)⟩
   ·simp only [upd, e, if_false] at hh
    obtain ⟨cells, ty', u', a1, a2, a3, a4, a5⟩ := hw.row id' sz' ys hh
    have hne : ι id' ≠ ι id := fun e' => e (hw.inj id' id (by rw [hh]; simp) (by rw [h]; simp) e')
    exact ⟨cells, ty', u', by rw [putRow_heap_other hne]; exact a1, a2, a3, a4, fun i x j e hx he => hrep (a5 i x j e hx he)⟩
  ·intro l env ps a b st pend hh
   by_cases e : l = id
   ·subst e; simp [upd] at hh
   ·simp only [upd, e, if_false] at hh
    obtain ⟨r, a1, a2⟩ := hw.loop l env ps a b st pend hh
    have hne : ι l ≠ ι id := fun e' => e (hw.inj l id (by rw [hh]; simp) (by rw [h]; simp) e')
    exact ⟨r, by rw [putRow_heap_other hne]; exact a1, a2.hst, a2.hpend, a2.hpn, a2.hps, a2.code, fun t => hrep (a2.rep t)⟩
  ·intro id' hh
   by_cases e : id' = id
   ·subst e; exact hX
   ·simp only [upd, e, if_false] at hh; exact hw.own id' hh
  ·intro i1 i2 h1 h2 he
   refine hw.inj i1 i2 ?_ ?_ he
   ·by_cases e : i1 = id
    ·rw [e, h]; simp
    ·simpa [upd, e] using h1
   ·by_cases e : i2 = id
    ·rw [e, h]; simp
    ·simpa [upd, e] using h2
  ·intro i1 h1
   by_cases e : i1 = id
   ·exact hw.dom i1 (by rw [e, h]; simp)
   ·exact hw.dom i1 (by simpa [upd, e] using h1)
  ·intro b hb; simpa using hw.xlt b hb
  ·intro id' o hh
   by_cases e : id' = id
   ·subst e
    simp only [upd, if_true, Option.some.injEq] at hh
    subst hh
    trivial
   ·simp only [upd, e, if_false] at hh
    have hne : ι id' ≠ ι id := fun e' => e (hw.inj id' id (by rw [hh]; simp) (by rw [h]; simp) e')
    exact (hw.mi id' o hh).move (by simp) (fun b _ hx => putRow_heap_other (fun e => hx (e ▸ hX))) hcells (fun _ _ => rfl) (fun _ _ h => h) (Nat.le_refl _) (putRow_heap_other hne)
 ·exact {
   hn := Nat.le_refl _, os := rfl, tape := rfl, output := rfl, size := by simp
   heap := fun b hb ho => putRow_heap_other (fun e => ho ⟨id, hl, by rw [h]; simp, e.symm⟩)
   cells := hcells
   loops := fun b r hb => ⟨r, by rw [putRow_heap_other (fun e => by rw [e, hc] at hb; cases hb)]; exact hb⟩
   hι := fun _ _ => rfl
   xnew := fun _ _ h => h
   xold := fun _ h _ => h
   xlt := hw.xlt
   own := fun i hi hh _ => by
    by_cases e : i = id
    ·exact ⟨i, hi, by rw [e, h]; simp, rfl⟩
    ·exact ⟨i, hi, by simpa [upd, e] using hh, rfl⟩
   lock := fun i hi => by simp [upd]; omega }
def putOb (w : World) (b : Nat) (ob : Obj) : World := { w with heap := w.heap.setIfInBounds b ob }
theorem putOb_same {w : World} {b : Nat} {ob : Obj} (h : b < w.heap.size) : (putOb w b ob).heap[b]? = some ob := by simp [putOb, h]
theorem putOb_other {w : World} {b k : Nat} {ob : Obj} (h : k ≠ b) : (putOb w b ob).heap[k]? = w.heap[k]? := by
 simp only [putOb]; rw [Array.getElem?_setIfInBounds_ne (Ne.symm h)]
@[simp] theorem putOb_size {w : World} {b : Nat} {ob : Obj} : (putOb w b ob).heap.size = w.heap.size := by simp [putOb]
theorem set_obj (hw : WF w X ι σ n) {id : Nat} {o o' : Ob} {ob ob' : Obj} (h : σ id = some o) (hl : lk ≤ id) (ho : o'.other = true)
 (hc : w.heap[ι id]? = some ob) (hk : (∀ c t f, ob ≠ .cells c t f) ∧ ∀ r, ob ≠ .loop r) (hm : MI (putOb w (ι id) ob') X ι n (ι id) o') :
 WF (putOb w (ι id) ob') X ι (upd σ id (some o')) n ∧ Ext w (putOb w (ι id) ob') X X ι ι σ (upd σ id (some o')) n n lk := by
 have hlt := (Array.getElem?_eq_some_iff.1 hc).1
 have hX := hw.own id (by rw [h]; simp)
 have hcells : ∀ (b : Nat) c t f, w.heap[b]? = some (.cells c t f) → ∃ c', (putOb w (ι id) ob').heap[b]? = some (.cells c' t f) ∧ c'.size = c.size := by
  intro b c t f hb
  by_cases e : b = ι id
  ·subst e; rw [hc] at hb; cases hb; exact absurd rfl (hk.1 c t f)
  ·exact ⟨c, by rw [putOb_other e]; exact hb, rfl⟩
 have hrep : ∀ {v u}, Rep w X ι n v u → Rep (putOb w (ι id) ob') X ι n v u := fun hh =>
  hh.move (by simp) (fun b _ hx => putOb_other (fun e => hx (e ▸ hX))) hcells (fun _ _ => rfl) (fun _ _ h => h) (Nat.le_refl _)
 constructor
 ·constructor
  ·intro id' sz' ys hh
   by_cases e : id' = id
   ·subst e
    simp only [upd, if_true, Option.some.injEq] at hh
    subst hh; simp [Ob.other] at ho
   ·simp only [upd, e, if_false] at hh
    obtain ⟨cells, ty', u', a1, a2, a3, a4, a5⟩ := hw.row id' sz' ys hh
    have hne : ι id' ≠ ι id := fun e' => e (hw.inj id' id (by rw [hh]; simp) (by rw [h]; simp) e')
    exact ⟨cells, ty', u', by rw [putOb_other hne]; exact a1, a2, a3, a4, fun i x j e hx he => hrep (a5 i x j e hx he)⟩
  ·intro l env ps a b st pend hh
   by_cases e : l = id
   ·subst e
    simp only [upd, if_true, Option.some.injEq] at hh
    subst hh; simp [Ob.other] at ho
   ·simp only [upd, e, if_false] at hh
    obtain ⟨r, a1, a2⟩ := hw.loop l env ps a b st pend hh
    have hne : ι l ≠ ι id := fun e' => e (hw.inj l id (by rw [hh]; simp) (by rw [h]; simp) e')
    exact ⟨r, by rw [putOb_other hne]; exact a1, a2.hst, a2.hpend, a2.hpn, a2.hps, a2.code, fun t => hrep (a2.rep t)⟩
  ·intro id' hh
   by_cases e : id' = id
   ·subst e; exact hX
   ·simp only [upd, e, if_false] at hh; exact hw.own id' hh
  ·intro i1 i2 h1 h2 he
   refine hw.inj i1 i2 ?_ ?_ he
   ·by_cases e : i1 = id
    ·rw [e, h]; simp
    ·simpa [upd, e] using h1
   ·by_cases e : i2 = id
    ·rw [e, h]; simp
    ·simpa [upd, e] using h2
  ·intro i1 h1
   by_cases e : i1 = id
   ·exact hw.dom i1 (by rw [e, h]; simp)
   ·exact hw.dom i1 (by simpa [upd, e] using h1)
  ·intro b hb; simpa using hw.xlt b hb
  ·intro id' o hh
   by_cases e : id' = id
   ·subst e
    simp only [upd, if_true, Option.some.injEq] at hh
    subst hh
    exact hm
   ·simp only [upd, e, if_false] at hh
    have hne : ι id' ≠ ι id := fun e' => e (hw.inj id' id (by rw [hh]; simp) (by rw [h]; simp) e')
    exact (hw.mi id' o hh).move (by simp) (fun b _ hx => putOb_other (fun e => hx (e ▸ hX))) hcells (fun _ _ => rfl) (fun _ _ h => h) (Nat.le_refl _) (putOb_other hne)
 ·exact {
   hn := Nat.le_refl _, os := rfl, tape := rfl, output := rfl, size := by simp
   heap := fun b hb ho => putOb_other (fun e => ho ⟨id, hl, by rw [h]; simp, e.symm⟩)
   cells := hcells
   loops := fun b r hb => ⟨r, by rw [putOb_other (fun e => by rw [e, hc] at hb; cases hb; exact absurd rfl (hk.2 r))]; exact hb⟩
   hι := fun _ _ => rfl
   xnew := fun _ _ h => h
   xold := fun _ h _ => h
   xlt := hw.xlt
   own := fun i hi hh _ => by
    by_cases e : i = id
    ·exact ⟨i, hi, by rw [e, h]; simp, rfl⟩
    ·exact ⟨i, hi, by simpa [upd, e] using hh, rfl⟩
   lock := fun i hi => by simp [upd]; omega }
theorem drop_obj (hw : WF w X ι σ n) (id : Nat) (hl : lk ≤ id) :
 WF w X ι (upd σ id none) n ∧ Ext w w X X ι ι σ (upd σ id none) n n lk := by
 have key : ∀ i, upd σ id none i ≠ none → σ i ≠ none := fun i h => by
  by_cases e : i = id
  ·simp [upd, e] at h
  ·simpa [upd, e] using h
 constructor
 ·exact ⟨fun i sz xs h => hw.row i sz xs (by
   by_cases e : i = id
   ·simp [upd, e] at h
   ·simpa [upd, e] using h), fun l env ps a b st pend h => hw.loop l env ps a b st pend (by
   by_cases e : l = id
   ·simp [upd, e] at h
   ·simpa [upd, e] using h), fun i h => hw.own i (key i h), fun i j h h' => hw.inj i j (key i h) (key j h'), fun i h => hw.dom i (key i h), hw.xlt, fun i o h => hw.mi i o (by
   by_cases e : i = id
   ·simp [upd, e] at h
   ·simpa [upd, e] using h)⟩
 ·exact { hn := Nat.le_refl _, os := rfl, tape := rfl, output := rfl, size := Nat.le_refl _, heap := fun _ _ _ => rfl, cells := fun b c t f h => ⟨c, h, rfl⟩, loops := fun _ r h => ⟨r, h⟩,
          hι := fun _ _ => rfl, xnew := fun _ _ h => h, xold := fun _ h _ => h, xlt := hw.xlt, own := fun i hi h _ => ⟨i, hi, key i h, rfl⟩,
          lock := fun i hi => by simp [upd]; omega }
theorem one_of_rep {v : V} {u : Value} (h : Rep w X ι n v u) (h1 : v.one = true) : u.oneCell' = true := by
 cases h <;> simp_all [V.one, Value.oneCell']
theorem cells_of_rep {v : V} {u : Value} (h : Rep w X ι n v u) : v.cells.length = u.cells.size ∧ ∀ (j : Nat) (e : V) (x : Value), v.cells[j]? = some e → u.cells[j]? = some x → Rep w X ι n e x := by
 cases h with
 | agg cs us hl hr => exact ⟨hl, hr⟩
 | _ => refine ⟨rfl, fun j e x h1 h2 => ?_⟩ <;> (cases j <;> simp [V.cells, Value.cells] at h1 h2; subst h1; subst h2; constructor <;> assumption)
end
end Go.Q
end

section
/- Loaded operations, their static parts worked in; and each of them, run, does what the plain evaluator says. -/
namespace Go.Q
variable [Link]
def ofVal : Value → Option V
 | .int k n => some (.int k n)
 | .bool b => some (.bool b)
 | .string s => some (.str s)
 | .slice none 0 0 => some .nilS
 | .pointer none => some .nilP
 | .nilFunc => some .nilF
 | .nilIface => some .nilI
 | .map none => some .nilM
 | _ => none
def ofValA : Value → Option V
 | .agg cs => (cs.toList.mapM ofVal).map .agg
 | v => ofVal v
def cOpd : Operand → Option Opd
 | .tmp t => some (.tmp t)
 | .const v => (ofValA v).map .con
 | .func f => some (.con (.fn f []))
 | .global _ => none
structure TI where
 d : TypeDesc
 size : Nat
 bytes : Nat
 zero : V
def ti (P : Program) (t : TypeId) : Option TI :=
 match P.underlying t, P.info? t with
 | some d, some i => match i.zero with
   | some z => (ofValA z).map fun z => ⟨d, i.size, i.bytes, z⟩
   | none => none
 | _, _ => none
def TI.agg (t : TI) : Bool := match t.d with | .struct _ | .array _ _ => true | _ => false
def TI.flat (t : TI) : Bool := t.zero.cells.length = t.size && t.zero.cells.all V.one && t.size ≠ 0 && t.bytes ≠ 0 && t.bytes ≤ 1000000
def cOpds (l : List Operand) : Option (List Opd) := l.mapM cOpd
def opdEq : Operand → Operand → Bool
 | .tmp a, .tmp b => a == b
 | .const (.int j a), .const (.int k b) => j == k && a == b
 | _, _ => false
def cOpt : Option Operand → Option (Option Opd)
 | some y => (cOpd y).map some
 | none => some none
def cParts (pl : Nat → Option (Nat × Nat)) (ps : List (Nat × Operand)) : Option (List (Nat × Nat × Opd)) :=
 ps.mapM fun p => do
  let q ← pl p.1
  let x ← cOpd p.2
  some (q.1, q.2, x)
def ckOf (P : Program) (t : TypeId) : Option CK :=
 match P.underlying t with
 | some .bool => some .bool
 | some (.int _) => some .int
 | some .string => some .str
 | _ => none
def cksOf (P : Program) (t : TypeId) (fs : List Field) : Option (List CK) :=
 if (fs.zipIdx.all fun p => p.1.offset == p.2 && p.1.name != "_") && !P.stoodInHeld t && !P.eqGuardType P.depth t then fs.mapM fun f => ckOf P f.type else none
def cksArr (P : Program) (t : TypeId) (m : Nat) (e : TypeId) : Option (List CK) :=
 match ckOf P e, ti P e with
 | some k, some j => if j.size = 1 ∧ P.eqGuardType P.depth t = false then some (List.replicate m k) else none
 | _, _ => none
def cKey (P : Program) (t : TypeId) : Option KK :=
 match P.underlying t with
 | some .bool => some (.one .bool)
 | some (.int _) => some (.one .int)
 | some .string => some (.one .str)
 | some (.struct fs) => (cksOf P t fs.toList).map .agg
 | some (.array m e) => (cksArr P t m e).map .agg
 | _ => none
def cMap (P : Program) (t : TypeId) : Option (KK × V) :=
 match P.underlying t with
 | some (.map kt e) => (cKey P kt).bind fun kk => (ti P e).map fun j => (kk, j.zero)
 | _ => none
def isPtrD : TypeDesc → Bool
 | .pointer _ => true
 | _ => false
def rcvOf (P : Program) (t : TypeId) (m : Method) : Option (Nat × Option (Bool × Nat × Nat)) :=
 match m.func with
 | none => none
 | some (f, p) => match m.path.toList with
   | [] => match P.underlying t with
     | some d => if isPtrD d == p then some (f, none) else none
     | none => none
   | [s] => if s.deref && !p then
    match P.underlying s.struct with
    | some (.struct fs) => match fs[s.index]? with
      | some g => match ti P g.type with
        | some j => if !isPtrD j.d && (j.agg || j.size == 1) && j.size ≠ 0 then some (f, some (j.agg, j.size, g.offset)) else none
        | none => none
      | none => none
    | _ => none
    else none
   | _ => none
def invRow (P : Program) (name : String) (t : TypeId) : Option (Nat × Nat × Option (Bool × Nat × Nat)) :=
 (P.info? t).bind fun i => (i.methods.find? (·.name == name)).bind fun m => (rcvOf P t m).map fun r => (t, r.1, r.2)
def invTbl (P : Program) (name : String) : List (Nat × Nat × Option (Bool × Nat × Nat)) := (List.range P.types.size).filterMap (invRow P name)
def isPrim (P : Program) (f : Nat) : Bool := match P.funcs[f]? with
 | some F => F.origin == "slices.Insert" || F.origin == "slices.Delete" || F.name == "quiver/quiverlaw16.wakes" || F.name == "math/bits.TrailingZeros64"
 | none => false
def cOp (P : Program) (o : Oper) : Option AI :=
 match o.op with
 | .move x | .assign x => (cOpd x).map .mov
 | .pick c a b => do some (.pick (← cOpd c) (← cOpd a) (← cOpd b))
 | .alloc t => do
   let i ← ti P t
   if i.flat then some (.alloc i.zero) else none
 | .box _ x => (cOpd x).map .box
 | .build t ps => do
   let i ← ti P t
   match i.d with
   | .struct fs =>
     let pl ← fs.toList.mapM fun f => (ti P f.type).map fun j => (f.offset, j.size)
     let qs ← cParts (fun k => pl[k]?) ps.toList
     if i.flat then some (.build i.zero.cells qs) else none
   | .array _ e =>
     let j ← ti P e
     let qs ← cParts (fun k => some (k * j.size, j.size)) ps.toList
     if i.flat then some (.build i.zero.cells qs) else none
   | _ => none
 | .buildSlice t len ps => do
   let .slice e ← P.underlying t | none
   let j ← ti P e
   let es ← cOpds (ps.toList.map (·.2))
   if j.flat && ps.toList.map (·.1) == List.range len && len * j.size ≤ 16777216 then some (.lit j.size es) else none
 | .load t x => do
   let i ← ti P t
   let x ← cOpd x
   if i.agg || i.size == 1 then some (.load i.agg i.size x) else none
 | .store t a v => do
   let i ← ti P t
   some (.store i.size (← cOpd a) (← cOpd v))
 | .nilCheck x => (cOpd x).map .nilck
 | .binOp op t x y _ => do
   let x' ← cOpd x
   let y' ← cOpd y
   match P.underlying t with
   | some (.int _) | some .string => some (.bin op x' y')
   | some .bool => match op with
     | .eql => some (.eqB false x' y')
     | .neq => some (.eqB true x' y')
     | _ => none
   | some (.slice _) => match op, y' with
     | .eql, .con .nilS => some (.eqN false x')
     | .neq, .con .nilS => some (.eqN true x')
     | _, _ => none
   | some (.struct fs) => do
     let ks ← cksOf P t fs.toList
     match op with
     | .eql => some (.eqA false ks x' y')
     | .neq => some (.eqA true ks x' y')
     | _ => none
   | some (.array m e) => do
     let ks ← cksArr P t m e
     match op with
     | .eql => some (.eqA false ks x' y')
     | .neq => some (.eqA true ks x' y')
     | _ => none
   | some (.func ..) => match op, y' with
     | .eql, .con .nilF => some (.eqF false x')
     | .neq, .con .nilF => some (.eqF true x')
     | _, _ => none
   | _ => none
 | .unOp op _ x => (cOpd x).map (.un op)
 | .convert s d x => do
   let x' ← cOpd x
   match P.underlying s, P.underlying d with
   | some (.int _), some (.int k) => some (.conv k x')
   | _, _ => none
 | .makeFunc fn first cs => match fn with
   | .func f => if first.toList.isEmpty then (cOpds cs.toList).map (.mkfn f) else if cs.toList.isEmpty then (cOpds first.toList).map (.mkbnd f) else none
   | _ => none
 | .makeSlice t l c => do
   let .slice e ← P.underlying t | none
   let j ← ti P e
   if j.flat && opdEq l c then (cOpd l).map (.mksl j.size j.bytes j.zero) else none
 | .slice t x lo hi mx => do
   let x' ← cOpd x
   let lo' ← cOpt lo
   let hi' ← cOpt hi
   match mx with
   | some m => do
     let m' ← cOpd m
     match P.underlying t, hi' with
     | some (.slice e), some h => (ti P e).map fun j => .slice3 j.size x' lo' h m'
     | _, _ => none
   | none => match P.underlying t with
     | some (.slice e) => (ti P e).map fun j => .slice j.size x' lo' hi'
     | some .string => some (.sliceS x' lo' hi')
     | _ => none
 | .fieldAddr s x f => do
   let .struct fs ← P.underlying s | none
   let g ← fs[f]?
   let j ← ti P g.type
   if j.size ≠ 0 then (cOpd x).map fun x => .faddr x g.offset else none
 | .field s x f => do
   let .struct fs ← P.underlying s | none
   let g ← fs[f]?
   let j ← ti P g.type
   if j.agg || j.size == 1 then (cOpd x).map (.fld j.agg j.size g.offset) else none
 | .indexAddr t x i => do
   let x' ← cOpd x
   let i' ← cOpd i
   match P.underlying t with
   | some (.slice e) => (ti P e).map fun j => .iaddr j.size x' i'
   | some (.array n e) => (ti P e).map fun j => .iaddrA n j.size x' i'
   | _ => none
 | .index t x i => do
   let x' ← cOpd x
   let i' ← cOpd i
   match P.underlying t with
   | some .string => some (.idxS x' i')
   | some (.array n e) => do
     let j ← ti P e
     if j.agg || j.size == 1 then some (.idxA j.agg n j.size x' i') else none
   | _ => none
 | .extract x i => (cOpd x).map fun x => .ext x i
 | .typeAssert x _ t ok => do
   let i ← ti P t
   let x' ← cOpd x
   match i.d with
   | .interface _ => none
   | _ => some (.tas ok t i.zero x')
 | .makeInterface t x => match P.underlying t with
   | some (.interface _) | none => none
   | _ => (cOpd x).map (.mkif t)
 | .makeMap t r => match P.underlying t, r with
   | some (.map ..), none => some .mkmap
   | some (.map ..), some (.const (.int ..)) => some .mkmap
   | _, _ => none
 | .mapUpdate t m k v | .insert t m k v => do
   let kk ← cMap P t
   some (.mupd kk.1 (← cOpd m) (← cOpd k) (← cOpd v))
 | .lookup t m k ok => do
   let kk ← cMap P t
   some (.mget ok kk.1 kk.2 (← cOpd m) (← cOpd k))
 | .mapEntry t m k => do
   let kk ← cMap P t
   some (.ment kk.1 kk.2 (← cOpd m) (← cOpd k))
 | .entryStore _ m s v => do some (.mest (← cOpd m) (← cOpd s) (← cOpd v))
 | .range t m => match P.underlying t with
   | some (.map ..) => (cOpd m).map .range
   | _ => none
 | .next it b => if b then none else (cOpd it).map .next
 | .entry it => (cOpd it).map .entry
 | .call c => match c.callee with
   | .builtin .delete => match c.args.toList, c.argTypes.toList with
     | [m, k], [t, _] => do
       let kk ← cMap P t
       some (.mdel kk.1 (← cOpd m) (← cOpd k))
     | _, _ => none
   | .builtin .len => match c.args.toList, c.argTypes.toList with
     | [x], [t] => match P.underlying t with
       | some .string => (cOpd x).map .lenS
       | some (.slice _) => (cOpd x).map .len
       | some (.map ..) => (cOpd x).map .mlen
       | _ => none
     | _, _ => none
   | .builtin .min => (cOpds c.args.toList).map .min
   | .builtin .max => (cOpds c.args.toList).map .max
   | .builtin .append => match c.args.toList, c.argTypes.toList with
     | [x, y], [t, t'] => do
       let .slice e ← P.underlying t | none
       let .slice _ ← P.underlying t' | none
       let j ← ti P e
       if j.flat then some (.append j.size j.bytes (← cOpd x) (← cOpd y)) else none
     | _, _ => none
   | .value (.func f) => if isPrim P f then (cOpds c.args.toList).map (.prim f) else (cOpds c.args.toList).map (.call f)
   | .value g => do some (.callv (← cOpd g) (← cOpds c.args.toList))
   | .invoke x name => do some (.inv (← cOpd x) (invTbl P name) (← cOpds c.args.toList))
   | _ => none
 | _ => none
section
variable {P : Program} {w : World} {X : Nat → Prop} {ι : Nat → Nat} {σ : Sto} {n lk : Nat}
theorem run_underlying {t : TypeId} {d : TypeDesc} (h : P.underlying t = some d) : (underlying t).run P w = .ok d w := by
 simp [underlying, h]
theorem run_typeInfo {t : TypeId} {i : TypeInfo} (h : P.info? t = some i) : (typeInfo t).run P w = .ok i w := by
 simp [typeInfo, h]
theorem ti_spec {t : TypeId} {i : TI} (h : ti P t = some i) : P.underlying t = some i.d ∧ ∃ j z, P.info? t = some j ∧ j.size = i.size ∧ j.bytes = i.bytes ∧
 j.zero = some z ∧ ofValA z = some i.zero := by
 unfold ti at h
 cases h1 : P.underlying t with
 | none => simp [h1] at h
 | some d =>
   cases h2 : P.info? t with
   | none => simp [h1, h2] at h
   | some j =>
     cases h3 : j.zero with
     | none => simp [h1, h2, h3] at h
     | some z =>
       simp only [h1, h2, h3, Option.map_eq_some_iff] at h
       obtain ⟨z', h4, rfl⟩ := h
       exact ⟨rfl, j, z, rfl, rfl, rfl, h3, h4⟩
theorem run_sizeOf {t : TypeId} {i : TI} (h : ti P t = some i) : (sizeOf t).run P w = .ok i.size w := by
 obtain ⟨_, j, z, h1, h2, _⟩ := ti_spec h
 simp [sizeOf, run_typeInfo h1, h2]
theorem run_zeroValue {t : TypeId} {i : TI} (h : ti P t = some i) : ∃ z, (zeroValue t).run P w = .ok z w ∧ ofValA z = some i.zero := by
 obtain ⟨_, j, z, h1, _, _, h2, h3⟩ := ti_spec h
 exact ⟨z, by simp [zeroValue, run_typeInfo h1, h2], h3⟩
theorem run_isAgg {t : TypeId} {i : TI} (h : ti P t = some i) : (isAgg t).run P w = .ok i.agg w := by
 obtain ⟨h0, _⟩ := ti_spec h
 simp only [isAgg, Sem.run_bind, run_underlying h0, Result.andThen_ok, TI.agg]
 cases i.d <;> rfl
theorem ofVal_rep {v : Value} {x : V} (h : ofVal v = some x) : Rep w X ι n x v ∧ x.one = true ∧ v.oneCell' = true := by
 unfold ofVal at h
 split at h <;> simp at h <;> subst h <;> exact ⟨by constructor, rfl, rfl⟩
theorem mapM_get {α β : Type} (f : α → Option β) : ∀ (l : List α) (m : List β), l.mapM f = some m → l.length = m.length ∧ ∀ (i : Nat) (a : α) (b : β), l[i]? = some a → m[i]? = some b → f a = some b
 | [], m, h => by simp at h; subst h; simp
 | a :: l, m, h => by
   simp only [List.mapM_cons, Option.pure_def, Option.bind_eq_bind, Option.bind_eq_some_iff, Option.some.injEq] at h
   obtain ⟨b, hb, m', hm, rfl⟩ := h
   obtain ⟨h1, h2⟩ := mapM_get f l m' hm
   refine ⟨by simp [h1], fun i a' b' ha hb' => ?_⟩
   cases i with
   | zero => simp at ha hb'; subst ha; subst hb'; exact hb
   | succ i => exact h2 i a' b' (by simpa using ha) (by simpa using hb')
theorem ofValA_rep {v : Value} {x : V} (h : ofValA v = some x) : Rep w X ι n x v := by
 unfold ofValA at h
 split at h
 ·rename_i cs
  simp only [Option.map_eq_some_iff] at h
  obtain ⟨l, hl, rfl⟩ := h
  obtain ⟨h1, h2⟩ := mapM_get _ _ _ hl
  exact .agg _ _ (by simpa using h1.symm) (fun i e u he hu => (ofVal_rep (h2 i u e (by simpa using hu) he)).1)
 ·exact (ofVal_rep h).1
theorem ofValA_one {v : Value} {x : V} (h : ofValA v = some x) : x.cells.all V.one = true ∧ v.cells.toList.all Value.oneCell' = true := by
 unfold ofValA at h
 split at h
 ·rename_i cs
  simp only [Option.map_eq_some_iff] at h
  obtain ⟨l, hl, rfl⟩ := h
  obtain ⟨h1, h2⟩ := mapM_get _ _ _ hl
  constructor
  ·simp only [V.cells, List.all_eq_true]
   intro e he
   obtain ⟨i, hi, rfl⟩ := List.getElem_of_mem he
   exact (ofVal_rep (w := default) (X := fun _ => False) (ι := id) (n := 0) (h2 i _ _ (List.getElem?_eq_getElem (by omega)) (List.getElem?_eq_getElem hi))).2.1
  ·simp only [Value.cells, List.all_eq_true]
   intro e he
   obtain ⟨i, hi, rfl⟩ := List.getElem_of_mem he
   exact (ofVal_rep (w := default) (X := fun _ => False) (ι := id) (n := 0) (h2 i _ _ (List.getElem?_eq_getElem hi) (List.getElem?_eq_getElem (by omega)))).2.2
 ·have := ofVal_rep (w := default) (X := fun _ => False) (ι := id) (n := 0) h
  unfold ofVal at h
  split at h <;> simp at h <;> subst h <;> exact ⟨rfl, rfl⟩
end
end Go.Q
end

section
/- Each operation, run: moves, reads, writes, composites. -/
namespace Go.Q
variable [Link]
def Good (w : World) (X : Nat → Prop) (ι : Nat → Nat) (σ : Sto) (n lk : Nat) (r : Result Next) (v : V) (σ' : Sto) (n' : Nat) : Prop :=
 ∃ w' X' ι' u, (r = .ok (.value u) w' ∨ (r = .ok .skip w' ∧ u = undef)) ∧ Rep w' X' ι' n' v u ∧ WF w' X' ι' σ' n' ∧ Ext w w' X X' ι ι' σ σ' n n' lk
section
variable {P : Program} {w : World} {X : Nat → Prop} {ι : Nat → Nat} {σ σ' : Sto} {n n' lk : Nat} {ρ : Operand → Value} {ρ' : Opd → V}
theorem good_pure (hw : WF w X ι σ n) {v : V} {u : Value} {r : Result Next} (hr : r = .ok (.value u) w) (h : Rep w X ι n v u) : Good w X ι σ n lk r v σ n :=
 ⟨w, X, ι, u, .inl hr, h, hw, Ext.refl hw.xlt⟩
theorem rep_at (hw : WF w X ι σ n) {id sz i : Nat} {e : V} (h : rowAt σ id sz i = some e) :
 (e.cells.length = sz ∧ e.cells.all V.one = true) ∧ ∃ u : Nat → Value, ∀ (j : Nat) (c : V), e.cells[j]? = some c → w.cell? ⟨ι id, i * sz + j, none⟩ = some (u j) ∧ Rep w X ι n c (u j) := by
 unfold rowAt at h
 split at h
 ·rename_i sz' xs hs
  split at h
  ·rename_i he
   subst he
   obtain ⟨cells, ty, u, h1, h2, h3, h4, h5⟩ := hw.row id _ _ hs
   refine ⟨h3 i e h, u i, fun j c hc => ⟨?_, h5 i e j c h hc⟩⟩
   simp only [World.cell?, h1]
   simpa using h4 i e j c h hc
  ·cases h
 ·cases h
theorem load_sound {t : TypeId} {i : TI} (ht : ti P t = some i) (h1 : i.agg = true ∨ i.size = 1) {cs : List V} {b o : Nat} {u : Nat → Value}
 (hc : ∀ (j : Nat) (c : V), cs[j]? = some c → w.cell? ⟨b, o + j, none⟩ = some (u j) ∧ Rep w X ι n c (u j)) {v : V} (h : loadC i.agg i.size cs = some v) :
 ∃ x, (loadVar t ⟨b, o, none⟩).run P w = .ok x w ∧ Rep w X ι n v x := by
 unfold loadC at h
 cases ha : i.agg with
 | true =>
   simp only [ha, if_true] at h
   split at h
   ·rename_i hle
    cases h
    let us : List Value := (List.range i.size).map u
    have hus : us.length = i.size := by simp [us]
    have hrun := run_loadCells (P := P) (w := w) b o us (fun j x hj => by
     have hlt : j < i.size := by have := (List.getElem?_eq_some_iff.1 hj).1; omega
     have : x = u j := by simp [us, hlt] at hj; exact hj.symm
     rw [this]
     exact (hc j cs[j] (List.getElem?_eq_getElem (by omega))).1)
    rw [hus] at hrun
    refine ⟨.agg us.toArray, ?_, .agg _ _ (by simp [us]; omega) (fun j e x he hx => ?_)⟩
    ·simp only [loadVar, Sem.run_bind, run_isAgg ht, ha, if_true, Result.andThen_ok, run_sizeOf ht, hrun, Sem.run_pure]
    ·have hlt : j < i.size := by
      have := (Array.getElem?_eq_some_iff.1 hx).1
      simpa [us] using this
     have hx' : x = u j := by simp [us, hlt] at hx; exact hx.symm
     rw [List.getElem?_take, if_pos hlt] at he
     rw [hx']
     exact (hc j e he).2
   ·cases h
 | false =>
   simp only [ha, Bool.false_eq_true, if_false] at h
   cases cs with
   | nil => cases h
   | cons c cs =>
     simp at h; subst h
     obtain ⟨h2, h3⟩ := hc 0 _ rfl
     refine ⟨u 0, ?_, h3⟩
     simp only [loadVar, Sem.run_bind, run_isAgg ht, ha, Bool.false_eq_true, if_false, Result.andThen_ok]
     exact run_load_cell (by simpa using h2)
theorem drop_at {cs : List V} {b o j : Nat} {u : Nat → Value} (hc : ∀ (k : Nat) (c : V), cs[k]? = some c → w.cell? ⟨b, o + k, none⟩ = some (u k) ∧ Rep w X ι n c (u k)) :
 ∀ (k : Nat) (c : V), (cs.drop j)[k]? = some c → w.cell? ⟨b, o + j + k, none⟩ = some (u (j + k)) ∧ Rep w X ι n c (u (j + k)) := fun k c h => by
 rw [List.getElem?_drop] at h
 have := hc _ _ h
 rwa [show o + (j + k) = o + j + k by omega] at this
theorem ev_load (hw : WF w X ι σ n) {t : TypeId} {x : Operand} {x' : Opd} {i : TI} (hρ : Rep w X ι n (ρ' x') (ρ x)) (ht : ti P t = some i) (h1 : i.agg = true ∨ i.size = 1)
 {v : V} (h : ev ρ' σ n lk (.load i.agg i.size x') = some (v, σ', n')) : Good w X ι σ n lk (((do pure (.value (← Instr.loadAt t (ρ x))) : Sem Next)).run P w) v σ' n' := by
 simp only [ev] at h
 cases hv : ρ' x' <;> rw [hv] at h hρ <;> simp only [reduceCtorEq] at h
 ·rename_i id sz i' j
  simp only [Option.bind_eq_some_iff, Option.map_eq_some_iff, Prod.mk.injEq] at h
  obtain ⟨e, he, v', hl, rfl, rfl, rfl⟩ := h
  obtain ⟨_, u, hu⟩ := rep_at hw he
  generalize hy : ρ x = y at *
  cases hρ
  obtain ⟨z, hz, hr⟩ := load_sound (w := w) (X := X) (ι := ι) (n := n) ht h1 (drop_at hu) hl
  exact good_pure hw (by simp [Instr.loadAt, Instr.sureAddr, hz]) hr
 ·rename_i cs
  simp only [Option.map_eq_some_iff, Prod.mk.injEq] at h
  obtain ⟨v', hl, rfl, rfl, rfl⟩ := h
  generalize hy : ρ x = y at *
  cases hρ with
  | box _ b o u hX hb h1' hm hr =>
    obtain ⟨z, hz, hr⟩ := load_sound (w := w) (X := X) (ι := ι) (n := n) ht h1 (fun j c hc => ⟨hm j c hc, (hr j c hc).up⟩) hl
    exact good_pure hw (by simp [Instr.loadAt, Instr.sureAddr, hz]) hr
theorem splice_cells (x : V) (j : Nat) (cs : List V) (h0 : 0 < cs.length) (h1 : cs.all V.one = true) (hj : j + cs.length ≤ x.cells.length) :
 (spliceC x j cs).cells = x.cells.take j ++ cs ++ x.cells.drop (j + cs.length) := by
 unfold spliceC
 split
 ·rfl
 ·rename_i hx'
  have hc : x.cells = [x] := by cases x <;> first | rfl | exact absurd rfl (hx' _)
  rw [hc] at hj ⊢
  simp only [List.length_cons, List.length_nil] at hj
  match cs, h0, h1, hj with
  | [c], _, h1, hj =>
    simp only [List.all_cons, List.all_nil, Bool.and_true] at h1
    have hcc : c.cells = [c] := by cases c <;> first | rfl | simp [V.one] at h1
    simp only [List.length_cons, List.length_nil] at hj
    have hj0 : j = 0 := by omega
    subst hj0
    simp [hcc]
  | _ :: _ :: _, _, _, hj => simp at hj; omega
theorem cells_all_one {x : V} {us : Value} (h : Rep w X ι n x us) (h1 : x.cells.all V.one = true) : us.cells.toList.all Value.oneCell' = true := by
 obtain ⟨hl, hr⟩ := cells_of_rep h
 rw [List.all_eq_true] at h1 ⊢
 intro e he
 obtain ⟨i, hi, rfl⟩ := List.getElem_of_mem he
 have hi' : i < x.cells.length := by simp at hi; omega
 exact one_of_rep (hr i x.cells[i] _ (List.getElem?_eq_getElem hi') (by simp at hi ⊢)) (h1 _ (List.getElem_mem hi'))
theorem ev_store (hw : WF w X ι σ n) {t : TypeId} {a v : Operand} {a' v' : Opd} {i : TI} (hρa : Rep w X ι n (ρ' a') (ρ a)) (hρv : Rep w X ι n (ρ' v') (ρ v))
 (ht : ti P t = some i) {r : V} (h : ev ρ' σ n lk (.store i.size a' v') = some (r, σ', n')) :
 Good w X ι σ n lk (((do Instr.storeAt t (ρ a) (ρ v); pure .skip : Sem Next)).run P w) r σ' n' := by
 simp only [ev] at h
 cases hv : ρ' a' <;> rw [hv] at h hρa <;> simp only [reduceCtorEq] at h
 rename_i id sz i' j
 split at h
 ·rename_i sz' xs hs
  split at h
  ·rename_i e he
   split at h
   ·rename_i hcond
    obtain ⟨rfl, hlk, h0, hlen, hone, hle⟩ := hcond
    simp only [Option.some.injEq, Prod.mk.injEq] at h
    obtain ⟨rfl, rfl, rfl⟩ := h
    obtain ⟨cells, ty, u, h1, h2, h3, h4, h5⟩ := hw.row id _ _ hs
    generalize hy : ρ a = y at *
    cases hρa
    obtain ⟨hlv, hrv⟩ := cells_of_rep hρv
    have hx := h3 i' e he
    have hi' : i' < xs.length := (List.getElem?_eq_some_iff.1 he).1
    have hbound : i' * sz' + sz' ≤ cells.size := by
     have : (i' + 1) * sz' ≤ xs.length * sz' := Nat.mul_le_mul_right _ hi'
     rw [Nat.add_mul, Nat.one_mul] at this; omega
    have hvs : (ρ v).cells.toList.length = i.size := by simp; omega
    have hst := run_storeCells (P := P) (vs := (ρ v).cells.toList) (o := i' * sz' + j) h1 (by omega) (cells_all_one hρv hone)
    have hspl := splice_cells e j (ρ' v').cells (by omega) hone (by omega)
    have hget : ∀ (k : Nat) (x : V), (xs.set i' (spliceC e j (ρ' v').cells))[k]? = some x → (k = i' ∧ x = spliceC e j (ρ' v').cells) ∨ (k ≠ i' ∧ xs[k]? = some x) := by
     intro k x hk
     by_cases hki : k = i'
     ·subst hki
      simp [hi'] at hk
      exact .inl ⟨rfl, hk.symm⟩
     ·rw [List.getElem?_set_ne (Ne.symm hki)] at hk
      exact .inr ⟨hki, hk⟩
    have hcut : ∀ (q : Nat) (c : V), (spliceC e j (ρ' v').cells).cells[q]? = some c → (j ≤ q ∧ q < j + i.size ∧ (ρ' v').cells[q - j]? = some c) ∨ (¬ (j ≤ q ∧ q < j + i.size) ∧ e.cells[q]? = some c) := by
     intro q c hq
     rw [hspl] at hq
     have htk : (e.cells.take j).length = j := by simp; omega
     by_cases hq1 : q < j
     ·rw [List.append_assoc, List.getElem?_append_left (by omega), List.getElem?_take, if_pos hq1] at hq
      exact .inr ⟨by omega, hq⟩
     ·by_cases hq2 : q < j + i.size
      ·rw [List.append_assoc, List.getElem?_append_right (by omega), List.getElem?_append_left (by omega), htk] at hq
       exact .inl ⟨by omega, hq2, hq⟩
      ·rw [List.getElem?_append_right (by simp; omega), List.getElem?_drop] at hq
       refine .inr ⟨by omega, ?_⟩
       have : j + (ρ' v').cells.length + (q - (e.cells.take j ++ (ρ' v').cells).length) = q := by simp; omega
       rwa [this] at hq
    obtain ⟨wf, ex⟩ := set_row hw hs hlk h1 (cs' := writeAt cells (i' * sz' + j) (ρ v).cells.toList) (by simp)
     (fun k q => if k = i' ∧ j ≤ q ∧ q < j + i.size then ((ρ v).cells.toList[q - j]?).getD undef else u k q)
     (xs' := xs.set i' (spliceC e j (ρ' v').cells)) (by simpa using h2)
     (by
      intro k x hk
      rcases hget k x hk with ⟨_, rfl⟩ | ⟨_, hk⟩
      ·rw [hspl]
       refine ⟨by simp; omega, ?_⟩
       simp only [List.all_append, Bool.and_eq_true]
       have := hx.2
       rw [List.all_eq_true] at this
       refine ⟨⟨?_, hone⟩, ?_⟩ <;> rw [List.all_eq_true] <;> intro c hc
       ·exact this c (List.mem_of_mem_take hc)
       ·exact this c (List.mem_of_mem_drop hc)
      ·exact h3 k x hk)
     (by
      intro k x q c hk hq
      rw [writeAt_get _ _ _ _ (by omega), hvs]
      rcases hget k x hk with ⟨rfl, rfl⟩ | ⟨hki, hk⟩
      ·rcases hcut q c hq with ⟨b1, b2, b3⟩ | ⟨b1, b3⟩
       ·rw [if_pos (by omega), if_pos ⟨rfl, b1, b2⟩]
        have hlt : q - j < (ρ v).cells.toList.length := by omega
        rw [show k * sz' + q - (k * sz' + j) = q - j by omega, List.getElem?_eq_getElem hlt]; rfl
       ·rw [if_neg (by omega), if_neg (by omega)]
        exact h4 k e q c he b3
      ·have hqs : q < sz' := by have := (List.getElem?_eq_some_iff.1 hq).1; have := (h3 k x hk).1; omega
       have hne : ¬ (i' * sz' + j ≤ k * sz' + q ∧ k * sz' + q < i' * sz' + j + i.size) := by
        intro ⟨c1, c2⟩
        rcases Nat.lt_or_gt_of_ne hki with hlt | hgt
        ·have : (k + 1) * sz' ≤ i' * sz' := Nat.mul_le_mul_right _ hlt
         rw [Nat.add_mul, Nat.one_mul] at this; omega
        ·have : (i' + 1) * sz' ≤ k * sz' := Nat.mul_le_mul_right _ hgt
         rw [Nat.add_mul, Nat.one_mul] at this; omega
       rw [if_neg hne, if_neg (by omega)]
       exact h4 k x q c hk hq)
     (by
      intro k x q c hk hq
      rcases hget k x hk with ⟨rfl, rfl⟩ | ⟨hki, hk⟩
      ·rcases hcut q c hq with ⟨b1, b2, b3⟩ | ⟨b1, b3⟩
       ·rw [if_pos ⟨rfl, b1, b2⟩]
        have hlt : q - j < (ρ v).cells.toList.length := by omega
        rw [List.getElem?_eq_getElem hlt]
        exact hrv (q - j) c _ b3 (by simp)
       ·rw [if_neg (by omega)]
        exact h5 k e q c he b3
      ·rw [if_neg (by omega)]
       exact h5 k x q c hk hq)
    refine ⟨_, X, ι, undef, .inr ⟨?_, rfl⟩, .undef, wf, ex⟩
    simp only [Instr.storeAt, Instr.sureAddr, Sem.run_bind, Sem.run_pure, Result.andThen_ok, storeVar, run_sizeOf ht]
    rw [if_neg (by simp at hvs; omega)]
    simp only [hst, Result.andThen_ok, Sem.run_pure]
   ·cases h
  ·cases h
 ·cases h
end
end Go.Q
end

section
/- Each operation, run: what lays memory, places, parts, numbers. -/
namespace Go.Q
variable [Link]
section
variable {P : Program} {w : World} {X : Nat → Prop} {ι : Nat → Nat} {σ σ' : Sto} {n n' lk : Nat} {ρ : Operand → Value} {ρ' : Opd → V}
theorem good_new (hw : WF w X ι σ n) (hl : lk ≤ n) {e : V} {x : Value} (he : Rep w X ι n e x) (h1 : e.cells.all V.one = true) (t : TypeId) {r : Result Next}
 (hr : r = .ok (.value (.pointer (some ⟨w.heap.size, 0, none⟩))) (w.alloc (.cells x.cells t))) :
 Good w X ι σ n lk r (.ptr n e.cells.length 0 0) (upd σ n (some (.row e.cells.length [e]))) (n + 1) := by
 obtain ⟨hlx, hrx⟩ := cells_of_rep he
 refine ⟨w.alloc (.cells x.cells t), addX X w.heap.size, setι ι n w.heap.size, _, .inl hr, ?_, ?_, Ext.new hw hl _ _ _⟩
 ·have := Rep.ptr (w := w.alloc (.cells x.cells t)) (X := addX X w.heap.size) (ι := setι ι n w.heap.size) (n := n + 1) n e.cells.length 0 0 (by omega) (by simp [setι])
  simpa [setι] using this
 ·refine new_row hw (fun _ j => (x.cells[j]?).getD undef) (by simp; omega) ?_ ?_ ?_
  ·intro i y hy
   cases i with
   | zero => simp at hy; subst hy; exact ⟨rfl, h1⟩
   | succ i => simp at hy
  ·intro i y j c hy hc
   cases i with
   | zero =>
     simp at hy; subst hy
     have : j < x.cells.size := by have := (List.getElem?_eq_some_iff.1 hc).1; omega
     simp [this]
   | succ i => simp at hy
  ·intro i y j c hy hc
   cases i with
   | zero =>
     simp at hy; subst hy
     have : j < x.cells.size := by have := (List.getElem?_eq_some_iff.1 hc).1; omega
     exact hrx j c _ hc (by simp [this])
   | succ i => simp at hy
theorem ev_alloc (hw : WF w X ι σ n) (hl : lk ≤ n) {t : TypeId} {i : TI} (ht : ti P t = some i) {v : V} (h : ev ρ' σ n lk (.alloc i.zero) = some (v, σ', n')) :
 Good w X ι σ n lk (((do pure (.value (← Instr.alloc t true (.tuple #[]))) : Sem Next)).run P w) v σ' n' := by
 simp only [ev, Option.some.injEq, Prod.mk.injEq] at h
 obtain ⟨rfl, rfl, rfl⟩ := h
 obtain ⟨z, hz, hv⟩ := run_zeroValue (w := w) ht
 refine good_new hw hl (ofValA_rep hv) (ofValA_one hv).1 t ?_
 simp [Instr.alloc, newVar, newRow, hz]
theorem ev_box (hw : WF w X ι σ n) (hl : lk ≤ n) {t : TypeId} {x : Operand} {x' : Opd} (hρ : Rep w X ι n (ρ' x') (ρ x)) {v : V} (h : ev ρ' σ n lk (.box x') = some (v, σ', n')) :
 Good w X ι σ n lk (((do pure (.value (← Instr.box t (ρ x))) : Sem Next)).run P w) v σ' n' := by
 simp only [ev] at h
 split at h
 ·rename_i h1
  simp only [Option.some.injEq, Prod.mk.injEq] at h
  obtain ⟨rfl, rfl, rfl⟩ := h
  exact good_new hw hl hρ h1 t (by simp [Instr.box, newVar, newRow])
 ·cases h
theorem fill_get (place : Nat → Option (Nat × Nat)) : ∀ (ps : List (Nat × Value)) (cells : Array Value) (qs : List (Nat × Nat × Opd)) (z cs : List V),
 qs.length = ps.length → z.length = cells.size → (∀ (i : Nat) (e : V) (u : Value), z[i]? = some e → cells[i]? = some u → Rep w X ι n e u) →
 (∀ (i : Nat) (p : Nat × Value) (q : Nat × Nat × Opd), ps[i]? = some p → qs[i]? = some q → place p.1 = some (q.1, q.2.1) ∧ Rep w X ι n (ρ' q.2.2) p.2) →
 partsOf ρ' z qs = some cs → ∃ out, Instr.fill place cells ps = some out ∧ cs.length = out.size ∧ ∀ (i : Nat) (e : V) (u : Value), cs[i]? = some e → out[i]? = some u → Rep w X ι n e u
 | [], cells, qs, z, cs, hq, hz, hr, _, h => by
   have : qs = [] := List.length_eq_zero_iff.1 (by simpa using hq)
   subst this
   simp only [partsOf, Option.some.injEq] at h
   subst h
   exact ⟨cells, rfl, hz, hr⟩
 | p :: ps, cells, [], z, cs, hq, hz, hr, hp, h => by simp at hq
 | p :: ps, cells, q :: qs, z, cs, hq, hz, hr, hp, h => by
   obtain ⟨off, size, x⟩ := q
   obtain ⟨k, v⟩ := p
   obtain ⟨hpl, hrep⟩ := hp 0 _ _ rfl rfl
   simp only at hpl hrep
   obtain ⟨hlv, hrv⟩ := cells_of_rep hrep
   simp only [partsOf] at h
   split at h
   ·rename_i hc
    obtain ⟨hc1, hc2⟩ := hc
    have hfold : ∀ (l : List Value) (cs0 : Array Value) (o : Nat), (l.zipIdx o).foldl (fun cs (c, j) => cs.setIfInBounds (off + j) c) cs0 = writeAt cs0 (off + o) l := by
     intro l
     induction l with
     | nil => intro cs0 o; rfl
     | cons c l ih => intro cs0 o; simp only [List.zipIdx_cons, List.foldl_cons, writeAt]; rw [ih]; rfl
    have hfold' : v.cells.zipIdx.foldl (fun cs (c, j) => cs.setIfInBounds (off + j) c) cells = writeAt cells off v.cells.toList := by
     rw [← Array.foldl_toList]
     have := hfold v.cells.toList cells 0
     simpa using this
    have hcond : ¬ (v.cells.size ≠ size ∨ off + v.cells.size > cells.size) := by omega
    have hsz : off + v.cells.toList.length ≤ cells.size := by simp; omega
    obtain ⟨out, ho, h1, h2⟩ := fill_get place ps (writeAt cells off v.cells.toList) qs _ cs (by simpa using hq)
     (by simp; omega)
     (by
      intro i e u he hu
      rw [writeAt_get _ _ _ _ hsz] at hu
      have htk : (z.take off).length = off := by simp; omega
      by_cases h1 : i < off
      ·rw [List.append_assoc, List.getElem?_append_left (by omega), List.getElem?_take, if_pos h1] at he
       rw [if_neg (by omega)] at hu
       exact hr i e u he hu
      ·by_cases h2 : i < off + size
       ·rw [List.append_assoc, List.getElem?_append_right (by omega), List.getElem?_append_left (by omega), htk] at he
        rw [if_pos (by simp; omega)] at hu
        exact hrv (i - off) e u he (by simpa using hu)
       ·rw [List.getElem?_append_right (by simp; omega), List.getElem?_drop] at he
        rw [if_neg (by simp; omega)] at hu
        have : off + size + (i - (z.take off ++ (ρ' x).cells).length) = i := by simp; omega
        rw [this] at he
        exact hr i e u he hu)
     (fun i p q hp' hq' => hp (i + 1) p q (by simpa using hp') (by simpa using hq')) h
    refine ⟨out, ?_, h1, h2⟩
    simp only [Instr.fill, hpl, hfold']
    rw [if_neg (by simpa using hcond)]
    exact ho
   ·cases h
theorem cParts_spec {pl : Nat → Option (Nat × Nat)} {ps : List (Nat × Operand)} {qs : List (Nat × Nat × Opd)} (h : cParts pl ps = some qs)
 (hρ : ∀ (x : Operand) (x' : Opd), cOpd x = some x' → Rep w X ι n (ρ' x') (ρ x)) :
 qs.length = ps.length ∧ ∀ (i : Nat) (p : Nat × Value) (q : Nat × Nat × Opd), (ps.map fun (i, x) => (i, ρ x))[i]? = some p → qs[i]? = some q → pl p.1 = some (q.1, q.2.1) ∧ Rep w X ι n (ρ' q.2.2) p.2 := by
 obtain ⟨h1, h2⟩ := mapM_get _ _ _ h
 refine ⟨h1.symm, fun i p q hp hq => ?_⟩
 simp only [List.getElem?_map, Option.map_eq_some_iff] at hp
 obtain ⟨⟨k, x⟩, hx, rfl⟩ := hp
 have := h2 i _ _ hx hq
 simp only [Option.bind_eq_bind, Option.bind_eq_some_iff] at this
 obtain ⟨⟨a, b⟩, hpl, y, hy, hq'⟩ := this
 cases hq'
 exact ⟨hpl, hρ _ _ hy⟩
theorem run_places (fs : List Field) (pl : List (Nat × Nat)) (h : fs.mapM (fun f => (ti P f.type).map fun j => (f.offset, j.size)) = some pl) :
 (fs.mapM (fun f => do pure (f.offset, ← sizeOf f.type) : Field → Sem (Nat × Nat))).run P w = .ok pl w := by
 induction fs generalizing pl with
 | nil => simp at h; subst h; simp
 | cons f fs ih =>
   simp only [List.mapM_cons, Option.pure_def, Option.bind_eq_bind, Option.bind_eq_some_iff, Option.some.injEq, Option.map_eq_some_iff] at h
   obtain ⟨b, ⟨j, hj, rfl⟩, pl', hp, rfl⟩ := h
   simp only [List.mapM_cons, Sem.run_bind, run_sizeOf hj, Result.andThen_ok, Sem.run_pure, ih pl' hp]
theorem ev_build_struct (hw : WF w X ι σ n) {t : TypeId} {i : TI} {fs : Array Field} {ps : Array (Nat × Operand)} {pl : List (Nat × Nat)} {qs : List (Nat × Nat × Opd)}
 (hρ : ∀ (x : Operand) (x' : Opd), cOpd x = some x' → Rep w X ι n (ρ' x') (ρ x)) (ht : ti P t = some i) (hd : i.d = .struct fs)
 (hpl : fs.toList.mapM (fun f => (ti P f.type).map fun j => (f.offset, j.size)) = some pl) (hq : cParts (fun k => pl[k]?) ps.toList = some qs)
 {v : V} (h : ev ρ' σ n lk (.build i.zero.cells qs) = some (v, σ', n')) :
 Good w X ι σ n lk (((do pure (.value (← Instr.build t (ps.map fun (i, x) => (i, ρ x)))) : Sem Next)).run P w) v σ' n' := by
 simp only [ev, Option.map_eq_some_iff, Prod.mk.injEq] at h
 obtain ⟨cs, hcs, rfl, rfl, rfl⟩ := h
 obtain ⟨z, hz, hv⟩ := run_zeroValue (w := w) ht
 obtain ⟨hlz, hrz⟩ := cells_of_rep (ofValA_rep (w := w) (X := X) (ι := ι) (n := n) hv)
 obtain ⟨q1, q2⟩ := cParts_spec hq hρ
 obtain ⟨out, ho, h1, h2⟩ := fill_get (ρ' := ρ') (fun k => pl[k]?) (ps.toList.map fun (i, x) => (i, ρ x)) z.cells qs _ cs (by simp [q1]) hlz hrz q2 hcs
 have hpla := run_places (w := w) _ _ hpl
 refine good_pure hw (u := .agg out) ?_ (.agg _ _ h1 h2)
 have hm : (fs.mapM fun f => do pure (f.offset, ← sizeOf f.type) : Sem (Array (Nat × Nat))).run P w = .ok pl.toArray w := by
  rw [Array.mapM_eq_mapM_toList]
  simp only [Sem.run_map, hpla, Result.andThen_ok]
 simp only [Instr.build, Sem.run_bind, hz, Result.andThen_ok, run_underlying (ti_spec ht).1, hd, hm]
 have : (ps.map fun x => match x with | (i, x) => (i, ρ x)).toList = ps.toList.map fun (i, x) => (i, ρ x) := by simp
 simp only [this, List.getElem?_toArray, ho, Sem.run_pure, Result.andThen_ok]
theorem ev_build_array (hw : WF w X ι σ n) {t e : TypeId} {i j : TI} {m : Nat} {ps : Array (Nat × Operand)} {qs : List (Nat × Nat × Opd)}
 (hρ : ∀ (x : Operand) (x' : Opd), cOpd x = some x' → Rep w X ι n (ρ' x') (ρ x)) (ht : ti P t = some i) (hd : i.d = .array m e) (hj : ti P e = some j)
 (hq : cParts (fun k => some (k * j.size, j.size)) ps.toList = some qs)
 {v : V} (h : ev ρ' σ n lk (.build i.zero.cells qs) = some (v, σ', n')) :
 Good w X ι σ n lk (((do pure (.value (← Instr.build t (ps.map fun (i, x) => (i, ρ x)))) : Sem Next)).run P w) v σ' n' := by
 simp only [ev, Option.map_eq_some_iff, Prod.mk.injEq] at h
 obtain ⟨cs, hcs, rfl, rfl, rfl⟩ := h
 obtain ⟨z, hz, hv⟩ := run_zeroValue (w := w) ht
 obtain ⟨hlz, hrz⟩ := cells_of_rep (ofValA_rep (w := w) (X := X) (ι := ι) (n := n) hv)
 obtain ⟨q1, q2⟩ := cParts_spec hq hρ
 obtain ⟨out, ho, h1, h2⟩ := fill_get (ρ' := ρ') (fun k => some (k * j.size, j.size)) (ps.toList.map fun (i, x) => (i, ρ x)) z.cells qs _ cs (by simp [q1]) hlz hrz q2 hcs
 refine good_pure hw (u := .agg out) ?_ (.agg _ _ h1 h2)
 have : (ps.map fun x => match x with | (i, x) => (i, ρ x)).toList = ps.toList.map fun (i, x) => (i, ρ x) := by simp
 simp only [Instr.build, Sem.run_bind, hz, Result.andThen_ok, run_underlying (ti_spec ht).1, hd, run_sizeOf hj, this, ho, Sem.run_pure]
end
end Go.Q
end

section
/- Each operation, run: rows that are laid, places in rows, parts, numbers. -/
namespace Go.Q
variable [Link]
section
variable {P : Program} {w : World} {X : Nat → Prop} {ι : Nat → Nat} {σ σ' : Sto} {n n' lk : Nat} {ρ : Operand → Value} {ρ' : Opd → V}
theorem cOpds_spec {xs : List Operand} {es : List Opd} (h : cOpds xs = some es) (hρ : ∀ (x : Operand) (x' : Opd), cOpd x = some x' → Rep w X ι n (ρ' x') (ρ x)) :
 es.length = xs.length ∧ ∀ (i : Nat) (e : V) (u : Value), (es.map ρ')[i]? = some e → (xs.map ρ)[i]? = some u → Rep w X ι n e u := by
 obtain ⟨h1, h2⟩ := mapM_get _ _ _ h
 refine ⟨h1.symm, fun i e u he hu => ?_⟩
 simp only [List.getElem?_map, Option.map_eq_some_iff] at he hu
 obtain ⟨x', hx', rfl⟩ := he
 obtain ⟨x, hx, rfl⟩ := hu
 exact hρ _ _ (h2 i _ _ hx hx')
theorem fill_seq (s : Nat) : ∀ (ps : List (Nat × Value)) (k : Nat) (cells : Array Value), (∀ (i : Nat) (p : Nat × Value), ps[i]? = some p → p.1 = k + i ∧ p.2.cells.size = s) →
 (k + ps.length) * s ≤ cells.size → ∃ out, Instr.fill (fun i => some (i * s, s)) cells ps = some out ∧ out.size = cells.size ∧ (∀ m, m < k * s → out[m]? = cells[m]?) ∧
  ∀ (i j : Nat) (p : Nat × Value), ps[i]? = some p → j < s → out[(k + i) * s + j]? = p.2.cells[j]?
 | [], k, cells, _, _ => ⟨cells, rfl, rfl, fun _ _ => rfl, fun i j p h _ => by simp at h⟩
 | p :: ps, k, cells, hp, hz => by
   obtain ⟨a, v⟩ := p
   obtain ⟨h1, h2⟩ := hp 0 _ rfl
   simp only [Nat.add_zero] at h1 h2
   subst h1
   simp only [List.length_cons] at hz
   have hz' : a * s + s ≤ cells.size := by
    have : (a + 1) * s ≤ (a + (ps.length + 1)) * s := Nat.mul_le_mul_right _ (by omega)
    rw [Nat.add_mul, Nat.one_mul] at this; omega
   have hfold : ∀ (l : List Value) (cs0 : Array Value) (o : Nat), (l.zipIdx o).foldl (fun cs (c, j) => cs.setIfInBounds (a * s + j) c) cs0 = writeAt cs0 (a * s + o) l := by
    intro l
    induction l with
    | nil => intro cs0 o; rfl
    | cons c l ih => intro cs0 o; simp only [List.zipIdx_cons, List.foldl_cons, writeAt]; rw [ih]; rfl
   have hfold' : v.cells.zipIdx.foldl (fun cs (c, j) => cs.setIfInBounds (a * s + j) c) cells = writeAt cells (a * s) v.cells.toList := by
    rw [← Array.foldl_toList]
    have := hfold v.cells.toList cells 0
    simpa using this
   have hvl : v.cells.toList.length = s := by simpa using h2
   obtain ⟨out, ho, b1, b2, b3⟩ := fill_seq s ps (a + 1) (writeAt cells (a * s) v.cells.toList)
    (fun i p hpi => by have := hp (i + 1) p (by simpa using hpi); exact ⟨by omega, this.2⟩) (by simp; rw [show a + 1 + ps.length = a + (ps.length + 1) by omega]; exact hz)
   have hlow : ∀ m, m < a * s + s → out[m]? = (writeAt cells (a * s) v.cells.toList)[m]? := fun m hm => b2 m (by rw [Nat.add_mul, Nat.one_mul]; exact hm)
   refine ⟨out, ?_, by simpa using b1, fun m hm => ?_, fun i j p hpi hj => ?_⟩
   ·simp only [Instr.fill]
    rw [if_neg (by simp; omega), hfold']; exact ho
   ·rw [hlow m (by omega), writeAt_get _ _ _ _ (by omega), if_neg (by omega)]
   ·cases i with
    | zero =>
      simp at hpi; subst hpi
      rw [Nat.add_zero, hlow _ (by omega), writeAt_get _ _ _ _ (by omega), if_pos (by omega), show a * s + j - a * s = j by omega]
      simp
    | succ i =>
      rw [show a + (i + 1) = a + 1 + i by omega]
      exact b3 i j p (by simpa using hpi) hj
theorem flat_spec {i : TI} (h : i.flat = true) : i.zero.cells.length = i.size ∧ i.zero.cells.all V.one = true ∧ i.size ≠ 0 ∧ i.bytes ≠ 0 := by
 simp only [TI.flat, Bool.and_eq_true, decide_eq_true_eq] at h
 exact ⟨h.1.1.1.1, h.1.1.1.2, by simpa using h.1.1.2, by simpa using h.1.2⟩
theorem flat_bytes {i : TI} (h : i.flat = true) : i.bytes ≤ 1000000 := by
 simp only [TI.flat, Bool.and_eq_true, decide_eq_true_eq] at h
 exact h.2
theorem good_row (hw : WF w X ι σ n) (hl : lk ≤ n) {sz : Nat} {xs : List V} {cells : Array Value} {ty : TypeId} (d : Nat) (u : Nat → Nat → Value) {r : Result Next} {c : Nat}
 (hr : r = .ok (.value (.slice (some ⟨w.heap.size, 0, none⟩) xs.length c)) ({ w with drawn := d }.alloc (.cells cells ty)))
 (hc : xs.length ≤ c) (hz : c * sz ≤ cells.size)
 (hs : ∀ (i : Nat) (x : V), xs[i]? = some x → x.cells.length = sz ∧ x.cells.all V.one = true)
 (hm : ∀ (i : Nat) (x : V) (j : Nat) (e : V), xs[i]? = some x → x.cells[j]? = some e → cells[i * sz + j]? = some (u i j))
 (hrep : ∀ (i : Nat) (x : V) (j : Nat) (e : V), xs[i]? = some x → x.cells[j]? = some e → Rep w X ι n e (u i j)) :
 Good w X ι σ n lk r (.ref n 0 xs.length sz) (upd σ n (some (.row sz xs))) (n + 1) := by
 have hw' : WF { w with drawn := d } X ι σ n := hw.move (Nat.le_refl _) (fun _ _ => rfl) (fun _ _ => rfl) (fun _ _ => Iff.rfl) (Nat.le_refl _) hw.xlt
 have hrep' : ∀ (i : Nat) (x : V) (j : Nat) (e : V), xs[i]? = some x → x.cells[j]? = some e → Rep { w with drawn := d } X ι n e (u i j) := fun i x j e h1 h2 =>
  (hrep i x j e h1 h2).ext (lk := lk) hw (Ext.draw hw.xlt d)
 refine ⟨_, addX X w.heap.size, setι ι n w.heap.size, _, .inl hr, ?_, new_row hw' u ?_ hs hm hrep', (Ext.draw hw.xlt d).trans (Ext.new hw' hl cells ty _)⟩
 ·have hnew : (({ w with drawn := d } : World).alloc (.cells cells ty)).heap[w.heap.size]? = some (.cells cells ty (0, 0)) := by
   show (w.heap.push _)[w.heap.size]? = _
   simp
  have := Rep.ref (w := ({ w with drawn := d } : World).alloc (.cells cells ty)) (X := addX X w.heap.size) (ι := setι ι n w.heap.size) (n := n + 1) n 0 xs.length sz c 0 cells ty (0, 0)
   (by omega) hc (.inr (by simp)) (by simpa [setι] using hnew) (.inr (by simpa using hz))
  simpa [setι] using this
 ·exact Nat.le_trans (Nat.mul_le_mul_right _ hc) hz
theorem ev_lit (hw : WF w X ι σ n) (hl : lk ≤ n) {t e : TypeId} {j : TI} {len : Nat} {ps : Array (Nat × Operand)} {es : List Opd}
 (hρ : ∀ (x : Operand) (x' : Opd), cOpd x = some x' → Rep w X ι n (ρ' x') (ρ x)) (ht : P.underlying t = some (.slice e)) (hj : ti P e = some j)
 (hes : cOpds (ps.toList.map (·.2)) = some es) (hflat : j.flat = true) (hidx : ps.toList.map (·.1) = List.range len) (hlim : len * j.size ≤ 16777216)
 {v : V} (h : ev ρ' σ n lk (.lit j.size es) = some (v, σ', n')) :
 Good w X ι σ n lk (((do pure (.value (← Instr.buildSlice t len (ps.map fun (i, x) => (i, ρ x)))) : Sem Next)).run P w) v σ' n' := by
 simp only [ev] at h
 split at h
 ·rename_i hall
  simp only [Option.some.injEq, Prod.mk.injEq] at h
  obtain ⟨rfl, rfl, rfl⟩ := h
  obtain ⟨f1, f2, f3, f4⟩ := flat_spec hflat
  obtain ⟨e1, e2⟩ := cOpds_spec hes hρ
  have hlen : ps.toList.length = len := by have := congrArg List.length hidx; simpa using this
  have helen : es.length = len := by rw [e1]; simpa using hlen
  rw [List.all_eq_true] at hall
  have hall' : ∀ (i : Nat) (x : V), (es.map ρ')[i]? = some x → x.cells.length = j.size ∧ x.cells.all V.one = true := by
   intro i x hx
   simp only [List.getElem?_map, Option.map_eq_some_iff] at hx
   obtain ⟨y, hy, rfl⟩ := hx
   have := hall y (List.mem_of_getElem? hy)
   simpa using this
  obtain ⟨z, hz, hv⟩ := run_zeroValue (w := w) hj
  obtain ⟨hlz, hrz⟩ := cells_of_rep (ofValA_rep (w := w) (X := X) (ι := ι) (n := n) hv)
  let ps' : List (Nat × Value) := ps.toList.map fun (i, x) => (i, ρ x)
  have hps' : ∀ (i : Nat) (p : Nat × Value), ps'[i]? = some p → p.1 = i ∧ (((ps.toList.map (·.2)).map ρ)[i]? = some p.2) := by
   intro i p hp
   simp only [ps', List.getElem?_map, Option.map_eq_some_iff] at hp
   obtain ⟨⟨a, x⟩, hx, rfl⟩ := hp
   have h1 : (ps.toList.map (·.1))[i]? = some a := by simp [hx]
   rw [hidx] at h1
   have := List.getElem?_eq_some_iff.1 h1
   obtain ⟨hlt, ha⟩ := this
   simp at ha
   exact ⟨ha.symm, by simp [hx]⟩
  have hps : ∀ (i : Nat) (p : Nat × Value), ps'[i]? = some p → p.1 = 0 + i ∧ p.2.cells.size = j.size := by
   intro i p hp
   obtain ⟨p1, p2⟩ := hps' i p hp
   have hlt : i < es.length := by
    have := (List.getElem?_eq_some_iff.1 hp).1
    simp only [ps', List.length_map] at this
    omega
   have hx : (es.map ρ')[i]? = some (ρ' es[i]) := by simp [hlt]
   have hr := e2 i _ _ hx p2
   have := (cells_of_rep hr).1
   rw [(hall' i _ hx).1] at this
   exact ⟨by omega, this.symm⟩
  obtain ⟨out, ho, b1, b2, b3⟩ := fill_seq j.size ps' 0 ((Array.range (len * j.size)).map (z.cells[· % z.cells.size]!)) hps (by simp [ps']; simp at hlen; rw [hlen]; exact Nat.le_refl _)
  have hpl : ps'.length = len := by simpa [ps'] using hlen
  refine good_row hw hl (c := es.length) (xs := es.map ρ') (cells := out) (ty := e) w.drawn (fun i q => ((out[i * j.size + q]?).getD undef)) ?_ (by simp) ?_ hall' ?_ ?_ |> fun g => by simpa using g
  ·have hne : ¬ (len * j.size > 2 ^ 24) := by simp; omega
   have : (ps.map fun x => match x with | (i, x) => (i, ρ x)).toList = ps' := by simp [ps']
   have hl' : (es.map ρ').length = len := by simpa using helen
   simp only [Instr.buildSlice, Sem.run_bind, run_underlying ht, Result.andThen_ok, run_sizeOf hj]
   rw [if_neg hne, this, hl', helen]
   by_cases h0 : len * j.size = 0
   ·have hmap : (Array.map (fun i => (#[] : Array Value)[i % (#[] : Array Value).size]!) (Array.range (len * j.size))) = (Array.range (len * j.size)).map (z.cells[· % z.cells.size]!) := by
     simp [h0]
    simp only [if_pos h0, Sem.run_pure, Sem.run_bind, Result.andThen_ok, hmap, ho, newRow, run_newObj]
    rfl
   ·simp only [if_neg h0, Sem.run_pure, Sem.run_bind, Result.andThen_ok, hz, ho, newRow, run_newObj]
    rfl
  ·simp only [List.length_map] at *
   rw [b1]; simp [helen]
  ·intro i x q c hx hq
   have hlt : i < es.length := by have := (List.getElem?_eq_some_iff.1 hx).1; simpa using this
   have hqs : q < j.size := by have := (List.getElem?_eq_some_iff.1 hq).1; have := (hall' i x hx).1; omega
   have : i * j.size + q < out.size := by
    rw [b1]; simp
    have : (i + 1) * j.size ≤ len * j.size := Nat.mul_le_mul_right _ (by omega)
    rw [Nat.add_mul, Nat.one_mul] at this; omega
   simp [this]
  ·intro i x q c hx hq
   have hlt : i < es.length := by have := (List.getElem?_eq_some_iff.1 hx).1; simpa using this
   have hqs : q < j.size := by have := (List.getElem?_eq_some_iff.1 hq).1; have := (hall' i x hx).1; omega
   obtain ⟨p, hp⟩ : ∃ p, ps'[i]? = some p := ⟨ps'[i], List.getElem?_eq_getElem (by omega)⟩
   have hb := b3 i q p hp hqs
   rw [Nat.zero_add] at hb
   have hr := e2 i x p.2 hx (hps' i p hp).2
   obtain ⟨c1, c2⟩ := cells_of_rep hr
   have hq2 : q < p.2.cells.size := by have := (List.getElem?_eq_some_iff.1 hq).1; omega
   rw [hb]
   exact c2 q c _ hq (by simp [hq2])
 ·cases h
end
end Go.Q
end

section
/- Each operation, run: places, parts, numbers, slices. -/
namespace Go.Q
variable [Link]
section
variable {P : Program} {w : World} {X : Nat → Prop} {ι : Nat → Nat} {σ σ' : Sto} {n n' lk : Nat} {ρ : Operand → Value} {ρ' : Opd → V}
theorem ev_mksl (hw : WF w X ι σ n) (hl : lk ≤ n) {t e : TypeId} {j : TI} {l c : Operand} {l' : Opd}
 (hρl : Rep w X ι n (ρ' l') (ρ l)) (hlc : ρ c = ρ l) (ht : P.underlying t = some (.slice e)) (hj : ti P e = some j) (hflat : j.flat = true)
 {v : V} (h : ev ρ' σ n lk (.mksl j.size j.bytes j.zero l') = some (v, σ', n')) :
 Good w X ι σ n lk (((do pure (.value (← Instr.makeSlice t (ρ l) (ρ c))) : Sem Next)).run P w) v σ' n' := by
 simp only [ev] at h
 split at h
 ·rename_i m hm
  split at h
  ·rename_i hc
   obtain ⟨h0, h1, _⟩ := hc
   simp only [Option.some.injEq, Prod.mk.injEq] at h
   obtain ⟨rfl, rfl, rfl⟩ := h
   rw [hm] at hρl
   rw [hlc]
   generalize ρ l = y at *
   cases hρl
   obtain ⟨f1, f2, f3, f4⟩ := flat_spec hflat
   obtain ⟨z, hz, hv⟩ := run_zeroValue (w := w) hj
   obtain ⟨hlz, hrz⟩ := cells_of_rep (ofValA_rep (w := w) (X := X) (ι := ι) (n := n) hv)
   obtain ⟨hu, i, z', hi, hi1, hi2, hi3, hi4⟩ := ti_spec hj
   obtain ⟨k, rfl⟩ := Int.eq_ofNat_of_zero_le h0
   have hb : (1 : Int) ≤ j.bytes := by omega
   have hk : (k : Int) ≤ 140737488355328 := by
    have : (1 : Int) * k ≤ j.bytes * k := Int.mul_le_mul_of_nonneg_right hb h0
    omega
   have hwrap : IntKind.i64.wrap (k : Int) = k := IntWalk.i64_in _ (by omega)
   have hbk : (i.bytes : Int) * k ≤ 140737488355328 := by rw [hi2]; exact h1
   simp only [Int.toNat_natCast]
   have g := good_row hw hl (c := k) (xs := List.replicate k j.zero) (cells := (Array.range (k * j.size)).map (z.cells[· % z.cells.size]!)) (ty := e) (sz := j.size) w.drawn
    (fun _ q => (z.cells[q]?).getD undef) (r := ((do pure (.value (← Instr.makeSlice t (.int .i64 k) (.int .i64 k))) : Sem Next)).run P w) ?_ (by simp) (by simp) ?_ ?_ ?_
   ·simpa using g
   ·have hcond : (decide ((k : Int) < 0) || decide ((i.bytes : Int) * k > 2 ^ 48)) = false := by
     have h3 : ¬ ((i.bytes : Int) * k > 2 ^ 48) := by
      have : (2 : Int) ^ 48 = 281474976710656 := rfl
      omega
     rw [decide_eq_false h3]; simp
    simp only [Instr.makeSlice, Sem.run_bind, run_underlying ht, Result.andThen_ok, asInt, asIntOf, Sem.run_pure, run_typeInfo hi, hwrap, hcond]
    have h00 : decide ((k : Int) < 0) = false := by simp
    have hkk : decide ((k : Int) > k) = false := by simp
    simp only [h00, hkk, Bool.or_false, Bool.false_eq_true, if_false, Sem.run_pure, Sem.run_bind, Result.andThen_ok, run_askRoom, run_sizeOf hj, Int.toNat_natCast]
    by_cases hz0 : k * j.size = 0
    ·have hmap : (Array.map (fun i => (#[] : Array Value)[i % (#[] : Array Value).size]!) (Array.range (k * j.size))) = (Array.range (k * j.size)).map (z.cells[· % z.cells.size]!) := by
      simp [hz0]
     simp only [if_pos hz0, Sem.run_pure, Sem.run_bind, Result.andThen_ok, newRow, run_newObj, hmap, List.length_replicate]
     rfl
    ·simp only [if_neg hz0, Sem.run_pure, Sem.run_bind, Result.andThen_ok, hz, newRow, run_newObj, List.length_replicate]
     rfl
   ·intro i x hx
    have : x = j.zero := List.eq_of_mem_replicate (List.mem_of_getElem? hx)
    subst this
    exact ⟨f1, f2⟩
   ·intro i x q c hx hq
    have hlt : i < k := by have := (List.getElem?_eq_some_iff.1 hx).1; simpa using this
    have hxz : x = j.zero := List.eq_of_mem_replicate (List.mem_of_getElem? hx)
    subst hxz
    have hqs : q < j.size := by have := (List.getElem?_eq_some_iff.1 hq).1; omega
    have hin : i * j.size + q < k * j.size := by
     have : (i + 1) * j.size ≤ k * j.size := Nat.mul_le_mul_right _ hlt
     rw [Nat.add_mul, Nat.one_mul] at this; omega
    have hmod : (i * j.size + q) % z.cells.size = q := by
     rw [← hlz, f1, Nat.mul_comm, Nat.mul_add_mod, Nat.mod_eq_of_lt hqs]
    have hqz : q < z.cells.size := by omega
    simp [hin, hmod, hqz]
   ·intro i x q c hx hq
    have hxz : x = j.zero := List.eq_of_mem_replicate (List.mem_of_getElem? hx)
    subst hxz
    have hqz : q < z.cells.size := by have := (List.getElem?_eq_some_iff.1 hq).1; omega
    exact hrz q c _ hq (by simp [hqz])
  ·cases h
 ·cases h
theorem part_sound {t : TypeId} {i : TI} (ht : ti P t = some i) (h1 : i.agg = true ∨ i.size = 1) {cs : List V} {us : Array Value} {off : Nat} (hl : cs.length = us.size)
 (hr : ∀ (i : Nat) (e : V) (u : Value), cs[i]? = some e → us[i]? = some u → Rep w X ι n e u) {v : V} (h : loadC i.agg i.size (cs.drop off) = some v) :
 ∃ x, (part t us off).run P w = .ok x w ∧ Rep w X ι n v x := by
 unfold loadC at h
 cases ha : i.agg with
 | true =>
   simp only [ha, if_true] at h
   split at h
   ·rename_i hle
    cases h
    refine ⟨.agg (us.extract off (off + i.size)), ?_, .agg _ _ (by simp at hle ⊢; omega) (fun q e u he hu => ?_)⟩
    ·simp only [part, Sem.run_bind, run_isAgg ht, ha, if_true, Result.andThen_ok, run_sizeOf ht, Sem.run_pure]
    ·simp only [List.getElem?_take, List.getElem?_drop] at he
     split at he
     ·rename_i hq
      have : us[off + q]? = some u := by
       rw [Array.getElem?_extract] at hu
       split at hu
       ·exact hu
       ·cases hu
      exact hr _ e u he this
     ·cases he
   ·cases h
 | false =>
   simp only [ha, Bool.false_eq_true, if_false, List.head?_drop] at h
   have hlt : off < us.size := by have := (List.getElem?_eq_some_iff.1 h).1; omega
   refine ⟨us[off], ?_, hr off v _ h (by simp [hlt])⟩
   simp only [part, Sem.run_bind, run_isAgg ht, ha, Bool.false_eq_true, if_false, Result.andThen_ok]
   simp [hlt]
theorem ev_fld (hw : WF w X ι σ n) {s : TypeId} {fs : Array Field} {f : Nat} {g : Field} {j : TI} {x : Operand} {x' : Opd} (hρ : Rep w X ι n (ρ' x') (ρ x))
 (hs : P.underlying s = some (.struct fs)) (hg : fs[f]? = some g) (hj : ti P g.type = some j) (h1 : j.agg = true ∨ j.size = 1)
 {v : V} (h : ev ρ' σ n lk (.fld j.agg j.size g.offset x') = some (v, σ', n')) :
 Good w X ι σ n lk (((do pure (.value (← Instr.field s (ρ x) f)) : Sem Next)).run P w) v σ' n' := by
 simp only [ev] at h
 cases hv : ρ' x' <;> rw [hv] at h hρ <;> simp only [reduceCtorEq] at h
 rename_i cs
 simp only [Option.map_eq_some_iff, Prod.mk.injEq] at h
 obtain ⟨v', hl, rfl, rfl, rfl⟩ := h
 generalize hy : ρ x = y at *
 cases hρ with
 | agg _ us hlen hr =>
   obtain ⟨z, hz, hrz⟩ := part_sound hj h1 hlen hr hl
   refine good_pure hw ?_ hrz
   simp [Instr.field, run_underlying hs, hg, asAgg, hz]
theorem ev_faddr (hw : WF w X ι σ n) {s : TypeId} {fs : Array Field} {f : Nat} {g : Field} {j : TI} {x : Operand} {x' : Opd} (hρ : Rep w X ι n (ρ' x') (ρ x))
 (hs : P.underlying s = some (.struct fs)) (hg : fs[f]? = some g) (hj : ti P g.type = some j) (h0 : j.size ≠ 0)
 {v : V} (h : ev ρ' σ n lk (.faddr x' g.offset) = some (v, σ', n')) :
 Good w X ι σ n lk (((do pure (.value (← Instr.fieldAt s (ρ x) f)) : Sem Next)).run P w) v σ' n' := by
 simp only [ev] at h
 cases hv : ρ' x' <;> rw [hv] at h hρ <;> simp only [reduceCtorEq, Option.some.injEq, Prod.mk.injEq] at h
 ·rename_i id sz i j'
  obtain ⟨rfl, rfl, rfl⟩ := h
  generalize hy : ρ x = y at *
  cases hρ
  refine good_pure hw (u := .pointer (some ⟨ι id, i * sz + (j' + g.offset), none⟩)) ?_ (.ptr _ _ _ _ (by assumption) (by assumption))
  simp [Instr.fieldAt, run_underlying hs, hg, Instr.sureAddr, fieldPlace, run_sizeOf hj, h0, add_none, Nat.add_assoc]
 ·rename_i cs
  obtain ⟨rfl, rfl, rfl⟩ := h
  generalize hy : ρ x = y at *
  cases hρ with
  | box _ b o u hX hb h1 hm hr =>
    refine good_pure hw (u := .pointer (some ⟨b, o + g.offset, none⟩)) ?_ (.box _ b (o + g.offset) (fun k => u (g.offset + k)) hX hb ?_ ?_ ?_)
    ·simp [Instr.fieldAt, run_underlying hs, hg, Instr.sureAddr, fieldPlace, run_sizeOf hj, h0, add_none]
    ·rw [List.all_eq_true] at h1 ⊢
     exact fun c hc => h1 c (List.mem_of_mem_drop hc)
    ·intro k e he
     rw [List.getElem?_drop] at he
     rw [Nat.add_assoc]
     exact hm _ e he
    ·intro k e he
     rw [List.getElem?_drop] at he
     exact hr _ e he
theorem run_index_in {k : IntKind} {i : Int} : (asIntOf (.int k i)).run P w = .ok (k, i) w := rfl
theorem ev_iaddr (hw : WF w X ι σ n) {t e : TypeId} {j : TI} {x i : Operand} {x' i' : Opd} (hρ : Rep w X ι n (ρ' x') (ρ x)) (hρi : Rep w X ι n (ρ' i') (ρ i))
 (ht : P.underlying t = some (.slice e)) (hj : ti P e = some j) {v : V} (h : ev ρ' σ n lk (.iaddr j.size x' i') = some (v, σ', n')) :
 Good w X ι σ n lk (((do pure (.value (← Instr.indexAt t (ρ x) (ρ i))) : Sem Next)).run P w) v σ' n' := by
 simp only [ev] at h
 split at h
 ·rename_i sz xs k q hx hi
  split at h
  ·rename_i hc
   obtain ⟨h0, rfl⟩ := hc
   simp only [Option.map_eq_some_iff, Prod.mk.injEq] at h
   obtain ⟨el, hel, rfl, rfl, rfl⟩ := h
   rw [hx] at hρ; rw [hi] at hρi
   generalize ρ x = y at *
   generalize ρ i = z at *
   cases hρi
   cases hρ with
   | slE => simp at hel
   | sl _ _ b o c u hc hX hb hs hm hr =>
     have hlt : q.toNat < xs.length := (List.getElem?_eq_some_iff.1 hel).1
     refine good_pure hw (u := .pointer (some ⟨b, o + q.toNat * j.size, none⟩)) ?_ (.box _ b _ (u q.toNat) hX hb (hs _ _ hel).2 (fun k e he => hm _ _ _ _ hel he) (fun k e he => hr _ _ _ _ hel he))
     have : (0 : Int) ≤ q ∧ q < (xs.length : Int) := by omega
     simp [Instr.indexAt, run_index_in, run_underlying ht, this, run_sizeOf hj, add_none]
  ·cases h
 ·rename_i id off len sz k q hx hi
  split at h
  ·rename_i hc
   obtain ⟨h0, h1, rfl⟩ := hc
   simp only [Option.some.injEq, Prod.mk.injEq] at h
   obtain ⟨rfl, rfl, rfl⟩ := h
   rw [hx] at hρ; rw [hi] at hρi
   generalize ρ x = y at *
   generalize ρ i = z at *
   cases hρi
   cases hρ with
   | ref _ _ _ _ c o cells ty fz hid hc ho hm hz =>
     have ho' : o = off * j.size := by rcases ho with h | h; omega; exact h
     subst ho'
     have := Rep.ptr (w := w) (X := X) (ι := ι) (n := n) id j.size (off + q.toNat) 0 hid (Array.getElem?_eq_some_iff.1 (by assumption)).1
     refine good_pure hw ?_ this
     have : (0 : Int) ≤ q ∧ q < (len : Int) := by omega
     simp [Instr.indexAt, run_index_in, run_underlying ht, this, run_sizeOf hj, add_none, Nat.add_mul]
  ·cases h
 ·cases h
theorem ev_iaddrA (hw : WF w X ι σ n) {t e : TypeId} {m : Nat} {j : TI} {x i : Operand} {x' i' : Opd} (hρ : Rep w X ι n (ρ' x') (ρ x)) (hρi : Rep w X ι n (ρ' i') (ρ i))
 (ht : P.underlying t = some (.array m e)) (hj : ti P e = some j) {v : V} (h : ev ρ' σ n lk (.iaddrA m j.size x' i') = some (v, σ', n')) :
 Good w X ι σ n lk (((do pure (.value (← Instr.indexAt t (ρ x) (ρ i))) : Sem Next)).run P w) v σ' n' := by
 simp only [ev] at h
 split at h
 ·rename_i id sz el j' k q hx hi
  split at h
  ·rename_i hc
   simp only [Option.some.injEq, Prod.mk.injEq] at h
   obtain ⟨rfl, rfl, rfl⟩ := h
   rw [hx] at hρ; rw [hi] at hρi
   generalize ρ x = y at *
   generalize ρ i = z at *
   cases hρi
   cases hρ
   refine good_pure hw (u := .pointer (some ⟨ι id, el * sz + (j' + q.toNat * j.size), none⟩)) ?_ (.ptr _ _ _ _ (by assumption) (by assumption))
   have : (0 : Int) ≤ q ∧ q < (m : Int) := by omega
   simp [Instr.indexAt, run_index_in, run_underlying ht, Instr.sureAddr, this, run_sizeOf hj, add_none, Nat.add_assoc]
  ·cases h
 ·rename_i cs k q hx hi
  split at h
  ·rename_i hc
   simp only [Option.some.injEq, Prod.mk.injEq] at h
   obtain ⟨rfl, rfl, rfl⟩ := h
   rw [hx] at hρ; rw [hi] at hρi
   generalize ρ x = y at *
   generalize ρ i = z at *
   cases hρi
   cases hρ with
   | box _ b o u hX hb h1 hm hr =>
     refine good_pure hw (u := .pointer (some ⟨b, o + q.toNat * j.size, none⟩)) ?_ (.box _ b (o + q.toNat * j.size) (fun k => u (q.toNat * j.size + k)) hX hb ?_ ?_ ?_)
     ·have : (0 : Int) ≤ q ∧ q < (m : Int) := by omega
      simp [Instr.indexAt, run_index_in, run_underlying ht, Instr.sureAddr, this, run_sizeOf hj, add_none]
     ·rw [List.all_eq_true] at h1 ⊢
      exact fun c hc => h1 c (List.mem_of_mem_drop hc)
     ·intro k e he
      rw [List.getElem?_drop] at he
      rw [Nat.add_assoc]
      exact hm _ e he
     ·intro k e he
      rw [List.getElem?_drop] at he
      exact hr _ e he
  ·cases h
 ·cases h
theorem ev_idxA (hw : WF w X ι σ n) {t e : TypeId} {m : Nat} {j : TI} {x i : Operand} {x' i' : Opd} (hρ : Rep w X ι n (ρ' x') (ρ x)) (hρi : Rep w X ι n (ρ' i') (ρ i))
 (ht : P.underlying t = some (.array m e)) (hj : ti P e = some j) (h1 : j.agg = true ∨ j.size = 1) {v : V} (h : ev ρ' σ n lk (.idxA j.agg m j.size x' i') = some (v, σ', n')) :
 Good w X ι σ n lk (((do pure (.value (← Instr.index t (ρ x) (ρ i))) : Sem Next)).run P w) v σ' n' := by
 simp only [ev] at h
 split at h
 ·rename_i cs k q hx hi
  split at h
  ·rename_i hc
   simp only [Option.map_eq_some_iff, Prod.mk.injEq] at h
   obtain ⟨v', hl, rfl, rfl, rfl⟩ := h
   rw [hx] at hρ; rw [hi] at hρi
   generalize ρ x = y at *
   generalize ρ i = z at *
   cases hρi
   cases hρ with
   | agg _ us hlen hr =>
     obtain ⟨z, hz, hrz⟩ := part_sound (w := w) hj h1 hlen hr hl
     refine good_pure hw ?_ hrz
     have : (0 : Int) ≤ q ∧ q < (m : Int) := by omega
     simp [Instr.index, run_index_in, run_underlying ht, this, run_sizeOf hj, hz]
  ·cases h
 ·cases h
theorem ev_idxS (hw : WF w X ι σ n) {t : TypeId} {x i : Operand} {x' i' : Opd} (hρ : Rep w X ι n (ρ' x') (ρ x)) (hρi : Rep w X ι n (ρ' i') (ρ i))
 (ht : P.underlying t = some .string) {v : V} (h : ev ρ' σ n lk (.idxS x' i') = some (v, σ', n')) :
 Good w X ι σ n lk (((do pure (.value (← Instr.index t (ρ x) (ρ i))) : Sem Next)).run P w) v σ' n' := by
 simp only [ev] at h
 split at h
 ·rename_i s k q hx hi
  split at h
  ·rename_i hc
   simp only [Option.map_eq_some_iff, Prod.mk.injEq] at h
   obtain ⟨b, hb, rfl, rfl, rfl⟩ := h
   rw [hx] at hρ; rw [hi] at hρi
   generalize ρ x = y at *
   generalize ρ i = z at *
   cases hρi
   cases hρ
   refine good_pure hw (u := .int .u8 b.toNat) ?_ (.int _ _)
   simp [Instr.index, run_index_in, run_underlying ht, hc, hb]
  ·cases h
 ·cases h
theorem ev_ext (hw : WF w X ι σ n) {x : Operand} {x' : Opd} {i : Nat} (hρ : Rep w X ι n (ρ' x') (ρ x)) {v : V} (h : ev ρ' σ n lk (.ext x' i) = some (v, σ', n')) :
 Good w X ι σ n lk (((do pure (.value (← Instr.extract (ρ x) i)) : Sem Next)).run P w) v σ' n' := by
 simp only [ev] at h
 cases hv : ρ' x' <;> rw [hv] at h hρ <;> simp only [reduceCtorEq] at h
 rename_i cs
 simp only [Option.map_eq_some_iff, Prod.mk.injEq] at h
 obtain ⟨v', hl, rfl, rfl, rfl⟩ := h
 generalize hy : ρ x = y at *
 cases hρ with
 | tup _ us hlen hr =>
   have hlt : i < us.size := by have := (List.getElem?_eq_some_iff.1 hl).1; omega
   refine good_pure hw (u := us[i]) ?_ (hr i _ _ hl (by simp [hlt]))
   simp [Instr.extract, hlt]
end
end Go.Q
end

section
/- Each operation, run: numbers, bools, comparisons, slices of slices. -/
namespace Go.Q
variable [Link]
section
variable {P : Program} {w : World} {X : Nat → Prop} {ι : Nat → Nat} {σ σ' : Sto} {n n' lk : Nat} {ρ : Operand → Value} {ρ' : Opd → V}
theorem pureV_spec {s : Sem Value} {v : V} (h : pureV s = some v) : ∃ u, s = .pure u ∧ Rep w X ι n v u := by
 unfold pureV at h
 split at h <;> simp at h <;> subst h
 ·exact ⟨_, rfl, .int _ _⟩
 ·exact ⟨_, rfl, .bool _⟩
 ·exact ⟨_, rfl, .str _⟩
theorem binOp_int (op : BinOp) (t : TypeId) (k k' : IntKind) (a b : Int) : Go.binOp op t (.int k a) (.int k' b) = Go.binOp op 0 (.int k a) (.int k' b) := by cases op <;> rfl
theorem binOp_str (op : BinOp) (t : TypeId) (a b : ByteArray) : Go.binOp op t (.string a) (.string b) = Op.stringOp op a b := by cases op <;> rfl
theorem run_eqGuard {op : BinOp} {t : TypeId} {x y : Operand} {a b : Value} (ha : a ≠ .nilIface) (ha' : ∀ cs, a ≠ .agg cs) : (eqGuard op t x y a b).run P w = .ok () w := by
 unfold eqGuard
 cases op <;> first | rfl | (cases a <;> first | rfl | exact absurd rfl ha | exact absurd rfl (ha' _))
theorem ev_bin (hw : WF w X ι σ n) {op : BinOp} {t : TypeId} {x y : Operand} {x' y' : Opd} (hx : Rep w X ι n (ρ' x') (ρ x)) (hy : Rep w X ι n (ρ' y') (ρ y))
 {v : V} (h : ev ρ' σ n lk (.bin op x' y') = some (v, σ', n')) :
 Good w X ι σ n lk (((do pure (.value (← (do eqGuard op t x y (ρ x) (ρ y); Go.binOp op t (ρ x) (ρ y)))) : Sem Next)).run P w) v σ' n' := by
 simp only [ev, Option.map_eq_some_iff, Prod.mk.injEq] at h
 obtain ⟨v', h, rfl, rfl, rfl⟩ := h
 unfold binV at h
 split at h
 ·rename_i k a k' b e1 e2
  rw [e1] at hx; rw [e2] at hy
  generalize ρ x = u at *
  generalize ρ y = z at *
  cases hx; cases hy
  obtain ⟨r, hr, hrep⟩ := pureV_spec (w := w) (X := X) (ι := ι) (n := n) h
  refine good_pure hw ?_ hrep
  simp only [Sem.run_bind, run_eqGuard (P := P) (a := .int k a) (by simp) (by simp), Result.andThen_ok, binOp_int, hr]
  rfl
 ·rename_i a b e1 e2
  rw [e1] at hx; rw [e2] at hy
  generalize ρ x = u at *
  generalize ρ y = z at *
  cases hx; cases hy
  obtain ⟨r, hr, hrep⟩ := pureV_spec (w := w) (X := X) (ι := ι) (n := n) h
  refine good_pure hw ?_ hrep
  simp only [Sem.run_bind, run_eqGuard (P := P) (a := .string a) (by simp) (by simp), Result.andThen_ok, binOp_str, hr]
  rfl
 ·cases h
theorem equal_succ (t : TypeId) (x y : Value) : Op.equal t x y = Op.equalIn (9999 + 1) t x y := rfl
theorem run_equal_bool {t : TypeId} (ht : P.underlying t = some .bool) (a b : Bool) : (Op.equal t (.bool a) (.bool b)).run P w = .ok (a == b) w := by
 rw [equal_succ, Op.equalIn]
 simp [run_underlying ht]
theorem run_equal_slice {t e : TypeId} (ht : P.underlying t = some (.slice e)) (a : Option Addr) (l c : Nat) : (Op.equal t (.slice a l c) (.slice none 0 0)).run P w = .ok a.isNone w := by
 rw [equal_succ, Op.equalIn]
 cases a <;> simp [run_underlying ht]
theorem run_equal_func {t : TypeId} {ps rs : Array TypeId} {b : Bool} (ht : P.underlying t = some (.func ps rs b)) :
 (Op.equal t .nilFunc .nilFunc).run P w = .ok true w ∧ ∀ f x y, (Op.equal t (.func f x y) .nilFunc).run P w = .ok false w := by
 constructor
 ·rw [equal_succ, Op.equalIn]; simp [run_underlying ht]
 ·intro f x y; rw [equal_succ, Op.equalIn]; simp [run_underlying ht]
theorem ev_eqB (hw : WF w X ι σ n) {neg : Bool} {t : TypeId} {x y : Operand} {x' y' : Opd} (ht : P.underlying t = some .bool) (hx : Rep w X ι n (ρ' x') (ρ x)) (hy : Rep w X ι n (ρ' y') (ρ y))
 {v : V} (h : ev ρ' σ n lk (.eqB neg x' y') = some (v, σ', n')) :
 Good w X ι σ n lk (((do pure (.value (← (do eqGuard (if neg then .neq else .eql) t x y (ρ x) (ρ y); Go.binOp (if neg then .neq else .eql) t (ρ x) (ρ y)))) : Sem Next)).run P w) v σ' n' := by
 simp only [ev] at h
 split at h
 ·rename_i a b e1 e2
  simp only [Option.some.injEq, Prod.mk.injEq] at h
  obtain ⟨rfl, rfl, rfl⟩ := h
  rw [e1] at hx; rw [e2] at hy
  generalize ρ x = u at *
  generalize ρ y = z at *
  cases hx; cases hy
  refine good_pure hw ?_ (.bool _)
  simp only [Sem.run_bind, run_eqGuard (P := P) (a := .bool a) (by simp) (by simp), Result.andThen_ok]
  cases neg <;> simp [Go.binOp, run_equal_bool ht]
 ·cases h
theorem ev_eqN (hw : WF w X ι σ n) {neg : Bool} {t e : TypeId} {x y : Operand} {x' : Opd} (ht : P.underlying t = some (.slice e)) (hx : Rep w X ι n (ρ' x') (ρ x)) (hy : ρ y = .slice none 0 0)
 {v : V} (h : ev ρ' σ n lk (.eqN neg x') = some (v, σ', n')) :
 Good w X ι σ n lk (((do pure (.value (← (do eqGuard (if neg then .neq else .eql) t x y (ρ x) (ρ y); Go.binOp (if neg then .neq else .eql) t (ρ x) (ρ y)))) : Sem Next)).run P w) v σ' n' := by
 have key : ∀ (a : Option Addr) (l c : Nat), Sem.run P (do pure (.value (← (do eqGuard (if neg then .neq else .eql) t x y (.slice a l c) (.slice none 0 0); Go.binOp (if neg then .neq else .eql) t (.slice a l c) (.slice none 0 0)))) : Sem Next) w
  = .ok (.value (.bool (a.isNone != neg))) w := by
  intro a l c
  simp only [Sem.run_bind, run_eqGuard (P := P) (a := .slice a l c) (by simp) (by simp), Result.andThen_ok]
  cases neg <;> cases a <;> simp [Go.binOp, run_equal_slice ht]
 simp only [ev] at h
 rw [hy]
 split at h <;> rename_i e1
 ·simp only [Option.some.injEq, Prod.mk.injEq] at h
  obtain ⟨rfl, rfl, rfl⟩ := h
  rw [e1] at hx
  generalize ρ x = u at *
  cases hx
  exact good_pure hw ((key _ _ _).trans (by simp)) (.bool _)
 ·simp only [Option.some.injEq, Prod.mk.injEq] at h
  obtain ⟨rfl, rfl, rfl⟩ := h
  rw [e1] at hx
  generalize ρ x = u at *
  cases hx <;> exact good_pure hw ((key _ _ _).trans (by simp)) (.bool _)
 ·simp only [Option.some.injEq, Prod.mk.injEq] at h
  obtain ⟨rfl, rfl, rfl⟩ := h
  rw [e1] at hx
  generalize ρ x = u at *
  cases hx
  exact good_pure hw ((key _ _ _).trans (by simp)) (.bool _)
 ·cases h
theorem ev_eqF (hw : WF w X ι σ n) {neg : Bool} {t : TypeId} {ps rs : Array TypeId} {b : Bool} {x y : Operand} {x' : Opd} (ht : P.underlying t = some (.func ps rs b)) (hx : Rep w X ι n (ρ' x') (ρ x)) (hy : ρ y = .nilFunc)
 {v : V} (h : ev ρ' σ n lk (.eqF neg x') = some (v, σ', n')) :
 Good w X ι σ n lk (((do pure (.value (← (do eqGuard (if neg then .neq else .eql) t x y (ρ x) (ρ y); Go.binOp (if neg then .neq else .eql) t (ρ x) (ρ y)))) : Sem Next)).run P w) v σ' n' := by
 obtain ⟨q1, q2⟩ := run_equal_func (P := P) (w := w) ht
 simp only [ev] at h
 rw [hy]
 split at h <;> rename_i e1
 ·simp only [Option.some.injEq, Prod.mk.injEq] at h
  obtain ⟨rfl, rfl, rfl⟩ := h
  rw [e1] at hx
  generalize ρ x = u at *
  cases hx
  refine good_pure hw ?_ (.bool _)
  simp only [Sem.run_bind, run_eqGuard (P := P) (a := .nilFunc) (by simp) (by simp), Result.andThen_ok]
  cases neg <;> simp [Go.binOp, q1]
 ·simp only [Option.some.injEq, Prod.mk.injEq] at h
  obtain ⟨rfl, rfl, rfl⟩ := h
  rw [e1] at hx
  generalize ρ x = u at *
  cases hx with
  | fn f cs us hl hr =>
    refine good_pure hw ?_ (.bool _)
    simp only [Sem.run_bind, run_eqGuard (P := P) (a := .func (.func _) #[] us) (by simp) (by simp), Result.andThen_ok]
    cases neg <;> simp [Go.binOp, q2]
 ·cases h
theorem ev_un (hw : WF w X ι σ n) {op : UnOp} {x : Operand} {x' : Opd} (hx : Rep w X ι n (ρ' x') (ρ x)) {v : V} (h : ev ρ' σ n lk (.un op x') = some (v, σ', n')) :
 Good w X ι σ n lk (((do pure (.value (← Op.unary op (ρ x))) : Sem Next)).run P w) v σ' n' := by
 simp only [ev, Option.map_eq_some_iff, Prod.mk.injEq] at h
 obtain ⟨v', h, rfl, rfl, rfl⟩ := h
 unfold unV at h
 split at h
 ·rename_i e1
  rw [e1] at hx
  generalize ρ x = u at *
  cases hx
  obtain ⟨r, hr, hrep⟩ := pureV_spec (w := w) (X := X) (ι := ι) (n := n) h
  exact good_pure hw (by rw [hr]; rfl) hrep
 ·rename_i e1
  rw [e1] at hx
  generalize ρ x = u at *
  cases hx
  obtain ⟨r, hr, hrep⟩ := pureV_spec (w := w) (X := X) (ι := ι) (n := n) h
  exact good_pure hw (by rw [hr]; rfl) hrep
 ·cases h
theorem ev_conv (hw : WF w X ι σ n) {s d : TypeId} {j k : IntKind} {x : Operand} {x' : Opd} (hs : P.underlying s = some (.int j)) (hd : P.underlying d = some (.int k))
 (hx : Rep w X ι n (ρ' x') (ρ x)) {v : V} (h : ev ρ' σ n lk (.conv k x') = some (v, σ', n')) :
 Good w X ι σ n lk (((do pure (.value (← Go.convert s d (ρ x))) : Sem Next)).run P w) v σ' n' := by
 simp only [ev] at h
 split at h
 ·rename_i e1
  simp only [Option.some.injEq, Prod.mk.injEq] at h
  obtain ⟨rfl, rfl, rfl⟩ := h
  rw [e1] at hx
  generalize ρ x = u at *
  cases hx
  refine good_pure hw ?_ (.int _ _)
  simp [Go.convert, run_underlying hs, run_underlying hd, Conv.intToInt]
 ·cases h
theorem ev_pick (hw : WF w X ι σ n) {c a b : Operand} {c' a' b' : Opd} (hc : Rep w X ι n (ρ' c') (ρ c)) (ha : Rep w X ι n (ρ' a') (ρ a)) (hb : Rep w X ι n (ρ' b') (ρ b))
 {v : V} (h : ev ρ' σ n lk (.pick c' a' b') = some (v, σ', n')) :
 Good w X ι σ n lk (((do pure (.value (if ← asBool (ρ c) then ρ a else ρ b)) : Sem Next)).run P w) v σ' n' := by
 simp only [ev] at h
 split at h
 ·rename_i t e1
  simp only [Option.some.injEq, Prod.mk.injEq] at h
  obtain ⟨rfl, rfl, rfl⟩ := h
  rw [e1] at hc
  generalize ρ c = u at *
  cases hc
  cases t
  ·exact good_pure hw (by simp [asBool]) hb
  ·exact good_pure hw (by simp [asBool]) ha
 ·cases h
theorem ev_nilck (hw : WF w X ι σ n) {o : Oper} {x : Operand} {x' : Opd} (ho : o.op = .nilCheck x) (hx : Rep w X ι n (ρ' x') (ρ x))
 {v : V} (h : ev ρ' σ n lk (.nilck x') = some (v, σ', n')) : Good w X ι σ n lk ((execOp ρ o).run P w) v σ' n' := by
 simp only [ev] at h
 have key : (∀ (a : Addr), ρ x = .pointer (some a) → (execOp ρ o).run P w = .ok (.value (.pointer (some a))) w) ∧
  (∀ f us, ρ x = .func (.func f) #[] us → (execOp ρ o).run P w = .ok (.value (.func (.func f) #[] us)) w) := by
  refine ⟨fun a ha => ?_, fun f us ha => ?_⟩ <;> simp [execOp, ho, ha]
 split at h <;> rename_i e1
 ·simp only [Option.some.injEq, Prod.mk.injEq] at h
  obtain ⟨rfl, rfl, rfl⟩ := h
  rw [e1] at hx
  generalize hu : ρ x = u at *
  cases hx with
  | ptr id sz i j hid hb => exact good_pure hw (key.1 _ rfl) (.ptr _ _ _ _ hid hb)
 ·simp only [Option.some.injEq, Prod.mk.injEq] at h
  obtain ⟨rfl, rfl, rfl⟩ := h
  rw [e1] at hx
  generalize hu : ρ x = u at *
  cases hx with
  | box cs b o u hX hb h1 hm hr => exact good_pure hw (key.1 _ rfl) (.box _ _ _ u hX hb h1 hm hr)
 ·simp only [Option.some.injEq, Prod.mk.injEq] at h
  obtain ⟨rfl, rfl, rfl⟩ := h
  rw [e1] at hx
  generalize hu : ρ x = u at *
  cases hx with
  | fn f cs us hl hr => exact good_pure hw (key.2 _ _ rfl) (.fn _ _ _ hl hr)
 ·cases h
theorem ev_len (hw : WF w X ι σ n) {t ty e : TypeId} {x : Operand} {x' : Opd} (ht : P.underlying t = some (.slice e)) (hx : Rep w X ι n (ρ' x') (ρ x))
 {v : V} (h : ev ρ' σ n lk (.len x') = some (v, σ', n')) :
 Good w X ι σ n lk (((do pure (.value (← Builtin.len_ #[t] ty #[ρ x])) : Sem Next)).run P w) v σ' n' := by
 simp only [ev, Option.map_eq_some_iff, Prod.mk.injEq] at h
 obtain ⟨l, h, rfl, rfl, rfl⟩ := h
 refine good_pure hw ?_ (.int _ _)
 generalize ρ x = u at *
 generalize ρ' x' = q at *
 cases hx <;> simp only [lenOf, reduceCtorEq, Option.some.injEq] at h <;> subst h <;> simp [Builtin.len_, run_underlying ht, goInt]
theorem ev_lenS (hw : WF w X ι σ n) {t ty : TypeId} {x : Operand} {x' : Opd} (ht : P.underlying t = some .string) (hx : Rep w X ι n (ρ' x') (ρ x))
 {v : V} (h : ev ρ' σ n lk (.lenS x') = some (v, σ', n')) :
 Good w X ι σ n lk (((do pure (.value (← Builtin.len_ #[t] ty #[ρ x])) : Sem Next)).run P w) v σ' n' := by
 simp only [ev] at h
 split at h
 ·rename_i s e1
  simp only [Option.some.injEq, Prod.mk.injEq] at h
  obtain ⟨rfl, rfl, rfl⟩ := h
  rw [e1] at hx
  generalize ρ x = u at *
  cases hx
  exact good_pure hw (by simp [Builtin.len_, run_underlying ht, goInt]) (.int _ _)
 ·cases h
theorem run_bound {x : Operand} {x' : Opd} {d most y b : Nat} {code : BoundsCode} (hx : Rep w X ι n (ρ' x') (ρ x)) (h : boundOf ρ' (some x') d most = some b) (hm : most ≤ y) :
 (Instr.sliceBound (ρ x) y code).run P w = .ok b w ∧ b ≤ most := by
 simp only [boundOf] at h
 cases hv : intOf (ρ' x') with
 | none => simp [hv] at h
 | some m =>
   simp only [hv] at h
   split at h
   ·rename_i hc
    simp only [Option.some.injEq] at h
    subst h
    have : ∃ k, ρ' x' = .int k m := by
     cases hq : ρ' x' <;> simp [hq, intOf] at hv; subst hv; exact ⟨_, rfl⟩
    obtain ⟨k, hk⟩ := this
    rw [hk] at hx
    generalize ρ x = u at *
    cases hx
    have h1 : (0 : Int) ≤ m ∧ m ≤ (y : Int) := by omega
    exact ⟨by simp [Instr.sliceBound, asIntOf, h1], by omega⟩
   ·cases h
def optOk (o : Option Operand) (o' : Option Opd) : Prop := (o = none ∧ o' = none) ∨ ∃ y y', o = some y ∧ o' = some y' ∧ cOpd y = some y'
theorem run_bounds {lo hi : Option Operand} {lo' hi' : Option Opd} {len cap l h : Nat} (hρ : ∀ (x : Operand) (x' : Opd), cOpd x = some x' → Rep w X ι n (ρ' x') (ρ x))
 (h1 : optOk lo lo') (h2 : optOk hi hi') (hb : boundOf ρ' hi' len len = some h) (hb' : boundOf ρ' lo' 0 h = some l) (hc : len ≤ cap) (b : Bool) :
 (Instr.sliceBounds b len cap (lo.map ρ) (hi.map ρ) none).run P w = .ok (l, h, cap) w ∧ l ≤ h ∧ h ≤ len := by
 rcases h2 with ⟨rfl, rfl⟩ | ⟨y, y', rfl, rfl, hy⟩ <;> rcases h1 with ⟨rfl, rfl⟩ | ⟨z, z', rfl, rfl, hz⟩
 ·simp [boundOf] at hb hb'
  subst hb; subst hb'
  simp [Instr.sliceBounds]
 ·simp [boundOf] at hb
  subst hb
  obtain ⟨q1, q2⟩ := run_bound (P := P) (y := len) (code := .sliceB) (hρ _ _ hz) hb' (Nat.le_refl _)
  simp [Instr.sliceBounds, q1, q2]
 ·simp [boundOf] at hb'
  subst hb'
  obtain ⟨q1, q2⟩ := run_bound (P := P) (y := cap) (code := if b then .sliceAcap else .sliceAlen) (hρ _ _ hy) hb hc
  simp [Instr.sliceBounds, q1, q2]
 ·obtain ⟨q1, q2⟩ := run_bound (P := P) (y := cap) (code := if b then .sliceAcap else .sliceAlen) (hρ _ _ hy) hb hc
  obtain ⟨q3, q4⟩ := run_bound (P := P) (y := h) (code := .sliceB) (hρ _ _ hz) hb' (Nat.le_refl _)
  simp [Instr.sliceBounds, q1, q2, q3, q4]
theorem ev_slice (hw : WF w X ι σ n) {t e : TypeId} {j : TI} {x : Operand} {x' : Opd} {lo hi : Option Operand} {lo' hi' : Option Opd}
 (hρ : ∀ (x : Operand) (x' : Opd), cOpd x = some x' → Rep w X ι n (ρ' x') (ρ x)) (hx : cOpd x = some x') (h1 : optOk lo lo') (h2 : optOk hi hi')
 (ht : P.underlying t = some (.slice e)) (hj : ti P e = some j) {v : V} (h : ev ρ' σ n lk (.slice j.size x' lo' hi') = some (v, σ', n')) :
 Good w X ι σ n lk (((do pure (.value (← Instr.sliceAt t (ρ x) (lo.map ρ) (hi.map ρ) none)) : Sem Next)).run P w) v σ' n' := by
 have hx := hρ _ _ hx
 simp only [ev] at h
 split at h
 ·rename_i e1
  simp only [Option.bind_eq_some_iff] at h
  obtain ⟨hh, hb, l, hb', h⟩ := h
  split at h
  ·rename_i hc
   simp only [Option.some.injEq, Prod.mk.injEq] at h
   obtain ⟨rfl, rfl, rfl⟩ := h
   obtain ⟨rfl, rfl⟩ := hc
   rw [e1] at hx
   generalize ρ x = u at *
   cases hx
   obtain ⟨q1, q2⟩ := run_bounds (P := P) hρ h1 h2 hb hb' (cap := 0) (Nat.le_refl _) true
   refine good_pure hw ?_ .nilS
   simp [Instr.sliceAt, Instr.slice, run_underlying ht, q1, run_sizeOf hj]
  ·cases h
 ·rename_i sz xs e1
  simp only [Option.bind_eq_some_iff] at h
  obtain ⟨hh, hb, l, hb', h⟩ := h
  split at h
  ·rename_i hc
   simp only [Option.some.injEq, Prod.mk.injEq] at h
   obtain ⟨rfl, rfl, rfl⟩ := h
   subst hc
   rw [e1] at hx
   generalize ρ x = u at *
   cases hx with
   | slE _ c b =>
     obtain ⟨q1, q2, q3⟩ := run_bounds (P := P) hρ h1 h2 hb hb' (cap := c) (Nat.zero_le _) true
     have h00 : hh - l = 0 := by simp at q3; omega
     simp only [List.length_nil] at q1
     simp only [List.take_nil, List.drop_nil]
     by_cases hcl : c = l
     ·refine good_pure hw (u := .slice (some b) 0 0) ?_ (.slE _ _ _)
      subst hcl
      simp [Instr.sliceAt, Instr.slice, run_underlying ht, q1, run_sizeOf hj, h00]
     ·refine good_pure hw (u := .slice (some (b.add (l * j.size))) 0 (c - l)) ?_ (.slE _ _ _)
      simp [Instr.sliceAt, Instr.slice, run_underlying ht, q1, run_sizeOf hj, hcl, h00]
   | sl _ _ b o c u hc hX hb0 hs hm hr =>
     obtain ⟨q1, q2, q3⟩ := run_bounds (P := P) hρ h1 h2 hb hb' (cap := c) hc true
     have hget : ∀ (i : Nat) (y : V), ((xs.take hh).drop l)[i]? = some y → xs[l + i]? = some y := by
      intro i y hy
      rw [List.getElem?_drop, List.getElem?_take] at hy
      split at hy
      ·exact hy
      ·cases hy
     have hlen : ((xs.take hh).drop l).length = hh - l := by simp; omega
     by_cases hcl : c = l
     ·have h0 : hh - l = 0 := by omega
      have hnil : (xs.take hh).drop l = [] := List.eq_nil_of_length_eq_zero (by omega)
      rw [hnil]
      refine good_pure hw (u := .slice (some ⟨b, o, none⟩) 0 0) ?_ (.sl _ [] b o 0 (fun _ _ => undef) (by simp) hX hb0 (by simp) (by simp) (by simp))
      subst hcl
      simp [Instr.sliceAt, Instr.slice, run_underlying ht, q1, run_sizeOf hj, h0]
     ·refine good_pure hw (u := .slice (some ⟨b, o + l * j.size, none⟩) ((xs.take hh).drop l).length (c - l)) ?_
       (.sl _ _ b (o + l * j.size) (c - l) (fun i q => u (l + i) q) (by omega) hX hb0 (fun i y hy => hs _ _ (hget i y hy)) ?_ (fun i y q e hy he => hr _ _ _ _ (hget i y hy) he))
      ·rw [hlen]
       simp [Instr.sliceAt, Instr.slice, run_underlying ht, q1, run_sizeOf hj, hcl, add_none]
      ·intro i y q e hy he
       have := hm _ _ q e (hget i y hy) he
       rwa [show o + (l + i) * j.size + q = o + l * j.size + i * j.size + q by rw [Nat.add_mul]; omega] at this
  ·cases h
 ·rename_i id off len sz e1
  simp only [Option.bind_eq_some_iff] at h
  obtain ⟨hh, hb, l, hb', h⟩ := h
  split at h
  ·rename_i hc
   simp only [Option.some.injEq, Prod.mk.injEq] at h
   obtain ⟨rfl, rfl, rfl⟩ := h
   subst hc
   rw [e1] at hx
   generalize ρ x = u at *
   cases hx with
   | ref _ _ _ _ c o cells ty fz hid hc ho hm hz =>
     obtain ⟨q1, q2, q3⟩ := run_bounds (P := P) hρ h1 h2 hb hb' (cap := c) hc true
     by_cases hcl : c = l
     ·refine good_pure hw (u := .slice (some ⟨ι id, o, none⟩) (hh - l) 0) ?_ (.ref id _ _ _ 0 o cells ty fz hid (by omega) (.inl rfl) hm (.inl rfl))
      subst hcl
      simp [Instr.sliceAt, Instr.slice, run_underlying ht, q1, run_sizeOf hj]
     ·refine good_pure hw (u := .slice (some ⟨ι id, o + l * j.size, none⟩) (hh - l) (c - l)) ?_
       (.ref id _ _ _ (c - l) (o + l * j.size) cells ty fz hid (by omega) (.inr ?_) hm (.inr ?_))
      ·simp [Instr.sliceAt, Instr.slice, run_underlying ht, q1, run_sizeOf hj, hcl, add_none]
      ·rcases ho with h | h
       ·omega
       ·rw [h, Nat.add_mul]
      ·rcases hz with h | h
       ·omega
       ·rw [show off + l + (c - l) = off + c by omega]; exact h
  ·cases h
 ·cases h
theorem bound_self {x' : Opd} {d most b : Nat} (h : boundOf ρ' (some x') d most = some b) : boundOf ρ' (some x') d b = some b := by
 simp only [boundOf] at h ⊢
 cases hv : intOf (ρ' x') with
 | none => simp [hv] at h
 | some m =>
   simp only [hv] at h ⊢
   split at h
   ·rename_i hc
    simp only [Option.some.injEq] at h
    subst h
    rw [if_pos (by omega)]
   ·cases h
theorem run_bounds3 {lo : Option Operand} {lo' : Option Opd} {hi mx : Operand} {hi' mx' : Opd} {len cap l h : Nat} (hρ : ∀ (x : Operand) (x' : Opd), cOpd x = some x' → Rep w X ι n (ρ' x') (ρ x))
 (h1 : optOk lo lo') (hy : cOpd hi = some hi') (hm : cOpd mx = some mx') (heq : intOf (ρ' mx') = intOf (ρ' hi')) (hb : boundOf ρ' (some hi') len len = some h) (hb' : boundOf ρ' lo' 0 h = some l) (hc : len ≤ cap) :
 (Instr.sliceBounds true len cap (lo.map ρ) (some (ρ hi)) (some (ρ mx))).run P w = .ok (l, h, h) w ∧ l ≤ h ∧ h ≤ len := by
 have hb2 : boundOf ρ' (some mx') len len = some h := by simp only [boundOf, heq] at hb ⊢; exact hb
 obtain ⟨q1, q2⟩ := run_bound (P := P) (y := cap) (code := .slice3Acap) (hρ _ _ hm) hb2 hc
 obtain ⟨q3, q4⟩ := run_bound (P := P) (y := h) (code := .slice3B) (hρ _ _ hy) (bound_self hb) (Nat.le_refl _)
 rcases h1 with ⟨rfl, rfl⟩ | ⟨z, z', rfl, rfl, hz⟩
 ·simp [boundOf] at hb'
  subst hb'
  simp [Instr.sliceBounds, q1, q2, q3]
 ·obtain ⟨q5, q6⟩ := run_bound (P := P) (y := h) (code := .slice3C) (hρ _ _ hz) hb' (Nat.le_refl _)
  simp [Instr.sliceBounds, q1, q2, q3, q5, q6]
theorem ev_slice3 (hw : WF w X ι σ n) {t e : TypeId} {j : TI} {x hi mx : Operand} {x' hi' mx' : Opd} {lo : Option Operand} {lo' : Option Opd}
 (hρ : ∀ (x : Operand) (x' : Opd), cOpd x = some x' → Rep w X ι n (ρ' x') (ρ x)) (hx : cOpd x = some x') (h1 : optOk lo lo') (h2 : cOpd hi = some hi') (h3 : cOpd mx = some mx')
 (ht : P.underlying t = some (.slice e)) (hj : ti P e = some j) {v : V} (h : ev ρ' σ n lk (.slice3 j.size x' lo' hi' mx') = some (v, σ', n')) :
 Good w X ι σ n lk (((do pure (.value (← Instr.sliceAt t (ρ x) (lo.map ρ) (some (ρ hi)) (some (ρ mx)))) : Sem Next)).run P w) v σ' n' := by
 have hx := hρ _ _ hx
 simp only [ev] at h
 split at h
 rotate_left
 ·cases h
 rename_i hcond
 simp only [Bool.and_eq_true, beq_iff_eq] at hcond
 have heq := hcond.2
 split at h
 ·rename_i e1
  simp only [Option.bind_eq_some_iff] at h
  obtain ⟨hh, hb, l, hb', h⟩ := h
  split at h
  ·rename_i hc
   simp only [Option.some.injEq, Prod.mk.injEq] at h
   obtain ⟨rfl, rfl, rfl⟩ := h
   obtain ⟨rfl, rfl⟩ := hc
   rw [e1] at hx
   generalize ρ x = u at *
   cases hx
   obtain ⟨q1, q2⟩ := run_bounds3 (P := P) hρ h1 h2 h3 heq hb hb' (cap := 0) (Nat.le_refl _)
   refine good_pure hw ?_ .nilS
   simp [Instr.sliceAt, Instr.slice, run_underlying ht, q1, run_sizeOf hj]
  ·cases h
 ·rename_i sz xs e1
  simp only [Option.bind_eq_some_iff] at h
  obtain ⟨hh, hb, l, hb', h⟩ := h
  split at h
  ·rename_i hc
   simp only [Option.some.injEq, Prod.mk.injEq] at h
   obtain ⟨rfl, rfl, rfl⟩ := h
   subst hc
   rw [e1] at hx
   generalize ρ x = u at *
   cases hx with
   | slE _ c b =>
     obtain ⟨q1, q2, q3⟩ := run_bounds3 (P := P) hρ h1 h2 h3 heq hb hb' (cap := c) (Nat.zero_le _)
     have h00 : hh = 0 := by simp at q3; omega
     have h01 : l = 0 := by omega
     subst h00; subst h01
     simp only [List.length_nil] at q1
     simp only [List.take_nil, List.drop_nil]
     refine good_pure hw (u := .slice (some b) 0 0) ?_ (.slE _ _ _)
     simp [Instr.sliceAt, Instr.slice, run_underlying ht, q1, run_sizeOf hj]
   | sl _ _ b o c u hc hX hb0 hs hm hr =>
     obtain ⟨q1, q2, q3⟩ := run_bounds3 (P := P) hρ h1 h2 h3 heq hb hb' (cap := c) hc
     have hget : ∀ (i : Nat) (y : V), ((xs.take hh).drop l)[i]? = some y → xs[l + i]? = some y := by
      intro i y hy
      rw [List.getElem?_drop, List.getElem?_take] at hy
      split at hy
      ·exact hy
      ·cases hy
     have hlen : ((xs.take hh).drop l).length = hh - l := by simp; omega
     by_cases hcl : hh = l
     ·have h0 : hh - l = 0 := by omega
      have hnil : (xs.take hh).drop l = [] := List.eq_nil_of_length_eq_zero (by omega)
      rw [hnil]
      refine good_pure hw (u := .slice (some ⟨b, o, none⟩) 0 0) ?_ (.sl _ [] b o 0 (fun _ _ => undef) (by simp) hX hb0 (by simp) (by simp) (by simp))
      subst hcl
      simp [Instr.sliceAt, Instr.slice, run_underlying ht, q1, run_sizeOf hj]
     ·refine good_pure hw (u := .slice (some ⟨b, o + l * j.size, none⟩) ((xs.take hh).drop l).length (hh - l)) ?_
       (.sl _ _ b (o + l * j.size) (hh - l) (fun i q => u (l + i) q) (by omega) hX hb0 (fun i y hy => hs _ _ (hget i y hy)) ?_ (fun i y q e hy he => hr _ _ _ _ (hget i y hy) he))
      ·rw [hlen]
       simp [Instr.sliceAt, Instr.slice, run_underlying ht, q1, run_sizeOf hj, hcl, add_none]
      ·intro i y q e hy he
       have := hm _ _ q e (hget i y hy) he
       rwa [show o + (l + i) * j.size + q = o + l * j.size + i * j.size + q by rw [Nat.add_mul]; omega] at this
  ·cases h
 ·rename_i id off len sz e1
  simp only [Option.bind_eq_some_iff] at h
  obtain ⟨hh, hb, l, hb', h⟩ := h
  split at h
  ·rename_i hc
   simp only [Option.some.injEq, Prod.mk.injEq] at h
   obtain ⟨rfl, rfl, rfl⟩ := h
   subst hc
   rw [e1] at hx
   generalize ρ x = u at *
   cases hx with
   | ref _ _ _ _ c o cells ty fz hid hc ho hm hz =>
     obtain ⟨q1, q2, q3⟩ := run_bounds3 (P := P) hρ h1 h2 h3 heq hb hb' (cap := c) hc
     by_cases hcl : hh = l
     ·refine good_pure hw (u := .slice (some ⟨ι id, o, none⟩) (hh - l) 0) ?_ (.ref id _ _ _ 0 o cells ty fz hid (by omega) (.inl rfl) hm (.inl rfl))
      subst hcl
      simp [Instr.sliceAt, Instr.slice, run_underlying ht, q1, run_sizeOf hj]
     ·refine good_pure hw (u := .slice (some ⟨ι id, o + l * j.size, none⟩) (hh - l) (hh - l)) ?_
       (.ref id _ _ _ (hh - l) (o + l * j.size) cells ty fz hid (by omega) (.inr ?_) hm (.inr ?_))
      ·simp [Instr.sliceAt, Instr.slice, run_underlying ht, q1, run_sizeOf hj, hcl, add_none]
      ·rcases ho with h | h
       ·omega
       ·rw [h, Nat.add_mul]
      ·rcases hz with h | h
       ·omega
       ·refine Nat.le_trans (Nat.mul_le_mul_right _ ?_) h
        omega
  ·cases h
 ·cases h
theorem ev_tas (hw : WF w X ι σ n) {x : Operand} {x' : Opd} {t xt : TypeId} {i : TI} {ok : Bool} (hi : ti P t = some i) (hni : ∀ m, i.d ≠ .interface m) (hx : Rep w X ι n (ρ' x') (ρ x))
 {v : V} (h : ev ρ' σ n lk (.tas ok t i.zero x') = some (v, σ', n')) :
 Good w X ι σ n lk (((do pure (.value (← Instr.typeAssert (ρ x) xt t ok)) : Sem Next)).run P w) v σ' n' := by
 obtain ⟨hu, -⟩ := ti_spec hi
 obtain ⟨z, hz, hzv⟩ := run_zeroValue (w := w) hi
 have hzr : Rep w X ι n i.zero z := ofValA_rep hzv
 have pair : ∀ {y : V} {u : Value} (b : Bool), Rep w X ι n y u → Rep w X ι n (.tup [y, .bool b]) (.tuple #[u, .bool b]) := fun {y u} b hy =>
  .tup _ _ (by simp) (fun k e u' he hu' => by
   match k, he, hu' with
   | 0, he, hu' => simp at he hu'; subst he; subst hu'; exact hy
   | 1, he, hu' => simp at he hu'; subst he; subst hu'; exact .bool _)
 simp only [ev] at h
 have hmatch : ∀ (q : Value) (t' : Nat) (y : Value), q = .iface t' y → (Instr.typeAssert q xt t ok).run P w =
  if t' = t then .ok (if ok then .tuple #[y, .bool true] else y) w else (if ok then .ok (.tuple #[z, .bool false]) w else (runtimePanic (.typeAssertion (some xt) (some t') t "") : Sem Value).run P w) := by
  intro q t' y hq
  subst hq
  cases hd : i.d with
  | interface m => exact absurd hd (hni m)
  | _ =>
    rw [hd] at hu
    by_cases h1 : t' = t <;> cases ok <;> simp [Instr.typeAssert, run_underlying hu, h1, Sem.run_bind, hz, Result.andThen_ok]
 have hmatch0 : ok = true → (Instr.typeAssert .nilIface xt t ok).run P w = .ok (.tuple #[z, .bool false]) w := by
  intro hok
  subst hok
  cases hd : i.d with
  | interface m => exact absurd hd (hni m)
  | _ =>
    rw [hd] at hu
    simp [Instr.typeAssert, run_underlying hu, Sem.run_bind, hz, Result.andThen_ok]
 split at h
 ·rename_i t' y e1
  rw [e1] at hx
  generalize ρ x = u at *
  cases hx with
  | iface _ _ uy hy =>
    have hm := hmatch (.iface t' uy) t' uy rfl
    split at h
    ·rename_i ht
     simp only [Option.some.injEq, Prod.mk.injEq] at h
     obtain ⟨rfl, rfl, rfl⟩ := h
     rw [if_pos ht] at hm
     cases ok
     ·exact good_pure hw (by simp only [Sem.run_bind, hm, Result.andThen_ok, Sem.run_pure]; rfl) hy
     ·exact good_pure hw (by simp only [Sem.run_bind, hm, Result.andThen_ok, Sem.run_pure]; rfl) (pair true hy)
    ·rename_i ht
     split at h
     ·rename_i hok
      simp only [Option.some.injEq, Prod.mk.injEq] at h
      obtain ⟨rfl, rfl, rfl⟩ := h
      rw [if_neg ht, if_pos hok] at hm
      exact good_pure hw (by simp only [Sem.run_bind, hm, Result.andThen_ok, Sem.run_pure]) (pair false hzr)
     ·cases h
 ·rename_i e1
  rw [e1] at hx
  generalize ρ x = u at *
  cases hx
  split at h
  ·rename_i hok
   simp only [Option.some.injEq, Prod.mk.injEq] at h
   obtain ⟨rfl, rfl, rfl⟩ := h
   exact good_pure hw (by simp only [Sem.run_bind, hmatch0 hok, Result.andThen_ok, Sem.run_pure]) (pair false hzr)
  ·cases h
 ·cases h
theorem ev_sliceS (hw : WF w X ι σ n) {t : TypeId} {x : Operand} {x' : Opd} {lo hi : Option Operand} {lo' hi' : Option Opd}
 (hρ : ∀ (x : Operand) (x' : Opd), cOpd x = some x' → Rep w X ι n (ρ' x') (ρ x)) (hx : cOpd x = some x') (h1 : optOk lo lo') (h2 : optOk hi hi')
 (ht : P.underlying t = some .string) {v : V} (h : ev ρ' σ n lk (.sliceS x' lo' hi') = some (v, σ', n')) :
 Good w X ι σ n lk (((do pure (.value (← Instr.sliceAt t (ρ x) (lo.map ρ) (hi.map ρ) none)) : Sem Next)).run P w) v σ' n' := by
 have hx := hρ _ _ hx
 simp only [ev] at h
 split at h
 ·rename_i s e1
  simp only [Option.bind_eq_some_iff] at h
  obtain ⟨hh, hb, l, hb', h⟩ := h
  simp only [Option.some.injEq, Prod.mk.injEq] at h
  obtain ⟨rfl, rfl, rfl⟩ := h
  rw [e1] at hx
  generalize ρ x = u at *
  cases hx
  obtain ⟨q1, q2⟩ := run_bounds (P := P) hρ h1 h2 hb hb' (cap := s.size) (Nat.le_refl _) false
  refine good_pure hw ?_ (.str _)
  simp [Instr.sliceAt, Instr.slice, run_underlying ht, q1]
 ·cases h
end
end Go.Q
end

section
/- Append, run. -/
namespace Go.Q
variable [Link]
section
variable {P : Program} {w : World} {X : Nat → Prop} {ι : Nat → Nat} {σ σ' : Sto} {n n' lk : Nat} {ρ : Operand → Value} {ρ' : Opd → V}
theorem Rep.undraw {d : Nat} {v : V} {u : Value} (h : Rep { w with drawn := d } X ι n v u) : Rep w X ι n v u :=
 Rep.move (w := { w with drawn := d }) (w' := w) (X := X) (X' := X) (ι := ι) (ι' := ι) (n := n) (n' := n) (Nat.le_refl _) (fun _ _ _ => rfl) (fun b c t f h => ⟨c, h, rfl⟩) (fun _ _ => rfl) (fun _ _ h => h) (Nat.le_refl _) h
def flatU (sz m : Nat) (u : Nat → Nat → Value) : List Value := (List.range (m * sz)).map fun k => u (k / sz) (k % sz)
theorem flatU_len (sz m : Nat) (u : Nat → Nat → Value) : (flatU sz m u).length = m * sz := by simp [flatU]
theorem flatU_at {sz m : Nat} {u : Nat → Nat → Value} {i j : Nat} (hi : i < m) (hj : j < sz) : (flatU sz m u)[i * sz + j]? = some (u i j) := by
 have hlt : i * sz + j < m * sz := by
  have : (i + 1) * sz ≤ m * sz := Nat.mul_le_mul_right _ hi
  rw [Nat.add_mul, Nat.one_mul] at this; omega
 have h1 : (i * sz + j) / sz = i := by rw [Nat.mul_comm, Nat.mul_add_div (by omega), Nat.div_eq_of_lt hj]; omega
 have h2 : (i * sz + j) % sz = j := by rw [Nat.mul_comm, Nat.mul_add_mod, Nat.mod_eq_of_lt hj]
 simp [flatU, hlt, h1, h2]
theorem flatU_get {sz m k : Nat} {u : Nat → Nat → Value} {x : Value} (h : (flatU sz m u)[k]? = some x) : k < m * sz ∧ 0 < sz ∧ k / sz < m ∧ k % sz < sz ∧ k = (k / sz) * sz + k % sz ∧ x = u (k / sz) (k % sz) := by
 have hlt : k < m * sz := by have := (List.getElem?_eq_some_iff.1 h).1; rwa [flatU_len] at this
 have hsz : 0 < sz := by
  rcases Nat.eq_zero_or_pos sz with h0 | h0
  ·subst h0; simp at hlt
  ·exact h0
 have : x = u (k / sz) (k % sz) := by simp [flatU, hlt] at h; exact h.symm
 refine ⟨hlt, hsz, Nat.div_lt_of_lt_mul (by rwa [Nat.mul_comm]), Nat.mod_lt _ hsz, ?_, this⟩
 have := Nat.div_add_mod k sz
 rw [Nat.mul_comm] at this; omega
theorem row_load {sz b o : Nat} {ys : List V} {u : Nat → Nat → Value}
 (hs : ∀ (i : Nat) (x : V), ys[i]? = some x → x.cells.length = sz ∧ x.cells.all V.one = true)
 (hm : ∀ (i : Nat) (x : V) (j : Nat) (e : V), ys[i]? = some x → x.cells[j]? = some e → w.cell? ⟨b, o + i * sz + j, none⟩ = some (u i j)) :
 (loadCells ⟨b, o, none⟩ (ys.length * sz)).run P w = .ok (flatU sz ys.length u).toArray w := by
 have := run_loadCells (P := P) (w := w) b o (flatU sz ys.length u) (fun k x hk => by
  obtain ⟨h1, h2, h3, h4, h5, rfl⟩ := flatU_get hk
  have hy : ys[k / sz]? = some ys[k / sz] := List.getElem?_eq_getElem h3
  have hl := (hs _ _ hy).1
  have := hm _ _ (k % sz) _ hy (List.getElem?_eq_getElem (by omega))
  rwa [show o + k / sz * sz + k % sz = o + k by omega] at this)
 rwa [flatU_len] at this
theorem flatU_one {sz : Nat} {ys : List V} {u : Nat → Nat → Value}
 (hs : ∀ (i : Nat) (x : V), ys[i]? = some x → x.cells.length = sz ∧ x.cells.all V.one = true)
 (hr : ∀ (i : Nat) (x : V) (j : Nat) (e : V), ys[i]? = some x → x.cells[j]? = some e → Rep w X ι n e (u i j)) : (flatU sz ys.length u).all Value.oneCell' = true := by
 rw [List.all_eq_true]
 intro x hx
 obtain ⟨k, hk, rfl⟩ := List.getElem_of_mem hx
 obtain ⟨h1, h2, h3, h4, h5, h6⟩ := flatU_get (List.getElem?_eq_getElem hk)
 rw [h6]
 have hy : ys[k / sz]? = some ys[k / sz] := List.getElem?_eq_getElem h3
 obtain ⟨hl, ho⟩ := hs _ _ hy
 have hlt : k % sz < (ys[k / sz]).cells.length := by omega
 rw [List.all_eq_true] at ho
 exact one_of_rep (hr _ _ (k % sz) _ hy (List.getElem?_eq_getElem hlt)) (ho _ (List.getElem_mem hlt))
theorem src_run (hw : WF w X ι σ n) {y : Operand} {y' : Opd} {sz : Nat} {ys : List V} (hsz : sz ≠ 0) (hy : Rep w X ι n (ρ' y') (ρ y)) (h : elems σ sz (ρ' y') = some ys) :
 ∃ u : Nat → Nat → Value, (∃ a c, ρ y = .slice a ys.length c) ∧ (Builtin.firstCells sz ys.length (ρ y)).run P w = .ok (flatU sz ys.length u).toArray w ∧
  (∀ (i : Nat) (x : V), ys[i]? = some x → x.cells.length = sz ∧ x.cells.all V.one = true) ∧
  (∀ (i : Nat) (x : V) (j : Nat) (e : V), ys[i]? = some x → x.cells[j]? = some e → Rep w X ι n e (u i j)) := by
 generalize hyy : ρ y = z at *
 generalize ρ' y' = q at *
 cases hy <;> simp only [elems, reduceCtorEq] at h
 case nilS =>
  simp only [Option.some.injEq] at h; subst h
  exact ⟨fun _ _ => undef, ⟨_, _, rfl⟩, by simp [Builtin.firstCells, flatU], by simp, by simp⟩
 case sl sz' xs b o c u hc hX hb hs hm hr =>
  split at h
  ·rename_i e; subst e
   simp only [Option.some.injEq] at h; subst h
   exact ⟨u, ⟨_, _, rfl⟩, row_load hs hm, hs, fun i x j e hx he => (hr i x j e hx he).up⟩
  ·cases h
 case slE sz' c b =>
  split at h
  ·simp only [Option.some.injEq] at h; subst h
   exact ⟨fun _ _ => undef, ⟨_, _, rfl⟩, by simp [Builtin.firstCells, flatU, loadCells, loadCellsFrom], by simp, by simp⟩
  ·cases h
 case ref id off len sz' c o cells ty fz hc ho hm hz hid =>
  split at h
  ·rename_i sz'' xs hxs
   split at h
   ·rename_i hcond
    obtain ⟨rfl, rfl, hle⟩ := hcond
    simp only [Option.some.injEq] at h
    subst h
    obtain ⟨cs, ty', u, h1, h2, h3, h4, h5⟩ := hw.row id _ _ hxs
    have hget : ∀ (i : Nat) (y : V), ((xs.drop off).take len)[i]? = some y → xs[off + i]? = some y := by
     intro i y hy
     rw [List.getElem?_take] at hy
     split at hy
     ·rwa [List.getElem?_drop] at hy
     ·cases hy
    have hlen : ((xs.drop off).take len).length = len := by simp; omega
    refine ⟨fun i j => u (off + i) j, ⟨_, _, by rw [hlen]⟩, ?_, fun i x hx => h3 _ _ (hget i x hx), fun i x j e hx he => h5 _ _ _ _ (hget i x hx) he⟩
    refine ho.elim (fun hc0 => ?_) (fun ho => ?_)
    ·have hl0 : len = 0 := by omega
     subst hl0
     simp [Builtin.firstCells, flatU, loadCells, loadCellsFrom]
    ·subst ho
     have := row_load (P := P) (w := w) (b := ι id) (o := off * sz'') (ys := (xs.drop off).take len) (u := fun i j => u (off + i) j) (sz := sz'')
      (fun i x hx => h3 _ _ (hget i x hx)) (fun i x j e hx he => by
       have := h4 _ _ _ _ (hget i x hx) he
       simp only [World.cell?, h1]
       rw [Nat.add_mul] at this
       simpa [Nat.add_assoc] using this)
     simpa [Builtin.firstCells] using this
   ·cases h
  ·cases h
theorem growBy_le (need : Nat) : ∀ (r c : Nat), c ≤ need + need / 4 + 192 → Builtin.growBy need r c ≤ need + need / 4 + 192 := by
 intro r
 induction r with
 | zero => intro c h; simpa [Builtin.growBy] using h
 | succ r ih =>
   intro c h
   rw [Builtin.growBy]
   split
   ·exact h
   ·exact ih _ (by omega)
theorem nextcap_le {need old : Nat} (h : old < need) : Builtin.nextslicecap need old ≤ need + need / 4 + 512 := by
 unfold Builtin.nextslicecap
 split
 ·omega
 ·split
  ·omega
  ·have := growBy_le need 4 old (by omega); omega
theorem run_grow {t t' e e' : TypeId} {ty : TypeId} {j : TI} {base : Option Addr} {sLen sCap m : Nat} {y : Value} {us old : List Value} (ht : P.underlying t = some (.slice e)) (ht' : P.underlying t' = some (.slice e'))
 (hj : ti P e = some j) (hflat : j.flat = true) (hly : ∃ a c, y = .slice a m c) (hy : (Builtin.firstCells j.size m y).run P { w with drawn := w.drawn + 1 } = .ok us.toArray { w with drawn := w.drawn + 1 })
 (ho : (Builtin.firstCells j.size sLen (.slice base sLen sCap)).run P { w with drawn := w.drawn + 1 } = .ok old.toArray { w with drawn := w.drawn + 1 }) (hneed : sCap < sLen + m) (hlim : (sLen + m) * j.bytes ≤ LIM) :
 ∃ cap rest, sLen + m ≤ cap ∧ (Builtin.append_ #[t, t'] ty #[.slice base sLen sCap, y]).run P w =
  .ok (.slice (some ⟨w.heap.size, 0, none⟩) (sLen + m) cap) ({ w with drawn := w.drawn + 1 }.alloc (.cells (old.toArray ++ us.toArray ++ rest) e)) ∧ rest.size = (cap - (sLen + m)) * j.size := by
 obtain ⟨f1, f2, f3, f4⟩ := flat_spec hflat
 obtain ⟨a, c, rfl⟩ := hly
 obtain ⟨z, hz, hv⟩ := run_zeroValue (w := { w with drawn := w.drawn + 1 }) hj
 obtain ⟨hlz, hrz⟩ := cells_of_rep (ofValA_rep (w := w) (X := fun _ => False) (ι := id) (n := 0) hv)
 obtain ⟨hu, i, z', hi, hi1, hi2, hi3, hi4⟩ := ti_spec hj
 have hcap := nextcap_le hneed
 have hb0 : 1 ≤ j.bytes := by omega
 have hbig : ¬ (Builtin.nextslicecap (sLen + m) sCap * i.bytes > 2 ^ 48) := by
  rw [hi2]
  have h1 : Builtin.nextslicecap (sLen + m) sCap * j.bytes ≤ ((sLen + m) + (sLen + m) / 4 + 512) * j.bytes := Nat.mul_le_mul_right _ hcap
  have h2 : (sLen + m) / 4 * 4 * j.bytes ≤ (sLen + m) * j.bytes := Nat.mul_le_mul_right _ (by omega)
  have h3 : (sLen + m) / 4 * 4 * j.bytes = 4 * ((sLen + m) / 4 * j.bytes) := by rw [Nat.mul_comm _ 4, Nat.mul_assoc]
  have h4 := flat_bytes hflat
  rw [Nat.add_mul, Nat.add_mul] at h1
  unfold LIM at hlim
  have h5 : (2 : Nat) ^ 48 = 281474976710656 := rfl
  omega
 obtain ⟨cap, hcapdef⟩ : ∃ cap, Question.cut (.appendCap (sLen + m) sCap e) (w.tape w.drawn (.appendCap (sLen + m) sCap e)) = cap := ⟨_, rfl⟩
 have hcl : sLen + m ≤ cap := by rw [← hcapdef]; simp [Question.cut]
 refine ⟨cap, Builtin.zeroCells z.cells (cap - (sLen + m)), hcl, ?_, by simp [Builtin.zeroCells, ← hlz, f1]⟩
 have hn : ¬ (sLen + m ≤ sCap) := by omega
 have hmax : ¬ (((sLen + m : Nat) : Int) > IntKind.i64.max ∧ (false = true ∨ i.bytes = 0)) := by
  rintro ⟨_, h | h⟩ <;> first | cases h | omega
 have hb1 : i.bytes ≠ 0 := by omega
 simp only [Builtin.append_, List.getElem?_toArray, List.getElem?_cons_zero, List.getElem?_cons_succ, Sem.run_bind, run_underlying ht, Result.andThen_ok, run_sizeOf hj, run_underlying ht',
  Sem.run_pure, Builtin.lenOf, Bool.false_eq_true, if_false, hn, run_typeInfo hi]
 have hmax' : ¬ (((sLen + m : Nat) : Int) > IntKind.i64.max ∧ (False ∨ i.bytes = 0)) := by
  rintro ⟨_, h | h⟩
  ·exact h
  ·exact hb1 h
 have hforced : (Question.appendCap (sLen + m) sCap e).forced = false := rfl
 rw [if_neg hmax']
 simp only [Sem.run_bind, run_typeInfo hi, Result.andThen_ok]
 rw [if_neg hbig]
 simp only [Sem.run_bind, run_choose, hforced, Bool.false_eq_true, if_false, Result.andThen_ok, run_typeInfo hi, run_askRoom, ho, hcapdef, Bool.not_false, if_true, hy, hz, newRow, run_newObj, Sem.run_pure]
 rfl
theorem run_fits {t t' e e' : TypeId} {ty : TypeId} {j : TI} {base : Option Addr} {sLen sCap m : Nat} {y : Value} {us : List Value} {w' : World} (ht : P.underlying t = some (.slice e)) (ht' : P.underlying t' = some (.slice e'))
 (hj : ti P e = some j) (hly : ∃ a c, y = .slice a m c) (hy : (Builtin.firstCells j.size m y).run P w = .ok us.toArray w) (hneed : sLen + m ≤ sCap)
 (hst : ∀ a, base = some a → (storeCells (a.add (sLen * j.size)) us).run P w = .ok () w') (hno : base = none → w' = w) :
 (Builtin.append_ #[t, t'] ty #[.slice base sLen sCap, y]).run P w = .ok (.slice base (sLen + m) sCap) w' := by
 obtain ⟨a, c, rfl⟩ := hly
 simp only [Builtin.append_, List.getElem?_toArray, List.getElem?_cons_zero, List.getElem?_cons_succ, Sem.run_bind, run_underlying ht, Result.andThen_ok, run_sizeOf hj, run_underlying ht',
  Sem.run_pure, Builtin.lenOf, Bool.false_eq_true, if_false, hneed, if_true, Bool.not_false, hy]
 cases base with
 | none => simp [hno rfl]
 | some b => simp [hst b rfl]
theorem move_obj (hw : WF w X ι σ n) {id : Nat} {o : Ob} (h : σ id = some o) (hl : lk ≤ id) :
 WF w X (setι ι n (ι id)) (upd (upd σ id none) n (some o)) (n + 1) ∧ Ext w w X X ι (setι ι n (ι id)) σ (upd (upd σ id none) n (some o)) n (n + 1) lk := by
 have hid := hw.dom id (by rw [h]; simp)
 have key : ∀ i, upd (upd σ id none) n (some o) i ≠ none → (i = n ∧ setι ι n (ι id) i = ι id) ∨ (i ≠ n ∧ i ≠ id ∧ σ i ≠ none ∧ setι ι n (ι id) i = ι i ∧ upd (upd σ id none) n (some o) i = σ i) := by
  intro i hi
  by_cases e : i = n
  ·exact .inl ⟨e, by simp [setι, e]⟩
  ·by_cases e' : i = id
   ·subst e'; simp [upd, e] at hi
   ·exact .inr ⟨e, e', by simpa [upd, e, e'] using hi, by simp [setι, e], by simp [upd, e, e']⟩
 have hrep : ∀ {v u}, Rep w X ι n v u → Rep w X (setι ι n (ι id)) (n + 1) v u := fun hh =>
  hh.move (Nat.le_refl _) (fun _ _ _ => rfl) (fun b c t f hb => ⟨c, hb, rfl⟩) (fun i hi => by simp [setι]; omega) (fun _ _ h => h) (by omega)
 constructor
 ·constructor
  ·intro i sz xs hi
   rcases key i (by rw [hi]; simp) with ⟨e, e'⟩ | ⟨e1, e2, e3, e4, e5⟩
   ·subst e
    simp only [upd, if_true, Option.some.injEq] at hi
    subst hi
    obtain ⟨cells, ty, u, h1, h2, h3, h4, h5⟩ := hw.row id _ _ h
    exact ⟨cells, ty, u, by rw [e']; exact h1, h2, h3, h4, fun i x j e hx he => hrep (h5 i x j e hx he)⟩
   ·rw [e5] at hi
    obtain ⟨cells, ty, u, h1, h2, h3, h4, h5⟩ := hw.row i _ _ hi
    exact ⟨cells, ty, u, by rw [e4]; exact h1, h2, h3, h4, fun i x j e hx he => hrep (h5 i x j e hx he)⟩
  ·intro i env ps a b st pend hi
   rcases key i (by rw [hi]; simp) with ⟨e, e'⟩ | ⟨e1, e2, e3, e4, e5⟩
   ·subst e
    simp only [upd, if_true, Option.some.injEq] at hi
    subst hi
    obtain ⟨r, h1, h2⟩ := hw.loop id _ _ _ _ _ _ h
    exact ⟨r, by rw [e']; exact h1, h2.hst, h2.hpend, h2.hpn, h2.hps, h2.code, fun t => hrep (h2.rep t)⟩
   ·rw [e5] at hi
    obtain ⟨r, h1, h2⟩ := hw.loop i _ _ _ _ _ _ hi
    exact ⟨r, by rw [e4]; exact h1, h2.hst, h2.hpend, h2.hpn, h2.hps, h2.code, fun t => hrep (h2.rep t)⟩
  ·intro i hi
   rcases key i hi with ⟨e, e'⟩ | ⟨e1, e2, e3, e4, e5⟩
   ·rw [e']; exact hw.own id (by rw [h]; simp)
   ·rw [e4]; exact hw.own i e3
  ·intro i i' hi hi' he
   rcases key i hi with ⟨e, e'⟩ | ⟨e1, e2, e3, e4, e5⟩ <;> rcases key i' hi' with ⟨d, d'⟩ | ⟨d1, d2, d3, d4, d5⟩
   ·omega
   ·rw [e', d4] at he
    exact absurd (hw.inj id i' (by rw [h]; simp) d3 he).symm d2
   ·rw [e4, d'] at he
    exact absurd (hw.inj i id e3 (by rw [h]; simp) he) e2
   ·rw [e4, d4] at he
    exact hw.inj i i' e3 d3 he
  ·intro i hi
   rcases key i hi with ⟨e, e'⟩ | ⟨e1, e2, e3, e4, e5⟩
   ·omega
   ·have := hw.dom i e3; omega
  ·exact hw.xlt
  ·have hmi : ∀ {b o'}, MI w X ι n b o' → MI w X (setι ι n (ι id)) (n + 1) b o' := fun hh =>
    hh.move (Nat.le_refl _) (fun _ _ _ => rfl) (fun b c t f hb => ⟨c, hb, rfl⟩) (fun i hi => by simp [setι]; omega) (fun _ _ h => h) (by omega) rfl
   intro i o' hi
   rcases key i (by rw [hi]; simp) with ⟨e, e'⟩ | ⟨e1, e2, e3, e4, e5⟩
   ·subst e
    simp only [upd, if_true, Option.some.injEq] at hi
    subst hi
    rw [e']; exact hmi (hw.mi id _ h)
   ·rw [e5] at hi
    rw [e4]; exact hmi (hw.mi i _ hi)
 ·exact {
   hn := by omega, os := rfl, tape := rfl, output := rfl, size := Nat.le_refl _, heap := fun _ _ _ => rfl, cells := fun b c t f hb => ⟨c, hb, rfl⟩, loops := fun _ r h => ⟨r, h⟩
   hι := fun i hi => by simp [setι]; omega
   xnew := fun _ _ h => h, xold := fun _ h _ => h, xlt := hw.xlt
   own := fun i hl' hi _ => by
    rcases key i hi with ⟨e, e'⟩ | ⟨e1, e2, e3, e4, e5⟩
    ·rw [e']; exact ⟨id, hl, by rw [h]; simp, rfl⟩
    ·rw [e4]; exact ⟨i, hl', e3, rfl⟩
   lock := fun i hi => by rw [upd, if_neg (by omega), upd, if_neg (by omega)] }
theorem ev_append (hw : WF w X ι σ n) (hl : lk ≤ n) {t t' e e' : TypeId} {ty : TypeId} {j : TI} {x y : Operand} {x' y' : Opd} (hx : Rep w X ι n (ρ' x') (ρ x)) (hy : Rep w X ι n (ρ' y') (ρ y))
 (ht : P.underlying t = some (.slice e)) (ht' : P.underlying t' = some (.slice e')) (hj : ti P e = some j) (hflat : j.flat = true)
 {v : V} (h : ev ρ' σ n lk (.append j.size j.bytes x' y') = some (v, σ', n')) :
 Good w X ι σ n lk (((do pure (.value (← Builtin.append_ #[t, t'] ty #[ρ x, ρ y])) : Sem Next)).run P w) v σ' n' := by
 obtain ⟨f1, f2, f3, f4⟩ := flat_spec hflat
 simp only [ev] at h
 cases hel : elems σ j.size (ρ' y') with
 | none => simp [hel] at h
 | some ys =>
   simp only [hel] at h
   obtain ⟨u, hly, hyc, hys, hyr⟩ := src_run (P := P) hw f3 hy hel
   have hw1 : WF { w with drawn := w.drawn + 1 } X ι σ n := hw.move (Nat.le_refl _) (fun _ _ => rfl) (fun _ _ => rfl) (fun _ _ => Iff.rfl) (Nat.le_refl _) hw.xlt
   have hy1 : Rep { w with drawn := w.drawn + 1 } X ι n (ρ' y') (ρ y) := hy.ext (lk := lk) hw (Ext.draw hw.xlt _)
   split at h
   ·rename_i e1
    rw [e1] at hx
    generalize ρ x = a at *
    cases hx
    split at h
    ·rename_i hemp
     simp only [Option.some.injEq, Prod.mk.injEq] at h
     obtain ⟨rfl, rfl, rfl⟩ := h
     have hl0 : ys.length = 0 := by simpa using hemp
     have := run_fits (P := P) (w := w) (w' := w) (ty := ty) (base := none) (sLen := 0) (sCap := 0) ht ht' hj hly hyc (by omega) (fun a h => by cases h) (fun _ => rfl)
     refine good_pure hw ?_ .nilS
     simp only [Sem.run_bind, this, Result.andThen_ok, Sem.run_pure, hl0]
    ·rename_i hemp
     split at h
     ·rename_i hlim
      simp only [Option.some.injEq, Prod.mk.injEq] at h
      obtain ⟨rfl, rfl, rfl⟩ := h
      have hl0 : ys.length ≠ 0 := by simpa using hemp
      obtain ⟨u1, hly1, hyc1, hys1, hyr1⟩ := src_run (P := P) hw1 f3 hy1 hel
      obtain ⟨cap, rest, g1, g2, g3⟩ := run_grow (P := P) (w := w) (ty := ty) (base := none) (sLen := 0) (sCap := 0) (old := []) ht ht' hj hflat hly1 hyc1 (by simp [Builtin.firstCells]) (by omega) (by simpa using hlim)
      refine good_row hw hl (w.drawn + 1) u1 (c := cap) (cells := #[] ++ (flatU j.size ys.length u1).toArray ++ rest) (ty := e) ?_ (by omega) ?_ hys1 ?_ (fun i x q e hx he => ?_)
      ·simp only [Sem.run_bind, g2, Result.andThen_ok, Sem.run_pure, Nat.zero_add]
      ·simp [flatU_len, g3]
       rw [← Nat.add_mul]
       exact Nat.mul_le_mul_right _ (by omega)
      ·intro i x q c hx hq
       have hi : i < ys.length := (List.getElem?_eq_some_iff.1 hx).1
       have hqs : q < j.size := by have := (List.getElem?_eq_some_iff.1 hq).1; have := (hys1 i x hx).1; omega
       have hb := flatU_at (u := u1) hi hqs
       have hlt := (List.getElem?_eq_some_iff.1 hb).1
       rw [Array.getElem?_append_left (by simpa using hlt)]
       simpa using hb
      ·exact (hyr1 i x q e hx he).undraw
     ·cases h
   ·rename_i id off len sz' e1
    split at h
    ·rename_i sz'' xs hxs
     split at h
     ·rename_i hcond
      obtain ⟨rfl, rfl, rfl, hlen, hlk, hlim⟩ := hcond
      simp only [Option.some.injEq, Prod.mk.injEq] at h
      obtain ⟨rfl, rfl, rfl⟩ := h
      rw [e1] at hx
      generalize ρ x = a at *
      cases hx with
      | ref _ _ _ _ c o cells0 ty0 fz hid hc ho hm hz =>
        obtain ⟨cells, ty1, ux, h1, h2, h3', h4', h5'⟩ := hw.row id _ _ hxs
        generalize hzs : xs.take len = zs
        have hzl : zs.length = len := by rw [← hzs, List.length_take]; omega
        have hin : ∀ (i : Nat) (x : V), zs[i]? = some x → xs[i]? = some x := fun i x hx => by
         rw [← hzs, List.getElem?_take] at hx; split at hx; exact hx; cases hx
        have h3 := fun i x hx => h3' i x (hin i x hx)
        have h4 := fun i x q e hx => h4' i x q e (hin i x hx)
        have h5 := fun i x q e hx => h5' i x q e (hin i x hx)
        subst hzl
        rw [h1] at hm
        simp only [Option.some.injEq, Obj.cells.injEq] at hm
        obtain ⟨rfl, rfl, rfl⟩ := hm
        have hxy : ∀ (i : Nat) (x : V), (zs ++ ys)[i]? = some x → (i < zs.length ∧ zs[i]? = some x) ∨ (zs.length ≤ i ∧ ys[i - zs.length]? = some x) := by
         intro i x hi
         by_cases hlt : i < zs.length
         ·rw [List.getElem?_append_left hlt] at hi; exact .inl ⟨hlt, hi⟩
         ·rw [List.getElem?_append_right (by omega)] at hi; exact .inr ⟨by omega, hi⟩
        by_cases hfit : zs.length + ys.length ≤ c
        ·-- in place
         have hfl : (flatU j.size ys.length u).length = ys.length * j.size := flatU_len _ _ _
         have hroom : zs.length * j.size + ys.length * j.size ≤ cells.size := by
          rcases hz with h0 | hz
          ·have e1 : zs.length = 0 := by omega
           have e2 : ys.length = 0 := by omega
           simp [e1, e2]
          ·rw [← Nat.add_mul]
           exact Nat.le_trans (Nat.mul_le_mul_right _ (by omega)) hz
         have hstore : ∀ a, some (⟨ι id, o, none⟩ : Addr) = some a → (storeCells (a.add (zs.length * j.size)) (flatU j.size ys.length u)).run P w = .ok () (putRow w (ι id) (writeAt cells (zs.length * j.size) (flatU j.size ys.length u)) ty1) := by
          intro a ha
          cases ha
          rw [add_none]
          rcases ho with h0 | ho
          ·have e1 : zs.length = 0 := by omega
           have e2 : ys.length = 0 := by omega
           have e3 : flatU j.size ys.length u = [] := by rw [e2]; simp [flatU]
           rw [e3]
           simp [storeCells, writeAt, putRow_id h1]
          ·rw [Nat.zero_mul] at ho
           subst ho
           rw [Nat.zero_add]
           exact run_storeCells h1 (by rw [hfl]; exact hroom) (flatU_one hys hyr)
         have hrun := run_fits (P := P) (ty := ty) (base := some ⟨ι id, o, none⟩) (sLen := zs.length) (sCap := c) ht ht' hj hly hyc hfit hstore (fun h => by cases h)
         obtain ⟨wf1, ex1⟩ := move_obj (lk := lk) hw hxs hlk
         have hrep1 : ∀ {v u}, Rep w X ι n v u → Rep w X (setι ι n (ι id)) (n + 1) v u := fun hh => hh.ext hw ex1
         have hιn : setι ι n (ι id) n = ι id := by simp [setι]
         obtain ⟨wf2, ex2⟩ := set_row (lk := lk) wf1 (id := n) (sz := j.size) (xs := xs) (xs' := zs ++ ys) (cs := cells) (ty := ty1) (cs' := writeAt cells (zs.length * j.size) (flatU j.size ys.length u))
          (by simp [upd]) hl (by rw [hιn]; exact h1) (by simp) (fun i q => if i < zs.length then ux i q else u (i - zs.length) q)
          (by simp; rw [Nat.add_mul]; exact hroom)
          (fun i x hi => by
           rcases hxy i x hi with ⟨_, hi⟩ | ⟨_, hi⟩
           ·exact h3 i x hi
           ·exact hys _ x hi)
          (fun i x q e hi hq => by
           rw [writeAt_get _ _ _ _ (by rw [hfl]; exact hroom), hfl]
           rcases hxy i x hi with ⟨hlt, hi⟩ | ⟨hge, hi⟩
           ·have hqs : q < j.size := by have := (List.getElem?_eq_some_iff.1 hq).1; have := (h3 i x hi).1; omega
            have : (i + 1) * j.size ≤ zs.length * j.size := Nat.mul_le_mul_right _ hlt
            rw [Nat.add_mul, Nat.one_mul] at this
            rw [if_neg (by omega), if_pos hlt]
            exact h4 i x q e hi hq
           ·have hqs : q < j.size := by have := (List.getElem?_eq_some_iff.1 hq).1; have := (hys _ x hi).1; omega
            have hil : i - zs.length < ys.length := (List.getElem?_eq_some_iff.1 hi).1
            have e1 : i * j.size = zs.length * j.size + (i - zs.length) * j.size := by rw [← Nat.add_mul]; congr 1; omega
            have e2 : (i - zs.length + 1) * j.size ≤ ys.length * j.size := Nat.mul_le_mul_right _ hil
            rw [Nat.add_mul, Nat.one_mul] at e2
            rw [if_pos (by omega), if_neg (by omega), show i * j.size + q - zs.length * j.size = (i - zs.length) * j.size + q by omega]
            exact flatU_at hil hqs)
          (fun i x q e hi hq => by
           rcases hxy i x hi with ⟨hlt, hi⟩ | ⟨hge, hi⟩
           ·rw [if_pos hlt]; exact hrep1 (h5 i x q e hi hq)
           ·rw [if_neg (by omega)]; exact hrep1 (hyr _ x q e hi hq))
         rw [hιn] at wf2 ex2
         have hσ : upd (upd (upd σ id none) n (some (.row j.size xs))) n (some (.row j.size (zs ++ ys))) = upd (upd σ id none) n (some (.row j.size (zs ++ ys))) := by
          funext i; simp only [upd]; split <;> rfl
         rw [hσ] at wf2 ex2
         refine ⟨_, X, setι ι n (ι id), .slice (some ⟨ι id, o, none⟩) (zs.length + ys.length) c, .inl (by simp only [Sem.run_bind, hrun, Result.andThen_ok, Sem.run_pure]), ?_, wf2, ex1.trans ex2⟩
         have hput : (putRow w (ι id) (writeAt cells (zs.length * j.size) (flatU j.size ys.length u)) ty1).heap[ι id]? = some (.cells (writeAt cells (zs.length * j.size) (flatU j.size ys.length u)) ty1 (0, 0)) :=
          putRow_heap_same (Array.getElem?_eq_some_iff.1 h1).1
         have := Rep.ref (w := putRow w (ι id) (writeAt cells (zs.length * j.size) (flatU j.size ys.length u)) ty1) (X := X) (ι := setι ι n (ι id)) (n := n + 1) n 0 (zs.length + ys.length) j.size c o
          _ ty1 (0, 0) (by omega) hfit ho (by rw [hιn]; exact hput) (by rcases hz with h0 | hz; exact .inl h0; exact .inr (by simpa using hz))
         rwa [hιn] at this
        ·-- a new row
         obtain ⟨cells', ty1', ux, h1, h2, h3', h4', h5'⟩ := hw1.row id _ _ hxs
         have h3 := fun i x hx => h3' i x (hin i x hx)
         have h4 := fun i x q e hx => h4' i x q e (hin i x hx)
         have h5 := fun i x q e hx => h5' i x q e (hin i x hx)
         obtain ⟨u1, hly1, hyc1, hys1, hyr1⟩ := src_run (P := P) hw1 f3 hy1 hel
         have hold : (Builtin.firstCells j.size zs.length (.slice (some ⟨ι id, o, none⟩) zs.length c)).run P { w with drawn := w.drawn + 1 } = .ok (flatU j.size zs.length ux).toArray { w with drawn := w.drawn + 1 } := by
          rcases ho with h0 | ho
          ·have e1 : zs.length = 0 := by omega
           rw [e1]
           simp [Builtin.firstCells, flatU, loadCells, loadCellsFrom]
          ·rw [Nat.zero_mul] at ho
           subst ho
           have := row_load (P := P) (w := { w with drawn := w.drawn + 1 }) (b := ι id) (o := 0) (ys := zs) (u := ux) (sz := j.size) h3 (fun i x q e hx he => by
            simp only [World.cell?, h1]
            simpa using h4 i x q e hx he)
           simpa [Builtin.firstCells] using this
         obtain ⟨cap, rest, g1, g2, g3⟩ := run_grow (P := P) (w := w) (ty := ty) (base := some ⟨ι id, o, none⟩) (sLen := zs.length) (sCap := c) ht ht' hj hflat hly1 hyc1 hold (by omega) hlim
         obtain ⟨wf0, ex0⟩ := drop_obj (lk := lk) hw id hlk
         have hfx : (flatU j.size zs.length ux).length = zs.length * j.size := flatU_len _ _ _
         have hfy : (flatU j.size ys.length u1).length = ys.length * j.size := flatU_len _ _ _
         have g := good_row wf0 hl (w.drawn + 1) (fun i q => if i < zs.length then ux i q else u1 (i - zs.length) q) (c := cap) (xs := zs ++ ys) (sz := j.size)
          (cells := (flatU j.size zs.length ux).toArray ++ (flatU j.size ys.length u1).toArray ++ rest) (ty := e) (lk := lk)
          (r := ((do pure (.value (← Builtin.append_ #[t, t'] ty #[.slice (some ⟨ι id, o, none⟩) zs.length c, ρ y])) : Sem Next)).run P w)
          (by simp only [Sem.run_bind, g2, Result.andThen_ok, Sem.run_pure, List.length_append]) (by simp; omega)
          (by
           simp only [Array.size_append, List.size_toArray, hfx, hfy, g3]
           rw [← Nat.add_mul, ← Nat.add_mul]
           exact Nat.mul_le_mul_right _ (by omega))
          (fun i x hi => by
           rcases hxy i x hi with ⟨_, hi⟩ | ⟨_, hi⟩
           ·exact h3 i x hi
           ·exact hys _ x hi)
          (fun i x q e hi hq => by
           rcases hxy i x hi with ⟨hlt, hi⟩ | ⟨hge, hi⟩
           ·have hqs : q < j.size := by have := (List.getElem?_eq_some_iff.1 hq).1; have := (h3 i x hi).1; omega
            have hb := flatU_at (u := ux) hlt hqs
            have hb' := (List.getElem?_eq_some_iff.1 hb).1
            rw [Array.append_assoc, Array.getElem?_append_left (by simpa using hb'), if_pos hlt]
            simpa using hb
           ·have hqs : q < j.size := by have := (List.getElem?_eq_some_iff.1 hq).1; have := (hys _ x hi).1; omega
            have hil : i - zs.length < ys.length := (List.getElem?_eq_some_iff.1 hi).1
            have hb := flatU_at (u := u1) hil hqs
            have hb' := (List.getElem?_eq_some_iff.1 hb).1
            have e1 : i * j.size = zs.length * j.size + (i - zs.length) * j.size := by rw [← Nat.add_mul]; congr 1; omega
            rw [hfy] at hb'
            rw [Array.getElem?_append_left (by simp [hfx, hfy]; omega), Array.getElem?_append_right (by simp [hfx]; omega), if_neg (by omega)]
            simp only [List.size_toArray, hfx, List.getElem?_toArray]
            rw [show i * j.size + q - zs.length * j.size = (i - zs.length) * j.size + q by omega]
            exact hb)
          (fun i x q e hi hq => by
           have back : ∀ {v u}, Rep { w with drawn := w.drawn + 1 } X ι n v u → Rep w X ι n v u := fun hh =>
            hh.undraw
           rcases hxy i x hi with ⟨hlt, hi⟩ | ⟨hge, hi⟩
           ·rw [if_pos hlt]; exact back (h5 i x q e hi hq)
           ·rw [if_neg (by omega)]; exact back (hyr1 _ x q e hi hq))
         obtain ⟨w', X', ι', uu, gr, grep, gwf, gex⟩ := g
         exact ⟨w', X', ι', uu, gr, by simpa using grep, gwf, ex0.trans gex⟩
     ·cases h
    ·cases h
   ·cases h
end
end Go.Q
end

section
/- Structs held against each other; least and greatest; every operation that is no call. -/
namespace Go.Q
variable [Link]
section
variable {P : Program} {w : World} {X : Nat → Prop} {ι : Nat → Nat} {σ σ' : Sto} {n n' lk : Nat} {ρ : Operand → Value} {ρ' : Opd → V}
theorem eqCell_run {k : CK} {x y : V} {a b : Value} {r : Bool} {t : TypeId} {d : Nat} (hk : ckOf P t = some k) (hx : Rep w X ι n x a) (hy : Rep w X ι n y b) (h : eqCell k x y = some r) :
 (Op.equalIn (d + 1) t a b).run P w = .ok r w ∧ (isAgg t).run P w = .ok false w := by
 unfold ckOf at hk
 split at hk <;> simp only [Option.some.injEq, reduceCtorEq] at hk <;> subst hk
 ·rename_i ht
  cases x <;> cases y <;> simp only [eqCell, reduceCtorEq, Option.some.injEq] at h
  cases hx; cases hy; subst h
  exact ⟨run_equalIn_bool' _ _ _ _ _ ht, by simp [isAgg, run_underlying ht]⟩
 ·rename_i k' ht
  cases x <;> cases y <;> simp only [eqCell, reduceCtorEq, Option.some.injEq] at h
  split at h
  ·rename_i e; subst e
   simp only [Option.some.injEq] at h; subst h
   cases hx; cases hy
   exact ⟨run_equalIn_int _ _ _ _ _ _ _ ht, by simp [isAgg, run_underlying ht]⟩
  ·cases h
 ·rename_i ht
  cases x <;> cases y <;> simp only [eqCell, reduceCtorEq, Option.some.injEq] at h
  cases hx; cases hy; subst h
  exact ⟨by rw [run_equalIn_string _ _ _ _ _ ht, beq_toListBytes], by simp [isAgg, run_underlying ht]⟩
theorem eqFields_run (d : Nat) : ∀ (fs : List Field) (ks : List CK) (xs ys : List V) (us vs : Array Value) (o : Nat) (r : Bool),
 (∀ (i : Nat) (f : Field), fs[i]? = some f → f.offset = o + i ∧ f.name ≠ "_") → fs.mapM (fun f => ckOf P f.type) = some ks →
 (∀ (i : Nat) (e : V), xs[i]? = some e → ∃ u, us[o + i]? = some u ∧ Rep w X ι n e u) → (∀ (i : Nat) (e : V), ys[i]? = some e → ∃ u, vs[o + i]? = some u ∧ Rep w X ι n e u) →
 eqCells ks xs ys = some r → (Op.eqFields (d + 1) us vs fs).run P w = .ok r w
 | [], ks, xs, ys, us, vs, o, r, hf, hk, hx, hy, h => by
   simp at hk; subst hk
   cases xs <;> cases ys <;> simp [eqCells] at h
   subst h
   simp [Op.eqFields]
 | f :: fs, ks, xs, ys, us, vs, o, r, hf, hk, hx, hy, h => by
   simp only [List.mapM_cons, Option.pure_def, Option.bind_eq_bind, Option.bind_eq_some_iff, Option.some.injEq] at hk
   obtain ⟨k, hk1, ks', hk2, rfl⟩ := hk
   cases xs with
   | nil => simp [eqCells] at h
   | cons x xs =>
     cases ys with
     | nil => simp [eqCells] at h
     | cons y ys =>
       simp only [eqCells, Option.bind_eq_some_iff, Option.map_eq_some_iff] at h
       obtain ⟨b, hb, c, hc, rfl⟩ := h
       obtain ⟨u, hu, hru⟩ := hx 0 x rfl
       obtain ⟨v, hv, hrv⟩ := hy 0 y rfl
       obtain ⟨hoff, hname⟩ := hf 0 f rfl
       simp only [Nat.add_zero] at hu hv hoff
       obtain ⟨e1, e2⟩ := eqCell_run (d := d) hk1 hru hrv hb
       have ih := eqFields_run d fs ks' xs ys us vs (o + 1) c
        (fun i g hg => by have := hf (i + 1) g (by simpa using hg); exact ⟨by omega, this.2⟩) hk2
        (fun i e he => by have := hx (i + 1) e (by simpa using he); rwa [show o + (i + 1) = o + 1 + i by omega] at this)
        (fun i e he => by have := hy (i + 1) e (by simpa using he); rwa [show o + (i + 1) = o + 1 + i by omega] at this) hc
       have p1 : (part f.type us f.offset).run P w = .ok u w := by
        simp only [part, Sem.run_bind, e2, Result.andThen_ok, Bool.false_eq_true, if_false, hoff, hu, Sem.run_pure]
       have p2 : (part f.type vs f.offset).run P w = .ok v w := by
        simp only [part, Sem.run_bind, e2, Result.andThen_ok, Bool.false_eq_true, if_false, hoff, hv, Sem.run_pure]
       simp only [Op.eqFields, hname, ne_eq, not_false_eq_true, if_true, Sem.run_bind, p1, p2, Result.andThen_ok, e1]
       cases b
       ·simp
       ·simpa using ih
theorem eqStruct_run {t : TypeId} {fs : Array Field} {ks : List CK} (ht : P.underlying t = some (.struct fs)) (hks : cksOf P t fs.toList = some ks) {xs ys : List V} {a z : Value} {b : Bool}
 (hx : Rep w X ι n (.agg xs) a) (hy : Rep w X ι n (.agg ys) z) (hb : eqCells ks xs ys = some b) : (Op.equal t a z).run P w = .ok b w := by
 unfold cksOf at hks
 split at hks
 ·rename_i hc
  simp only [Bool.and_eq_true, Bool.not_eq_true', List.all_eq_true] at hc
  obtain ⟨⟨c1, c2⟩, c3⟩ := hc
  have hf : ∀ (i : Nat) (f : Field), fs.toList[i]? = some f → f.offset = 0 + i ∧ f.name ≠ "_" := by
   intro i f hf
   have hmem : (f, i) ∈ fs.toList.zipIdx := by
    rw [List.mem_iff_getElem?]
    exact ⟨i, by simp [List.getElem?_zipIdx] ; simpa using hf⟩
   have := c1 _ hmem
   simp only [beq_iff_eq, bne_iff_ne] at this
   exact ⟨by omega, this.2⟩
  cases hx with
  | agg _ us hlx hrx =>
    cases hy with
    | agg _ vs hly hry =>
      have hfo : P.fieldsOf t = fs := by simp [Program.fieldsOf, ht]
      rw [equal_succ, run_equalIn_struct _ _ _ _ _ (by rw [hfo]; exact ht) c2, hfo]
      exact eqFields_run 9998 fs.toList ks xs ys us vs 0 b hf hks
       (fun i e he => by
        have hlt : i < us.size := by have := (List.getElem?_eq_some_iff.1 he).1; omega
        exact ⟨us[i], by simp [hlt], hrx i e _ he (by simp [hlt])⟩)
       (fun i e he => by
        have hlt : i < vs.size := by have := (List.getElem?_eq_some_iff.1 he).1; omega
        exact ⟨vs[i], by simp [hlt], hry i e _ he (by simp [hlt])⟩) hb
 ·cases hks
theorem ev_eqA (hw : WF w X ι σ n) {neg : Bool} {t : TypeId} {fs : Array Field} {ks : List CK} {x y : Operand} {x' y' : Opd} (ht : P.underlying t = some (.struct fs)) (hks : cksOf P t fs.toList = some ks)
 (hx : Rep w X ι n (ρ' x') (ρ x)) (hy : Rep w X ι n (ρ' y') (ρ y)) {v : V} (h : ev ρ' σ n lk (.eqA neg ks x' y') = some (v, σ', n')) :
 Good w X ι σ n lk (((do pure (.value (← (do eqGuard (if neg then .neq else .eql) t x y (ρ x) (ρ y); Go.binOp (if neg then .neq else .eql) t (ρ x) (ρ y)))) : Sem Next)).run P w) v σ' n' := by
 unfold cksOf at hks
 split at hks
 ·rename_i hc
  simp only [Bool.and_eq_true, Bool.not_eq_true', List.all_eq_true] at hc
  obtain ⟨⟨c1, c2⟩, c3⟩ := hc
  have hf : ∀ (i : Nat) (f : Field), fs.toList[i]? = some f → f.offset = 0 + i ∧ f.name ≠ "_" := by
   intro i f hf
   have hmem : (f, i) ∈ fs.toList.zipIdx := by
    rw [List.mem_iff_getElem?]
    exact ⟨i, by simp [List.getElem?_zipIdx] ; simpa using hf⟩
   have := c1 _ hmem
   simp only [beq_iff_eq, bne_iff_ne] at this
   exact ⟨by omega, this.2⟩
  simp only [ev] at h
  split at h
  ·rename_i xs ys e1 e2
   simp only [Option.map_eq_some_iff, Prod.mk.injEq] at h
   obtain ⟨b, hb, rfl, rfl, rfl⟩ := h
   rw [e1] at hx; rw [e2] at hy
   generalize ρ x = a at *
   generalize ρ y = z at *
   cases hx with
   | agg _ us hlx hrx =>
     cases hy with
     | agg _ vs hly hry =>
       have hfo : P.fieldsOf t = fs := by simp [Program.fieldsOf, ht]
       have key : (Op.equal t (.agg us) (.agg vs)).run P w = .ok b w := by
        rw [equal_succ, run_equalIn_struct _ _ _ _ _ (by rw [hfo]; exact ht) c2, hfo]
        exact eqFields_run 9998 fs.toList ks xs ys us vs 0 b hf hks
         (fun i e he => by
          have hlt : i < us.size := by have := (List.getElem?_eq_some_iff.1 he).1; omega
          exact ⟨us[i], by simp [hlt], hrx i e _ he (by simp [hlt])⟩)
         (fun i e he => by
          have hlt : i < vs.size := by have := (List.getElem?_eq_some_iff.1 he).1; omega
          exact ⟨vs[i], by simp [hlt], hry i e _ he (by simp [hlt])⟩) hb
       have hguard : ∀ op, (eqGuard op t x y (.agg us) (.agg vs)).run P w = .ok () w := by
        intro op
        unfold eqGuard
        cases op <;> first | rfl | simp [c3]
       refine good_pure hw ?_ (.bool _)
       simp only [Sem.run_bind, hguard, Result.andThen_ok]
       cases neg <;> simp [Go.binOp, key]
  ·cases h
 ·cases hks
theorem eqItems_run (d : Nat) {e : TypeId} {k : CK} (hk : ckOf P e = some k) (us vs : Array Value) : ∀ (m o : Nat) (xs ys : List V) (r : Bool),
 (∀ (i : Nat) (e : V), xs[i]? = some e → ∃ u, us[o + i]? = some u ∧ Rep w X ι n e u) → (∀ (i : Nat) (e : V), ys[i]? = some e → ∃ u, vs[o + i]? = some u ∧ Rep w X ι n e u) →
 eqCells (List.replicate m k) xs ys = some r → (Op.eqItems (d + 1) e 1 us vs (List.range' o m)).run P w = .ok r w
 | 0, o, xs, ys, r, hx, hy, h => by
   cases xs <;> cases ys <;> simp [eqCells] at h
   subst h
   simp [Op.eqItems]
 | m + 1, o, xs, ys, r, hx, hy, h => by
   cases xs with
   | nil => simp [eqCells, List.replicate_succ] at h
   | cons x xs =>
     cases ys with
     | nil => simp [eqCells, List.replicate_succ] at h
     | cons y ys =>
       simp only [List.replicate_succ, eqCells, Option.bind_eq_some_iff, Option.map_eq_some_iff] at h
       obtain ⟨b, hb, c, hc, rfl⟩ := h
       obtain ⟨u, hu, hru⟩ := hx 0 x rfl
       obtain ⟨v, hv, hrv⟩ := hy 0 y rfl
       simp only [Nat.add_zero] at hu hv
       obtain ⟨e1, e2⟩ := eqCell_run (d := d) hk hru hrv hb
       have ih := eqItems_run d hk us vs m (o + 1) xs ys c
        (fun i e he => by have := hx (i + 1) e (by simpa using he); rwa [show o + (i + 1) = o + 1 + i by omega] at this)
        (fun i e he => by have := hy (i + 1) e (by simpa using he); rwa [show o + (i + 1) = o + 1 + i by omega] at this) hc
       have p1 : (part e us (o * 1)).run P w = .ok u w := by
        simp only [part, Sem.run_bind, e2, Result.andThen_ok, Bool.false_eq_true, if_false, Nat.mul_one, hu, Sem.run_pure]
       have p2 : (part e vs (o * 1)).run P w = .ok v w := by
        simp only [part, Sem.run_bind, e2, Result.andThen_ok, Bool.false_eq_true, if_false, Nat.mul_one, hv, Sem.run_pure]
       simp only [List.range'_succ, Op.eqItems, Sem.run_bind, p1, p2, Result.andThen_ok, e1]
       cases b
       ·simp
       ·simpa using ih
theorem eqArr_run {t : TypeId} {m : Nat} {e : TypeId} {ks : List CK} (ht : P.underlying t = some (.array m e)) (hks : cksArr P t m e = some ks) {xs ys : List V} {a z : Value} {b : Bool}
 (hx : Rep w X ι n (.agg xs) a) (hy : Rep w X ι n (.agg ys) z) (hb : eqCells ks xs ys = some b) : (Op.equal t a z).run P w = .ok b w := by
 unfold cksArr at hks
 split at hks
 ·rename_i k j hk hj
  split at hks
  ·rename_i hc
   obtain ⟨hj1, c3⟩ := hc
   simp only [Option.some.injEq] at hks; subst hks
   obtain ⟨_, i, _, hi, hsz, _⟩ := ti_spec hj
   have hco : P.cellsOf e = 1 := by simp [Program.cellsOf, hi, hsz, hj1]
   cases hx with
   | agg _ us hlx hrx =>
     cases hy with
     | agg _ vs hly hry =>
       rw [equal_succ, run_equalIn_array w 9999 us vs ht hi, hco, List.range_eq_range']
       exact eqItems_run 9998 hk us vs m 0 xs ys b
        (fun i e he => by
         have hlt : i < us.size := by have := (List.getElem?_eq_some_iff.1 he).1; omega
         exact ⟨us[i], by simp [hlt], hrx i e _ he (by simp [hlt])⟩)
        (fun i e he => by
         have hlt : i < vs.size := by have := (List.getElem?_eq_some_iff.1 he).1; omega
         exact ⟨vs[i], by simp [hlt], hry i e _ he (by simp [hlt])⟩) hb
  ·cases hks
 ·cases hks
theorem ev_eqR (hw : WF w X ι σ n) {neg : Bool} {t : TypeId} {m : Nat} {e : TypeId} {ks : List CK} {x y : Operand} {x' y' : Opd} (ht : P.underlying t = some (.array m e)) (hks : cksArr P t m e = some ks)
 (hx : Rep w X ι n (ρ' x') (ρ x)) (hy : Rep w X ι n (ρ' y') (ρ y)) {v : V} (h : ev ρ' σ n lk (.eqA neg ks x' y') = some (v, σ', n')) :
 Good w X ι σ n lk (((do pure (.value (← (do eqGuard (if neg then .neq else .eql) t x y (ρ x) (ρ y); Go.binOp (if neg then .neq else .eql) t (ρ x) (ρ y)))) : Sem Next)).run P w) v σ' n' := by
 unfold cksArr at hks
 split at hks
 ·rename_i k j hk hj
  split at hks
  ·rename_i hc
   obtain ⟨hj1, c3⟩ := hc
   simp only [Option.some.injEq] at hks; subst hks
   obtain ⟨_, i, _, hi, hsz, _⟩ := ti_spec hj
   have hco : P.cellsOf e = 1 := by simp [Program.cellsOf, hi, hsz, hj1]
   simp only [ev] at h
   split at h
   ·rename_i xs ys e1 e2
    simp only [Option.map_eq_some_iff, Prod.mk.injEq] at h
    obtain ⟨b, hb, rfl, rfl, rfl⟩ := h
    rw [e1] at hx; rw [e2] at hy
    generalize ρ x = a at *
    generalize ρ y = z at *
    cases hx with
    | agg _ us hlx hrx =>
      cases hy with
      | agg _ vs hly hry =>
        have key : (Op.equal t (.agg us) (.agg vs)).run P w = .ok b w := by
         rw [equal_succ, run_equalIn_array w 9999 us vs ht hi, hco, List.range_eq_range']
         exact eqItems_run 9998 hk us vs m 0 xs ys b
          (fun i e he => by
           have hlt : i < us.size := by have := (List.getElem?_eq_some_iff.1 he).1; omega
           exact ⟨us[i], by simp [hlt], hrx i e _ he (by simp [hlt])⟩)
          (fun i e he => by
           have hlt : i < vs.size := by have := (List.getElem?_eq_some_iff.1 he).1; omega
           exact ⟨vs[i], by simp [hlt], hry i e _ he (by simp [hlt])⟩) hb
        have hguard : ∀ op, (eqGuard op t x y (.agg us) (.agg vs)).run P w = .ok () w := by
         intro op
         unfold eqGuard
         cases op <;> first | rfl | simp [c3]
        refine good_pure hw ?_ (.bool _)
        simp only [Sem.run_bind, hguard, Result.andThen_ok]
        cases neg <;> simp [Go.binOp, key]
   ·cases h
  ·cases hks
 ·cases hks
theorem foldM_min : ∀ (es : List V) (us : List Value) (x v : V) (a : Value), es.length = us.length → (∀ (i : Nat) (e : V) (u : Value), es[i]? = some e → us[i]? = some u → Rep w X ι n e u) → Rep w X ι n x a →
 es.foldlM minV x = some v → ∃ r, (us.foldlM Builtin.min2 a : Sem Value).run P w = .ok r w ∧ Rep w X ι n v r
 | [], us, x, v, a, hl, hr, hx, h => by
   have : us = [] := List.length_eq_zero_iff.1 (by simpa using hl.symm)
   subst this
   simp at h; subst h
   exact ⟨a, by simp, hx⟩
 | e :: es, [], x, v, a, hl, hr, hx, h => by simp at hl
 | e :: es, u :: us, x, v, a, hl, hr, hx, h => by
   have hu := hr 0 e u rfl rfl
   simp only [List.foldlM_cons, Option.bind_eq_bind, Option.bind_eq_some_iff] at h
   obtain ⟨y, hy, h⟩ := h
   cases x <;> cases e <;> simp only [minV, reduceCtorEq, Option.some.injEq] at hy
   subst hy
   cases hx; cases hu
   obtain ⟨r, h1, h2⟩ := foldM_min es us _ v _ (by simpa using hl) (fun i e u he hu => hr (i + 1) e u (by simpa using he) (by simpa using hu)) (.int _ _) h
   exact ⟨r, by simp only [List.foldlM_cons, Sem.run_bind, Builtin.min2, Sem.run_pure, Result.andThen_ok, h1], h2⟩
theorem foldM_max : ∀ (es : List V) (us : List Value) (x v : V) (a : Value), es.length = us.length → (∀ (i : Nat) (e : V) (u : Value), es[i]? = some e → us[i]? = some u → Rep w X ι n e u) → Rep w X ι n x a →
 es.foldlM maxV x = some v → ∃ r, (us.foldlM Builtin.max2 a : Sem Value).run P w = .ok r w ∧ Rep w X ι n v r
 | [], us, x, v, a, hl, hr, hx, h => by
   have : us = [] := List.length_eq_zero_iff.1 (by simpa using hl.symm)
   subst this
   simp at h; subst h
   exact ⟨a, by simp, hx⟩
 | e :: es, [], x, v, a, hl, hr, hx, h => by simp at hl
 | e :: es, u :: us, x, v, a, hl, hr, hx, h => by
   have hu := hr 0 e u rfl rfl
   simp only [List.foldlM_cons, Option.bind_eq_bind, Option.bind_eq_some_iff] at h
   obtain ⟨y, hy, h⟩ := h
   cases x <;> cases e <;> simp only [maxV, reduceCtorEq, Option.some.injEq] at hy
   subst hy
   cases hx; cases hu
   obtain ⟨r, h1, h2⟩ := foldM_max es us _ v _ (by simpa using hl) (fun i e u he hu => hr (i + 1) e u (by simpa using he) (by simpa using hu)) (.int _ _) h
   exact ⟨r, by simp only [List.foldlM_cons, Sem.run_bind, Builtin.max2, Sem.run_pure, Result.andThen_ok, h1], h2⟩
end
end Go.Q
end
