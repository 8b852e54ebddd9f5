/- What single operations come to, in a form that a rewriter can follow. -/
import Derived.Test.YtaigdfomoplchaaQvWalk
set_option linter.unusedSimpArgs false
set_option linter.unusedVariables false
namespace Go.Q

variable {T : Tab}

theorem row_at (σ : Sto) (id sz i : Nat) : rowAt σ id sz i = match σ id with
  | some (.row sz' xs) => if sz' = sz then xs[i]? else none
  | _ => none := rfl

def rowO (o : Option Ob) (sz i : Nat) : Option V := match o with
  | some (.row sz' xs) => if sz' = sz then xs[i]? else none
  | _ => none
theorem rowO_row (sz i : Nat) (xs : List V) : rowO (some (.row sz xs)) sz i = xs[i]? := by simp [rowO]

def r1 (v : Option V) (σ : Sto) (n : Nat) : R3 := v.map fun v => (v, σ, n)
theorem r1_some (v : V) (σ : Sto) (n : Nat) : r1 (some v) σ n = some (v, σ, n) := rfl

def pickE (c a b : V) (σ : Sto) (n : Nat) : R3 := match c with
  | .bool t => some (cv t a b, σ, n)
  | _ => none
theorem pickE_bool (t : Bool) (a b : V) (σ : Sto) (n : Nat) : pickE (.bool t) a b σ n = some (cv t a b, σ, n) := rfl
/-- Only the value that is taken is looked at. -/
@[congr] theorem pickE_congr {c c' a a' b b' : V} {σ σ' : Sto} {n n' : Nat} (h : c = c') (h1 : σ = σ') (h2 : n = n') : pickE c a b σ n = pickE c' a b σ' n' := by rw [h, h1, h2]

def boxE (v : V) (σ : Sto) (n : Nat) : R3 := if v.cells.all V.one = true then some (.ptr n v.cells.length 0 0, upd σ n (some (.row v.cells.length [v])), n + 1) else none

def loadE (agg : Bool) (s : Nat) (v : V) (σ : Sto) (n : Nat) : R3 := match v with
  | .ptr id sz i j => r1 ((rowO (σ id) sz i).bind fun e => loadC agg s (e.cells.drop j)) σ n
  | .box cs => r1 (loadC agg s cs) σ n
  | _ => none
theorem loadE_ptr (agg : Bool) (s id sz i j : Nat) (σ : Sto) (n : Nat) : loadE agg s (.ptr id sz i j) σ n = r1 ((rowO (σ id) sz i).bind fun e => loadC agg s (e.cells.drop j)) σ n := rfl
theorem loadE_box (agg : Bool) (s : Nat) (cs : List V) (σ : Sto) (n : Nat) : loadE agg s (.box cs) σ n = r1 (loadC agg s cs) σ n := rfl
theorem loadC_one (s : Nat) (c : V) (cs : List V) : loadC false s (c :: cs) = some c := rfl
theorem loadC_agg (s : Nat) (cs : List V) : loadC true s cs = if s ≤ cs.length then some (.agg (cs.take s)) else none := rfl

def putR (o : Option Ob) (s id sz i j lk : Nat) (v : V) (σ : Sto) (n : Nat) : R3 := match o with
  | some (.row sz' xs) =>
    match xs[i]? with
    | some e =>
      if sz' = sz ∧ lk ≤ id ∧ 0 < s ∧ v.cells.length = s ∧ v.cells.all V.one = true ∧ j + s ≤ sz then
        some (.undef, upd σ id (some (.row sz (xs.set i (spliceC e j v.cells)))), n)
      else none
    | none => none
  | _ => none
def putE (s lk : Nat) (x v : V) (σ : Sto) (n : Nat) : R3 := match x with
  | .ptr id sz i j => putR (σ id) s id sz i j lk v σ n
  | _ => none
theorem putE_ptr (s lk id sz i j : Nat) (v : V) (σ : Sto) (n : Nat) : putE s lk (.ptr id sz i j) v σ n = putR (σ id) s id sz i j lk v σ n := rfl
def putX (e : Option V) (s id sz i j lk : Nat) (xs : List V) (v : V) (σ : Sto) (n : Nat) : R3 := match e with
  | some e =>
      if lk ≤ id ∧ 0 < s ∧ v.cells.length = s ∧ v.cells.all V.one = true ∧ j + s ≤ sz then
        some (.undef, upd σ id (some (.row sz (xs.set i (spliceC e j v.cells)))), n)
      else none
  | none => none
theorem putR_row (s id sz i j lk : Nat) (xs : List V) (v : V) (σ : Sto) (n : Nat) : putR (some (.row sz xs)) s id sz i j lk v σ n = putX xs[i]? s id sz i j lk xs v σ n := by
  unfold putR putX
  simp only [true_and]
theorem putX_some (e : V) (s id sz i j lk : Nat) (xs : List V) (v : V) (σ : Sto) (n : Nat) : putX (some e) s id sz i j lk xs v σ n =
      if lk ≤ id ∧ 0 < s ∧ v.cells.length = s ∧ v.cells.all V.one = true ∧ j + s ≤ sz then
        some (.undef, upd σ id (some (.row sz (xs.set i (spliceC e j v.cells)))), n)
      else none := rfl

def nilckE (v : V) (σ : Sto) (n : Nat) : R3 := match v with
  | .ptr id sz i j => some (.ptr id sz i j, σ, n)
  | .box cs => some (.box cs, σ, n)
  | .fn f caps => some (.fn f caps, σ, n)
  | _ => none
theorem nilckE_ptr (id sz i j : Nat) (σ : Sto) (n : Nat) : nilckE (.ptr id sz i j) σ n = some (.ptr id sz i j, σ, n) := rfl
theorem nilckE_box (cs : List V) (σ : Sto) (n : Nat) : nilckE (.box cs) σ n = some (.box cs, σ, n) := rfl
theorem nilckE_fn (f : Nat) (cs : List V) (σ : Sto) (n : Nat) : nilckE (.fn f cs) σ n = some (.fn f cs, σ, n) := rfl

def eqBE (neg : Bool) (x y : V) : Option V := match x, y with
  | .bool a, .bool b => some (.bool ((a == b) != neg))
  | _, _ => none
theorem eqBE_bool (neg a b : Bool) : eqBE neg (.bool a) (.bool b) = some (.bool ((a == b) != neg)) := rfl
def eqAE (neg : Bool) (ks : List CK) (x y : V) : Option V := match x, y with
  | .agg xs, .agg ys => (eqCells ks xs ys).map fun (b : Bool) => .bool (b != neg)
  | _, _ => none
theorem eqAE_agg (neg : Bool) (ks : List CK) (xs ys : List V) : eqAE neg ks (.agg xs) (.agg ys) = (eqCells ks xs ys).map fun (b : Bool) => .bool (b != neg) := rfl
def eqNE (neg : Bool) (x : V) : Option V := match x with
  | .nilS => some (.bool (!neg))
  | .sl .. | .ref .. => some (.bool neg)
  | _ => none
theorem eqNE_nil (neg : Bool) : eqNE neg .nilS = some (.bool (!neg)) := rfl
theorem eqNE_sl (neg : Bool) (sz : Nat) (xs : List V) : eqNE neg (.sl sz xs) = some (.bool neg) := rfl
theorem eqNE_ref (neg : Bool) (id off len sz : Nat) : eqNE neg (.ref id off len sz) = some (.bool neg) := rfl
def eqFE (neg : Bool) (x : V) : Option V := match x with
  | .nilF => some (.bool (!neg))
  | .fn .. => some (.bool neg)
  | _ => none
theorem eqFE_nil (neg : Bool) : eqFE neg .nilF = some (.bool (!neg)) := rfl
theorem eqFE_fn (neg : Bool) (f : Nat) (xs : List V) : eqFE neg (.fn f xs) = some (.bool neg) := rfl
def convE (k : IntKind) (x : V) : Option V := match x with
  | .int _ a => some (.int k (k.wrap a))
  | _ => none
theorem convE_int (k k' : IntKind) (a : Int) : convE k (.int k' a) = some (.int k (k.wrap a)) := rfl
def mkslE (sz bytes : Nat) (e len : V) (σ : Sto) (n : Nat) : R3 := match len with
  | .int .i64 l => if 0 ≤ l ∧ bytes * l ≤ 140737488355328 ∧ e.cells.length = sz then
        some (.ref n 0 l.toNat sz, upd σ n (some (.row sz (List.replicate l.toNat e))), n + 1) else none
  | _ => none
theorem mkslE_int (sz bytes : Nat) (e : V) (l : Int) (σ : Sto) (n : Nat) : mkslE sz bytes e (.int .i64 l) σ n = if 0 ≤ l ∧ bytes * l ≤ 140737488355328 ∧ e.cells.length = sz then
        some (.ref n 0 l.toNat sz, upd σ n (some (.row sz (List.replicate l.toNat e))), n + 1) else none := rfl

/-- A bound of a slice. -/
def bndE (v : V) (most : Nat) : Option Nat := match v with
  | .int _ n => if 0 ≤ n ∧ n ≤ most then some n.toNat else none
  | _ => none
theorem bndE_int (k : IntKind) (n : Int) (most : Nat) : bndE (.int k n) most = if 0 ≤ n ∧ n ≤ most then some n.toNat else none := rfl
theorem boundOf_none (ρ : Opd → V) (d most : Nat) : boundOf ρ none d most = some d := rfl
theorem boundOf_some (ρ : Opd → V) (x : Opd) (d most : Nat) : boundOf ρ (some x) d most = bndE (ρ x) most := by
  simp only [boundOf, bndE, intOf]
  cases ρ x <;> rfl

def sliceE (ρ : Opd → V) (sz : Nat) (x : V) (lo hi : Option Opd) : Option V := match x with
  | .nilS => (boundOf ρ hi 0 0).bind fun h => (boundOf ρ lo 0 h).bind fun l => if l = 0 ∧ h = 0 then some .nilS else none
  | .sl sz' xs => (boundOf ρ hi xs.length xs.length).bind fun h => (boundOf ρ lo 0 h).bind fun l =>
        if sz' = sz then some (.sl sz ((xs.take h).drop l)) else none
  | .ref id off len sz' => (boundOf ρ hi len len).bind fun h => (boundOf ρ lo 0 h).bind fun l =>
        if sz' = sz then some (.ref id (off + l) (h - l) sz) else none
  | _ => none
theorem sliceE_nil (ρ : Opd → V) (sz : Nat) (lo hi : Option Opd) : sliceE ρ sz .nilS lo hi = (boundOf ρ hi 0 0).bind fun h => (boundOf ρ lo 0 h).bind fun l => if l = 0 ∧ h = 0 then some .nilS else none := rfl
theorem sliceE_sl (ρ : Opd → V) (sz : Nat) (xs : List V) (lo hi : Option Opd) : sliceE ρ sz (.sl sz xs) lo hi =
    (boundOf ρ hi xs.length xs.length).bind fun h => (boundOf ρ lo 0 h).bind fun l => some (.sl sz ((xs.take h).drop l)) := by simp [sliceE]
theorem sliceE_ref (ρ : Opd → V) (id off len sz : Nat) (lo hi : Option Opd) : sliceE ρ sz (.ref id off len sz) lo hi =
    (boundOf ρ hi len len).bind fun h => (boundOf ρ lo 0 h).bind fun l => some (.ref id (off + l) (h - l) sz) := by simp [sliceE]

def sliceSE (ρ : Opd → V) (x : V) (lo hi : Option Opd) : Option V := match x with
  | .str s => (boundOf ρ hi s.size s.size).bind fun h => (boundOf ρ lo 0 h).bind fun l => some (.str (s.extract l h))
  | _ => none
theorem sliceSE_str (ρ : Opd → V) (s : ByteArray) (lo hi : Option Opd) : sliceSE ρ (.str s) lo hi = (boundOf ρ hi s.size s.size).bind fun h => (boundOf ρ lo 0 h).bind fun l => some (.str (s.extract l h)) := rfl

def faddrE (x : V) (off : Nat) : Option V := match x with
  | .ptr id sz i j => some (.ptr id sz i (j + off))
  | .box cs => some (.box (cs.drop off))
  | _ => none
theorem faddrE_ptr (id sz i j off : Nat) : faddrE (.ptr id sz i j) off = some (.ptr id sz i (j + off)) := rfl
theorem faddrE_box (cs : List V) (off : Nat) : faddrE (.box cs) off = some (.box (cs.drop off)) := rfl
def fldE (agg : Bool) (s off : Nat) (x : V) : Option V := match x with
  | .agg cs => loadC agg s (cs.drop off)
  | _ => none
theorem fldE_agg (agg : Bool) (s off : Nat) (cs : List V) : fldE agg s off (.agg cs) = loadC agg s (cs.drop off) := rfl
def iaddrE (sz : Nat) (x i : V) : Option V := match x, i with
  | .sl sz' xs, .int _ k => if 0 ≤ k ∧ sz' = sz then (xs[k.toNat]?).map fun e => .box e.cells else none
  | .ref id off len sz', .int _ k => if 0 ≤ k ∧ k < len ∧ sz' = sz then some (.ptr id sz (off + k.toNat) 0) else none
  | _, _ => none
theorem iaddrE_sl (sz : Nat) (xs : List V) (k : IntKind) (i : Nat) : iaddrE sz (.sl sz xs) (.int k (i : Int)) = (xs[i]?).map fun e => .box e.cells := by simp [iaddrE]
theorem iaddrE_ref (sz id off len : Nat) (k : IntKind) (i : Nat) : iaddrE sz (.ref id off len sz) (.int k (i : Int)) = if i < len then some (.ptr id sz (off + i) 0) else none := by
  simp [iaddrE]
theorem iaddrE_slI (sz : Nat) (xs : List V) (k : IntKind) (i : Int) (h : 0 ≤ i) : iaddrE sz (.sl sz xs) (.int k i) = (xs[i.toNat]?).map fun e => .box e.cells := by simp [iaddrE, h]
theorem iaddrE_refI (sz id off len : Nat) (k : IntKind) (i : Int) (h : 0 ≤ i) (h' : i < len) : iaddrE sz (.ref id off len sz) (.int k i) = some (.ptr id sz (off + i.toNat) 0) := by
  simp [iaddrE, h, h']
def iaddrAE (m es : Nat) (x i : V) : Option V := match x, i with
  | .ptr id sz e j, .int _ k => if 0 ≤ k ∧ k < m then some (.ptr id sz e (j + k.toNat * es)) else none
  | .box cs, .int _ k => if 0 ≤ k ∧ k < m then some (.box (cs.drop (k.toNat * es))) else none
  | _, _ => none
def idxAE (agg : Bool) (m es : Nat) (x i : V) : Option V := match x, i with
  | .agg cs, .int _ k => if 0 ≤ k ∧ k < m then loadC agg es (cs.drop (k.toNat * es)) else none
  | _, _ => none
theorem idxAE_nat (agg : Bool) (m es : Nat) (cs : List V) (k : IntKind) (i : Nat) : idxAE agg m es (.agg cs) (.int k (i : Int)) = if i < m then loadC agg es (cs.drop (i * es)) else none := by
  simp [idxAE]
def idxSE (x i : V) : Option V := match x, i with
  | .str s, .int _ k => if 0 ≤ k then (s[k.toNat]?).map fun b => .int .u8 b.toNat else none
  | _, _ => none
def extE (x : V) (i : Nat) : Option V := match x with
  | .tup vs => vs[i]?
  | _ => none
theorem extE_tup (vs : List V) (i : Nat) : extE (.tup vs) i = vs[i]? := rfl
def lenE (x : V) : Option V := (lenOf x).map fun (l : Nat) => .int .i64 (l : Int)
theorem lenE_nil : lenE .nilS = some (.int .i64 ((0 : Nat) : Int)) := rfl
theorem lenE_sl (sz : Nat) (xs : List V) : lenE (.sl sz xs) = some (.int .i64 (xs.length : Int)) := rfl
theorem lenE_ref (id off len sz : Nat) : lenE (.ref id off len sz) = some (.int .i64 (len : Int)) := rfl
def lenSE (x : V) : Option V := match x with
  | .str s => some (.int .i64 s.size)
  | _ => none
theorem lenSE_str (s : ByteArray) : lenSE (.str s) = some (.int .i64 s.size) := rfl
theorem minV_int (k : IntKind) (x y : Int) : minV (.int k x) (.int k y) = some (.int k (if y < x then y else x)) := rfl
theorem maxV_int (k : IntKind) (x y : Int) : maxV (.int k x) (.int k y) = some (.int k (if x < y then y else x)) := rfl
def mmE (f : V → V → Option V) : List V → Option V
  | x :: ys => ys.foldlM f x
  | [] => none
theorem mmE_one (f : V → V → Option V) (x : V) : mmE f [x] = some x := rfl
theorem mmE_two (f : V → V → Option V) (x y : V) : mmE f [x, y] = f x y := by simp [mmE, List.foldlM]
theorem mmE_three (f : V → V → Option V) (x y z : V) : mmE f [x, y, z] = (f x y).bind fun a => f a z := by
  simp only [mmE, List.foldlM]
  cases f x y <;> simp

/-- What is put behind. -/
def appE (o : Option Ob) (sz bytes id len lk : Nat) (ys : List V) (σ : Sto) (n : Nat) : R3 := match o with
  | some (.row sz'' xs) =>
      if sz'' = sz ∧ len = xs.length ∧ lk ≤ id ∧ (len + ys.length) * bytes ≤ LIM then
            some (.ref n 0 (len + ys.length) sz, upd (upd σ id none) n (some (.row sz (xs ++ ys))), n + 1)
          else none
  | _ => none
theorem appE_row (sz bytes id lk : Nat) (xs ys : List V) (σ : Sto) (n : Nat) : appE (some (.row sz xs)) sz bytes id xs.length lk ys σ n =
    if lk ≤ id ∧ (xs.length + ys.length) * bytes ≤ LIM then some (.ref n 0 (xs.length + ys.length) sz, upd (upd σ id none) n (some (.row sz (xs ++ ys))), n + 1) else none := by
  simp [appE]
def appendE (sz bytes lk : Nat) (x : V) (ys : Option (List V)) (σ : Sto) (n : Nat) : R3 := match ys with
  | none => none
  | some ys => match x with
    | .nilS => if ys.isEmpty = true then some (.nilS, σ, n) else
        if ys.length * bytes ≤ LIM then some (.ref n 0 ys.length sz, upd σ n (some (.row sz ys)), n + 1) else none
    | .ref id off len sz' => if sz' = sz ∧ off = 0 then appE (σ id) sz bytes id len lk ys σ n else none
    | _ => none
theorem appendE_nil (sz bytes lk : Nat) (ys : List V) (σ : Sto) (n : Nat) : appendE sz bytes lk .nilS (some ys) σ n = if ys.isEmpty = true then some (.nilS, σ, n) else
        if ys.length * bytes ≤ LIM then some (.ref n 0 ys.length sz, upd σ n (some (.row sz ys)), n + 1) else none := rfl
theorem appendE_ref (sz bytes lk id len : Nat) (ys : List V) (σ : Sto) (n : Nat) : appendE sz bytes lk (.ref id 0 len sz) (some ys) σ n = appE (σ id) sz bytes id len lk ys σ n := by
  simp [appendE]
theorem elems_nil (σ : Sto) (sz : Nat) : elems σ sz .nilS = some [] := rfl
theorem elems_sl (σ : Sto) (sz : Nat) (xs : List V) : elems σ sz (.sl sz xs) = some xs := by simp [elems]
def elemsO (o : Option Ob) (sz off len : Nat) : Option (List V) := match o with
  | some (.row sz'' xs) => if sz'' = sz ∧ off + len ≤ xs.length then some ((xs.drop off).take len) else none
  | _ => none
theorem w_elems_ref (σ : Sto) (id off len sz : Nat) : elems σ sz (.ref id off len sz) = elemsO (σ id) sz off len := by
  simp only [elems, elemsO, true_and]
  rfl
theorem elemsO_row (sz off len : Nat) (xs : List V) : elemsO (some (.row sz xs)) sz off len = if off + len ≤ xs.length then some ((xs.drop off).take len) else none := by simp [elemsO]
theorem elemsO_all (sz : Nat) (xs : List V) : elemsO (some (.row sz xs)) sz 0 xs.length = some xs := by simp [elemsO]

section
variable (fs : Bool) (ρ : Opd → V) (σ : Sto) (n lk : Nat)
theorem evw_mov (x : Opd) : evT T fs ρ σ n lk (.mov x) = some (ρ x, σ, n) := rfl
theorem evw_pick (c a b : Opd) : evT T fs ρ σ n lk (.pick c a b) = pickE (ρ c) (ρ a) (ρ b) σ n := by
  simp only [evT, ev, pickE]
  cases ρ c <;> rfl
theorem evw_alloc (e : V) : evT T fs ρ σ n lk (.alloc e) = some (.ptr n e.cells.length 0 0, upd σ n (some (.row e.cells.length [e])), n + 1) := rfl
theorem evw_box (x : Opd) : evT T fs ρ σ n lk (.box x) = boxE (ρ x) σ n := rfl
theorem evw_build (z : List V) (ps : List (Nat × Nat × Opd)) : evT T fs ρ σ n lk (.build z ps) = r1 ((partsOf ρ z ps).map .agg) σ n := by
  simp only [evT, ev, r1]
  cases partsOf ρ z ps <;> rfl
theorem evw_lit (sz : Nat) (es : List Opd) : evT T fs ρ σ n lk (.lit sz es) = if es.all (fun x => decide ((ρ x).cells.length = sz) && (ρ x).cells.all V.one) = true then
      some (.ref n 0 es.length sz, upd σ n (some (.row sz (es.map ρ))), n + 1) else none := rfl
theorem evw_load (agg : Bool) (s : Nat) (x : Opd) : evT T fs ρ σ n lk (.load agg s x) = loadE agg s (ρ x) σ n := by
  simp only [evT, ev, loadE, r1]
  cases ρ x <;> try rfl
  simp only [Option.map_bind]
  rfl
theorem evw_store (s : Nat) (x v : Opd) : evT T fs ρ σ n lk (.store s x v) = putE s lk (ρ x) (ρ v) σ n := by
  simp only [evT, ev, putE]
  cases ρ x <;> rfl
theorem evw_nilck (x : Opd) : evT T fs ρ σ n lk (.nilck x) = nilckE (ρ x) σ n := by
  simp only [evT, ev, nilckE]
  cases ρ x <;> rfl
theorem evw_bin (op : BinOp) (x y : Opd) : evT T fs ρ σ n lk (.bin op x y) = r1 (binV op (ρ x) (ρ y)) σ n := rfl
theorem evw_eqB (neg : Bool) (x y : Opd) : evT T fs ρ σ n lk (.eqB neg x y) = r1 (eqBE neg (ρ x) (ρ y)) σ n := by
  simp only [evT, ev, eqBE]
  cases ρ x <;> cases ρ y <;> rfl
theorem evw_eqA (neg : Bool) (ks : List CK) (x y : Opd) : evT T fs ρ σ n lk (.eqA neg ks x y) = r1 (eqAE neg ks (ρ x) (ρ y)) σ n := by
  simp only [evT, ev, eqAE]
  cases ρ x <;> cases ρ y <;> try rfl
  simp only [r1, Option.map_map]
  rfl
theorem evw_eqN (neg : Bool) (x : Opd) : evT T fs ρ σ n lk (.eqN neg x) = r1 (eqNE neg (ρ x)) σ n := by
  simp only [evT, ev, eqNE]
  cases ρ x <;> rfl
theorem evw_eqF (neg : Bool) (x : Opd) : evT T fs ρ σ n lk (.eqF neg x) = r1 (eqFE neg (ρ x)) σ n := by
  simp only [evT, ev, eqFE]
  cases ρ x <;> rfl
theorem evw_un (op : UnOp) (x : Opd) : evT T fs ρ σ n lk (.un op x) = r1 (unV op (ρ x)) σ n := rfl
theorem evw_conv (k : IntKind) (x : Opd) : evT T fs ρ σ n lk (.conv k x) = r1 (convE k (ρ x)) σ n := by
  simp only [evT, ev, convE]
  cases ρ x <;> rfl
theorem evw_mkfn (f : Nat) (caps : List Opd) : evT T fs ρ σ n lk (.mkfn f caps) = some (.fn f (caps.map ρ), σ, n) := rfl
theorem evw_mksl (sz bytes : Nat) (e : V) (len : Opd) : evT T fs ρ σ n lk (.mksl sz bytes e len) = mkslE sz bytes e (ρ len) σ n := by
  simp only [evT, ev, mkslE]
  cases ρ len <;> try rfl
theorem evw_slice (sz : Nat) (x : Opd) (lo hi : Option Opd) : evT T fs ρ σ n lk (.slice sz x lo hi) = r1 (sliceE ρ sz (ρ x) lo hi) σ n := by
  simp only [evT, ev, sliceE, r1]
  cases ρ x <;> simp only [Option.map_bind, Option.map_none] <;> congr <;> funext h <;> simp only [Function.comp, Option.map_bind] <;> congr <;> funext l <;> simp only [Function.comp] <;> split <;> rfl
theorem evw_sliceS (x : Opd) (lo hi : Option Opd) : evT T fs ρ σ n lk (.sliceS x lo hi) = r1 (sliceSE ρ (ρ x) lo hi) σ n := by
  simp only [evT, ev, sliceSE, r1]
  cases ρ x <;> simp only [Option.map_bind, Option.map_none] <;> congr <;> funext h <;> simp only [Function.comp, Option.map_bind] <;> congr
theorem evw_faddr (x : Opd) (off : Nat) : evT T fs ρ σ n lk (.faddr x off) = r1 (faddrE (ρ x) off) σ n := by
  simp only [evT, ev, faddrE]
  cases ρ x <;> rfl
theorem evw_fld (agg : Bool) (s off : Nat) (x : Opd) : evT T fs ρ σ n lk (.fld agg s off x) = r1 (fldE agg s off (ρ x)) σ n := by
  simp only [evT, ev, fldE]
  cases ρ x <;> rfl
theorem evw_iaddr (sz : Nat) (x i : Opd) : evT T fs ρ σ n lk (.iaddr sz x i) = r1 (iaddrE sz (ρ x) (ρ i)) σ n := by
  simp only [evT, ev, iaddrE]
  cases ρ x <;> cases ρ i <;> simp only [r1, Option.map_none]
  · split
    · simp only [Option.map_map]; rfl
    · rfl
  · split <;> rfl
theorem evw_iaddrA (m es : Nat) (x i : Opd) : evT T fs ρ σ n lk (.iaddrA m es x i) = r1 (iaddrAE m es (ρ x) (ρ i)) σ n := by
  simp only [evT, ev, iaddrAE]
  cases ρ x <;> cases ρ i <;> simp only [r1, Option.map_none] <;> split <;> rfl
theorem evw_idxA (agg : Bool) (m es : Nat) (x i : Opd) : evT T fs ρ σ n lk (.idxA agg m es x i) = r1 (idxAE agg m es (ρ x) (ρ i)) σ n := by
  simp only [evT, ev, idxAE]
  cases ρ x <;> cases ρ i <;> simp only [r1, Option.map_none]
  split <;> rfl
theorem evw_idxS (x i : Opd) : evT T fs ρ σ n lk (.idxS x i) = r1 (idxSE (ρ x) (ρ i)) σ n := by
  simp only [evT, ev, idxSE]
  cases ρ x <;> cases ρ i <;> simp only [r1, Option.map_none]
  split
  · simp only [Option.map_map]; rfl
  · rfl
theorem evw_ext (x : Opd) (i : Nat) : evT T fs ρ σ n lk (.ext x i) = r1 (extE (ρ x) i) σ n := by
  simp only [evT, ev, extE]
  cases ρ x <;> rfl
theorem evw_len (x : Opd) : evT T fs ρ σ n lk (.len x) = r1 (lenE (ρ x)) σ n := by
  simp only [evT, ev, lenE, r1]
  cases lenOf (ρ x) <;> rfl
theorem evw_lenS (x : Opd) : evT T fs ρ σ n lk (.lenS x) = r1 (lenSE (ρ x)) σ n := by
  simp only [evT, ev, lenSE]
  cases ρ x <;> rfl
theorem evw_min (xs : List Opd) : evT T fs ρ σ n lk (.min xs) = r1 (mmE minV (xs.map ρ)) σ n := by
  simp only [evT, ev, mmE]
  cases xs.map ρ <;> rfl
theorem evw_max (xs : List Opd) : evT T fs ρ σ n lk (.max xs) = r1 (mmE maxV (xs.map ρ)) σ n := by
  simp only [evT, ev, mmE]
  cases xs.map ρ <;> rfl
theorem evw_append (sz bytes : Nat) (x y : Opd) : evT T fs ρ σ n lk (.append sz bytes x y) = appendE sz bytes lk (ρ x) (elems σ sz (ρ y)) σ n := by
  simp only [evT, ev, appendE]
  cases elems σ sz (ρ y) <;> simp only []
  cases ρ x <;> simp only []
  rename_i id off len sz'
  simp only [appE]
  rcases hσ : σ id with _ | ob
  · simp
  · cases ob
    · rename_i sz'' xs
      by_cases h1 : sz' = sz <;> by_cases h2 : off = 0 <;> simp [h1, h2]
    · simp
theorem evw_mkif (t : Nat) (x : Opd) : evT T fs ρ σ n lk (.mkif t x) = some (.iface t (ρ x), σ, n) := rfl
theorem evw_call (f : Nat) (args : List Opd) : evT T fs ρ σ n lk (.call f args) = callE T fs f (args.map ρ) σ n lk := rfl
theorem evw_callv (g : Opd) (args : List Opd) : evT T fs ρ σ n lk (.callv g args) = callvE T fs (ρ g) (args.map ρ) σ n lk := rfl
end

theorem callvE_fn (fs : Bool) (f : Nat) (caps args : List V) (σ : Sto) (n lk : Nat) : callvE T fs (.fn f caps) args σ n lk = callE T fs f (args ++ caps) σ n lk := rfl
theorem callE_eq {f : Nat} (h : T.mode f ≠ .raw) (fs : Bool) (args : List V) (σ : Sto) (n lk : Nat) :
    callE T fs f args σ n lk = callR T fs f (args.mapM (frz σ 12)) (args.flatMap (rch σ 12)) σ n lk := by
  unfold callE; rw [if_neg h]; rfl

/-- .. of the result. -/
noncomputable def retE (fs : Bool) (r : Option V) (D : List Nat) (σ : Sto) (n lk : Nat) : R3 := match r with
  | none => none
  | some r => backE fs D r σ n lk
theorem callR_some (fs : Bool) (f : Nat) (ts : List V) (D : List Nat) (σ : Sto) (n lk : Nat) : callR T fs f (some ts) D σ n lk = retE fs (res T f ts) D σ n lk := by
  unfold callR retE
  rfl
theorem retE_some (fs : Bool) (r : V) (D : List Nat) (σ : Sto) (n lk : Nat) : retE fs (some r) D σ n lk = backE fs D r σ n lk := rfl

/-! Trees are handed over as they are. -/
theorem w_dropL_nil (σ : Sto) : dropL σ [] = σ := by funext id; simp [dropL]
theorem backE_nil (fs : Bool) (r : V) (σ : Sto) (n lk : Nat) : backE fs [] r σ n lk = some (thaw σ n r) := by
  unfold backE
  split
  · rfl
  · simp [w_dropL_nil]
theorem backE_flat {r : V} (h : flat r = true) (fs : Bool) (D : List Nat) (σ : Sto) (n lk : Nat) : backE fs D r σ n lk = some (thaw σ n r) := by simp [backE, h]

def Tr : Nat → V → Bool
  | 0, _ => false
  | k + 1, .agg cs => cs.all (Tr k)
  | k + 1, .tup cs => cs.all (Tr k)
  | k + 1, .fn _ cs => cs.all (Tr k)
  | k + 1, .iface _ v => Tr k v
  | _ + 1, .ref .. => false
  | _ + 1, .ptr .. => false
  | _ + 1, .own .. => false
  | _ + 1, .yld .. => false
  | _ + 1, _ => true

theorem mapM_id {f : V → Option V} : ∀ {cs : List V}, (∀ c ∈ cs, f c = some c) → cs.mapM f = some cs
  | [], _ => rfl
  | c :: cs, h => by
    rw [List.mapM_cons, h c (by simp), mapM_id (fun d hd => h d (List.mem_cons_of_mem _ hd))]
    rfl

theorem frz_tr (σ : Sto) : ∀ (k : Nat) (v : V), Tr k v = true → frz σ k v = some v ∧ rch σ k v = []
  | 0, _, h => by simp [Tr] at h
  | k + 1, v, h => by
    cases v
    case agg cs =>
      simp only [Tr, List.all_eq_true] at h
      have h1 := fun c hc => frz_tr σ k c (h c hc)
      simp only [frz, rch]
      rw [mapM_id (fun c hc => (h1 c hc).1)]
      exact ⟨rfl, List.flatMap_eq_nil_iff.2 fun c hc => (h1 c hc).2⟩
    case tup cs =>
      simp only [Tr, List.all_eq_true] at h
      have h1 := fun c hc => frz_tr σ k c (h c hc)
      simp only [frz, rch]
      rw [mapM_id (fun c hc => (h1 c hc).1)]
      exact ⟨rfl, List.flatMap_eq_nil_iff.2 fun c hc => (h1 c hc).2⟩
    case fn f cs =>
      simp only [Tr, List.all_eq_true] at h
      have h1 := fun c hc => frz_tr σ k c (h c hc)
      simp only [frz, rch]
      rw [mapM_id (fun c hc => (h1 c hc).1)]
      exact ⟨rfl, List.flatMap_eq_nil_iff.2 fun c hc => (h1 c hc).2⟩
    case iface t v =>
      simp only [Tr] at h
      have h1 := frz_tr σ k v h
      simp only [frz, rch, h1.1, h1.2]
      exact ⟨rfl, trivial⟩
    all_goals first | (simp [Tr] at h; done) | exact ⟨rfl, rfl⟩

theorem elemM_tr {σ : Sto} {k : Nat} {v : V} (h : Tr k v = true) : elemM (frz σ k) v = some v := by
  cases k with
  | zero => simp [Tr] at h
  | succ k =>
    unfold elemM
    split
    · rename_i cs
      simp only [Tr, List.all_eq_true] at h
      have h1 : ∀ c ∈ cs, frz σ (k + 1) c = some c := fun c hc => by
        have := h c hc
        have h2 : Tr (k + 1) c = true := by
          clear h hc
          revert c
          suffices ∀ (j : Nat) (c : V), Tr j c = true → Tr (j + 1) c = true from fun c h => this k c h
          intro j
          induction j with
          | zero => intro c h; simp [Tr] at h
          | succ j ih =>
            intro c h
            cases c <;> simp only [Tr, List.all_eq_true] at h ⊢ <;> first | exact h | exact fun c hc => ih c (h c hc) | exact ih _ h
        exact (frz_tr σ _ _ h2).1
      rw [mapM_id h1]; rfl
    · exact (frz_tr σ _ _ h).1

/-- Rows of trees. -/
theorem frz_ref {σ : Sto} {id off len sz : Nat} {xs : List V} (k : Nat) (h : elemsO (σ id) sz off len = some xs) (ht : ∀ x ∈ xs, Tr k x = true) :
    frz σ (k + 1) (.ref id off len sz) = some (.sl sz xs) := by
  simp only [frz, w_elems_ref, h, Option.bind_some]
  rw [mapM_id (fun c hc => elemM_tr (ht c hc))]
  rfl

/-- What can be handed over as it is. -/
def Gv : Nat → V → Bool
  | 0, _ => false
  | k + 1, .agg cs => cs.all (Gv k)
  | k + 1, .tup cs => cs.all (Gv k)
  | k + 1, .iface _ v => Gv k v
  | _ + 1, .int .. => true
  | _ + 1, .bool .. => true
  | _ + 1, .str .. => true
  | _ + 1, .nilS => true
  | _ + 1, .nilP => true
  | _ + 1, .nilF => true
  | _ + 1, .nilI => true
  | _ + 1, .undef => true
  | _ + 1, _ => false

theorem giv_tr (σ : Sto) : ∀ (k : Nat) (v : V), Gv k v = true → giv σ k v = some v ∧ gids σ k v = []
  | 0, _, h => by simp [Gv] at h
  | k + 1, v, h => by
    cases v
    case agg cs =>
      simp only [Gv, List.all_eq_true] at h
      have h1 := fun c hc => giv_tr σ k c (h c hc)
      simp only [giv, gids]
      rw [mapM_id (fun c hc => (h1 c hc).1)]
      exact ⟨rfl, List.flatMap_eq_nil_iff.2 fun c hc => (h1 c hc).2⟩
    case tup cs =>
      simp only [Gv, List.all_eq_true] at h
      have h1 := fun c hc => giv_tr σ k c (h c hc)
      simp only [giv, gids]
      rw [mapM_id (fun c hc => (h1 c hc).1)]
      exact ⟨rfl, List.flatMap_eq_nil_iff.2 fun c hc => (h1 c hc).2⟩
    case iface t v =>
      simp only [Gv] at h
      have h1 := giv_tr σ k v h
      simp only [giv, gids, h1.1, h1.2]
      exact ⟨rfl, trivial⟩
    all_goals first | (simp [Gv] at h; done) | exact ⟨rfl, rfl⟩

/-! What frozen and thawed leaves are. -/
theorem frz_int (σ : Sto) (k : Nat) (i : IntKind) (x : Int) : frz σ (k + 1) (.int i x) = some (.int i x) := rfl
theorem rch_int (σ : Sto) (k : Nat) (i : IntKind) (x : Int) : rch σ (k + 1) (.int i x) = [] := rfl
theorem frz_bool (σ : Sto) (k : Nat) (b : Bool) : frz σ (k + 1) (.bool b) = some (.bool b) := rfl
theorem rch_bool (σ : Sto) (k : Nat) (b : Bool) : rch σ (k + 1) (.bool b) = [] := rfl
theorem frz_str (σ : Sto) (k : Nat) (s : ByteArray) : frz σ (k + 1) (.str s) = some (.str s) := rfl
theorem rch_str (σ : Sto) (k : Nat) (s : ByteArray) : rch σ (k + 1) (.str s) = [] := rfl
theorem frz_nilS (σ : Sto) (k : Nat)  : frz σ (k + 1) .nilS = some .nilS := rfl
theorem rch_nilS (σ : Sto) (k : Nat)  : rch σ (k + 1) .nilS = [] := rfl
theorem frz_nilF (σ : Sto) (k : Nat)  : frz σ (k + 1) .nilF = some .nilF := rfl
theorem rch_nilF (σ : Sto) (k : Nat)  : rch σ (k + 1) .nilF = [] := rfl
theorem frz_nilP (σ : Sto) (k : Nat)  : frz σ (k + 1) .nilP = some .nilP := rfl
theorem rch_nilP (σ : Sto) (k : Nat)  : rch σ (k + 1) .nilP = [] := rfl
theorem frz_nilI (σ : Sto) (k : Nat)  : frz σ (k + 1) .nilI = some .nilI := rfl
theorem rch_nilI (σ : Sto) (k : Nat)  : rch σ (k + 1) .nilI = [] := rfl
theorem frz_undef (σ : Sto) (k : Nat)  : frz σ (k + 1) .undef = some .undef := rfl
theorem rch_undef (σ : Sto) (k : Nat)  : rch σ (k + 1) .undef = [] := rfl
theorem frz_sl (σ : Sto) (k : Nat) (sz : Nat) (xs : List V) : frz σ (k + 1) (.sl sz xs) = some (.sl sz xs) := rfl
theorem rch_sl (σ : Sto) (k : Nat) (sz : Nat) (xs : List V) : rch σ (k + 1) (.sl sz xs) = [] := rfl
theorem frz_box (σ : Sto) (k : Nat) (xs : List V) : frz σ (k + 1) (.box xs) = some (.box xs) := rfl
theorem rch_box (σ : Sto) (k : Nat) (xs : List V) : rch σ (k + 1) (.box xs) = [] := rfl
theorem frz_fn (σ : Sto) (k f : Nat) (cs : List V) : frz σ (k + 1) (.fn f cs) = (cs.mapM (frz σ k)).map (.fn f) := rfl
theorem rch_fn (σ : Sto) (k f : Nat) (cs : List V) : rch σ (k + 1) (.fn f cs) = cs.flatMap (rch σ k) := rfl
theorem frz_agg (σ : Sto) (k : Nat) (cs : List V) : frz σ (k + 1) (.agg cs) = (cs.mapM (frz σ k)).map .agg := rfl
theorem rch_agg (σ : Sto) (k : Nat) (cs : List V) : rch σ (k + 1) (.agg cs) = cs.flatMap (rch σ k) := rfl
theorem frz_tup (σ : Sto) (k : Nat) (cs : List V) : frz σ (k + 1) (.tup cs) = (cs.mapM (frz σ k)).map .tup := rfl
theorem rch_tup (σ : Sto) (k : Nat) (cs : List V) : rch σ (k + 1) (.tup cs) = cs.flatMap (rch σ k) := rfl
theorem rowAt_O (σ : Sto) (id sz i : Nat) : rowAt σ id sz i = rowO (σ id) sz i := by
  simp only [rowAt, rowO]
  rfl
theorem frz_ptr (σ : Sto) (k id sz i j : Nat) : frz σ (k + 1) (.ptr id sz i j) = ((rowO (σ id) sz i).bind fun e => ((e.cells.drop j).mapM (frz σ k)).map .box) := by
  simp only [frz, rowAt_O]
theorem rch_ptr (σ : Sto) (k id sz i j : Nat) : rch σ (k + 1) (.ptr id sz i j) = id :: (((rowO (σ id) sz i).map fun e => (e.cells.drop j).flatMap (rch σ k)).getD []) := by
  simp only [rch, rowAt_O]
theorem frz_rf (σ : Sto) (k id off len sz : Nat) : frz σ (k + 1) (.ref id off len sz) = ((elemsO (σ id) sz off len).bind fun xs => (xs.mapM (elemM (frz σ k))).map (.sl sz)) := by
  simp only [frz, w_elems_ref]
theorem rch_rf (σ : Sto) (k id off len sz : Nat) : rch σ (k + 1) (.ref id off len sz) = id :: ((elemsO (σ id) sz off len).getD []).flatMap fun x => x.cells.flatMap (rch σ k) := by
  simp only [rch, w_elems_ref]
theorem bk_int (fs : Bool) (D : List Nat) (i : IntKind) (x : Int) (σ : Sto) (n lk : Nat) : backE fs D (.int i x) σ n lk = some (.int i x, σ, n) := rfl
theorem bk_bool (fs : Bool) (D : List Nat) (x : Bool) (σ : Sto) (n lk : Nat) : backE fs D (.bool x) σ n lk = some (.bool x, σ, n) := rfl
theorem bk_str (fs : Bool) (D : List Nat) (x : ByteArray) (σ : Sto) (n lk : Nat) : backE fs D (.str x) σ n lk = some (.str x, σ, n) := rfl
theorem thaw_int (σ : Sto) (n : Nat) (k : IntKind) (x : Int) : thaw σ n (.int k x) = (.int k x, σ, n) := rfl
theorem thaw_bool (σ : Sto) (n : Nat) (b : Bool) : thaw σ n (.bool b) = (.bool b, σ, n) := rfl
theorem thaw_str (σ : Sto) (n : Nat) (s : ByteArray) : thaw σ n (.str s) = (.str s, σ, n) := rfl
theorem thaw_nilS (σ : Sto) (n : Nat) : thaw σ n .nilS = (.nilS, σ, n) := rfl
theorem thaw_sl (σ : Sto) (n : Nat) (sz : Nat) (xs : List V) : thaw σ n (.sl sz xs) = (.sl sz xs, σ, n) := rfl
theorem thaw_own (σ : Sto) (n : Nat) (sz : Nat) (xs : List V) : thaw σ n (.own sz xs) =
    (.ref (thawL σ n xs).2.2 0 xs.length sz, upd (thawL σ n xs).2.1 (thawL σ n xs).2.2 (some (.row sz (thawL σ n xs).1)), (thawL σ n xs).2.2 + 1) := rfl
theorem thaw_agg (σ : Sto) (n : Nat) (xs : List V) : thaw σ n (.agg xs) = (.agg (thawL σ n xs).1, (thawL σ n xs).2) := rfl
theorem thaw_tup (σ : Sto) (n : Nat) (xs : List V) : thaw σ n (.tup xs) = (.tup (thawL σ n xs).1, (thawL σ n xs).2) := rfl
theorem thawL_nil (σ : Sto) (n : Nat) : thawL σ n [] = ([], σ, n) := rfl
theorem thawL_cons (σ : Sto) (n : Nat) (x : V) (xs : List V) : thawL σ n (x :: xs) =
    ((thaw σ n x).1 :: (thawL (thaw σ n x).2.1 (thaw σ n x).2.2 xs).1, (thawL (thaw σ n x).2.1 (thaw σ n x).2.2 xs).2) := rfl

/-- Nothing in it becomes an object of the store. -/
def Nw : Nat → V → Bool
  | 0, _ => false
  | k + 1, .agg cs => cs.all (Nw k)
  | k + 1, .tup cs => cs.all (Nw k)
  | k + 1, .iface _ v => Nw k v
  | _ + 1, .own .. => false
  | _ + 1, _ => true

theorem thaw_nw (σ : Sto) (n : Nat) : ∀ (k : Nat) (v : V), Nw k v = true → thaw σ n v = (v, σ, n)
  | 0, _, h => by simp [Nw] at h
  | k + 1, v, h => by
    have hL : ∀ cs : List V, (∀ c ∈ cs, Nw k c = true) → thawL σ n cs = (cs, σ, n) := by
      intro cs
      induction cs with
      | nil => intro _; rfl
      | cons d ds ih =>
        intro h
        rw [thawL_cons, thaw_nw σ n k d (h d (by simp))]
        simp only
        rw [ih (fun c hc => h c (List.mem_cons_of_mem _ hc))]
    cases v
    case agg cs =>
      simp only [Nw, List.all_eq_true] at h
      rw [thaw_agg, hL cs h]
    case tup cs =>
      simp only [Nw, List.all_eq_true] at h
      rw [thaw_tup, hL cs h]
    case iface t v =>
      simp only [Nw] at h
      simp only [thaw, thaw_nw σ n k v h]
    all_goals first | (simp [Nw] at h; done) | rfl

theorem thawL_nw {σ : Sto} {n : Nat} (k : Nat) : ∀ {cs : List V}, (∀ c ∈ cs, Nw k c = true) → thawL σ n cs = (cs, σ, n)
  | [], _ => rfl
  | d :: ds, h => by
    rw [thawL_cons, thaw_nw σ n k d (h d (by simp))]
    simp only
    rw [thawL_nw k (fun c hc => h c (List.mem_cons_of_mem _ hc))]

theorem bk_tupf (fs : Bool) (D : List Nat) (xs : List V) (σ : Sto) (n lk : Nat) (h : xs.all flat = true) (h' : xs.all (Nw 11) = true) : backE fs D (.tup xs) σ n lk = some (.tup xs, σ, n) := by
  have hf : flat (.tup xs) = true := by
    simp only [flat]
    clear h'
    induction xs with
    | nil => rfl
    | cons x xs ih => simp only [List.all_cons, Bool.and_eq_true] at h; simp only [flatL, h.1, ih h.2, Bool.and_self]
  rw [backE_flat hf, thaw_nw σ n 12]
  simpa [Nw] using h'

/-! Numbers. -/
section
variable (k : IntKind) (a b : Int)
theorem bin_add : binV .add (.int k a) (.int k b) = some (.int k (k.wrap (a + b))) := by simp [binV, pureV, Go.binOp, Op.intArith]; rfl
theorem bin_sub : binV .sub (.int k a) (.int k b) = some (.int k (k.wrap (a - b))) := by simp [binV, pureV, Go.binOp, Op.intArith]; rfl
theorem bin_mul : binV .mul (.int k a) (.int k b) = some (.int k (k.wrap (a * b))) := by simp [binV, pureV, Go.binOp, Op.intArith]; rfl
theorem bin_quo (h : b ≠ 0) : binV .quo (.int k a) (.int k b) = some (.int k (k.wrap (a.tdiv b))) := by simp [binV, pureV, Go.binOp, Op.intDiv, h]; rfl
theorem bin_rem (h : b ≠ 0) : binV .rem (.int k a) (.int k b) = some (.int k (a.tmod b)) := by simp [binV, pureV, Go.binOp, Op.intDiv, h]; rfl
theorem bin_eql : binV .eql (.int k a) (.int k b) = some (.bool (a == b)) := by simp [binV, pureV, Go.binOp, Op.intCmp]; rfl
theorem bin_neq : binV .neq (.int k a) (.int k b) = some (.bool (a != b)) := by simp [binV, pureV, Go.binOp, Op.intCmp]; rfl
theorem bin_lss : binV .lss (.int k a) (.int k b) = some (.bool (decide (a < b))) := by simp [binV, pureV, Go.binOp, Op.intCmp]; rfl
theorem bin_leq : binV .leq (.int k a) (.int k b) = some (.bool (decide (a ≤ b))) := by simp [binV, pureV, Go.binOp, Op.intCmp]; rfl
theorem bin_gtr : binV .gtr (.int k a) (.int k b) = some (.bool (decide (b < a))) := by simp [binV, pureV, Go.binOp, Op.intCmp]; rfl
theorem bin_geq : binV .geq (.int k a) (.int k b) = some (.bool (decide (b ≤ a))) := by simp [binV, pureV, Go.binOp, Op.intCmp]; rfl
theorem un_not (x : Bool) : unV .not (.bool x) = some (.bool (!x)) := by simp [unV, pureV, Op.unary]; rfl
end

theorem wrap_i64 {x : Int} (h : -9223372036854775808 ≤ x) (h' : x < 9223372036854775808) : IntKind.i64.wrap x = x := by
  simp [IntKind.wrap, IntKind.bits, IntKind.signed]; omega
theorem wrap_u64 {x : Int} (h : 0 ≤ x) (h' : x < 18446744073709551616) : IntKind.u64.wrap x = x := by
  simp [IntKind.wrap, IntKind.bits, IntKind.signed]; omega
theorem wrap_i32 {x : Int} (h : -2147483648 ≤ x) (h' : x < 2147483648) : IntKind.i32.wrap x = x := by
  simp [IntKind.wrap, IntKind.bits, IntKind.signed]; omega
theorem wrap_u8 {x : Int} (h : 0 ≤ x) (h' : x < 256) : IntKind.u8.wrap x = x := by
  simp [IntKind.wrap, IntKind.bits, IntKind.signed]; omega

/-! Stores. -/
theorem upd_get (σ : Sto) (id : Nat) (o : Option Ob) (i : Nat) : upd σ id o i = if i = id then o else σ i := rfl
theorem empty_get (i : Nat) : Sto.empty i = none := rfl

/-! Parameters. -/
theorem envOf_0 (a : V) (l : List V) : envOf (a :: l) 0 = a := rfl
theorem envOf_1 (a b : V) (l : List V) : envOf (a :: b :: l) 1 = b := rfl
theorem envOf_2 (a b c : V) (l : List V) : envOf (a :: b :: c :: l) 2 = c := rfl
theorem envOf_3 (a b c d : V) (l : List V) : envOf (a :: b :: c :: d :: l) 3 = d := rfl
theorem envOf_4 (a b c d e : V) (l : List V) : envOf (a :: b :: c :: d :: e :: l) 4 = e := rfl
theorem envOf_5 (a b c d e f : V) (l : List V) : envOf (a :: b :: c :: d :: e :: f :: l) 5 = f := rfl

/-! The end. -/
theorem endQ_ret (rs : List Res) (P : Sto → V → Prop) (env : Nat → V) (σ : Sto) (n lk : Nat) : endQ rs P .ret ⟨env, σ, n, lk⟩ = ∃ v, outOf ⟨env, σ, n, lk⟩ rs = some v ∧ P σ v := by
  simp [endQ, isEnd]
theorem endQ_normal (rs : List Res) (P : Sto → V → Prop) (env : Nat → V) (σ : Sto) (n lk : Nat) : endQ rs P .normal ⟨env, σ, n, lk⟩ = ∃ v, outOf ⟨env, σ, n, lk⟩ rs = some v ∧ P σ v := by
  simp [endQ, isEnd]
def outQ (o : Option V) (P : V → Prop) : Prop := match o with
  | some v => P v
  | none => False
theorem outQ_some (v : V) (P : V → Prop) : outQ (some v) P = P v := rfl
theorem outQ_eq (o : Option V) (P : V → Prop) : (∃ v, o = some v ∧ P v) = outQ o P := by cases o <;> simp [outQ]
theorem deep_eq : DEEP = 12 := rfl
theorem out_tmp (env : Nat → V) (σ : Sto) (n lk t : Nat) : outOf ⟨env, σ, n, lk⟩ [.tmp t] = some (env t) := rfl
theorem out_two (env : Nat → V) (σ : Sto) (n lk t u : Nat) : outOf ⟨env, σ, n, lk⟩ [.tmp t, .tmp u] = some (.tup [env t, env u]) := rfl
theorem out_three (env : Nat → V) (σ : Sto) (n lk t u x : Nat) : outOf ⟨env, σ, n, lk⟩ [.tmp t, .tmp u, .tmp x] = some (.tup [env t, env u, env x]) := rfl

end Go.Q
