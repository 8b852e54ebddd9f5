/- Loaded operations, their static parts worked in; and each of them, run, does what the plain evaluator says. -/
import Derived.Test.YtaigdfomoplchaaQvMem
set_option linter.unusedSimpArgs false
set_option linter.unusedVariables false
set_option linter.unusedSectionVars false
namespace Go.Q
variable [Link]

def ofVal : Value → Option V
  | .int k n => some (.int k n)
  | .bool b => some (.bool b)
  | .string s => some (.str s)
  | .slice none 0 0 => some .nilS
  | .pointer none => some .nilP
  | .nilFunc => some .nilF
  | .nilIface => some .nilI
  | _ => none

def ofValA : Value → Option V
  | .agg cs => (cs.toList.mapM ofVal).map .agg
  | v => ofVal v

def cOpd : Operand → Option Opd
  | .tmp t => some (.tmp t)
  | .const v => (ofValA v).map .con
  | .func f => some (.con (.fn f []))
  | .global _ => none

structure TI where
  d : TypeDesc
  size : Nat
  bytes : Nat
  zero : V

def ti (P : Program) (t : TypeId) : Option TI :=
  match P.underlying t, P.info? t with
  | some d, some i => match i.zero with
    | some z => (ofValA z).map fun z => ⟨d, i.size, i.bytes, z⟩
    | none => none
  | _, _ => none

def TI.agg (t : TI) : Bool := match t.d with | .struct _ | .array _ _ => true | _ => false
def TI.flat (t : TI) : Bool := t.zero.cells.length = t.size && t.zero.cells.all V.one && t.size ≠ 0 && t.bytes ≠ 0 && t.bytes ≤ 1000000

def cOpds (l : List Operand) : Option (List Opd) := l.mapM cOpd

def opdEq : Operand → Operand → Bool
  | .tmp a, .tmp b => a == b
  | .const (.int j a), .const (.int k b) => j == k && a == b
  | _, _ => false

def cOpt : Option Operand → Option (Option Opd)
  | some y => (cOpd y).map some
  | none => some none

/-- The parts of a composite: places and sizes. -/
def cParts (pl : Nat → Option (Nat × Nat)) (ps : List (Nat × Operand)) : Option (List (Nat × Nat × Opd)) :=
  ps.mapM fun p => do
    let q ← pl p.1
    let x ← cOpd p.2
    some (q.1, q.2, x)

def plainKind (P : Program) (t : TypeId) : Bool :=
  match P.underlying t with
  | some .bool | some (.int _) | some .string => true
  | _ => false

def ckOf (P : Program) (t : TypeId) : Option CK :=
  match P.underlying t with
  | some .bool => some .bool
  | some (.int _) => some .int
  | some .string => some .str
  | _ => none

/-- The cells' kinds of a struct whose fields are numbers, bools and strings. -/
def cksOf (P : Program) (t : TypeId) (fs : List Field) : Option (List CK) :=
  if (fs.zipIdx.all fun p => p.1.offset == p.2 && p.1.name != "_") && !P.stoodInHeld t && !P.eqGuardType P.depth t then fs.mapM fun f => ckOf P f.type else none

def cOp (P : Program) (o : Oper) : Option AI :=
  match o.op with
  | .move x | .assign x => (cOpd x).map .mov
  | .pick c a b => do some (.pick (← cOpd c) (← cOpd a) (← cOpd b))
  | .alloc t => do
    let i ← ti P t
    if i.flat then some (.alloc i.zero) else none
  | .box _ x => (cOpd x).map .box
  | .build t ps => do
    let i ← ti P t
    match i.d with
    | .struct fs =>
      let pl ← fs.toList.mapM fun f => (ti P f.type).map fun j => (f.offset, j.size)
      let qs ← cParts (fun k => pl[k]?) ps.toList
      if i.flat then some (.build i.zero.cells qs) else none
    | .array _ e =>
      let j ← ti P e
      let qs ← cParts (fun k => some (k * j.size, j.size)) ps.toList
      if i.flat then some (.build i.zero.cells qs) else none
    | _ => none
  | .buildSlice t len ps => do
    let .slice e ← P.underlying t | none
    let j ← ti P e
    let es ← cOpds (ps.toList.map (·.2))
    if j.flat && ps.toList.map (·.1) == List.range len && len * j.size ≤ 16777216 then some (.lit j.size es) else none
  | .load t x => do
    let i ← ti P t
    let x ← cOpd x
    if i.agg || i.size == 1 then some (.load i.agg i.size x) else none
  | .store t a v => do
    let i ← ti P t
    some (.store i.size (← cOpd a) (← cOpd v))
  | .nilCheck x => (cOpd x).map .nilck
  | .binOp op t x y _ => do
    let x' ← cOpd x
    let y' ← cOpd y
    match P.underlying t with
    | some (.int _) | some .string => some (.bin op x' y')
    | some .bool => match op with
      | .eql => some (.eqB false x' y')
      | .neq => some (.eqB true x' y')
      | _ => none
    | some (.slice _) => match op, y' with
      | .eql, .con .nilS => some (.eqN false x')
      | .neq, .con .nilS => some (.eqN true x')
      | _, _ => none
    | some (.struct fs) => do
      let ks ← cksOf P t fs.toList
      match op with
      | .eql => some (.eqA false ks x' y')
      | .neq => some (.eqA true ks x' y')
      | _ => none
    | some (.func ..) => match op, y' with
      | .eql, .con .nilF => some (.eqF false x')
      | .neq, .con .nilF => some (.eqF true x')
      | _, _ => none
    | _ => none
  | .unOp op _ x => (cOpd x).map (.un op)
  | .convert s d x => do
    let x' ← cOpd x
    match P.underlying s, P.underlying d with
    | some (.int _), some (.int k) => some (.conv k x')
    | _, _ => none
  | .makeFunc fn first cs => match fn with
    | .func f => if first.toList.isEmpty then (cOpds cs.toList).map (.mkfn f) else none
    | _ => none
  | .makeSlice t l c => do
    let .slice e ← P.underlying t | none
    let j ← ti P e
    if j.flat && opdEq l c then (cOpd l).map (.mksl j.size j.bytes j.zero) else none
  | .slice t x lo hi mx => do
    let () ← (match mx with | none => some () | some _ => none : Option Unit)
    let x' ← cOpd x
    let lo' ← cOpt lo
    let hi' ← cOpt hi
    match P.underlying t with
    | some (.slice e) => (ti P e).map fun j => .slice j.size x' lo' hi'
    | some .string => some (.sliceS x' lo' hi')
    | _ => none
  | .fieldAddr s x f => do
    let .struct fs ← P.underlying s | none
    let g ← fs[f]?
    let j ← ti P g.type
    if j.size ≠ 0 then (cOpd x).map fun x => .faddr x g.offset else none
  | .field s x f => do
    let .struct fs ← P.underlying s | none
    let g ← fs[f]?
    let j ← ti P g.type
    if j.agg || j.size == 1 then (cOpd x).map (.fld j.agg j.size g.offset) else none
  | .indexAddr t x i => do
    let x' ← cOpd x
    let i' ← cOpd i
    match P.underlying t with
    | some (.slice e) => (ti P e).map fun j => .iaddr j.size x' i'
    | some (.array n e) => (ti P e).map fun j => .iaddrA n j.size x' i'
    | _ => none
  | .index t x i => do
    let x' ← cOpd x
    let i' ← cOpd i
    match P.underlying t with
    | some .string => some (.idxS x' i')
    | some (.array n e) => do
      let j ← ti P e
      if j.agg || j.size == 1 then some (.idxA j.agg n j.size x' i') else none
    | _ => none
  | .extract x i => (cOpd x).map fun x => .ext x i
  | .makeInterface t x => match P.underlying t with
    | some (.interface _) | none => none
    | _ => (cOpd x).map (.mkif t)
  | .call c => match c.callee with
    | .builtin .len => match c.args.toList, c.argTypes.toList with
      | [x], [t] => match P.underlying t with
        | some .string => (cOpd x).map .lenS
        | some (.slice _) => (cOpd x).map .len
        | _ => none
      | _, _ => none
    | .builtin .min => (cOpds c.args.toList).map .min
    | .builtin .max => (cOpds c.args.toList).map .max
    | .builtin .append => match c.args.toList, c.argTypes.toList with
      | [x, y], [t, t'] => do
        let .slice e ← P.underlying t | none
        let .slice _ ← P.underlying t' | none
        let j ← ti P e
        if j.flat then some (.append j.size j.bytes (← cOpd x) (← cOpd y)) else none
      | _, _ => none
    | .value (.func f) => (cOpds c.args.toList).map (.call f)
    | .value g => do some (.callv (← cOpd g) (← cOpds c.args.toList))
    | _ => none
  | _ => none

/-! ### What the tables say, run -/
section
variable {P : Program} {w : World} {X : Nat → Prop} {ι : Nat → Nat} {σ : Sto} {n lk : Nat}

theorem run_underlying {t : TypeId} {d : TypeDesc} (h : P.underlying t = some d) : (underlying t).run P w = .ok d w := by
  simp [underlying, h]
theorem run_typeInfo {t : TypeId} {i : TypeInfo} (h : P.info? t = some i) : (typeInfo t).run P w = .ok i w := by
  simp [typeInfo, h]

theorem ti_spec {t : TypeId} {i : TI} (h : ti P t = some i) : P.underlying t = some i.d ∧ ∃ j z, P.info? t = some j ∧ j.size = i.size ∧ j.bytes = i.bytes ∧
    j.zero = some z ∧ ofValA z = some i.zero := by
  unfold ti at h
  cases h1 : P.underlying t with
  | none => simp [h1] at h
  | some d =>
    cases h2 : P.info? t with
    | none => simp [h1, h2] at h
    | some j =>
      cases h3 : j.zero with
      | none => simp [h1, h2, h3] at h
      | some z =>
        simp only [h1, h2, h3, Option.map_eq_some_iff] at h
        obtain ⟨z', h4, rfl⟩ := h
        exact ⟨rfl, j, z, rfl, rfl, rfl, h3, h4⟩

theorem run_sizeOf {t : TypeId} {i : TI} (h : ti P t = some i) : (sizeOf t).run P w = .ok i.size w := by
  obtain ⟨_, j, z, h1, h2, _⟩ := ti_spec h
  simp [sizeOf, run_typeInfo h1, h2]

theorem run_zeroValue {t : TypeId} {i : TI} (h : ti P t = some i) : ∃ z, (zeroValue t).run P w = .ok z w ∧ ofValA z = some i.zero := by
  obtain ⟨_, j, z, h1, _, _, h2, h3⟩ := ti_spec h
  exact ⟨z, by simp [zeroValue, run_typeInfo h1, h2], h3⟩

theorem run_isAgg {t : TypeId} {i : TI} (h : ti P t = some i) : (isAgg t).run P w = .ok i.agg w := by
  obtain ⟨h0, _⟩ := ti_spec h
  simp only [isAgg, Sem.run_bind, run_underlying h0, Result.andThen_ok, TI.agg]
  cases i.d <;> rfl

theorem ofVal_rep {v : Value} {x : V} (h : ofVal v = some x) : Rep w X ι n x v ∧ x.one = true ∧ v.oneCell' = true := by
  unfold ofVal at h
  split at h <;> simp at h <;> subst h <;> exact ⟨by constructor, rfl, rfl⟩

theorem mapM_get {α β : Type} (f : α → Option β) : ∀ (l : List α) (m : List β), l.mapM f = some m → l.length = m.length ∧ ∀ (i : Nat) (a : α) (b : β), l[i]? = some a → m[i]? = some b → f a = some b
  | [], m, h => by simp at h; subst h; simp
  | a :: l, m, h => by
    simp only [List.mapM_cons, Option.pure_def, Option.bind_eq_bind, Option.bind_eq_some_iff, Option.some.injEq] at h
    obtain ⟨b, hb, m', hm, rfl⟩ := h
    obtain ⟨h1, h2⟩ := mapM_get f l m' hm
    refine ⟨by simp [h1], fun i a' b' ha hb' => ?_⟩
    cases i with
    | zero => simp at ha hb'; subst ha; subst hb'; exact hb
    | succ i => exact h2 i a' b' (by simpa using ha) (by simpa using hb')

theorem ofValA_rep {v : Value} {x : V} (h : ofValA v = some x) : Rep w X ι n x v := by
  unfold ofValA at h
  split at h
  · rename_i cs
    simp only [Option.map_eq_some_iff] at h
    obtain ⟨l, hl, rfl⟩ := h
    obtain ⟨h1, h2⟩ := mapM_get _ _ _ hl
    exact .agg _ _ (by simpa using h1.symm) (fun i e u he hu => (ofVal_rep (h2 i u e (by simpa using hu) he)).1)
  · exact (ofVal_rep h).1

theorem ofValA_one {v : Value} {x : V} (h : ofValA v = some x) : x.cells.all V.one = true ∧ v.cells.toList.all Value.oneCell' = true := by
  unfold ofValA at h
  split at h
  · rename_i cs
    simp only [Option.map_eq_some_iff] at h
    obtain ⟨l, hl, rfl⟩ := h
    obtain ⟨h1, h2⟩ := mapM_get _ _ _ hl
    constructor
    · simp only [V.cells, List.all_eq_true]
      intro e he
      obtain ⟨i, hi, rfl⟩ := List.getElem_of_mem he
      exact (ofVal_rep (w := default) (X := fun _ => False) (ι := id) (n := 0) (h2 i _ _ (List.getElem?_eq_getElem (by omega)) (List.getElem?_eq_getElem hi))).2.1
    · simp only [Value.cells, List.all_eq_true]
      intro e he
      obtain ⟨i, hi, rfl⟩ := List.getElem_of_mem he
      exact (ofVal_rep (w := default) (X := fun _ => False) (ι := id) (n := 0) (h2 i _ _ (List.getElem?_eq_getElem hi) (List.getElem?_eq_getElem (by omega)))).2.2
  · have := ofVal_rep (w := default) (X := fun _ => False) (ι := id) (n := 0) h
    unfold ofVal at h
    split at h <;> simp at h <;> subst h <;> exact ⟨rfl, rfl⟩

end
end Go.Q
