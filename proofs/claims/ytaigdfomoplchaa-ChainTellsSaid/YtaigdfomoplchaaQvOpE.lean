/- Each operation, run: numbers, bools, comparisons, slices of slices. -/
import Derived.Test.YtaigdfomoplchaaQvOpD
set_option linter.unusedSimpArgs false
set_option linter.unusedVariables false
set_option linter.unusedSectionVars false
namespace Go.Q
variable [Link]

section
variable {P : Program} {w : World} {X : Nat → Prop} {ι : Nat → Nat} {σ σ' : Sto} {n n' lk : Nat} {ρ : Operand → Value} {ρ' : Opd → V}

theorem pureV_spec {s : Sem Value} {v : V} (h : pureV s = some v) : ∃ u, s = .pure u ∧ Rep w X ι n v u := by
  unfold pureV at h
  split at h <;> simp at h <;> subst h
  · exact ⟨_, rfl, .int _ _⟩
  · exact ⟨_, rfl, .bool _⟩
  · exact ⟨_, rfl, .str _⟩

theorem binOp_int (op : BinOp) (t : TypeId) (k k' : IntKind) (a b : Int) : Go.binOp op t (.int k a) (.int k' b) = Go.binOp op 0 (.int k a) (.int k' b) := by cases op <;> rfl
theorem binOp_str (op : BinOp) (t : TypeId) (a b : ByteArray) : Go.binOp op t (.string a) (.string b) = Op.stringOp op a b := by cases op <;> rfl

theorem run_eqGuard {op : BinOp} {t : TypeId} {x y : Operand} {a b : Value} (ha : a ≠ .nilIface) (ha' : ∀ cs, a ≠ .agg cs) : (eqGuard op t x y a b).run P w = .ok () w := by
  unfold eqGuard
  cases op <;> first | rfl | (cases a <;> first | rfl | exact absurd rfl ha | exact absurd rfl (ha' _))

theorem ev_bin (hw : WF w X ι σ n) {op : BinOp} {t : TypeId} {x y : Operand} {x' y' : Opd} (hx : Rep w X ι n (ρ' x') (ρ x)) (hy : Rep w X ι n (ρ' y') (ρ y))
    {v : V} (h : ev ρ' σ n lk (.bin op x' y') = some (v, σ', n')) :
    Good w X ι σ n lk (((do pure (.value (← (do eqGuard op t x y (ρ x) (ρ y); Go.binOp op t (ρ x) (ρ y)))) : Sem Next)).run P w) v σ' n' := by
  simp only [ev, Option.map_eq_some_iff, Prod.mk.injEq] at h
  obtain ⟨v', h, rfl, rfl, rfl⟩ := h
  unfold binV at h
  split at h
  · rename_i k a k' b e1 e2
    rw [e1] at hx; rw [e2] at hy
    generalize ρ x = u at *
    generalize ρ y = z at *
    cases hx; cases hy
    obtain ⟨r, hr, hrep⟩ := pureV_spec (w := w) (X := X) (ι := ι) (n := n) h
    refine good_pure hw ?_ hrep
    simp only [Sem.run_bind, run_eqGuard (P := P) (a := .int k a) (by simp) (by simp), Result.andThen_ok, binOp_int, hr]
    rfl
  · rename_i a b e1 e2
    rw [e1] at hx; rw [e2] at hy
    generalize ρ x = u at *
    generalize ρ y = z at *
    cases hx; cases hy
    obtain ⟨r, hr, hrep⟩ := pureV_spec (w := w) (X := X) (ι := ι) (n := n) h
    refine good_pure hw ?_ hrep
    simp only [Sem.run_bind, run_eqGuard (P := P) (a := .string a) (by simp) (by simp), Result.andThen_ok, binOp_str, hr]
    rfl
  · cases h

theorem equal_succ (t : TypeId) (x y : Value) : Op.equal t x y = Op.equalIn (9999 + 1) t x y := rfl

theorem run_equal_bool {t : TypeId} (ht : P.underlying t = some .bool) (a b : Bool) : (Op.equal t (.bool a) (.bool b)).run P w = .ok (a == b) w := by
  rw [equal_succ, Op.equalIn]
  simp [run_underlying ht]

theorem run_equal_slice {t e : TypeId} (ht : P.underlying t = some (.slice e)) (a : Option Addr) (l c : Nat) : (Op.equal t (.slice a l c) (.slice none 0 0)).run P w = .ok a.isNone w := by
  rw [equal_succ, Op.equalIn]
  cases a <;> simp [run_underlying ht]

theorem run_equal_func {t : TypeId} {ps rs : Array TypeId} {b : Bool} (ht : P.underlying t = some (.func ps rs b)) :
    (Op.equal t .nilFunc .nilFunc).run P w = .ok true w ∧ ∀ f x y, (Op.equal t (.func f x y) .nilFunc).run P w = .ok false w := by
  constructor
  · rw [equal_succ, Op.equalIn]; simp [run_underlying ht]
  · intro f x y; rw [equal_succ, Op.equalIn]; simp [run_underlying ht]

theorem ev_eqB (hw : WF w X ι σ n) {neg : Bool} {t : TypeId} {x y : Operand} {x' y' : Opd} (ht : P.underlying t = some .bool) (hx : Rep w X ι n (ρ' x') (ρ x)) (hy : Rep w X ι n (ρ' y') (ρ y))
    {v : V} (h : ev ρ' σ n lk (.eqB neg x' y') = some (v, σ', n')) :
    Good w X ι σ n lk (((do pure (.value (← (do eqGuard (if neg then .neq else .eql) t x y (ρ x) (ρ y); Go.binOp (if neg then .neq else .eql) t (ρ x) (ρ y)))) : Sem Next)).run P w) v σ' n' := by
  simp only [ev] at h
  split at h
  · rename_i a b e1 e2
    simp only [Option.some.injEq, Prod.mk.injEq] at h
    obtain ⟨rfl, rfl, rfl⟩ := h
    rw [e1] at hx; rw [e2] at hy
    generalize ρ x = u at *
    generalize ρ y = z at *
    cases hx; cases hy
    refine good_pure hw ?_ (.bool _)
    simp only [Sem.run_bind, run_eqGuard (P := P) (a := .bool a) (by simp) (by simp), Result.andThen_ok]
    cases neg <;> simp [Go.binOp, run_equal_bool ht]
  · cases h

theorem ev_eqN (hw : WF w X ι σ n) {neg : Bool} {t e : TypeId} {x y : Operand} {x' : Opd} (ht : P.underlying t = some (.slice e)) (hx : Rep w X ι n (ρ' x') (ρ x)) (hy : ρ y = .slice none 0 0)
    {v : V} (h : ev ρ' σ n lk (.eqN neg x') = some (v, σ', n')) :
    Good w X ι σ n lk (((do pure (.value (← (do eqGuard (if neg then .neq else .eql) t x y (ρ x) (ρ y); Go.binOp (if neg then .neq else .eql) t (ρ x) (ρ y)))) : Sem Next)).run P w) v σ' n' := by
  have key : ∀ (a : Option Addr) (l c : Nat), Sem.run P (do pure (.value (← (do eqGuard (if neg then .neq else .eql) t x y (.slice a l c) (.slice none 0 0); Go.binOp (if neg then .neq else .eql) t (.slice a l c) (.slice none 0 0)))) : Sem Next) w
      = .ok (.value (.bool (a.isNone != neg))) w := by
    intro a l c
    simp only [Sem.run_bind, run_eqGuard (P := P) (a := .slice a l c) (by simp) (by simp), Result.andThen_ok]
    cases neg <;> cases a <;> simp [Go.binOp, run_equal_slice ht]
  simp only [ev] at h
  rw [hy]
  split at h <;> rename_i e1
  · simp only [Option.some.injEq, Prod.mk.injEq] at h
    obtain ⟨rfl, rfl, rfl⟩ := h
    rw [e1] at hx
    generalize ρ x = u at *
    cases hx
    exact good_pure hw ((key _ _ _).trans (by simp)) (.bool _)
  · simp only [Option.some.injEq, Prod.mk.injEq] at h
    obtain ⟨rfl, rfl, rfl⟩ := h
    rw [e1] at hx
    generalize ρ x = u at *
    cases hx <;> exact good_pure hw ((key _ _ _).trans (by simp)) (.bool _)
  · simp only [Option.some.injEq, Prod.mk.injEq] at h
    obtain ⟨rfl, rfl, rfl⟩ := h
    rw [e1] at hx
    generalize ρ x = u at *
    cases hx
    exact good_pure hw ((key _ _ _).trans (by simp)) (.bool _)
  · cases h

theorem ev_eqF (hw : WF w X ι σ n) {neg : Bool} {t : TypeId} {ps rs : Array TypeId} {b : Bool} {x y : Operand} {x' : Opd} (ht : P.underlying t = some (.func ps rs b)) (hx : Rep w X ι n (ρ' x') (ρ x)) (hy : ρ y = .nilFunc)
    {v : V} (h : ev ρ' σ n lk (.eqF neg x') = some (v, σ', n')) :
    Good w X ι σ n lk (((do pure (.value (← (do eqGuard (if neg then .neq else .eql) t x y (ρ x) (ρ y); Go.binOp (if neg then .neq else .eql) t (ρ x) (ρ y)))) : Sem Next)).run P w) v σ' n' := by
  obtain ⟨q1, q2⟩ := run_equal_func (P := P) (w := w) ht
  simp only [ev] at h
  rw [hy]
  split at h <;> rename_i e1
  · simp only [Option.some.injEq, Prod.mk.injEq] at h
    obtain ⟨rfl, rfl, rfl⟩ := h
    rw [e1] at hx
    generalize ρ x = u at *
    cases hx
    refine good_pure hw ?_ (.bool _)
    simp only [Sem.run_bind, run_eqGuard (P := P) (a := .nilFunc) (by simp) (by simp), Result.andThen_ok]
    cases neg <;> simp [Go.binOp, q1]
  · simp only [Option.some.injEq, Prod.mk.injEq] at h
    obtain ⟨rfl, rfl, rfl⟩ := h
    rw [e1] at hx
    generalize ρ x = u at *
    cases hx with
    | fn f cs us hl hr =>
      refine good_pure hw ?_ (.bool _)
      simp only [Sem.run_bind, run_eqGuard (P := P) (a := .func (.func _) #[] us) (by simp) (by simp), Result.andThen_ok]
      cases neg <;> simp [Go.binOp, q2]
  · cases h

theorem ev_un (hw : WF w X ι σ n) {op : UnOp} {x : Operand} {x' : Opd} (hx : Rep w X ι n (ρ' x') (ρ x)) {v : V} (h : ev ρ' σ n lk (.un op x') = some (v, σ', n')) :
    Good w X ι σ n lk (((do pure (.value (← Op.unary op (ρ x))) : Sem Next)).run P w) v σ' n' := by
  simp only [ev, Option.map_eq_some_iff, Prod.mk.injEq] at h
  obtain ⟨v', h, rfl, rfl, rfl⟩ := h
  unfold unV at h
  split at h
  · rename_i e1
    rw [e1] at hx
    generalize ρ x = u at *
    cases hx
    obtain ⟨r, hr, hrep⟩ := pureV_spec (w := w) (X := X) (ι := ι) (n := n) h
    exact good_pure hw (by rw [hr]; rfl) hrep
  · rename_i e1
    rw [e1] at hx
    generalize ρ x = u at *
    cases hx
    obtain ⟨r, hr, hrep⟩ := pureV_spec (w := w) (X := X) (ι := ι) (n := n) h
    exact good_pure hw (by rw [hr]; rfl) hrep
  · cases h

theorem ev_conv (hw : WF w X ι σ n) {s d : TypeId} {j k : IntKind} {x : Operand} {x' : Opd} (hs : P.underlying s = some (.int j)) (hd : P.underlying d = some (.int k))
    (hx : Rep w X ι n (ρ' x') (ρ x)) {v : V} (h : ev ρ' σ n lk (.conv k x') = some (v, σ', n')) :
    Good w X ι σ n lk (((do pure (.value (← Go.convert s d (ρ x))) : Sem Next)).run P w) v σ' n' := by
  simp only [ev] at h
  split at h
  · rename_i e1
    simp only [Option.some.injEq, Prod.mk.injEq] at h
    obtain ⟨rfl, rfl, rfl⟩ := h
    rw [e1] at hx
    generalize ρ x = u at *
    cases hx
    refine good_pure hw ?_ (.int _ _)
    simp [Go.convert, run_underlying hs, run_underlying hd, Conv.intToInt]
  · cases h

theorem ev_pick (hw : WF w X ι σ n) {c a b : Operand} {c' a' b' : Opd} (hc : Rep w X ι n (ρ' c') (ρ c)) (ha : Rep w X ι n (ρ' a') (ρ a)) (hb : Rep w X ι n (ρ' b') (ρ b))
    {v : V} (h : ev ρ' σ n lk (.pick c' a' b') = some (v, σ', n')) :
    Good w X ι σ n lk (((do pure (.value (if ← asBool (ρ c) then ρ a else ρ b)) : Sem Next)).run P w) v σ' n' := by
  simp only [ev] at h
  split at h
  · rename_i t e1
    simp only [Option.some.injEq, Prod.mk.injEq] at h
    obtain ⟨rfl, rfl, rfl⟩ := h
    rw [e1] at hc
    generalize ρ c = u at *
    cases hc
    cases t
    · exact good_pure hw (by simp [asBool]) hb
    · exact good_pure hw (by simp [asBool]) ha
  · cases h

theorem ev_nilck (hw : WF w X ι σ n) {o : Oper} {x : Operand} {x' : Opd} (ho : o.op = .nilCheck x) (hx : Rep w X ι n (ρ' x') (ρ x))
    {v : V} (h : ev ρ' σ n lk (.nilck x') = some (v, σ', n')) : Good w X ι σ n lk ((execOp ρ o).run P w) v σ' n' := by
  simp only [ev] at h
  have key : (∀ (a : Addr), ρ x = .pointer (some a) → (execOp ρ o).run P w = .ok (.value (.pointer (some a))) w) ∧
      (∀ f us, ρ x = .func (.func f) #[] us → (execOp ρ o).run P w = .ok (.value (.func (.func f) #[] us)) w) := by
    refine ⟨fun a ha => ?_, fun f us ha => ?_⟩ <;> simp [execOp, ho, ha]
  split at h <;> rename_i e1
  · simp only [Option.some.injEq, Prod.mk.injEq] at h
    obtain ⟨rfl, rfl, rfl⟩ := h
    rw [e1] at hx
    generalize hu : ρ x = u at *
    cases hx with
    | ptr id sz i j hid hb => exact good_pure hw (key.1 _ rfl) (.ptr _ _ _ _ hid hb)
  · simp only [Option.some.injEq, Prod.mk.injEq] at h
    obtain ⟨rfl, rfl, rfl⟩ := h
    rw [e1] at hx
    generalize hu : ρ x = u at *
    cases hx with
    | box cs b o u hX hb h1 hm hr => exact good_pure hw (key.1 _ rfl) (.box _ _ _ u hX hb h1 hm hr)
  · simp only [Option.some.injEq, Prod.mk.injEq] at h
    obtain ⟨rfl, rfl, rfl⟩ := h
    rw [e1] at hx
    generalize hu : ρ x = u at *
    cases hx with
    | fn f cs us hl hr => exact good_pure hw (key.2 _ _ rfl) (.fn _ _ _ hl hr)
  · cases h

theorem ev_len (hw : WF w X ι σ n) {t ty e : TypeId} {x : Operand} {x' : Opd} (ht : P.underlying t = some (.slice e)) (hx : Rep w X ι n (ρ' x') (ρ x))
    {v : V} (h : ev ρ' σ n lk (.len x') = some (v, σ', n')) :
    Good w X ι σ n lk (((do pure (.value (← Builtin.len_ #[t] ty #[ρ x])) : Sem Next)).run P w) v σ' n' := by
  simp only [ev, Option.map_eq_some_iff, Prod.mk.injEq] at h
  obtain ⟨l, h, rfl, rfl, rfl⟩ := h
  refine good_pure hw ?_ (.int _ _)
  generalize ρ x = u at *
  generalize ρ' x' = q at *
  cases hx <;> simp only [lenOf, reduceCtorEq, Option.some.injEq] at h <;> subst h <;> simp [Builtin.len_, run_underlying ht, goInt]

theorem ev_lenS (hw : WF w X ι σ n) {t ty : TypeId} {x : Operand} {x' : Opd} (ht : P.underlying t = some .string) (hx : Rep w X ι n (ρ' x') (ρ x))
    {v : V} (h : ev ρ' σ n lk (.lenS x') = some (v, σ', n')) :
    Good w X ι σ n lk (((do pure (.value (← Builtin.len_ #[t] ty #[ρ x])) : Sem Next)).run P w) v σ' n' := by
  simp only [ev] at h
  split at h
  · rename_i s e1
    simp only [Option.some.injEq, Prod.mk.injEq] at h
    obtain ⟨rfl, rfl, rfl⟩ := h
    rw [e1] at hx
    generalize ρ x = u at *
    cases hx
    exact good_pure hw (by simp [Builtin.len_, run_underlying ht, goInt]) (.int _ _)
  · cases h

/-! ### Slices of slices -/

theorem run_bound {x : Operand} {x' : Opd} {d most y b : Nat} {code : BoundsCode} (hx : Rep w X ι n (ρ' x') (ρ x)) (h : boundOf ρ' (some x') d most = some b) (hm : most ≤ y) :
    (Instr.sliceBound (ρ x) y code).run P w = .ok b w ∧ b ≤ most := by
  simp only [boundOf] at h
  cases hv : intOf (ρ' x') with
  | none => simp [hv] at h
  | some m =>
    simp only [hv] at h
    split at h
    · rename_i hc
      simp only [Option.some.injEq] at h
      subst h
      have : ∃ k, ρ' x' = .int k m := by
        cases hq : ρ' x' <;> simp [hq, intOf] at hv; subst hv; exact ⟨_, rfl⟩
      obtain ⟨k, hk⟩ := this
      rw [hk] at hx
      generalize ρ x = u at *
      cases hx
      have h1 : (0 : Int) ≤ m ∧ m ≤ (y : Int) := by omega
      exact ⟨by simp [Instr.sliceBound, asIntOf, h1], by omega⟩
    · cases h

/-- What stands for an optional operand. -/
def optOk (o : Option Operand) (o' : Option Opd) : Prop := (o = none ∧ o' = none) ∨ ∃ y y', o = some y ∧ o' = some y' ∧ cOpd y = some y'

theorem run_bounds {lo hi : Option Operand} {lo' hi' : Option Opd} {len cap l h : Nat} (hρ : ∀ (x : Operand) (x' : Opd), cOpd x = some x' → Rep w X ι n (ρ' x') (ρ x))
    (h1 : optOk lo lo') (h2 : optOk hi hi') (hb : boundOf ρ' hi' len len = some h) (hb' : boundOf ρ' lo' 0 h = some l) (hc : len ≤ cap) (b : Bool) :
    (Instr.sliceBounds b len cap (lo.map ρ) (hi.map ρ) none).run P w = .ok (l, h, cap) w ∧ l ≤ h ∧ h ≤ len := by
  rcases h2 with ⟨rfl, rfl⟩ | ⟨y, y', rfl, rfl, hy⟩ <;> rcases h1 with ⟨rfl, rfl⟩ | ⟨z, z', rfl, rfl, hz⟩
  · simp [boundOf] at hb hb'
    subst hb; subst hb'
    simp [Instr.sliceBounds]
  · simp [boundOf] at hb
    subst hb
    obtain ⟨q1, q2⟩ := run_bound (P := P) (y := len) (code := .sliceB) (hρ _ _ hz) hb' (Nat.le_refl _)
    simp [Instr.sliceBounds, q1, q2]
  · simp [boundOf] at hb'
    subst hb'
    obtain ⟨q1, q2⟩ := run_bound (P := P) (y := cap) (code := if b then .sliceAcap else .sliceAlen) (hρ _ _ hy) hb hc
    simp [Instr.sliceBounds, q1, q2]
  · obtain ⟨q1, q2⟩ := run_bound (P := P) (y := cap) (code := if b then .sliceAcap else .sliceAlen) (hρ _ _ hy) hb hc
    obtain ⟨q3, q4⟩ := run_bound (P := P) (y := h) (code := .sliceB) (hρ _ _ hz) hb' (Nat.le_refl _)
    simp [Instr.sliceBounds, q1, q2, q3, q4]

theorem ev_slice (hw : WF w X ι σ n) {t e : TypeId} {j : TI} {x : Operand} {x' : Opd} {lo hi : Option Operand} {lo' hi' : Option Opd}
    (hρ : ∀ (x : Operand) (x' : Opd), cOpd x = some x' → Rep w X ι n (ρ' x') (ρ x)) (hx : cOpd x = some x') (h1 : optOk lo lo') (h2 : optOk hi hi')
    (ht : P.underlying t = some (.slice e)) (hj : ti P e = some j) {v : V} (h : ev ρ' σ n lk (.slice j.size x' lo' hi') = some (v, σ', n')) :
    Good w X ι σ n lk (((do pure (.value (← Instr.sliceAt t (ρ x) (lo.map ρ) (hi.map ρ) none)) : Sem Next)).run P w) v σ' n' := by
  have hx := hρ _ _ hx
  simp only [ev] at h
  split at h
  · rename_i e1
    simp only [Option.bind_eq_some_iff] at h
    obtain ⟨hh, hb, l, hb', h⟩ := h
    split at h
    · rename_i hc
      simp only [Option.some.injEq, Prod.mk.injEq] at h
      obtain ⟨rfl, rfl, rfl⟩ := h
      obtain ⟨rfl, rfl⟩ := hc
      rw [e1] at hx
      generalize ρ x = u at *
      cases hx
      obtain ⟨q1, q2⟩ := run_bounds (P := P) hρ h1 h2 hb hb' (cap := 0) (Nat.le_refl _) true
      refine good_pure hw ?_ .nilS
      simp [Instr.sliceAt, Instr.slice, run_underlying ht, q1, run_sizeOf hj]
    · cases h
  · rename_i sz xs e1
    simp only [Option.bind_eq_some_iff] at h
    obtain ⟨hh, hb, l, hb', h⟩ := h
    split at h
    · rename_i hc
      simp only [Option.some.injEq, Prod.mk.injEq] at h
      obtain ⟨rfl, rfl, rfl⟩ := h
      subst hc
      rw [e1] at hx
      generalize ρ x = u at *
      cases hx with
      | slE _ c b =>
        obtain ⟨q1, q2, q3⟩ := run_bounds (P := P) hρ h1 h2 hb hb' (cap := c) (Nat.zero_le _) true
        have h00 : hh - l = 0 := by simp at q3; omega
        simp only [List.length_nil] at q1
        simp only [List.take_nil, List.drop_nil]
        by_cases hcl : c = l
        · refine good_pure hw (u := .slice (some b) 0 0) ?_ (.slE _ _ _)
          subst hcl
          simp [Instr.sliceAt, Instr.slice, run_underlying ht, q1, run_sizeOf hj, h00]
        · refine good_pure hw (u := .slice (some (b.add (l * j.size))) 0 (c - l)) ?_ (.slE _ _ _)
          simp [Instr.sliceAt, Instr.slice, run_underlying ht, q1, run_sizeOf hj, hcl, h00]
      | sl _ _ b o c u hc hX hb0 hs hm hr =>
        obtain ⟨q1, q2, q3⟩ := run_bounds (P := P) hρ h1 h2 hb hb' (cap := c) hc true
        have hget : ∀ (i : Nat) (y : V), ((xs.take hh).drop l)[i]? = some y → xs[l + i]? = some y := by
          intro i y hy
          rw [List.getElem?_drop, List.getElem?_take] at hy
          split at hy
          · exact hy
          · cases hy
        have hlen : ((xs.take hh).drop l).length = hh - l := by simp; omega
        by_cases hcl : c = l
        · have h0 : hh - l = 0 := by omega
          have hnil : (xs.take hh).drop l = [] := List.eq_nil_of_length_eq_zero (by omega)
          rw [hnil]
          refine good_pure hw (u := .slice (some ⟨b, o, none⟩) 0 0) ?_ (.sl _ [] b o 0 (fun _ _ => undef) (by simp) hX hb0 (by simp) (by simp) (by simp))
          subst hcl
          simp [Instr.sliceAt, Instr.slice, run_underlying ht, q1, run_sizeOf hj, h0]
        · refine good_pure hw (u := .slice (some ⟨b, o + l * j.size, none⟩) ((xs.take hh).drop l).length (c - l)) ?_
            (.sl _ _ b (o + l * j.size) (c - l) (fun i q => u (l + i) q) (by omega) hX hb0 (fun i y hy => hs _ _ (hget i y hy)) ?_ (fun i y q e hy he => hr _ _ _ _ (hget i y hy) he))
          · rw [hlen]
            simp [Instr.sliceAt, Instr.slice, run_underlying ht, q1, run_sizeOf hj, hcl, add_none]
          · intro i y q e hy he
            have := hm _ _ q e (hget i y hy) he
            rwa [show o + (l + i) * j.size + q = o + l * j.size + i * j.size + q by rw [Nat.add_mul]; omega] at this
    · cases h
  · rename_i id off len sz e1
    simp only [Option.bind_eq_some_iff] at h
    obtain ⟨hh, hb, l, hb', h⟩ := h
    split at h
    · rename_i hc
      simp only [Option.some.injEq, Prod.mk.injEq] at h
      obtain ⟨rfl, rfl, rfl⟩ := h
      subst hc
      rw [e1] at hx
      generalize ρ x = u at *
      cases hx with
      | ref _ _ _ _ c o cells ty fz hid hc ho hm hz =>
        obtain ⟨q1, q2, q3⟩ := run_bounds (P := P) hρ h1 h2 hb hb' (cap := c) hc true
        by_cases hcl : c = l
        · refine good_pure hw (u := .slice (some ⟨ι id, o, none⟩) (hh - l) 0) ?_ (.ref id _ _ _ 0 o cells ty fz hid (by omega) (.inl rfl) hm (.inl rfl))
          subst hcl
          simp [Instr.sliceAt, Instr.slice, run_underlying ht, q1, run_sizeOf hj]
        · refine good_pure hw (u := .slice (some ⟨ι id, o + l * j.size, none⟩) (hh - l) (c - l)) ?_
            (.ref id _ _ _ (c - l) (o + l * j.size) cells ty fz hid (by omega) (.inr ?_) hm (.inr ?_))
          · simp [Instr.sliceAt, Instr.slice, run_underlying ht, q1, run_sizeOf hj, hcl, add_none]
          · rcases ho with h | h
            · omega
            · rw [h, Nat.add_mul]
          · rcases hz with h | h
            · omega
            · rw [show off + l + (c - l) = off + c by omega]; exact h
    · cases h
  · cases h

theorem ev_sliceS (hw : WF w X ι σ n) {t : TypeId} {x : Operand} {x' : Opd} {lo hi : Option Operand} {lo' hi' : Option Opd}
    (hρ : ∀ (x : Operand) (x' : Opd), cOpd x = some x' → Rep w X ι n (ρ' x') (ρ x)) (hx : cOpd x = some x') (h1 : optOk lo lo') (h2 : optOk hi hi')
    (ht : P.underlying t = some .string) {v : V} (h : ev ρ' σ n lk (.sliceS x' lo' hi') = some (v, σ', n')) :
    Good w X ι σ n lk (((do pure (.value (← Instr.sliceAt t (ρ x) (lo.map ρ) (hi.map ρ) none)) : Sem Next)).run P w) v σ' n' := by
  have hx := hρ _ _ hx
  simp only [ev] at h
  split at h
  · rename_i s e1
    simp only [Option.bind_eq_some_iff] at h
    obtain ⟨hh, hb, l, hb', h⟩ := h
    simp only [Option.some.injEq, Prod.mk.injEq] at h
    obtain ⟨rfl, rfl, rfl⟩ := h
    rw [e1] at hx
    generalize ρ x = u at *
    cases hx
    obtain ⟨q1, q2⟩ := run_bounds (P := P) hρ h1 h2 hb hb' (cap := s.size) (Nat.le_refl _) false
    refine good_pure hw ?_ (.str _)
    simp [Instr.sliceAt, Instr.slice, run_underlying ht, q1]
  · cases h

end
end Go.Q
