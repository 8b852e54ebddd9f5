/- A region that draws its order: what its table says; objects of the store, one by one. -/
import Derived.Test.YtaigdfomoplchaaQvSwap
import Derived.Test.YtaigdfomoplchaaQvOkCall
set_option linter.unusedSimpArgs false
set_option linter.unusedVariables false
set_option linter.unusedSectionVars false
namespace Go.Q

def befAt (bef : List Nat) (i j : Nat) : Bool := ((bef[i]?).getD 0).testBit j

/-- What a region's table says. -/
structure RegSt (P : Program) (N : Nat) (ops : Array Oper) (bef : List Nat) (os : List AOp) : Prop where
  hlen : os.length = ops.size
  hcomp : ∀ (i : Nat) (o' : AOp), os[i]? = some o' → ∃ o, ops[i]? = some o ∧ cOper P N ops o = some o' ∧ (∀ t, Operand.tmp t ∈ o.op.operands.toList → t ∈ o'.reads) ∧ ∀ v, Opd.con v ∈ o'.op.opds → v.plain = true
  hbef : ∀ (i : Nat) (o : Oper) (j : Nat), ops[i]? = some o → j < ops.size → befAt bef i j = true →
    j < i ∧ ∃ e ∈ o.after.toList, Region.binds .any e = true ∧ (e.on = j ∨ befAt bef e.on j = true)
  hedge : ∀ (i : Nat) (o : Oper), ops[i]? = some o → ∀ e ∈ o.after.toList, Region.binds .any e = true → e.on < i

/-- What the table says of a part that draws its order, from number lo on. -/
structure Sta (P : Program) (N : Nat) (ops : Array Oper) (bef : List Nat) (ds : List DOp) (tot lo : Nat) : Prop where
  hwin : lo + ds.length ≤ ops.size
  hcomp : ∀ (i : Nat) (d : DOp), ds[i]? = some d → ∃ o, ops[lo + i]? = some o ∧ cOper P N ops o = some d.o ∧ ∀ t, Operand.tmp t ∈ o.op.operands.toList → t ∈ d.o.reads
  hbef : ∀ (i : Nat) (o : Oper) (j : Nat), ops[i]? = some o → j < ops.size → befAt bef i j = true →
    j < i ∧ ∃ e ∈ o.after.toList, Region.binds .any e = true ∧ (e.on = j ∨ befAt bef e.on j = true)
  hedge : ∀ (i : Nat) (o : Oper), ops[i]? = some o → ∀ e ∈ o.after.toList, Region.binds .any e = true → e.on < i
  htop : ∀ (i : Nat) (d : DOp), ds[i]? = some d → d.rank + (if d.lays then 1 else 0) ≤ tot
  hpure : ∀ (i : Nat) (d : DOp), ds[i]? = some d → d.pure = true → d.lays = false
  hcon : ∀ (i : Nat) (d : DOp), ds[i]? = some d → ∀ v, Opd.con v ∈ d.o.op.opds → v.plain = true
  hpair : ∀ (i j : Nat) (d e : DOp), i < j → ds[i]? = some d → ds[j]? = some e → d.rank + (if d.lays then 1 else 0) ≤ e.rank ∧ (apart bef (lo + i) (lo + j) = true → pairOk d e = true)

theorem okDraw_spec {bef : List Nat} {tot : Nat} : ∀ (ds : List DOp) (k : Nat), okDraw bef tot ds k = true →
    (∀ (i : Nat) (d : DOp), ds[i]? = some d → d.rank + (if d.lays then 1 else 0) ≤ tot ∧ (d.pure = true → d.lays = false)) ∧
    ∀ (i j : Nat) (d e : DOp), i < j → ds[i]? = some d → ds[j]? = some e → d.rank + (if d.lays then 1 else 0) ≤ e.rank ∧ (apart bef (k + i) (k + j) = true → pairOk d e = true)
  | [], k, _ => ⟨fun i d h => by simp at h, fun i j d e _ h => by simp at h⟩
  | d :: ds, k, h => by
    simp only [okDraw, Bool.and_eq_true, decide_eq_true_eq, Bool.or_eq_true, Bool.not_eq_true', List.all_eq_true] at h
    obtain ⟨⟨⟨h1, h2⟩, h3⟩, h4⟩ := h
    obtain ⟨i1, i2⟩ := okDraw_spec ds (k + 1) h4
    refine ⟨fun i d' hd => ?_, fun i j d' e hij hd he => ?_⟩
    · cases i with
      | zero =>
        simp at hd; subst hd
        refine ⟨h1, fun hp => ?_⟩
        rcases h2 with h2 | h2
        · rw [hp] at h2; cases h2
        · exact h2.2
      | succ i => exact i1 i d' (by simpa using hd)
    · cases j with
      | zero => omega
      | succ j =>
        have he' : ds[j]? = some e := by simpa using he
        cases i with
        | zero =>
          simp at hd; subst hd
          have := h3 (e, j) (List.mem_zipIdx_iff_getElem?.2 he')
          simp only at this
          refine ⟨this.1, fun ha => ?_⟩
          rcases this.2 with h5 | h5
          · rw [show k + (j + 1) = k + 1 + j by omega, Nat.add_zero] at ha
            rw [ha] at h5; cases h5
          · exact h5
        | succ i =>
          obtain ⟨a1, a2⟩ := i2 i j d' e (by omega) (by simpa using hd) he'
          exact ⟨a1, fun ha => a2 (by rw [show k + 1 + i = k + (i + 1) by omega, show k + 1 + j = k + (j + 1) by omega]; exact ha)⟩

theorem cDraw_spec [Link] {P : Program} {N : Nat} {own : Nat → Bool} {ops : Array Oper} {segs : List Seg} (h : cDraw P N own ops = some segs) :
    ∃ bef os, RegSt P N ops bef os ∧ mkSegs bef own os.length (os.length + 1) 0 os = some segs := by
  simp only [cDraw, Option.bind_eq_bind, Option.bind_eq_some_iff] at h
  obtain ⟨bef, hb, os, hos, h⟩ := h
  split at h
  · rename_i hc
    simp only [Bool.and_eq_true, okOps] at hc
    obtain ⟨hbo, hall, hcon⟩ := hc
    obtain ⟨m1, m2⟩ := mapM_get _ _ _ hos
    refine ⟨bef, os, ⟨by rw [← m1]; simp, fun i o' hod => ?_, fun i o j ho hj ht => ?_, fun i o ho e he hb => ?_⟩, h⟩
    · have hi : i < ops.toList.length := by rw [m1]; exact (List.getElem?_eq_some_iff.1 hod).1
      have hoi : ops.toList[i]? = some ops.toList[i] := List.getElem?_eq_getElem hi
      refine ⟨ops.toList[i], by simp, m2 i _ _ hoi hod, fun t ht => ?_, fun v hv => ?_⟩
      · have := List.all_eq_true.1 hall (ops.toList[i], o') (List.mem_of_getElem? (i := i) (by rw [List.getElem?_zip_eq_some]; exact ⟨hoi, hod⟩))
        have := List.all_eq_true.1 this _ ht
        simpa using this
      · have := List.all_eq_true.1 hcon o' (List.mem_of_getElem? hod)
        have := List.all_eq_true.1 this _ hv
        simpa using this
    · simp only [befOk, List.all_eq_true] at hbo
      have ho' : ops.toList[i]? = some o := by simpa using ho
      have := (Bool.and_eq_true _ _ ▸ hbo (o, i) (List.mem_zipIdx_iff_getElem?.2 ho')).2
      simp only [List.all_eq_true, Bool.or_eq_true, Bool.not_eq_true', Bool.and_eq_true, decide_eq_true_eq, List.any_eq_true] at this
      have := this j (List.mem_range.2 (by simpa using hj))
      rcases this with h | ⟨h1, e, he, h2, h3⟩
      · unfold befAt at ht; rw [h] at ht; cases ht
      · refine ⟨h1, e, he, h2, ?_⟩
        rcases h3 with h3 | h3
        · left; simpa using h3
        · right; exact h3
    · simp only [befOk, List.all_eq_true] at hbo
      have ho' : ops.toList[i]? = some o := by simpa using ho
      have := (Bool.and_eq_true _ _ ▸ hbo (o, i) (List.mem_zipIdx_iff_getElem?.2 ho')).1
      have := List.all_eq_true.1 this e he
      simpa [hb] using this
  · cases h

theorem mkWin_spec [Link] {P : Program} {N : Nat} {own : Nat → Bool} {ops : Array Oper} {bef : List Nat} {os win : List AOp} {lo : Nat} (hr : RegSt P N ops bef os)
    (hwin : ∀ (i : Nat) (o' : AOp), win[i]? = some o' → os[lo + i]? = some o') (hle : lo + win.length ≤ ops.size) (hok : okDraw bef (mkWin bef own lo win).2 (mkWin bef own lo win).1 lo = true) :
    Sta P N ops bef (mkWin bef own lo win).1 (mkWin bef own lo win).2 lo ∧ (mkWin bef own lo win).1.length = win.length := by
  obtain ⟨o1, o2⟩ := okDraw_spec _ lo hok
  have hlen : (mkWin bef own lo win).1.length = win.length := by simp [mkWin]
  have hget : ∀ (i : Nat) (d : DOp), (mkWin bef own lo win).1[i]? = some d → win[i]? = some d.o := by
    intro i d hd
    simp only [mkWin] at hd
    rw [List.getElem?_map, Option.map_eq_some_iff] at hd
    obtain ⟨⟨o, j⟩, ho, hd⟩ := hd
    rw [List.getElem?_zipIdx, Option.map_eq_some_iff] at ho
    obtain ⟨o', ho', he⟩ := ho
    simp only [Prod.mk.injEq] at he
    obtain ⟨rfl, rfl⟩ := he
    rw [← hd]; exact ho'
  refine ⟨⟨by rw [hlen]; exact hle, fun i d hd => ?_, hr.hbef, hr.hedge, fun i d hd => (o1 i d hd).1, fun i d hd => (o1 i d hd).2, fun i d hd v hv => ?_, fun i j d e hij hd he => o2 i j d e hij hd he⟩, hlen⟩
  · obtain ⟨o, p1, p2, p3, -⟩ := hr.hcomp (lo + i) d.o (hwin i _ (hget i d hd))
    exact ⟨o, p1, p2, p3⟩
  · obtain ⟨o, p1, p2, p3, p4⟩ := hr.hcomp (lo + i) d.o (hwin i _ (hget i d hd))
    exact p4 v hv

section
variable [Link] {w w' : World} {X X' : Nat → Prop} {ι ι' : Nat → Nat} {σ σ' : Sto} {n n' m m' id : Nat}

/-- An object of the store stands in its block. -/
def ObRep (w : World) (X : Nat → Prop) (ι : Nat → Nat) (m id : Nat) : Ob → Prop
  | .row sz xs => ∃ (cells : Array Value) (ty : TypeId) (u : Nat → Nat → Value),
      w.heap[ι id]? = some (.cells cells ty (0, 0)) ∧ xs.length * sz ≤ cells.size ∧
      (∀ (i : Nat) (x : V), xs[i]? = some x → x.cells.length = sz ∧ x.cells.all V.one = true) ∧
      (∀ (i : Nat) (x : V) (j : Nat) (e : V), xs[i]? = some x → x.cells[j]? = some e → cells[i * sz + j]? = some (u i j)) ∧
      (∀ (i : Nat) (x : V) (j : Nat) (e : V), xs[i]? = some x → x.cells[j]? = some e → Rep w X ι m e (u i j))
  | .loop env ps a b st pend => ∃ r : Loop, w.heap[ι id]? = some (.loop r) ∧ LoopRep w X ι m r env ps a b st pend

theorem WF.ob (h : WF w X ι σ n) {o : Ob} (hs : σ id = some o) : ObRep w X ι n id o := by
  cases o with
  | row sz xs => exact h.row id sz xs hs
  | loop env ps a b st pend => exact h.loop id _ _ _ _ _ _ hs

theorem WF.of_ob (h : ∀ id o, σ id = some o → ObRep w X ι n id o) (own : ∀ id, σ id ≠ none → X (ι id)) (inj : ∀ id id', σ id ≠ none → σ id' ≠ none → ι id = ι id' → id = id')
    (dom : ∀ id, σ id ≠ none → id < n) (xlt : ∀ b, X b → b < w.heap.size) : WF w X ι σ n :=
  ⟨fun id sz xs hs => h id _ hs, fun l env ps a b st pend hs => h l _ hs, own, inj, dom, xlt⟩

theorem ObRep.move' (h1 : w.heap.size ≤ w'.heap.size) (h2 : ∀ b, b < w.heap.size → ¬ X b → w'.heap[b]? = w.heap[b]?)
    (h3 : ∀ (b : Nat) c t f, w.heap[b]? = some (.cells c t f) → ∃ c', w'.heap[b]? = some (.cells c' t f) ∧ c'.size = c.size)
    (h4 : ∀ id, id < m → ι id < w.heap.size → ι' id = ι id) (h5 : ∀ b, b < w.heap.size → X' b → X b) (h6 : m ≤ m') (hb : w'.heap[ι' id]? = w.heap[ι id]?) {o : Ob} (h : ObRep w X ι m id o) :
    ObRep w' X' ι' m' id o := by
  cases o with
  | row sz xs =>
    obtain ⟨cells, ty, u, a1, a2, a3, a4, a5⟩ := h
    exact ⟨cells, ty, u, hb.trans a1, a2, a3, a4, fun i x j e hx he => (a5 i x j e hx he).move' h1 h2 h3 h4 h5 h6⟩
  | loop env ps a b st pend =>
    obtain ⟨r, a1, a2⟩ := h
    exact ⟨r, hb.trans a1, a2.hst, a2.hpend, a2.hpn, a2.hps, a2.code, fun t => (a2.rep t).move' h1 h2 h3 h4 h5 h6⟩

/-- What an object speaks of. -/
def OkOb (K : Nat → Prop) : Ob → Prop
  | .row _ xs => ∀ (i : Nat) (x : V), xs[i]? = some x → Ok K x
  | .loop env .. => ∀ t, Ok K (env t)

theorem OkS.ob {K : Nat → Prop} (h : OkS K σ) {o : Ob} (hs : σ id = some o) : OkOb K o := by
  cases o with
  | row sz xs => exact h.1 id sz xs hs
  | loop env ps a b st pend => exact h.2 id _ _ _ _ _ _ hs

theorem ObRep.on {K : Nat → Prop} {o : Ob} (h : ObRep w X ι m id o) (hk : OkOb K o) (hι : ∀ id, K id → ι' id = ι id) (hm : ∀ id, K id → id < m') (hid : ι' id = ι id) : ObRep w X ι' m' id o := by
  cases o with
  | row sz xs =>
    obtain ⟨cells, ty, u, a1, a2, a3, a4, a5⟩ := h
    exact ⟨cells, ty, u, by rw [hid]; exact a1, a2, a3, a4, fun i x j e hx he => (a5 i x j e hx he).on (Ok.cells (hk i x hx) j e he) hι hm⟩
  | loop env ps a b st pend =>
    obtain ⟨r, a1, a2⟩ := h
    exact ⟨r, by rw [hid]; exact a1, a2.hst, a2.hpend, a2.hpn, a2.hps, a2.code, fun t => (a2.rep t).on (hk t) hι hm⟩

end
end Go.Q
