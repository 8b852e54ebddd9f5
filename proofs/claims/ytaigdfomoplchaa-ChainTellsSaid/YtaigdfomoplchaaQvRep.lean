/- How plain values stand in the machine's memory, and what stays when memory changes. -/
import Derived.Test.YtaigdfomoplchaaQvVal
import Derived.Below
set_option linter.unusedSimpArgs false
set_option linter.unusedVariables false
set_option linter.unusedSectionVars false
namespace Go.Q

inductive Rep (w : World) (X : Nat → Prop) (ι : Nat → Nat) : Nat → V → Value → Prop
  | int {n : Nat} (k : IntKind) (m : Int) : Rep w X ι n (.int k m) (.int k m)
  | bool {n : Nat} (b : Bool) : Rep w X ι n (.bool b) (.bool b)
  | str {n : Nat} (s : ByteArray) : Rep w X ι n (.str s) (.string s)
  | nilS {n : Nat} : Rep w X ι n .nilS (.slice none 0 0)
  | sl {n : Nat} (sz : Nat) (xs : List V) (b o c : Nat) (u : Nat → Nat → Value) (hc : xs.length ≤ c) (hX : ¬ X b) (hb : b < w.heap.size)
      (hs : ∀ (i : Nat) (x : V), xs[i]? = some x → x.cells.length = sz ∧ x.cells.all V.one = true)
      (hm : ∀ (i : Nat) (x : V) (j : Nat) (e : V), xs[i]? = some x → x.cells[j]? = some e → w.cell? ⟨b, o + i * sz + j, none⟩ = some (u i j))
      (hr : ∀ (i : Nat) (x : V) (j : Nat) (e : V), xs[i]? = some x → x.cells[j]? = some e → Rep w X ι 0 e (u i j)) :
      Rep w X ι n (.sl sz xs) (.slice (some ⟨b, o, none⟩) xs.length c)
  | slE {n : Nat} (sz c : Nat) (a : Addr) : Rep w X ι n (.sl sz []) (.slice (some a) 0 c)
  | ref {n : Nat} (id off len sz c o : Nat) (cells : Array Value) (ty : TypeId) (fz : Nat × Nat) (hid : id < n) (hc : len ≤ c)
      (ho : c = 0 ∨ o = off * sz) (hm : w.heap[ι id]? = some (.cells cells ty fz)) (hz : c = 0 ∨ (off + c) * sz ≤ cells.size) :
      Rep w X ι n (.ref id off len sz) (.slice (some ⟨ι id, o, none⟩) len c)
  | agg {n : Nat} (cs : List V) (us : Array Value) (hl : cs.length = us.size) (hr : ∀ (i : Nat) (e : V) (u : Value), cs[i]? = some e → us[i]? = some u → Rep w X ι n e u) :
      Rep w X ι n (.agg cs) (.agg us)
  | tup {n : Nat} (cs : List V) (us : Array Value) (hl : cs.length = us.size) (hr : ∀ (i : Nat) (e : V) (u : Value), cs[i]? = some e → us[i]? = some u → Rep w X ι n e u) :
      Rep w X ι n (.tup cs) (.tuple us)
  | nilP {n : Nat} : Rep w X ι n .nilP (.pointer none)
  | ptr {n : Nat} (id sz i j : Nat) (hid : id < n) (hb : ι id < w.heap.size) : Rep w X ι n (.ptr id sz i j) (.pointer (some ⟨ι id, i * sz + j, none⟩))
  | box {n : Nat} (cs : List V) (b o : Nat) (u : Nat → Value) (hX : ¬ X b) (hb : b < w.heap.size) (h1 : cs.all V.one = true)
      (hm : ∀ (j : Nat) (e : V), cs[j]? = some e → w.cell? ⟨b, o + j, none⟩ = some (u j)) (hr : ∀ (j : Nat) (e : V), cs[j]? = some e → Rep w X ι 0 e (u j)) :
      Rep w X ι n (.box cs) (.pointer (some ⟨b, o, none⟩))
  | fn {n : Nat} (f : Nat) (cs : List V) (us : Array Value) (hl : cs.length = us.size) (hr : ∀ (i : Nat) (e : V) (u : Value), cs[i]? = some e → us[i]? = some u → Rep w X ι n e u) :
      Rep w X ι n (.fn f cs) (.func (.func f) #[] us)
  | yld {n : Nat} (l : Nat) (hid : l < n) (hb : ι l < w.heap.size) : Rep w X ι n (.yld l) (.func (.yield (ι l)) #[] #[])
  | nilF {n : Nat} : Rep w X ι n .nilF .nilFunc
  | iface {n : Nat} (t : Nat) (x : V) (u : Value) (hr : Rep w X ι n x u) : Rep w X ι n (.iface t x) (.iface t u)
  | nilI {n : Nat} : Rep w X ι n .nilI .nilIface
  | undef {n : Nat} : Rep w X ι n .undef (.tuple #[])

/-- The blocks that an activation may write: those of its objects from number lk on. -/
def Own (σ : Sto) (ι : Nat → Nat) (lk : Nat) (b : Nat) : Prop := ∃ id, lk ≤ id ∧ σ id ≠ none ∧ ι id = b

structure Ext (w w' : World) (X X' : Nat → Prop) (ι ι' : Nat → Nat) (σ σ' : Sto) (n n' lk : Nat) : Prop where
  hn : n ≤ n'
  os : w'.os = w.os
  tape : w'.tape = w.tape
  output : w'.output = w.output
  size : w.heap.size ≤ w'.heap.size
  heap : ∀ b, b < w.heap.size → ¬ Own σ ι lk b → w'.heap[b]? = w.heap[b]?
  cells : ∀ (b : Nat) c t f, w.heap[b]? = some (.cells c t f) → ∃ c', w'.heap[b]? = some (.cells c' t f) ∧ c'.size = c.size
  loops : ∀ (b : Nat) (r : Loop), w.heap[b]? = some (.loop r) → ∃ r', w'.heap[b]? = some (.loop r')
  hι : ∀ id, id < n → ι' id = ι id
  xnew : ∀ b, b < w.heap.size → X' b → X b
  xold : ∀ b, X b → ¬ Own σ ι lk b → X' b
  xlt : ∀ b, X b → b < w.heap.size
  own : ∀ id, lk ≤ id → σ' id ≠ none → ι' id < w.heap.size → Own σ ι lk (ι' id)
  lock : ∀ id, id < lk → σ' id = σ id

/-- Which code is which, the static parts worked in. -/
class Link where
  rel : Nat → Code → AC → Prop

variable [Link]

def stM : LSt → LoopState
  | .ready => .ready
  | .busy => .busy
  | .done => .done

def pendM : Option Ex → Option Code
  | some .ret => some .ret
  | some (.exit id) => some (.exit id)
  | _ => none

structure LoopRep (w : World) (X : Nat → Prop) (ι : Nat → Nat) (n : Nat) (r : Loop) (env : Nat → V) (ps : List Nat) (a b : AC) (st : LSt) (pend : Option Ex) : Prop where
  hst : r.state = stM st
  hpend : r.pending = pendM pend
  hpn : pend ≠ some .normal
  hps : r.params.toList = ps
  code : ∃ N, N ≤ r.tmps.size ∧ (∀ p ∈ ps, p < N) ∧ Link.rel N r.assign a ∧ Link.rel N r.body b
  rep : ∀ t, Rep w X ι n (env t) (r.tmps.getD t undef)

/-- What the store holds stands in memory. -/
structure WF (w : World) (X : Nat → Prop) (ι : Nat → Nat) (σ : Sto) (n : Nat) : Prop where
  row : ∀ id sz xs, σ id = some (.row sz xs) → ∃ (cells : Array Value) (ty : TypeId) (u : Nat → Nat → Value),
      w.heap[ι id]? = some (.cells cells ty (0, 0)) ∧ xs.length * sz ≤ cells.size ∧
      (∀ (i : Nat) (x : V), xs[i]? = some x → x.cells.length = sz ∧ x.cells.all V.one = true) ∧
      (∀ (i : Nat) (x : V) (j : Nat) (e : V), xs[i]? = some x → x.cells[j]? = some e → cells[i * sz + j]? = some (u i j)) ∧
      (∀ (i : Nat) (x : V) (j : Nat) (e : V), xs[i]? = some x → x.cells[j]? = some e → Rep w X ι n e (u i j))
  loop : ∀ l env ps a b st pend, σ l = some (.loop env ps a b st pend) → ∃ r : Loop, w.heap[ι l]? = some (.loop r) ∧ LoopRep w X ι n r env ps a b st pend
  own : ∀ id, σ id ≠ none → X (ι id)
  inj : ∀ id id', σ id ≠ none → σ id' ≠ none → ι id = ι id' → id = id'
  dom : ∀ id, σ id ≠ none → id < n
  xlt : ∀ b, X b → b < w.heap.size

section
variable {w w' w'' : World} {X X' X'' : Nat → Prop} {ι ι' ι'' : Nat → Nat} {σ σ' σ'' : Sto} {n n' n'' lk : Nat}

theorem cell_block {b o : Nat} (h : w'.heap[b]? = w.heap[b]?) : w'.cell? ⟨b, o, none⟩ = w.cell? ⟨b, o, none⟩ := by
  simp only [World.cell?, h]

/-- What a value's standing hangs on. -/
theorem Rep.move' (h1 : w.heap.size ≤ w'.heap.size) (h2 : ∀ b, b < w.heap.size → ¬ X b → w'.heap[b]? = w.heap[b]?)
    (h3 : ∀ (b : Nat) c t f, w.heap[b]? = some (.cells c t f) → ∃ c', w'.heap[b]? = some (.cells c' t f) ∧ c'.size = c.size)
    (h4 : ∀ id, id < n → ι id < w.heap.size → ι' id = ι id) (h5 : ∀ b, b < w.heap.size → X' b → X b) (h6 : n ≤ n') {v : V} {u : Value} (h : Rep w X ι n v u) :
    Rep w' X' ι' n' v u := by
  induction h generalizing n' with
  | int k m => exact .int k m
  | bool b => exact .bool b
  | str s => exact .str s
  | nilS => exact .nilS
  | sl sz xs b o c u hc hX hb hs hm hr ih =>
    exact .sl sz xs b o c u hc (fun hx => hX (h5 b hb hx)) (Nat.lt_of_lt_of_le hb h1) hs
      (fun i x j e hx he => (cell_block (h2 b hb hX)).trans (hm i x j e hx he)) (fun i x j e hx he => ih i x j e hx he (fun id h _ => by omega) (Nat.le_refl _))
  | slE sz c a => exact .slE sz c a
  | ref id off len sz c o cells ty fz hid hc ho hm hz =>
    rw [← h4 id hid (Array.getElem?_eq_some_iff.1 hm).1] at *
    obtain ⟨c', hc', hsz⟩ := h3 _ _ _ _ hm
    exact .ref id off len sz c o c' ty fz (by omega) hc ho hc' (by rw [hsz]; exact hz)
  | agg cs us hl hr ih => exact .agg cs us hl (fun i e u he hu => ih i e u he hu h4 h6)
  | tup cs us hl hr ih => exact .tup cs us hl (fun i e u he hu => ih i e u he hu h4 h6)
  | nilP => exact .nilP
  | ptr id sz i j hid hb => rw [← h4 id hid hb] at *; exact .ptr id sz i j (by omega) (by omega)
  | box cs b o u hX hb h1' hm hr ih =>
    exact .box cs b o u (fun hx => hX (h5 b hb hx)) (Nat.lt_of_lt_of_le hb h1) h1'
      (fun j e he => (cell_block (h2 b hb hX)).trans (hm j e he)) (fun j e he => ih j e he (fun id h _ => by omega) (Nat.le_refl _))
  | fn f cs us hl hr ih => exact .fn f cs us hl (fun i e u he hu => ih i e u he hu h4 h6)
  | yld l hid hb => rw [← h4 l hid hb] at *; exact .yld l (by omega) (by omega)
  | nilF => exact .nilF
  | iface t x u hr ih => exact .iface t x u (ih h4 h6)
  | nilI => exact .nilI
  | undef => exact .undef

theorem Rep.move (h1 : w.heap.size ≤ w'.heap.size) (h2 : ∀ b, b < w.heap.size → ¬ X b → w'.heap[b]? = w.heap[b]?)
    (h3 : ∀ (b : Nat) c t f, w.heap[b]? = some (.cells c t f) → ∃ c', w'.heap[b]? = some (.cells c' t f) ∧ c'.size = c.size)
    (h4 : ∀ id, id < n → ι' id = ι id) (h5 : ∀ b, b < w.heap.size → X' b → X b) (h6 : n ≤ n') {v : V} {u : Value} (h : Rep w X ι n v u) :
    Rep w' X' ι' n' v u := h.move' h1 h2 h3 (fun id hid _ => h4 id hid) h5 h6

/-- A tree stands whatever the numbers of objects stand for. -/
theorem Rep.up {v : V} {u : Value} (h : Rep w X ι 0 v u) : Rep w X ι' n v u :=
  h.move (Nat.le_refl _) (fun _ _ _ => rfl) (fun _ c _ _ h => ⟨c, h, rfl⟩) (fun id h => by omega) (fun _ _ h => h) (Nat.zero_le _)

theorem Own.sub (hw : WF w X ι σ n) {b : Nat} (h : Own σ ι lk b) : X b := by
  obtain ⟨id, _, h1, h2⟩ := h
  exact h2 ▸ hw.own id h1

theorem Rep.ext (hw : WF w X ι σ n) (e : Ext w w' X X' ι ι' σ σ' n n' lk) {v : V} {u : Value} (h : Rep w X ι n v u) : Rep w' X' ι' n' v u :=
  h.move e.size (fun b hb hx => e.heap b hb (fun ho => hx (ho.sub hw))) e.cells e.hι e.xnew e.hn

theorem Ext.refl (hx : ∀ b, X b → b < w.heap.size) : Ext w w X X ι ι σ σ n n lk :=
  ⟨Nat.le_refl _, rfl, rfl, rfl, Nat.le_refl _, fun _ _ _ => rfl, fun _ c _ _ h => ⟨c, h, rfl⟩, fun _ r h => ⟨r, h⟩, fun _ _ => rfl, fun _ _ h => h, fun _ h _ => h, hx,
    fun id hl h _ => ⟨id, hl, h, rfl⟩, fun _ _ => rfl⟩

theorem Ext.trans (e : Ext w w' X X' ι ι' σ σ' n n' lk) (e' : Ext w' w'' X' X'' ι' ι'' σ' σ'' n' n'' lk) : Ext w w'' X X'' ι ι'' σ σ'' n n'' lk where
  hn := Nat.le_trans e.hn e'.hn
  os := e'.os.trans e.os
  tape := e'.tape.trans e.tape
  output := e'.output.trans e.output
  size := Nat.le_trans e.size e'.size
  heap := fun b hb ho => by
    have h1 := e.heap b hb ho
    refine (e'.heap b (Nat.lt_of_lt_of_le hb e.size) ?_).trans h1
    rintro ⟨id, hl, hs, rfl⟩
    exact ho (e.own id hl hs hb)
  cells := fun b c t f h => by
    obtain ⟨c1, h1, z1⟩ := e.cells b c t f h
    obtain ⟨c2, h2, z2⟩ := e'.cells b c1 t f h1
    exact ⟨c2, h2, z2.trans z1⟩
  loops := fun b r h => by
    obtain ⟨r1, h1⟩ := e.loops b r h
    exact e'.loops b r1 h1
  hι := fun id h => (e'.hι id (Nat.lt_of_lt_of_le h e.hn)).trans (e.hι id h)
  xnew := fun b hb h => e.xnew b hb (e'.xnew b (Nat.lt_of_lt_of_le hb e.size) h)
  xold := fun b hx ho => by
    refine e'.xold b (e.xold b hx ho) ?_
    rintro ⟨id, hl, hs, rfl⟩
    exact ho (e.own id hl hs (e.xlt _ hx))
  xlt := e.xlt
  own := fun id hl hs hb => by
    obtain ⟨id', hl', hs', h'⟩ := e'.own id hl hs (Nat.lt_of_lt_of_le hb e.size)
    rw [← h'] at hb ⊢
    exact e.own id' hl' hs' hb
  lock := fun id h => (e'.lock id h).trans (e.lock id h)

theorem WF.empty (w : World) (hx : ∀ b, X b → b < w.heap.size) : WF w X ι Sto.empty n :=
  ⟨fun _ _ _ h => by simp [Sto.empty] at h, fun _ _ _ _ _ _ _ h => by simp [Sto.empty] at h, fun _ h => absurd rfl h, fun _ _ h => absurd rfl h, fun _ h => absurd rfl h, hx⟩

/-- Only counts of draws turned. -/
theorem Ext.draw (hx : ∀ b, X b → b < w.heap.size) (d : Nat) : Ext w { w with drawn := d } X X ι ι σ σ n n lk :=
  ⟨Nat.le_refl _, rfl, rfl, rfl, Nat.le_refl _, fun _ _ _ => rfl, fun _ c _ _ h => ⟨c, h, rfl⟩, fun _ r h => ⟨r, h⟩, fun _ _ => rfl, fun _ _ h => h, fun _ h _ => h, hx,
    fun id hl h _ => ⟨id, hl, h, rfl⟩, fun _ _ => rfl⟩

theorem LoopRep.move (h1 : w.heap.size ≤ w'.heap.size) (h2 : ∀ b, b < w.heap.size → ¬ X b → w'.heap[b]? = w.heap[b]?)
    (h3 : ∀ (b : Nat) c t f, w.heap[b]? = some (.cells c t f) → ∃ c', w'.heap[b]? = some (.cells c' t f) ∧ c'.size = c.size)
    (h4 : ∀ id, id < n → ι' id = ι id) (h5 : ∀ b, b < w.heap.size → X' b → X b) (h6 : n ≤ n') {r : Loop} {env : Nat → V} {ps : List Nat} {a b : AC} {st : LSt} {pend : Option Ex}
    (h : LoopRep w X ι n r env ps a b st pend) : LoopRep w' X' ι' n' r env ps a b st pend :=
  ⟨h.hst, h.hpend, h.hpn, h.hps, h.code, fun t => (h.rep t).move h1 h2 h3 h4 h5 h6⟩

theorem WF.move (hw : WF w X ι σ n) (h1 : w.heap.size ≤ w'.heap.size) (h2 : ∀ b, b < w.heap.size → w'.heap[b]? = w.heap[b]?)
    (h4 : ∀ id, id < n → ι' id = ι id) (h5 : ∀ b, b < w.heap.size → (X' b ↔ X b)) (h6 : n ≤ n') (h7 : ∀ b, X' b → b < w'.heap.size) : WF w' X' ι' σ n' where
  row := fun id sz xs h => by
    have hid := hw.dom id (by rw [h]; simp)
    obtain ⟨cells, ty, u, a1, a2, a3, a4, a5⟩ := hw.row id sz xs h
    have hlt : ι id < w.heap.size := (Array.getElem?_eq_some_iff.1 a1).1
    refine ⟨cells, ty, u, by rw [h4 id hid, h2 _ hlt]; exact a1, a2, a3, a4, fun i x j e hx he => ?_⟩
    exact (a5 i x j e hx he).move h1 (fun b hb _ => h2 b hb) (fun b c t f hh => ⟨c, by rw [h2 b (Array.getElem?_eq_some_iff.1 hh).1]; exact hh, rfl⟩) h4
      (fun b hb hx => (h5 b hb).1 hx) h6
  loop := fun l env ps a b st pend h => by
    have hid := hw.dom l (by rw [h]; simp)
    obtain ⟨r, a1, a2⟩ := hw.loop l env ps a b st pend h
    have hlt : ι l < w.heap.size := (Array.getElem?_eq_some_iff.1 a1).1
    exact ⟨r, by rw [h4 l hid, h2 _ hlt]; exact a1, a2.move h1 (fun b hb _ => h2 b hb) (fun b c t f hh => ⟨c, by rw [h2 b (Array.getElem?_eq_some_iff.1 hh).1]; exact hh, rfl⟩) h4
      (fun b hb hx => (h5 b hb).1 hx) h6⟩
  own := fun id h => by
    have hid := hw.dom id h
    have := hw.own id h
    rw [h4 id hid]
    exact (h5 _ (hw.xlt _ this)).2 this
  inj := fun id id' h h' he => hw.inj id id' h h' (by rw [← h4 id (hw.dom id h), ← h4 id' (hw.dom id' h')]; exact he)
  dom := fun id h => Nat.lt_of_lt_of_le (hw.dom id h) h6
  xlt := h7

/-- A new object. -/
def setι (ι : Nat → Nat) (n b : Nat) : Nat → Nat := fun id => if id = n then b else ι id
def addX (X : Nat → Prop) (b : Nat) : Nat → Prop := fun k => X k ∨ k = b

theorem Ext.new (hw : WF w X ι σ n) (hl : lk ≤ n) (cells : Array Value) (ty : TypeId) (o : Ob) :
    Ext w (w.alloc (.cells cells ty)) X (addX X w.heap.size) ι (setι ι n w.heap.size) σ (upd σ n (some o)) n (n + 1) lk where
  hn := by omega
  os := rfl
  tape := rfl
  output := rfl
  size := by simp
  heap := fun b hb _ => Go.RowKit.Below.heap_alloc _ _ _ hb
  cells := fun b c t f h => ⟨c, by rw [Go.RowKit.Below.heap_alloc _ _ _ (Array.getElem?_eq_some_iff.1 h).1]; exact h, rfl⟩
  loops := fun b r h => ⟨r, by rw [Go.RowKit.Below.heap_alloc _ _ _ (Array.getElem?_eq_some_iff.1 h).1]; exact h⟩
  hι := fun id h => by simp [setι]; omega
  xnew := fun b hb h => by rcases h with h | h; exact h; omega
  xold := fun b h _ => .inl h
  xlt := hw.xlt
  own := fun id hl' h hb => by
    by_cases e : id = n
    · simp [setι, e] at hb
    · simp only [setι, upd, e, if_false] at *
      exact ⟨id, hl', h, rfl⟩
  lock := fun id h => by simp [upd]; omega

theorem new_row (hw : WF w X ι σ n) {cells : Array Value} {ty : TypeId} {sz : Nat} {xs : List V} (u : Nat → Nat → Value) (hz : xs.length * sz ≤ cells.size)
    (hs : ∀ (i : Nat) (x : V), xs[i]? = some x → x.cells.length = sz ∧ x.cells.all V.one = true)
    (hm : ∀ (i : Nat) (x : V) (j : Nat) (e : V), xs[i]? = some x → x.cells[j]? = some e → cells[i * sz + j]? = some (u i j))
    (hr : ∀ (i : Nat) (x : V) (j : Nat) (e : V), xs[i]? = some x → x.cells[j]? = some e → Rep w X ι n e (u i j)) :
    WF (w.alloc (.cells cells ty)) (addX X w.heap.size) (setι ι n w.heap.size) (upd σ n (some (.row sz xs))) (n + 1) := by
  have hm1 : WF (w.alloc (.cells cells ty)) (addX X w.heap.size) (setι ι n w.heap.size) σ (n + 1) :=
    hw.move (by simp) (fun b hb => Go.RowKit.Below.heap_alloc _ _ _ hb) (fun id h => by simp [setι]; omega)
      (fun b hb => ⟨fun h => by rcases h with h | h; exact h; omega, fun h => .inl h⟩) (by omega)
      (fun b h => by rcases h with h | h; have := hw.xlt b h; simp; omega; simp; omega)
  have hnew : (w.alloc (.cells cells ty)).heap[w.heap.size]? = some (.cells cells ty (0, 0)) := by
    show (w.heap.push _)[w.heap.size]? = _
    simp
  have hn : σ n = none := by
    cases h : σ n with
    | none => rfl
    | some o => have := hw.dom n (by rw [h]; simp); omega
  constructor
  · intro id sz' xs' h
    by_cases e : id = n
    · subst e
      simp only [upd, if_true, Option.some.injEq, Ob.row.injEq] at h
      obtain ⟨rfl, rfl⟩ := h
      refine ⟨cells, ty, u, by simpa [setι] using hnew, hz, hs, hm, fun i x j e hx he => ?_⟩
      exact (hr i x j e hx he).move (by simp) (fun b hb _ => Go.RowKit.Below.heap_alloc _ _ _ hb)
        (fun b c t f hh => ⟨c, by rw [Go.RowKit.Below.heap_alloc _ _ _ (Array.getElem?_eq_some_iff.1 hh).1]; exact hh, rfl⟩)
        (fun id h => by simp [setι]; omega) (fun b hb h => by rcases h with h | h; exact h; omega) (by omega)
    · simp only [upd, e, if_false] at h
      exact hm1.row id sz' xs' h
  · intro l env ps a b st pend h
    by_cases e : l = n
    · subst e; simp [upd] at h
    · simp only [upd, e, if_false] at h
      exact hm1.loop l env ps a b st pend h
  · intro id h
    by_cases e : id = n
    · subst e; right; simp [setι]
    · simp only [upd, e, if_false] at h; exact hm1.own id h
  · intro id id' h h' he
    have hlt : ∀ i, σ i ≠ none → setι ι n w.heap.size i < w.heap.size := fun i hi => by
      have := hw.dom i hi
      have h2 := hw.xlt _ (hw.own i hi)
      simp [setι]; split <;> omega
    by_cases e : id = n <;> by_cases e' : id' = n
    · omega
    · simp only [upd, e', if_false] at h'
      have := hlt id' h'
      rw [← he, e] at this; simp [setι] at this
    · simp only [upd, e, if_false] at h
      have := hlt id h
      rw [he, e'] at this; simp [setι] at this
    · simp only [upd, e, e', if_false] at h h'
      exact hm1.inj id id' h h' he
  · intro id h
    by_cases e : id = n
    · omega
    · simp only [upd, e, if_false] at h; exact hm1.dom id h
  · exact hm1.xlt

end
end Go.Q
