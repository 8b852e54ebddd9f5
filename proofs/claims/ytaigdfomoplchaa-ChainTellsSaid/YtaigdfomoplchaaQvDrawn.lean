/- A region that draws its order, as a whole. -/
import Derived.Test.YtaigdfomoplchaaQvDraw
set_option linter.unusedSimpArgs false
set_option linter.unusedVariables false
set_option linter.unusedSectionVars false
namespace Go.Q
variable [Link]

section
variable {P : Program} {T : Tab} {B : Base} {r : Option Nat} {N n0 tot : Nat} {ops : Array Oper} {bef : List Nat} {ds : List DOp} {L : Nat → Prop} {s : St} {a : Act} {w : World}
  {X : Nat → Prop} {ι : Nat → Nat}

/-- An operation that is not wanted. -/
theorem draw_skip (h : DAt B r N n0 ds L s a w X ι) {i : Nat} {dst : Option Nat} (hdst : fits N dst = true) :
    DAt B r N n0 ds (fun j => L j ∨ j = i) (s.put dst .undef) (a.put dst undef) w X ι := by
  have hL' : ∀ j, L j → (L j ∨ j = i) := fun j hj => .inl hj
  have hσ : (s.put dst .undef).σ = s.σ := by cases dst <;> rfl
  have hlk' : (s.put dst .undef).lk = s.lk := put_lk
  have hn' : (s.put dst .undef).n = s.n := put_n
  exact {
    hn := by rw [hn']; exact h.hn
    hlk := by rw [hlk']; exact h.hlk
    le := h.le
    size := by cases dst <;> simpa [Act.put] using h.size
    marks := by cases dst <;> simpa [Act.put] using h.marks
    rnd := h.rnd
    ext := by rw [hσ]; exact h.ext
    own := by rw [hσ]; exact h.own
    inj := by rw [hσ]; exact h.inj
    xlt := h.xlt
    dom := fun id hs => by rw [hσ] at hs; exact (h.dom id hs).imp_right (InR.mono hL')
    ob := fun id o hs => by
      rw [hσ] at hs
      obtain ⟨m, hb, ho⟩ := h.ob id o hs
      exact ⟨m, hb.mono hL', ho⟩
    rep := fun t => by
      have old : ∃ m, Bt ds n0 (fun j => L j ∨ j = i) t m ∧ Rep w X ι m (s.env t) (a.tmps.getD t undef) := by
        obtain ⟨m, hb, hr⟩ := h.rep t
        exact ⟨m, hb.mono hL', hr⟩
      cases dst with
      | none => simpa [St.put, Act.put] using old
      | some q =>
        have hq : q < a.tmps.size := Nat.lt_of_lt_of_le (by simpa [fits] using hdst) h.size
        by_cases e : t = q
        · subst e
          refine ⟨n0, .inl rfl, ?_⟩
          simp only [St.put, Act.put, if_true, Array.getD_eq_getD_getElem?, Array.getElem?_setIfInBounds_self_of_lt hq, Option.getD_some]
          exact .undef
        · obtain ⟨m, h1, h2⟩ := old
          refine ⟨m, h1, ?_⟩
          simp only [St.put, Act.put, e, if_false, Array.getD_eq_getD_getElem?, Array.getElem?_setIfInBounds_ne (Ne.symm e)]
          simpa [Array.getD_eq_getD_getElem?] using h2
    res := fun id hid hnot => h.res id hid (fun hh => hnot (hh.mono hL')) }

theorem no_select {o : Oper} {ai : AI} (hc : cOp P o = some ai) : (∀ cs b, o.op ≠ .select cs b) ∧ ∀ c, o.op ≠ .defer c := by
  obtain ⟨dst, op, ty, pos, after, guard⟩ := o
  constructor
  · intro cs b e
    simp only at e; subst e
    simp [cOp] at hc
  · intro c e
    simp only at e; subst e
    simp [cOp] at hc

/-- One operation, run. -/
theorem draw_step {lo : Nat} (st : Sta P N ops bef ds tot lo) (h : DAt B r N n0 ds L s a w X ι) {i : Nat} {d : DOp} (hd : ds[i]? = some d) (hL : ¬ L i) (hLb : ∀ j, L j → j < ds.length)
    (hcl : ∀ j k, L j → k < ds.length → befAt bef (lo + j) (lo + k) = true → L k) {K : St → Prop} (hs : stepD T (sndC P T) n0 d s K) {Qm : Exit → Act → World → Prop} {Km : Act → World → Prop}
    (hK : ∀ s' a' w' X' ι', DAt B r N n0 ds (fun j => L j ∨ j = i) s' a' w' X' ι' → K s' → Km a' w') : wpOpIn (Fw r) 0 P ops Qm (lo + i) Km a w := by
  obtain ⟨o, ho, hao, hrd⟩ := st.hcomp i d hd
  obtain ⟨h1, h2, h3⟩ := cOper_spec hao
  have hwant := wants_iff' (fun t => by obtain ⟨m, _, hr⟩ := h.rep t; exact ⟨m, hr⟩) hao
  unfold wpOpIn
  simp only [ho]
  unfold stepD at hs
  split at hs <;> rename_i hw
  · rw [hwant] at hw
    rw [if_pos hw]
    have od := st.ord (n0 := n0) hd hL hLb hcl
    rw [opD_eq] at hs
    have hs' : opW T (sndC P T) false (seenV d s) (d.view n0 s.σ) (d.lab n0) (d.lok n0 s.lk) d.o.op
        (fun v σo n' => n' ≤ d.top n0 ∧ K (({ s with σ := d.fin n0 s.σ σo } : St).put d.o.dst v)) := by
      refine opW_congr (fun x hx => ?_) hs
      cases x with
      | con v => rfl
      | tmp t =>
        have ht : t ∈ d.o.reads := by
          simp only [AOp.reads, List.mem_append]
          exact .inl (List.mem_filterMap.2 ⟨.tmp t, hx, rfl⟩)
        simp [seenV, St.val, ht]
    have hvw := view_wf h od
    have hlok : d.lok n0 s.lk ≤ d.lab n0 := by
      unfold DOp.lok
      split
      · rw [h.hlk]; have := h.le; unfold DOp.lab; omega
      · exact Nat.le_refl _
    have hsay := opW_says hvw (fun x x' hx => seen_rep h od hx) h1 hs'
    obtain ⟨hsel, hdef⟩ := no_select h1
    have hxx : execOp a.eval o = execOp (seen d a) o := by
      refine execOp_congr o hsel (fun x hx => ?_)
      cases x with
      | tmp t =>
        have ht := hrd t (by simpa using hx)
        simp [seen, ht, Act.eval]
      | const v => rfl
      | global g => rfl
      | func f => rfl
    have hto := opW_sound' (r := r) (a := a) hvw hlok (fun x x' hx => seen_rep h od hx) (fun _ => rfl) (fun _ => rfl) (fun _ => rfl) hxx h1 hsay
    refine hto Km Qm (fun u w' hres => ?_)
    obtain ⟨v, σo, n', X', ι', ⟨⟨htop, hk⟩, hsy⟩, hrep, hwf, hext⟩ := hres
    obtain ⟨ι2, hnext⟩ := draw_next h hd od (st.hcon i d hd) (by rw [h2]; exact h3) hrep hwf hext hsy htop
    rw [← h2]
    exact hK _ _ _ _ _ hnext hk
  · rw [hwant] at hw
    rw [if_neg hw]
    refine ⟨fun _ _ => trivial, ?_⟩
    rw [← h2]
    exact hK _ _ _ _ _ (draw_skip h (by rw [h2]; exact h3)) hs

/-- What is not done yet, in the order of the text. -/
structure RestOf (ds : List DOp) (lo : Nat) (listed : Array Bool) (rest : List (Nat × DOp)) : Prop where
  sorted : rest.Pairwise (fun p q => p.1 < q.1)
  mem : ∀ j d, (j, d) ∈ rest ↔ ds[j]? = some d ∧ listed[lo + j]? = some false

/-- All ahead of h are done. -/
def upTo (n h : Nat) : Array Bool := ((List.range n).map fun i => decide (i < h)).toArray

theorem upTo_size {n h : Nat} : (upTo n h).size = n := by simp [upTo]
theorem upTo_get {n h i : Nat} (hi : i < n) : (upTo n h)[i]? = some (decide (i < h)) := by simp [upTo, hi]

theorem upTo_eq {n h : Nat} {l : Array Bool} (hs : l.size = n) (hl : ∀ i, i < n → l[i]? = some (decide (i < h))) : l = upTo n h := by
  apply Array.ext_getElem?
  intro i
  by_cases hi : i < n
  · rw [hl i hi, upTo_get hi]
  · rw [Array.getElem?_eq_none (by omega), Array.getElem?_eq_none (by rw [upTo_size]; omega)]

theorem bar_spec {n h : Nat} (hb : bar bef n h = true) {i j : Nat} (hi : i < h) (hj : h ≤ j) (hjn : j < n) : befAt bef j i = true := by
  simp only [bar, List.all_eq_true, List.mem_range, Bool.or_eq_true, decide_eq_true_eq] at hb
  rcases hb j hjn with h1 | h1
  · omega
  · exact h1 i hi

/-- What is ready. -/
theorem ready_spec {os : List AOp} (hr : RegSt P N ops bef os) {listed : Array Bool} (hsz : listed.size = ops.size) {i : Nat} (hi : i ∈ Region.ready .any ops listed) :
    ∃ o, i < ops.size ∧ ops[i]? = some o ∧ listed[i]? = some false ∧ ∀ e ∈ o.after.toList, Region.binds .any e = true → listed[e.on]? = some true := by
  simp only [Region.ready, List.mem_filter, List.mem_range, Bool.and_eq_true, Bool.not_eq_true', Array.getD_eq_getD_getElem?] at hi
  obtain ⟨hlt, hl, hall⟩ := hi
  have hil : i < listed.size := by omega
  have hoi : ops[i]? = some ops[i] := Array.getElem?_eq_getElem hlt
  refine ⟨ops[i], hlt, hoi, ?_, fun e he hb => ?_⟩
  · rw [Array.getElem?_eq_getElem hil] at hl ⊢
    simpa using hl
  · rw [hoi] at hall
    simp only [Option.map_some, Option.getD_some, Array.all_eq_true'] at hall
    have := hall e (by simpa using he)
    simp only [hb, Bool.not_true, Bool.false_or] at this
    cases hx : listed[e.on]? with
    | none => rw [hx] at this; simp at this
    | some b => rw [hx] at this; simp at this; rw [this]

/-- The first that is not done is ready. -/
theorem ready_first {os : List AOp} (hr : RegSt P N ops bef os) {listed : Array Bool} (hsz : listed.size = ops.size) {i : Nat} (hi : i < ops.size) (hf : listed[i]? = some false)
    (hall : ∀ j, j < i → listed[j]? = some true) : i ∈ Region.ready .any ops listed := by
  have hoi : ops[i]? = some ops[i] := Array.getElem?_eq_getElem hi
  simp only [Region.ready, List.mem_filter, List.mem_range, Bool.and_eq_true, Bool.not_eq_true', Array.getD_eq_getD_getElem?, hf, Option.getD_some, hoi, Option.map_some, true_and]
  refine ⟨hi, ?_⟩
  rw [Array.all_eq_true']
  intro e he
  cases hb : Region.binds .any e with
  | false => rfl
  | true =>
    have hlt := hr.hedge i _ hoi e (by simpa using he) hb
    simp only [Bool.not_true, Bool.false_or]
    rw [hall e.on hlt]; rfl

theorem ready_pred {os : List AOp} (hr : RegSt P N ops bef os) {listed : Array Bool} (hsz : listed.size = ops.size)
    (hcl : ∀ j k, listed[j]? = some true → k < ops.size → befAt bef j k = true → listed[k]? = some true) {i : Nat} (hi : i ∈ Region.ready .any ops listed) {k : Nat} (hk : k < ops.size)
    (hb : befAt bef i k = true) : listed[k]? = some true := by
  obtain ⟨o, hlt, ho, hl, hpre⟩ := ready_spec hr hsz hi
  obtain ⟨-, e, he, hbe, hor⟩ := hr.hbef i o k ho hk hb
  have hel := hpre e he hbe
  rcases hor with rfl | hor
  · exact hel
  · exact hcl e.on k hel hk hor

theorem draw_any {lo : Nat} {os : List AOp} (hr : RegSt P N ops bef os) (st : Sta P N ops bef ds tot lo) (hbar : bar bef ops.size (lo + ds.length) = true) {Qm : Exit → Act → World → Prop} {Q : St → Prop}
    (hQ : ∀ (L : Nat → Prop) s a w X ι, DAt B r N n0 ds L s a w X ι → Q s → wpAnyIn (Fw r) 0 P .any ops Qm (ops.size - (lo + ds.length)) (upTo ops.size (lo + ds.length)) a w) :
    ∀ (fuel : Nat) (listed : Array Bool) (rest : List (Nat × DOp)) (s : St) (a : Act) (w : World)
    (X : Nat → Prop) (ι : Nat → Nat), listed.size = ops.size → RestOf ds lo listed rest → rest.length = fuel → (∀ i, i < lo → listed[i]? = some true) →
    (∀ i, lo + ds.length ≤ i → i < ops.size → listed[i]? = some false) → DAt B r N n0 ds (fun j => j < ds.length ∧ listed[lo + j]? = some true) s a w X ι →
    (∀ j k, listed[j]? = some true → k < ops.size → befAt bef j k = true → listed[k]? = some true) → wpD T (sndC P T) n0 (rest.map (·.2)) s Q →
    wpAnyIn (Fw r) 0 P .any ops Qm (fuel + (ops.size - (lo + ds.length))) listed a w := by
  intro fuel
  have hwin := st.hwin
  induction fuel with
  | zero =>
    intro listed rest s a w X ι hsz hre hlen hlo hhi h hcl hw
    have hnil : rest = [] := by cases rest; rfl; simp at hlen
    subst hnil
    have : listed = upTo ops.size (lo + ds.length) := upTo_eq hsz (fun i hi => by
      by_cases h1 : i < lo
      · rw [hlo i h1]; simp; omega
      · by_cases h2 : i < lo + ds.length
        · have hdi : i - lo < ds.length := by omega
          have hli : i < listed.size := by omega
          cases hx : listed[i] with
          | true => rw [Array.getElem?_eq_getElem hli, hx]; simp [h2]
          | false =>
            have := (hre.mem (i - lo) ds[i - lo]).2 ⟨List.getElem?_eq_getElem hdi, by rw [show lo + (i - lo) = i by omega, Array.getElem?_eq_getElem hli, hx]⟩
            simp at this
        · rw [hhi i (by omega) hi]; simp [h2])
    rw [this, Nat.zero_add]
    exact hQ _ s a w X ι h hw
  | succ fuel ih =>
    intro listed rest s a w X ι hsz hre hlen hlo hhi h hcl hw
    rw [show fuel + 1 + (ops.size - (lo + ds.length)) = (fuel + (ops.size - (lo + ds.length))) + 1 by omega]
    refine ⟨fun hnil => ?_, fun i hi => ?_⟩
    · cases rest with
      | nil => simp at hlen
      | cons p rest =>
        obtain ⟨j, d⟩ := p
        obtain ⟨hjd, hjl⟩ := (hre.mem j d).1 (by simp)
        have hj : j < ds.length := (List.getElem?_eq_some_iff.1 hjd).1
        have := ready_first hr hsz (i := lo + j) (by omega) hjl (fun q hq => by
          by_cases h1 : q < lo
          · exact hlo q h1
          · have hdi : q - lo < ds.length := by omega
            have hli : q < listed.size := by omega
            cases hx : listed[q] with
            | true => rw [Array.getElem?_eq_getElem hli, hx]
            | false =>
              exfalso
              have hm := (hre.mem (q - lo) ds[q - lo]).2 ⟨List.getElem?_eq_getElem hdi, by rw [show lo + (q - lo) = q by omega, Array.getElem?_eq_getElem hli, hx]⟩
              rcases List.mem_cons.1 hm with h | h
              · have : q - lo = j := congrArg Prod.fst h
                omega
              · have := (List.pairwise_cons.1 hre.sorted).1 _ h
                simp only at this
                omega)
        rw [hnil] at this
        simp at this
    · obtain ⟨o, hilt, ho, hl, hpre⟩ := ready_spec hr hsz hi
      have hpred : ∀ k, k < ops.size → befAt bef i k = true → listed[k]? = some true := fun k hk hb => ready_pred hr hsz hcl hi hk hb
      -- it lies in this part
      have hi1 : lo ≤ i := by
        by_cases h1 : i < lo
        · rw [hlo i h1] at hl; cases hl
        · omega
      have hi2 : i < lo + ds.length := by
        by_cases h2 : i < lo + ds.length
        · exact h2
        · exfalso
          cases rest with
          | nil => simp at hlen
          | cons p rest =>
            obtain ⟨j, d⟩ := p
            obtain ⟨hjd, hjl⟩ := (hre.mem j d).1 (by simp)
            have hj : j < ds.length := (List.getElem?_eq_some_iff.1 hjd).1
            have := hpred (lo + j) (by omega) (bar_spec hbar (by omega) (by omega) hilt)
            rw [hjl] at this; cases this
      obtain ⟨k, rfl⟩ : ∃ k, i = lo + k := ⟨i - lo, by omega⟩
      have hk : k < ds.length := by omega
      have hd : ds[k]? = some ds[k] := List.getElem?_eq_getElem hk
      generalize ds[k] = d at hd
      have hmem := (hre.mem k d).2 ⟨hd, hl⟩
      obtain ⟨l1, l2, rfl⟩ := List.append_of_mem hmem
      have hil : lo + k < listed.size := (Array.getElem?_eq_some_iff.1 hl).1
      have hs := List.pairwise_append.1 hre.sorted
      have hs2 := List.pairwise_cons.1 hs.2.1
      -- what stands ahead may come behind
      have hsep : ∀ e ∈ l1.map (·.2), Sep e d := by
        intro e he
        obtain ⟨⟨j, e'⟩, hje, rfl⟩ := List.mem_map.1 he
        obtain ⟨hjd, hjl⟩ := (hre.mem j e').1 (by simp [hje])
        have hji : j < k := hs.2.2 (j, e') hje (k, d) (by simp)
        obtain ⟨oj, hoj, -⟩ := st.hcomp j e' hjd
        obtain ⟨p1, p2⟩ := st.hpair j k e' d hji hjd hd
        refine ⟨p2 ?_, p1⟩
        have b1 : befAt bef (lo + k) (lo + j) = false := by
          cases hb : befAt bef (lo + k) (lo + j) with
          | false => rfl
          | true => have := hpred (lo + j) (by omega) hb; rw [hjl] at this; cases this
        have b2 : befAt bef (lo + j) (lo + k) = false := by
          cases hb : befAt bef (lo + j) (lo + k) with
          | false => rfl
          | true =>
            have := (st.hbef (lo + j) oj (lo + k) hoj (by omega) hb).1
            omega
        unfold befAt at b1 b2
        simp [apart, b1, b2]
      have hw' : wpD T (sndC P T) n0 (d :: (l1.map (·.2) ++ l2.map (·.2))) s Q := swapL (sndC_mono P T) _ _ s hsep (by simpa using hw)
      rw [wpD_cons] at hw'
      have hL' : ∀ q, ((listed.setIfInBounds (lo + k) true)[q]? = some true) ↔ (listed[q]? = some true ∨ q = lo + k) := by
        intro q
        by_cases e : lo + k = q
        · subst e; simp [hil]
        · rw [Array.getElem?_setIfInBounds_ne e]
          constructor
          · exact .inl
          · rintro (h | h)
            · exact h
            · exact absurd h.symm e
      refine draw_step st h hd (by rw [hl]; simp) (fun j hj => hj.1) (fun j q hj hq hb => ⟨hq, hcl (lo + j) (lo + q) hj.2 (by omega) hb⟩) hw' (fun s' a' w' X' ι' h' hw'' => ?_)
      refine ih (listed.setIfInBounds (lo + k) true) (l1 ++ l2) s' a' w' X' ι' (by simpa using hsz) ⟨?_, fun j e => ?_⟩ (by simp at hlen ⊢; omega) (fun q hq => (hL' q).2 (.inl (hlo q hq)))
        (fun q hq hqn => by rw [Array.getElem?_setIfInBounds_ne (by omega)]; exact hhi q hq hqn) ?_ (fun j q hj hq hb => ?_) (by simpa using hw'')
      · exact List.pairwise_append.2 ⟨hs.1, hs2.2, fun p hp q hq => hs.2.2 p hp q (List.mem_cons_of_mem _ hq)⟩
      · have hne : ∀ e', (k, e') ∉ l1 ++ l2 := fun e' hm => by
          rcases List.mem_append.1 hm with hm | hm
          · have : k < k := hs.2.2 _ hm (k, d) (by simp)
            omega
          · have : k < k := hs2.1 _ hm
            omega
        by_cases ej : k = j
        · subst ej
          refine ⟨fun hm => absurd hm (hne e), fun hh => ?_⟩
          have := hh.2
          simp [hil] at this
        · rw [Array.getElem?_setIfInBounds_ne (by omega)]
          rw [← hre.mem j e]
          simp only [List.mem_append, List.mem_cons, Prod.mk.injEq]
          constructor
          · rintro (h | h)
            · exact .inl h
            · exact .inr (.inr h)
          · rintro (h | h | h)
            · exact .inl h
            · exact absurd h.1.symm ej
            · exact .inr h
      · have : (fun j => j < ds.length ∧ (listed.setIfInBounds (lo + k) true)[lo + j]? = some true) = fun j => (j < ds.length ∧ listed[lo + j]? = some true) ∨ j = k := funext fun j => propext (by
          rw [hL']
          constructor
          · rintro ⟨h1, h2 | h2⟩
            · exact .inl ⟨h1, h2⟩
            · exact .inr (by omega)
          · rintro (⟨h1, h2⟩ | rfl)
            · exact ⟨h1, .inl h2⟩
            · exact ⟨hk, .inr rfl⟩)
        rw [this]; exact h'
      · rcases (hL' j).1 hj with hj | rfl
        · exact (hL' q).2 (.inl (hcl j q hj hq hb))
        · exact (hL' q).2 (.inl (hpred q hq hb))

/-- A part begins. -/
theorem draw_start (hat : At B r N s a w X ι) : DAt B r N s.n ds (fun _ => False) s a w X (fun id => if id < s.n then ι id else w.heap.size) := by
  have hι0 : ∀ id, id < s.n → (fun id => if id < s.n then ι id else w.heap.size) id = ι id := fun id h => by simp [h]
  have h1 : Ext w w X X ι (fun id => if id < s.n then ι id else w.heap.size) s.σ s.σ s.n s.n B.lk := {
    hn := Nat.le_refl _, os := rfl, tape := rfl, output := rfl, size := Nat.le_refl _, heap := fun _ _ _ => rfl, cells := fun b c t f h => ⟨c, h, rfl⟩, loops := fun _ q h => ⟨q, h⟩
    hι := hι0, xnew := fun _ _ h => h, xold := fun _ h _ => h, xlt := hat.wf.xlt
    own := fun id h1 h2 h3 => by
      have := hat.wf.dom id h2
      exact ⟨id, h1, h2, (hι0 id this).symm⟩
    lock := fun _ _ => rfl }
  have hwf : WF w X (fun id => if id < s.n then ι id else w.heap.size) s.σ s.n := hat.wf.move (Nat.le_refl _) (fun _ _ => rfl) hι0 (fun _ _ => Iff.rfl) (Nat.le_refl _) hat.wf.xlt
  exact {
    hn := rfl, hlk := hat.hlk, le := hat.le, size := hat.size
    marks := hat.marks
    rnd := hat.rnd
    ext := hat.ext.trans h1
    own := hwf.own, inj := hwf.inj, xlt := hwf.xlt
    dom := fun id hs => .inl (hwf.dom id hs)
    ob := fun id o hs => ⟨s.n, .inl rfl, hwf.ob hs⟩
    rep := fun t => ⟨s.n, .inl rfl, (hat.rep t).ext hat.wf h1⟩
    res := fun id hid _ => by
      have : ¬ id < s.n := by omega
      simp only [this, if_false]
      exact Nat.le_refl _ }

/-- A part ends. -/
theorem draw_end {lo : Nat} (st : Sta P N ops bef ds tot lo) {s : St} (h' : DAt B r N n0 ds L s a w X ι) : At B r N { s with n := n0 + BIG * tot } a w X ι := by
  have htop : ∀ (j : Nat) (d : DOp), ds[j]? = some d → d.top n0 ≤ n0 + BIG * tot := fun j d hd => by
    have h0 := st.htop j d hd
    unfold DOp.top DOp.lab
    cases hl : d.lays with
    | true =>
      rw [hl] at h0
      simp only [if_true] at h0 ⊢
      have := Nat.mul_le_mul_left BIG h0
      rw [Nat.mul_add, Nat.mul_one] at this
      omega
    | false =>
      rw [hl] at h0
      simp only [Bool.false_eq_true, if_false, Nat.add_zero] at h0 ⊢
      have := Nat.mul_le_mul_left BIG h0
      omega
  refine ⟨WF.of_ob (fun id o hs => ?_) h'.own h'.inj (fun id hs => ?_) h'.xlt, h'.hlk, ?_, h'.size, fun t => ?_, ?_, h'.marks, h'.rnd⟩
  · obtain ⟨m, hb, ho⟩ := h'.ob id o hs
    have hm : m ≤ n0 + BIG * tot := by
      rcases hb with rfl | ⟨j, d, _, hd, _, rfl, _⟩
      · omega
      · exact htop j d hd
    exact ho.move' (Nat.le_refl _) (fun _ _ _ => rfl) (fun _ c _ _ h => ⟨c, h, rfl⟩) (fun _ _ _ => rfl) (fun _ _ h => h) hm rfl
  · show id < n0 + BIG * tot
    rcases h'.dom id hs with h0 | ⟨j, d, _, hd, hl, _, hr⟩
    · omega
    · have := htop j d hd
      simp only [DOp.top, hl, if_true] at this
      omega
  · have := h'.le
    show B.lk ≤ n0 + BIG * tot
    omega
  · obtain ⟨m, hb, hr⟩ := h'.rep t
    have hm : m ≤ n0 + BIG * tot := by
      rcases hb with rfl | ⟨j, d, _, hd, _, rfl⟩
      · omega
      · exact htop j d hd
    exact hr.move (Nat.le_refl _) (fun _ _ _ => rfl) (fun _ c _ _ h => ⟨c, h, rfl⟩) (fun _ _ => rfl) (fun _ _ h => h) hm
  · have he := h'.ext
    exact { he with hn := Nat.le_trans he.hn (Nat.le_add_right _ _) }

/-- Operations that come one by one. -/
theorem draw_ones {os : List AOp} (hr : RegSt P N ops bef os) {Qm : Exit → Act → World → Prop} {Q : St → Prop} {hi : Nat}
    (hQ : ∀ s a w X ι, At B r N s a w X ι → Q s → wpAnyIn (Fw r) 0 P .any ops Qm (ops.size - hi) (upTo ops.size hi) a w) :
    ∀ (l : List AOp) (lo : Nat) (s : St) (a : Act) (w : World) (X : Nat → Prop) (ι : Nat → Nat), lo + l.length = hi → hi ≤ ops.size → (∀ (i : Nat) (o : AOp), l[i]? = some o → os[lo + i]? = some o) →
      (∀ i, i < l.length → bar bef ops.size (lo + (i + 1)) = true) → At B r N s a w X ι → wpR T (sndC P T) l s Q → wpAnyIn (Fw r) 0 P .any ops Qm (ops.size - lo) (upTo ops.size lo) a w
  | [], lo, s, a, w, X, ι, hlo, hle, hget, hbar, h, hw => by
    simp at hlo
    subst hlo
    exact hQ s a w X ι h hw
  | ao :: l, lo, s, a, w, X, ι, hlo, hle, hget, hbar, h, hw => by
    simp only [List.length_cons] at hlo hbar
    have hlt : lo < ops.size := by omega
    rw [show ops.size - lo = (ops.size - (lo + 1)) + 1 by omega]
    obtain ⟨o, ho, hao, -, -⟩ := hr.hcomp lo ao (hget 0 ao rfl)
    have hcl : ∀ j k, (upTo ops.size lo)[j]? = some true → k < ops.size → befAt bef j k = true → (upTo ops.size lo)[k]? = some true := by
      intro j k hj hk hb
      have hjn : j < ops.size := by have := (Array.getElem?_eq_some_iff.1 hj).1; rwa [upTo_size] at this
      rw [upTo_get hjn] at hj
      simp at hj
      have hoj : ops[j]? = some ops[j] := Array.getElem?_eq_getElem hjn
      have := (hr.hbef j _ k hoj hk hb).1
      rw [upTo_get hk]; simp; omega
    refine ⟨fun hnil => ?_, fun i hi' => ?_⟩
    · have := ready_first hr (listed := upTo ops.size lo) upTo_size hlt (by rw [upTo_get hlt]; simp) (fun j hj => by rw [upTo_get (by omega)]; simp [hj])
      rw [hnil] at this
      simp at this
    · have hil := ready_spec hr upTo_size hi'
      obtain ⟨o', hin, ho', hl, -⟩ := hil
      rw [upTo_get hin] at hl
      simp at hl
      have hi0 : i = lo := by
        by_cases e : i = lo
        · exact e
        · exfalso
          have := ready_pred hr upTo_size hcl hi' hlt (bar_spec (hbar 0 (by omega)) (i := lo) (j := i) (by omega) (by omega) hin)
          rw [upTo_get hlt] at this
          simp at this
      subst hi0
      have hset : (upTo ops.size i).setIfInBounds i true = upTo ops.size (i + 1) := upTo_eq (by rw [Array.size_setIfInBounds, upTo_size]) (fun j hj => by
        by_cases e : i = j
        · subst e
          rw [Array.getElem?_setIfInBounds_self_of_lt (by rw [upTo_size]; exact hin)]; simp
        · rw [Array.getElem?_setIfInBounds_ne e, upTo_get hj]
          congr 1
          exact decide_eq_decide.2 (by omega))
      rw [hset]
      obtain ⟨h1, h2, h3⟩ := cOper_spec hao
      simp only [wpR] at hw
      rw [wants_iff h hao] at hw
      have next : ∀ s' a' w' X' ι', At B r N s' a' w' X' ι' → wpR T (sndC P T) l s' Q → wpAnyIn (Fw r) 0 P .any ops Qm (ops.size - (i + 1)) (upTo ops.size (i + 1)) a' w' :=
        fun s' a' w' X' ι' h' hw' => draw_ones hr hQ l (i + 1) s' a' w' X' ι' (by omega) hle (fun q o hq => by have := hget (q + 1) o (by simpa using hq); rwa [show i + (q + 1) = i + 1 + q by omega] at this)
          (fun q hq => by have := hbar (q + 1) (by omega); rwa [show i + (q + 1 + 1) = i + 1 + (q + 1) by omega] at this) h' hw'
      unfold wpOpIn
      simp only [ho]
      split at hw <;> rename_i hwant
      · rw [if_pos hwant]
        refine opW_sound (r := r) h.wf h.lkn (fun x x' hx => h.eval hx) (fun _ => rfl) h1 hw _ _ ?_
        intro u w' hres
        obtain ⟨v, σ', n', X', ι', hq, hrr, hwf, he⟩ := hres
        rw [h2] at hq
        exact next _ _ _ _ _ (h.put h3 hrr hwf he) hq
      · rw [if_neg hwant]
        rw [h2] at hw
        exact ⟨fun _ _ => trivial, next _ _ _ _ _ (h.skip h3) hw⟩

theorem segs_ok {os : List AOp} (hr : RegSt P N ops bef os) {own : Nat → Bool} {Qm : Exit → Act → World → Prop} {Q : St → Prop} (hQ : ∀ s a w X ι, At B r N s a w X ι → Q s → Qm .normal a w) :
    ∀ (k lo : Nat) (l : List AOp) (segs : List Seg) (s : St) (a : Act) (w : World) (X : Nat → Prop) (ι : Nat → Nat), mkSegs bef own os.length k lo l = some segs → lo + l.length = ops.size →
      (∀ (i : Nat) (o : AOp), l[i]? = some o → os[lo + i]? = some o) → At B r N s a w X ι → wpS T (sndC P T) segs s Q → wpAnyIn (Fw r) 0 P .any ops Qm (ops.size - lo) (upTo ops.size lo) a w := by
  intro k
  have done : ∀ (lo : Nat) (l : List AOp) (segs : List Seg) (s : St) (a : Act) (w : World) (X : Nat → Prop) (ι : Nat → Nat), l.isEmpty = true → segs = [] → lo + l.length = ops.size →
      At B r N s a w X ι → wpS T (sndC P T) segs s Q → wpAnyIn (Fw r) 0 P .any ops Qm (ops.size - lo) (upTo ops.size lo) a w := by
    intro lo l segs s a w X ι he hs hlo h hw
    have hl : l = [] := by simpa using he
    subst hl; subst hs
    simp at hlo
    subst hlo
    rw [Nat.sub_self]
    refine ⟨?_, hQ s a w X ι h hw⟩
    cases hx : Region.ready .any ops (upTo ops.size ops.size) with
    | nil => rfl
    | cons i l =>
      exfalso
      obtain ⟨o, hin, -, hl, -⟩ := ready_spec hr (listed := upTo ops.size ops.size) upTo_size (i := i) (by rw [hx]; simp)
      rw [upTo_get hin] at hl
      simp at hl
      omega
  induction k with
  | zero =>
    intro lo l segs s a w X ι hm hlo hget h hw
    simp only [mkSegs] at hm
    split at hm
    · rename_i he
      simp only [Option.some.injEq] at hm
      exact done lo l segs s a w X ι he hm.symm hlo h hw
    · cases hm
  | succ k ih =>
    intro lo l segs s a w X ι hm hlo hget h hw
    simp only [mkSegs] at hm
    split at hm
    · rename_i he
      simp only [Option.some.injEq] at hm
      exact done lo l segs s a w X ι he hm.symm hlo h hw
    · rename_i he
      split at hm
      · rename_i hc
        simp only [Bool.and_eq_true, decide_eq_true_eq, List.all_eq_true, List.mem_range] at hc
        obtain ⟨⟨⟨⟨hpos, hmp⟩, hb⟩, hok⟩, hones⟩ := hc
        simp only [Option.map_eq_some_iff] at hm
        obtain ⟨gs, hgs, rfl⟩ := hm
        generalize some' bef os.length (os.length - lo) lo = m at *
        generalize ones bef os.length (os.length - (lo + m)) (lo + m) = p at *
        simp only [wpS] at hw
        have hwl : (l.take m).length = m := by simp; omega
        have hol : ((l.drop m).take p).length = p := by simp; omega
        rw [hr.hlen] at hb hones hgs
        have hwin : ∀ (i : Nat) (o' : AOp), (l.take m)[i]? = some o' → os[lo + i]? = some o' := fun i o' hi => by
          rw [List.getElem?_take] at hi
          split at hi
          · exact hget i o' hi
          · cases hi
        have hle : lo + (l.take m).length ≤ ops.size := by simp; omega
        obtain ⟨st, hdl⟩ := mkWin_spec (own := own) hr hwin hle hok
        have hdm : (mkWin bef own lo (l.take m)).1.length = m := hdl.trans hwl
        have hclo : ∀ j k, (upTo ops.size lo)[j]? = some true → k < ops.size → befAt bef j k = true → (upTo ops.size lo)[k]? = some true := by
          intro j k hj hk hb
          have hjn : j < ops.size := by have := (Array.getElem?_eq_some_iff.1 hj).1; rwa [upTo_size] at this
          rw [upTo_get hjn] at hj
          simp at hj
          have hoj : ops[j]? = some ops[j] := Array.getElem?_eq_getElem hjn
          have := (hr.hbef j _ k hoj hk hb).1
          rw [upTo_get hk]; simp; omega
        have hd0 := draw_start (ds := (mkWin bef own lo (l.take m)).1) h
        have hL : (fun j => j < (mkWin bef own lo (l.take m)).1.length ∧ (upTo ops.size lo)[lo + j]? = some true) = fun _ => False := funext fun j => propext (by
          constructor
          · rintro ⟨h1, h2⟩
            rw [upTo_get (by omega)] at h2
            simp at h2
            omega
          · exact False.elim)
        have key := draw_any (T := T) (r := r) (Qm := Qm) (n0 := s.n) (Q := fun s' => wpR T (sndC P T) ((l.drop m).take p) { s' with n := s.n + BIG * (mkWin bef own lo (l.take m)).2 } (fun s2 => wpS T (sndC P T) gs s2 Q))
          hr st (by rw [hdm]; exact hb) (fun L s1 a1 w1 X1 ι1 h1 hq => by
            rw [hdm]
            refine draw_ones hr (hi := lo + m + p) (Q := fun s2 => wpS T (sndC P T) gs s2 Q) (fun s2 a2 w2 X2 ι2 h2 hq2 => ?_) ((l.drop m).take p) (lo + m) _ a1 w1 X1 ι1 (by rw [hol]) (by omega) (fun i o hi => ?_)
              (fun i hi => hones i (by rw [hol] at hi; exact hi)) (draw_end st h1) hq
            · refine ih (lo + m + p) (l.drop (m + p)) gs s2 a2 w2 X2 ι2 (by rw [hr.hlen]; exact hgs) (by simp; omega) (fun i o hi => ?_) h2 hq2
              rw [List.getElem?_drop] at hi
              have := hget _ o hi
              rwa [show lo + (m + p + i) = lo + m + p + i by omega] at this
            · rw [List.getElem?_take] at hi
              split at hi
              · rw [List.getElem?_drop] at hi
                have := hget _ o hi
                rwa [show lo + (m + i) = lo + m + i by omega] at this
              · cases hi)
          m (upTo ops.size lo) ((mkWin bef own lo (l.take m)).1.zipIdx.map fun q => (q.2, q.1)) s a w X _ upTo_size ⟨?_, fun j d => ?_⟩ (by simp [hdm]) (fun i hi => by rw [upTo_get (by omega)]; simp [hi])
          (fun i hi hin => by rw [upTo_get hin]; simp; omega) (by rw [hL]; exact hd0) hclo ?_
        · rw [hdm, show m + (ops.size - (lo + m)) = ops.size - lo by omega] at key
          exact key
        · rw [List.pairwise_map]
          rw [List.pairwise_iff_getElem]
          intro i j hi hj hij
          simp only [List.getElem_zipIdx]
          omega
        · constructor
          · intro hm
            obtain ⟨⟨d', j'⟩, hm', he⟩ := List.mem_map.1 hm
            simp only [Prod.mk.injEq] at he
            obtain ⟨rfl, rfl⟩ := he
            have hdj := List.mem_zipIdx_iff_getElem?.1 hm'
            refine ⟨hdj, ?_⟩
            have : j' < (mkWin bef own lo (l.take m)).1.length := (List.getElem?_eq_some_iff.1 hdj).1
            rw [upTo_get (by omega)]; simp
          · intro ⟨hd, _⟩
            exact List.mem_map.2 ⟨(d, j), List.mem_zipIdx_iff_getElem?.2 hd, rfl⟩
        · have : ((mkWin bef own lo (l.take m)).1.zipIdx.map fun q => (q.2, q.1)).map (·.2) = (mkWin bef own lo (l.take m)).1 := by
            rw [List.map_map]
            have : ((fun x : Nat × DOp => x.2) ∘ fun q : DOp × Nat => (q.2, q.1)) = Prod.fst := rfl
            rw [this, List.zipIdx_map_fst]
          rw [this]
          exact hw
      · cases hm

theorem draw_ok (hmix : P.follows .mixedOrders = true) : DrawOk P T := by
  intro B r N id ops segs s a w X ι Q hc hat hw
  obtain ⟨bef, os, hr, hm⟩ := cDraw_spec hc
  refine wpIn_region_any hmix ?_
  have h1 : Ext w { w with drawn := w.drawn + 1 } X X ι ι s.σ s.σ s.n s.n s.lk := Ext.draw hat.wf.xlt _
  have hwf : WF { w with drawn := w.drawn + 1 } X ι s.σ s.n := hat.wf.move (Nat.le_refl _) (fun _ _ => rfl) (fun _ _ => rfl) (fun _ _ => Iff.rfl) (Nat.le_refl _) hat.wf.xlt
  have hat' := hat.put (dst := none) (v := .undef) (u := undef) rfl .undef hwf h1
  have h0 : Array.replicate ops.size false = upTo ops.size 0 := upTo_eq (by simp) (fun i hi => by rw [Array.getElem?_replicate, if_pos hi]; simp)
  rw [h0]
  have := segs_ok (T := T) (r := r) hr (Q := Q .normal) (Qm := PostOf B r N Q) (fun s' a' w' X' ι' h' hq => ⟨s', X', ι', h', hq⟩) _ 0 os segs s a _ X ι hm (by rw [Nat.zero_add]; exact hr.hlen)
    (fun i o hi => by rw [Nat.zero_add]; exact hi) hat' hw
  exact this

end
end Go.Q
