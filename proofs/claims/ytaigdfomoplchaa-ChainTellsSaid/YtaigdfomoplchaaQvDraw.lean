/- A region that draws its order, run in whatever order, comes to what the evaluator says. -/
import Derived.Test.YtaigdfomoplchaaQvSta
import Derived.Test.YtaigdfomoplchaaQvBody
set_option linter.unusedSimpArgs false
set_option linter.unusedVariables false
set_option linter.unusedSectionVars false
namespace Go.Q
variable [Link]

def InR (ds : List DOp) (n0 : Nat) (L : Nat → Prop) (id : Nat) : Prop :=
  ∃ j d, L j ∧ ds[j]? = some d ∧ d.lays = true ∧ d.lab n0 ≤ id ∧ id < d.lab n0 + BIG
def Bd (ds : List DOp) (n0 : Nat) (L : Nat → Prop) (id m : Nat) : Prop :=
  m = n0 ∨ ∃ j d, L j ∧ ds[j]? = some d ∧ d.pure = false ∧ m = d.top n0 ∧ (d.wr = true ∨ (d.lays = true ∧ d.lab n0 ≤ id ∧ id < d.lab n0 + BIG))
def Bt (ds : List DOp) (n0 : Nat) (L : Nat → Prop) (t m : Nat) : Prop :=
  m = n0 ∨ ∃ j d, L j ∧ ds[j]? = some d ∧ d.o.dst = some t ∧ m = d.top n0

/-- Within a drawn region: L has been done. -/
structure DAt (B : Base) (r : Option Nat) (N n0 : Nat) (ds : List DOp) (L : Nat → Prop) (s : St) (a : Act) (w : World) (X : Nat → Prop) (ι : Nat → Nat) : Prop where
  hn : s.n = n0
  hlk : s.lk = B.lk
  le : B.lk ≤ n0
  size : N ≤ a.tmps.size
  marks : Marks B.w.heap.size X w a.defers
  rnd : ∀ l, r = some l → ∃ rec, w.heap[l]? = some (.loop rec)
  ext : Ext B.w w B.X X B.ι ι B.σ s.σ B.n n0 B.lk
  own : ∀ id, s.σ id ≠ none → X (ι id)
  inj : ∀ id id', s.σ id ≠ none → s.σ id' ≠ none → ι id = ι id' → id = id'
  xlt : ∀ b, X b → b < w.heap.size
  dom : ∀ id, s.σ id ≠ none → id < n0 ∨ InR ds n0 L id
  ob : ∀ id o, s.σ id = some o → ∃ m, Bd ds n0 L id m ∧ ObRep w X ι m id o
  rep : ∀ t, ∃ m, Bt ds n0 L t m ∧ Rep w X ι m (s.env t) (a.tmps.getD t undef)
  res : ∀ id, n0 ≤ id → ¬ InR ds n0 L id → w.heap.size ≤ ι id

section
variable {P : Program} {T : Tab} {B : Base} {r : Option Nat} {N n0 tot : Nat} {ops : Array Oper} {bef : List Nat} {ds : List DOp} {L : Nat → Prop} {s : St} {a : Act} {w : World}
  {X : Nat → Prop} {ι : Nat → Nat}

theorem InR.mono {L L' : Nat → Prop} (h : ∀ j, L j → L' j) {id : Nat} (hh : InR ds n0 L id) : InR ds n0 L' id := by
  obtain ⟨j, d, h1, h2⟩ := hh; exact ⟨j, d, h j h1, h2⟩
theorem Bd.mono {L L' : Nat → Prop} (h : ∀ j, L j → L' j) {id m : Nat} (hh : Bd ds n0 L id m) : Bd ds n0 L' id m := by
  rcases hh with hh | ⟨j, d, h1, h2⟩
  · exact .inl hh
  · exact .inr ⟨j, d, h j h1, h2⟩
theorem Bt.mono {L L' : Nat → Prop} (h : ∀ j, L j → L' j) {t m : Nat} (hh : Bt ds n0 L t m) : Bt ds n0 L' t m := by
  rcases hh with hh | ⟨j, d, h1, h2⟩
  · exact .inl hh
  · exact .inr ⟨j, d, h j h1, h2⟩

theorem lab_le {d e : DOp} (h : e.rank + (if e.lays then 1 else 0) ≤ d.rank) : e.top n0 ≤ d.lab n0 := by
  unfold DOp.top DOp.lab
  cases hl : e.lays with
  | true =>
    rw [hl] at h
    simp only [if_true] at h ⊢
    have := Nat.mul_le_mul_left BIG h
    rw [Nat.mul_add, Nat.mul_one] at this
    omega
  | false =>
    rw [hl] at h
    simp only [Bool.false_eq_true, if_false, Nat.add_zero] at h ⊢
    have := Nat.mul_le_mul_left BIG h
    omega

/-- What comes before, and what is apart. -/
structure Ord (ds : List DOp) (n0 : Nat) (L : Nat → Prop) (d : DOp) : Prop where
  ord : ∀ j e, L j → ds[j]? = some e → e.top n0 ≤ d.lab n0 ∨ ((∀ t, e.o.dst = some t → t ∉ d.o.reads) ∧ (e.wr = true → d.pure = true) ∧ (d.wr = true → e.pure = true) ∧
    (d.calm = true → e.lays = true → e.rank ∈ d.hid))
  apart : ∀ j e, L j → ds[j]? = some e → e.lays = true → d.lays = true → ∀ id, ¬ ((e.lab n0 ≤ id ∧ id < e.lab n0 + BIG) ∧ (d.lab n0 ≤ id ∧ id < d.lab n0 + BIG))
  purel : ∀ (j : Nat) (e : DOp), ds[j]? = some e → e.pure = true → e.lays = false

theorem Sta.ord {lo : Nat} (st : Sta P N ops bef ds tot lo) {i : Nat} {d : DOp} (hd : ds[i]? = some d) (hL : ¬ L i) (hLb : ∀ j, L j → j < ds.length)
    (hcl : ∀ j k, L j → k < ds.length → befAt bef (lo + j) (lo + k) = true → L k) : Ord ds n0 L d where
  ord := fun j e hj he => by
    have hne : j ≠ i := fun h => hL (h ▸ hj)
    have hi : i < ds.length := (List.getElem?_eq_some_iff.1 hd).1
    have hw := st.hwin
    have hjl := hLb j hj
    obtain ⟨o, ho, -⟩ := st.hcomp i d hd
    cases hb : befAt bef (lo + i) (lo + j) with
    | true =>
      obtain ⟨hlt, -⟩ := st.hbef (lo + i) o (lo + j) ho (by omega) hb
      exact .inl (lab_le (st.hpair j i e d (by omega) he hd).1)
    | false =>
      have hb' : befAt bef (lo + j) (lo + i) = false := by
        cases hb' : befAt bef (lo + j) (lo + i) with
        | true => exact absurd (hcl j i hj hi hb') hL
        | false => rfl
      right
      by_cases hlt : j < i
      · have := (st.hpair j i e d hlt he hd).2 (by unfold Go.Q.apart; unfold befAt at hb hb'; simp [hb, hb'])
        obtain ⟨p1, p2, p3, p4, p5, p6, p7⟩ := pairOk_spec this
        exact ⟨p1, p4, p5, p6⟩
      · have := (st.hpair i j d e (by omega) hd he).2 (by unfold Go.Q.apart; unfold befAt at hb hb'; simp [hb, hb'])
        obtain ⟨p1, p2, p3, p4, p5, p6, p7⟩ := pairOk_spec this
        exact ⟨p2, p5, p4, p7⟩
  apart := fun j e hj he hel hdl id hh => by
    have hne : j ≠ i := fun h => hL (h ▸ hj)
    by_cases hlt : j < i
    · have := lab_le (n0 := n0) (st.hpair j i e d hlt he hd).1
      simp only [DOp.top, hel, if_true] at this
      omega
    · have := lab_le (n0 := n0) (st.hpair i j d e (by omega) hd he).1
      simp only [DOp.top, hdl, if_true] at this
      omega
  purel := st.hpure

theorem hideR_sub {σ : Sto} : ∀ (l : List Nat) (id : Nat) (o : Ob), hideR σ n0 l id = some o → σ id = some o ∧ ∀ q ∈ l, ¬ (n0 + BIG * q ≤ id ∧ id < n0 + BIG * q + BIG)
  | [], id, o, h => ⟨h, by simp⟩
  | q :: l, id, o, h => by
    simp only [hideR] at h
    split at h
    · cases h
    · rename_i hn
      obtain ⟨h1, h2⟩ := hideR_sub l id o h
      exact ⟨h1, fun q' hq' => by
        rcases List.mem_cons.1 hq' with rfl | hq'
        · exact hn
        · exact h2 q' hq'⟩

theorem view_sub {d : DOp} {σ : Sto} {id : Nat} {o : Ob} (h : d.view n0 σ id = some o) : d.pure = false ∧ σ id = some o ∧ (d.wr = false → d.hid ≠ [] → id < d.lab n0 ∧ ∀ q ∈ d.hid, ¬ (n0 + BIG * q ≤ id ∧ id < n0 + BIG * q + BIG)) := by
  unfold DOp.view at h
  cases hp : d.pure with
  | true => simp [hp, Sto.empty] at h
  | false =>
    simp only [hp, Bool.false_eq_true, if_false] at h
    refine ⟨rfl, ?_⟩
    cases hw : d.wr with
    | true => simp only [hw, if_true] at h; exact ⟨h, fun hh => by cases hh⟩
    | false =>
      simp only [hw, Bool.false_eq_true, if_false] at h
      cases hh : d.hid with
      | nil => rw [hh] at h; exact ⟨h, fun _ hne => absurd rfl hne⟩
      | cons q l =>
        rw [hh] at h
        simp only [hide] at h
        split at h
        · rename_i hlt
          obtain ⟨h1, h2⟩ := hideR_sub _ _ _ h
          exact ⟨h1, fun _ _ => ⟨hlt, h2⟩⟩
        · cases h

/-- What an operation sees stands, by the numbers that came before it. -/
theorem view_wf (h : DAt B r N n0 ds L s a w X ι) {d : DOp} (od : Ord ds n0 L d) : WF w X ι (d.view n0 s.σ) (d.lab n0) := by
  have hn0 : n0 ≤ d.lab n0 := by unfold DOp.lab; omega
  have key : ∀ id o, d.view n0 s.σ id = some o → id < d.lab n0 ∧ ∃ m, m ≤ d.lab n0 ∧ ObRep w X ι m id o := by
    intro id o hv
    obtain ⟨hp, hs, hh⟩ := view_sub hv
    -- one that is not ordered ahead leaves nothing to be seen
    have nosee : ∀ j e, L j → ds[j]? = some e → e.pure = false → (e.wr = true ∨ (e.lays = true ∧ e.lab n0 ≤ id ∧ id < e.lab n0 + BIG)) → e.top n0 ≤ d.lab n0 := by
      intro j e hj he hep hor
      rcases od.ord j e hj he with h1 | ⟨-, h2, h3, h4⟩
      · exact h1
      · exfalso
        rcases hor with hw | ⟨hl, hr1, hr2⟩
        · rw [h2 hw] at hp; cases hp
        · cases hw : d.wr with
          | true => rw [h3 hw] at hep; cases hep
          | false =>
            have hm := h4 (by simp [DOp.calm, hp, hw]) hl
            have hne : d.hid ≠ [] := fun e0 => by rw [e0] at hm; simp at hm
            exact (hh hw hne).2 e.rank hm ⟨hr1, hr2⟩
    constructor
    · rcases h.dom id (by rw [hs]; simp) with h1 | ⟨j, e, hj, he, hl, hr1, hr2⟩
      · omega
      · have := nosee j e hj he (by
          cases hep : e.pure with
          | false => rfl
          | true => rw [od.purel j e he hep] at hl; cases hl) (.inr ⟨hl, hr1, hr2⟩)
        simp only [DOp.top, hl, if_true] at this
        omega
    · obtain ⟨m, hb, ho⟩ := h.ob id o hs
      refine ⟨m, ?_, ho⟩
      rcases hb with rfl | ⟨j, e, hj, he, hep, rfl, hor⟩
      · exact hn0
      · exact nosee j e hj he hep hor
  have hne : ∀ id, d.view n0 s.σ id ≠ none → s.σ id ≠ none := fun id hv => by
    obtain ⟨o, ho⟩ := Option.ne_none_iff_exists'.1 hv
    rw [(view_sub ho).2.1]; simp
  refine WF.of_ob (fun id o hv => ?_) (fun id hv => h.own id (hne id hv)) (fun id id' h1 h2 => h.inj id id' (hne id h1) (hne id' h2)) (fun id hv => ?_) h.xlt
  · obtain ⟨_, m, hm, ho⟩ := key id o hv
    exact ho.move' (Nat.le_refl _) (fun _ _ _ => rfl) (fun _ c _ _ h => ⟨c, h, rfl⟩) (fun _ _ _ => rfl) (fun _ _ h => h) hm rfl
  · obtain ⟨o, ho⟩ := Option.ne_none_iff_exists'.1 hv
    exact (key id o ho).1

/-- An operand stands, by the numbers that came before. -/
theorem read_rep (h : DAt B r N n0 ds L s a w X ι) {d : DOp} (od : Ord ds n0 L d) {t : Nat} (ht : t ∈ d.o.reads) : Rep w X ι (d.lab n0) (s.env t) (a.tmps.getD t undef) := by
  obtain ⟨m, hb, hr⟩ := h.rep t
  have hm : m ≤ d.lab n0 := by
    rcases hb with rfl | ⟨j, e, hj, he, hdst, rfl⟩
    · unfold DOp.lab; omega
    · rcases od.ord j e hj he with h1 | ⟨h1, -⟩
      · exact h1
      · exact absurd ht (h1 t hdst)
  exact hr.move (Nat.le_refl _) (fun _ _ _ => rfl) (fun _ c _ _ h => ⟨c, h, rfl⟩) (fun _ _ => rfl) (fun _ _ h => h) hm

/-- Operands, what is not read left out. -/
def seenV (d : DOp) (s : St) : Opd → V
  | .tmp t => if t ∈ d.o.reads then s.env t else .undef
  | .con v => v
def seen (d : DOp) (a : Act) : Operand → Value
  | .tmp t => if t ∈ d.o.reads then a.tmps.getD t undef else undef
  | x => a.eval x

theorem seen_rep (h : DAt B r N n0 ds L s a w X ι) {d : DOp} (od : Ord ds n0 L d) {x : Operand} {x' : Opd} (hc : cOpd x = some x') : Rep w X ι (d.lab n0) (seenV d s x') (seen d a x) := by
  unfold cOpd at hc
  split at hc
  · simp only [Option.some.injEq] at hc; subst hc
    simp only [seenV, seen]
    split
    · rename_i ht; exact read_rep h od ht
    · exact .undef
  · simp only [Option.map_eq_some_iff] at hc
    obtain ⟨v, hv, rfl⟩ := hc
    exact ofValA_rep hv
  · simp only [Option.some.injEq] at hc; subst hc
    exact .fn _ [] #[] rfl (fun i e u he => by simp at he)
  · cases hc

theorem plain_ok {v : V} (h : v.plain = true) : Ok (fun _ => False) v := by
  have one : ∀ v : V, v.plain1 = true → Ok (fun _ => False) v := by
    intro v h
    unfold V.plain1 at h
    split at h <;> first | (constructor; done) | skip
    · exact .fn _ [] (fun i e he => by simp at he)
    · cases h
  unfold V.plain at h
  split at h
  · exact .agg _ (fun i e he => one e (List.all_eq_true.1 h e (List.mem_of_getElem? he)))
  · exact one _ h

theorem seen_ok (h : DAt B r N n0 ds L s a w X ι) {d : DOp} (od : Ord ds n0 L d) (hcon : ∀ v, Opd.con v ∈ d.o.op.opds → v.plain = true) :
    ∀ x ∈ d.o.op.opds, Ok (fun id => id < d.lab n0 ∧ ι id < w.heap.size) (seenV d s x) := by
  intro x hx
  cases x with
  | con v => exact (plain_ok (hcon v hx)).none
  | tmp t =>
    simp only [seenV]
    split
    · rename_i ht; exact rep_ok (read_rep h od ht)
    · exact .undef

/-- The state behind an operation. -/
theorem draw_next (h : DAt B r N n0 ds L s a w X ι) {i : Nat} {d : DOp} (hd : ds[i]? = some d) (od : Ord ds n0 L d) (hcon : ∀ v, Opd.con v ∈ d.o.op.opds → v.plain = true)
    (hdst : fits N d.o.dst = true) {v : V} {u : Value} {σo : Sto} {n' : Nat} {w' : World} {X' : Nat → Prop} {ι' : Nat → Nat} (hrep : Rep w' X' ι' n' v u) (hwf : WF w' X' ι' σo n')
    (hext : Ext w w' X X' ι ι' (d.view n0 s.σ) σo (d.lab n0) n' (d.lok n0 s.lk)) (hsay : Says (seenV d s) (d.view n0 s.σ) (d.lab n0) d.o.op v σo n') (htop : n' ≤ d.top n0) :
    ∃ ι'', DAt B r N n0 ds (fun j => L j ∨ j = i) (({ s with σ := d.fin n0 s.σ σo } : St).put d.o.dst v) (a.put d.o.dst u) w' X' ι'' := by
  have hvw := view_wf h od
  have hn0 : n0 ≤ d.lab n0 := by unfold DOp.lab; omega
  have hnn : d.lab n0 ≤ n' := hext.hn
  obtain ⟨hokv, hoks, hdom⟩ := hsay (fun id => id < d.lab n0 ∧ ι id < w.heap.size) (seen_ok h od hcon) (wf_ok hvw)
  have hne : ∀ id, d.view n0 s.σ id ≠ none → s.σ id ≠ none := fun id hv => by
    obtain ⟨o, ho⟩ := Option.ne_none_iff_exists'.1 hv
    rw [(view_sub ho).2.1]; simp
  have hlaidlt : ∀ id, s.σ id ≠ none → ι id < w.heap.size := fun id hs => h.xlt _ (h.own id hs)
  have hlok : B.lk ≤ d.lok n0 s.lk := by
    unfold DOp.lok
    split
    · rw [h.hlk]; exact Nat.le_refl _
    · have := h.le; omega
  have hownsub : ∀ b, Own (d.view n0 s.σ) ι (d.lok n0 s.lk) b → Own s.σ ι B.lk b := fun b ⟨id, h1, h2, h3⟩ => ⟨id, Nat.le_trans hlok h1, hne id h2, h3⟩
  have hownX : ∀ {lk b}, Own s.σ ι lk b → X b := fun ⟨id, _, h2, h3⟩ => h3 ▸ h.own id h2
  have hheap : ∀ b, b < w.heap.size → ¬ X b → w'.heap[b]? = w.heap[b]? := fun b hb hx => hext.heap b hb (fun ho => hx (hownX (hownsub b ho)))
  -- new numbers lie in the operation's own range
  have hrange : ∀ id, d.lab n0 ≤ id → id < n' → d.lays = true ∧ id < d.lab n0 + BIG := fun id h1 h2 => by
    unfold DOp.top at htop
    cases hl : d.lays with
    | true => simp only [hl, if_true] at htop; exact ⟨rfl, by omega⟩
    | false => simp only [hl, Bool.false_eq_true, if_false] at htop; omega
  have hnotin : ∀ id, d.lab n0 ≤ id → id < n' → w.heap.size ≤ ι id := fun id h1 h2 => by
    obtain ⟨hl, h3⟩ := hrange id h1 h2
    refine h.res id (by omega) (fun ⟨j, e, hj, he, hel, hr1, hr2⟩ => ?_)
    exact od.apart j e hj he hel hl id ⟨⟨hr1, hr2⟩, h1, h3⟩
  let ι2 : Nat → Nat := fun id => if id < n0 then ι id else if d.lab n0 ≤ id ∧ id < n' then ι' id else if ι id < w.heap.size then ι id else w'.heap.size
  have hlaid : ∀ id, ι id < w.heap.size → ι2 id = ι id := fun id hl => by
    simp only [ι2]
    split
    · rfl
    · split
      · rename_i h2
        have := hnotin id h2.1 h2.2
        omega
      · simp only [hl, if_true]
  have hagree : ∀ id, More (fun id => id < d.lab n0 ∧ ι id < w.heap.size) (d.lab n0) n' id → ι2 id = ι' id := fun id hm => by
    rcases hm with ⟨h1, h2⟩ | ⟨h1, h2⟩
    · rw [hlaid id h2, hext.hι id h1]
    · simp only [ι2]
      rw [if_neg (by omega), if_pos ⟨h1, h2⟩]
  have hmlt : ∀ id, More (fun id => id < d.lab n0 ∧ ι id < w.heap.size) (d.lab n0) n' id → id < d.top n0 := fun id hm => by
    rcases hm with ⟨h1, h2⟩ | ⟨h1, h2⟩ <;> omega
  have hmv : ∀ {m : Nat} {v : V} {u : Value}, Rep w X ι m v u → Rep w' X' ι2 m v u := fun hh =>
    hh.move' hext.size hheap hext.cells (fun id _ hl => hlaid id hl) hext.xnew (Nat.le_refl _)
  have hmvOb : ∀ {m id : Nat} {o : Ob}, w'.heap[ι2 id]? = w.heap[ι id]? → ObRep w X ι m id o → ObRep w' X' ι2 m id o := fun hb hh =>
    hh.move' hext.size hheap hext.cells (fun id _ hl => hlaid id hl) hext.xnew (Nat.le_refl _) hb
  -- objects that came from the operation
  have hnewid : ∀ id, σo id ≠ none → ι2 id = ι' id := fun id hs => by
    rcases hdom id hs with h1 | h1
    · exact hagree id (.inl ⟨hvw.dom id h1, hlaidlt id (hne id h1)⟩)
    · exact hagree id (.inr h1)
  have hnewob : ∀ id o, σo id = some o → ObRep w' X' ι2 (d.top n0) id o := fun id o hs =>
    (hwf.ob hs).on (hoks.ob hs) hagree hmlt (hnewid id (by rw [hs]; simp))
  have hcalm : (d.wr && !d.pure) = false → ∀ b, ¬ Own (d.view n0 s.σ) ι (d.lok n0 s.lk) b := fun hc b ⟨id, h1, h2, _⟩ => by
    unfold DOp.lok at h1
    rw [hc] at h1
    simp only [Bool.false_eq_true, if_false] at h1
    have := hvw.dom id h2
    omega
  -- where an object of the new store comes from
  have hcase : ∀ id, ((d.wr && !d.pure) = false ∧ d.fin n0 s.σ σo id = s.σ id) ∨
      ((d.wr && !d.pure) = false ∧ d.pure = false ∧ d.lays = true ∧ d.lab n0 ≤ id ∧ id < d.lab n0 + BIG ∧ d.fin n0 s.σ σo id = σo id) ∨
      (d.wr = true ∧ d.pure = false ∧ d.fin n0 s.σ σo id = σo id) := by
    intro id
    unfold DOp.fin
    cases hp : d.pure with
    | true => left; simp
    | false =>
      cases hw : d.wr with
      | true => right; right; simp
      | false =>
        cases hl : d.lays with
        | false => left; simp
        | true =>
          simp only [Bool.false_eq_true, if_false, if_true, merge, Bool.false_and, true_and, Bool.true_eq_false, false_and, or_false]
          by_cases hr : d.lab n0 ≤ id ∧ id < d.lab n0 + BIG
          · right; rw [if_pos hr]; exact ⟨hr.1, hr.2, rfl⟩
          · left; rw [if_neg hr]
  have hσ : (({ s with σ := d.fin n0 s.σ σo } : St).put d.o.dst v).σ = d.fin n0 s.σ σo := put_sig
  have hlk' : (({ s with σ := d.fin n0 s.σ σo } : St).put d.o.dst v).lk = s.lk := put_lk
  have hn' : (({ s with σ := d.fin n0 s.σ σo } : St).put d.o.dst v).n = s.n := put_n
  have hL' : ∀ j, L j → (L j ∨ j = i) := fun j hj => .inl hj
  have hext' : Ext w w' X X' ι ι2 s.σ (d.fin n0 s.σ σo) n0 n0 B.lk := {
    hn := Nat.le_refl _, os := hext.os, tape := hext.tape, output := hext.output, size := hext.size
    heap := fun b hb ho => hext.heap b hb (fun ho' => ho (hownsub b ho'))
    cells := hext.cells
    loops := hext.loops
    hι := fun id hid => by simp only [ι2]; rw [if_pos hid]
    xnew := hext.xnew
    xold := fun b hx ho => hext.xold b hx (fun ho' => ho (hownsub b ho'))
    xlt := hext.xlt
    own := fun id hlk hs hlt => by
      have new : σo id ≠ none → ((d.wr && !d.pure) = false → d.lab n0 ≤ id) → Own s.σ ι B.lk (ι2 id) := fun hso hlb => by
        rw [hnewid id hso] at hlt ⊢
        refine hownsub _ (hext.own id ?_ hso hlt)
        unfold DOp.lok
        split
        · rw [h.hlk]; exact hlk
        · rename_i hc; exact hlb (by simpa using hc)
      rcases hcase id with ⟨-, e⟩ | ⟨-, -, -, h1, -, e⟩ | ⟨h1, h2, e⟩
      · rw [e] at hs
        exact ⟨id, hlk, hs, (hlaid id (hlaidlt id hs)).symm⟩
      · rw [e] at hs; exact new hs (fun _ => h1)
      · rw [e] at hs; exact new hs (fun hc => by simp [h1, h2] at hc)
    lock := fun id hlk => by
      rcases hcase id with ⟨-, e⟩ | ⟨-, -, -, h1, -, e⟩ | ⟨h1, h2, e⟩
      · exact e
      · have := h.le; omega
      · rw [e]
        have hlo : d.lok n0 s.lk = B.lk := by simp [DOp.lok, h1, h2, h.hlk]
        have := hext.lock id (by rw [hlo]; exact hlk)
        rw [this]
        simp [DOp.view, h1, h2] }
  refine ⟨ι2, ?_⟩
  have hmk : Marks B.w.heap.size X' w' a.defers := by
    obtain ⟨rs, m1, m2, m3⟩ := h.marks
    refine ⟨rs, m1, m2, fun q hq => ?_⟩
    obtain ⟨c1, c2, c3⟩ := m3 q hq
    have hlt := (Array.getElem?_eq_some_iff.1 c2).1
    exact ⟨c1, by rw [hheap q hlt c3]; exact c2, fun hx => c3 (hext.xnew q hlt hx)⟩
  exact {
    hn := by rw [hn']; exact h.hn
    hlk := by rw [hlk']; exact h.hlk
    le := h.le
    size := by cases hdd : d.o.dst <;> simpa [Act.put] using h.size
    marks := by cases hdd : d.o.dst <;> simpa [Act.put] using hmk
    rnd := fun l hl => by obtain ⟨rec, hrec⟩ := h.rnd l hl; exact hext.loops _ _ hrec
    ext := by rw [hσ]; exact h.ext.trans hext'
    own := fun id hs => by
      rw [hσ] at hs
      rcases hcase id with ⟨hc, e⟩ | ⟨-, -, -, -, -, e⟩ | ⟨-, -, e⟩
      · rw [e] at hs
        rw [hlaid id (hlaidlt id hs)]
        exact hext.xold _ (h.own id hs) (hcalm hc _)
      · rw [e] at hs; rw [hnewid id hs]; exact hwf.own id hs
      · rw [e] at hs; rw [hnewid id hs]; exact hwf.own id hs
    inj := fun id id' hs hs' he => by
      rw [hσ] at hs hs'
      have mixed : ∀ q q', s.σ q ≠ none → σo q' ≠ none → (d.wr && !d.pure) = false → d.lab n0 ≤ q' → ι2 q ≠ ι2 q' := by
        intro q q' h1 h2 hc hlb e
        rw [hlaid q (hlaidlt q h1), hnewid q' h2] at e
        have hlt := hlaidlt q h1
        rw [e] at hlt
        refine hcalm hc _ (hext.own q' ?_ h2 hlt)
        unfold DOp.lok; rw [hc]; simpa using hlb
      rcases hcase id with ⟨hc, e⟩ | ⟨hc, -, -, h1, -, e⟩ | ⟨g1, g2, e⟩ <;> rcases hcase id' with ⟨hc', e'⟩ | ⟨hc', -, -, h1', -, e'⟩ | ⟨g1', g2', e'⟩ <;> rw [e] at hs <;> rw [e'] at hs'
      · rw [hlaid id (hlaidlt id hs), hlaid id' (hlaidlt id' hs')] at he; exact h.inj id id' hs hs' he
      · exact absurd he (mixed id id' hs hs' hc' h1')
      · simp [g1', g2'] at hc
      · exact absurd he.symm (mixed id' id hs' hs hc h1)
      · rw [hnewid id hs, hnewid id' hs'] at he; exact hwf.inj id id' hs hs' he
      · simp [g1', g2'] at hc
      · simp [g1, g2] at hc'
      · simp [g1, g2] at hc'
      · rw [hnewid id hs, hnewid id' hs'] at he; exact hwf.inj id id' hs hs' he
    xlt := hwf.xlt
    dom := fun id hs => by
      rw [hσ] at hs
      have new : ∀ q, d.lab n0 ≤ q → q < n' → InR ds n0 (fun j => L j ∨ j = i) q := fun q h1 h2 => by
        obtain ⟨hl, h3⟩ := hrange q h1 h2
        exact ⟨i, d, .inr rfl, hd, hl, h1, h3⟩
      rcases hcase id with ⟨hc, e⟩ | ⟨-, -, hl, h1, h2, e⟩ | ⟨-, -, e⟩
      · rw [e] at hs; exact (h.dom id hs).imp_right (InR.mono hL')
      · exact .inr ⟨i, d, .inr rfl, hd, hl, h1, h2⟩
      · rw [e] at hs
        rcases hdom id hs with h1 | h1
        · exact (h.dom id (hne id h1)).imp_right (InR.mono hL')
        · exact .inr (new id h1.1 h1.2)
    ob := fun id o hs => by
      rw [hσ] at hs
      rcases hcase id with ⟨hc, e⟩ | ⟨-, hp, hl, h1, h2, e⟩ | ⟨hw, hp, e⟩
      · rw [e] at hs
        obtain ⟨m, hb, ho⟩ := h.ob id o hs
        refine ⟨m, hb.mono hL', hmvOb ?_ ho⟩
        have hlt := hlaidlt id (by rw [hs]; simp)
        rw [hlaid id hlt]
        exact hext.heap _ hlt (hcalm hc _)
      · rw [e] at hs
        exact ⟨d.top n0, .inr ⟨i, d, .inr rfl, hd, hp, rfl, .inr ⟨hl, h1, h2⟩⟩, hnewob id o hs⟩
      · rw [e] at hs
        exact ⟨d.top n0, .inr ⟨i, d, .inr rfl, hd, hp, rfl, .inl hw⟩, hnewob id o hs⟩
    rep := fun t => by
      have old : ∃ m, Bt ds n0 (fun j => L j ∨ j = i) t m ∧ Rep w' X' ι2 m (s.env t) (a.tmps.getD t undef) := by
        obtain ⟨m, hb, hr⟩ := h.rep t
        exact ⟨m, hb.mono hL', hmv hr⟩
      cases hdd : d.o.dst with
      | none => simpa [St.put, Act.put] using old
      | some q =>
        rw [hdd] at hdst
        have hq : q < a.tmps.size := Nat.lt_of_lt_of_le (by simpa [fits] using hdst) h.size
        by_cases e : t = q
        · subst e
          refine ⟨d.top n0, .inr ⟨i, d, .inr rfl, hd, hdd, rfl⟩, ?_⟩
          simp only [St.put, Act.put, if_true, Array.getD_eq_getD_getElem?, Array.getElem?_setIfInBounds_self_of_lt hq, Option.getD_some]
          exact hrep.on hokv hagree hmlt
        · obtain ⟨m, h1, h2⟩ := old
          refine ⟨m, h1, ?_⟩
          simp only [St.put, Act.put, e, if_false, Array.getD_eq_getD_getElem?, Array.getElem?_setIfInBounds_ne (Ne.symm e)]
          simpa [Array.getD_eq_getD_getElem?] using h2
    res := fun id hid hnot => by
      have hold : ¬ InR ds n0 L id := fun hh => hnot (hh.mono hL')
      have hun := h.res id hid hold
      simp only [ι2]
      rw [if_neg (by omega)]
      split
      · rename_i h2
        obtain ⟨hl, h3⟩ := hrange id h2.1 h2.2
        exact absurd ⟨i, d, .inr rfl, hd, hl, h2.1, h3⟩ hnot
      · rw [if_neg (by omega)]; exact Nat.le_refl _ }

end
end Go.Q
