/- A region that draws its order, run in whatever order, comes to what the evaluator says. -/
import Derived.Test.YtdpinpbjfdobnaaQB
import Derived.ChangeArms
import Derived.ChangeOld
import Derived.OpenShut
import Derived.SizedLaws
section
set_option linter.unusedSimpArgs false
set_option linter.unusedVariables false
set_option linter.unusedSectionVars false
namespace Go.Q
variable [Link]

def InR (ds : List DOp) (n0 : Nat) (L : Nat → Prop) (id : Nat) : Prop :=
  ∃ j d, L j ∧ ds[j]? = some d ∧ d.lays = true ∧ d.lab n0 ≤ id ∧ id < d.lab n0 + BIG
def Bd (ds : List DOp) (n0 : Nat) (L : Nat → Prop) (id m : Nat) : Prop :=
  m = n0 ∨ ∃ j d, L j ∧ ds[j]? = some d ∧ d.pure = false ∧ m = d.top n0 ∧ (d.wr = true ∨ d.W n0 id)
def Bt (ds : List DOp) (n0 : Nat) (L : Nat → Prop) (t m : Nat) : Prop :=
  m = n0 ∨ ∃ j d, L j ∧ ds[j]? = some d ∧ d.o.dst = some t ∧ m = d.top n0

/-- Within a drawn region: L has been done. -/
structure DAt (B : Base) (r : Option Nat) (N n0 : Nat) (ds : List DOp) (L : Nat → Prop) (s : St) (a : Act) (w : World) (X : Nat → Prop) (ι : Nat → Nat) : Prop where
  hn : s.n = n0
  hlk : s.lk = B.lk
  le : B.lk ≤ n0
  size : N ≤ a.tmps.size
  marks : Marks B.w.heap.size X w a.defers
  rnd : ∀ l, r = some l → ∃ rec, w.heap[l]? = some (.loop rec)
  ext : Ext B.w w B.X X B.ι ι B.σ s.σ B.n n0 B.lk
  own : ∀ id, s.σ id ≠ none → X (ι id)
  inj : ∀ id id', s.σ id ≠ none → s.σ id' ≠ none → ι id = ι id' → id = id'
  xlt : ∀ b, X b → b < w.heap.size
  dom : ∀ id, s.σ id ≠ none → id < n0 ∨ InR ds n0 L id
  ob : ∀ id o, s.σ id = some o → ∃ m, Bd ds n0 L id m ∧ ObRep w X ι m id o
  rep : ∀ t, ∃ m, Bt ds n0 L t m ∧ Rep w X ι m (s.env t) (a.tmps.getD t undef)
  res : ∀ id, n0 ≤ id → ¬ InR ds n0 L id → w.heap.size ≤ ι id

section
variable {P : Program} {T : Tab} {B : Base} {r : Option Nat} {N n0 tot : Nat} {ops : Array Oper} {bef : List Nat} {ds : List DOp} {L : Nat → Prop} {s : St} {a : Act} {w : World}
  {X : Nat → Prop} {ι : Nat → Nat}

theorem InR.mono {L L' : Nat → Prop} (h : ∀ j, L j → L' j) {id : Nat} (hh : InR ds n0 L id) : InR ds n0 L' id := by
  obtain ⟨j, d, h1, h2⟩ := hh; exact ⟨j, d, h j h1, h2⟩
theorem Bd.mono {L L' : Nat → Prop} (h : ∀ j, L j → L' j) {id m : Nat} (hh : Bd ds n0 L id m) : Bd ds n0 L' id m := by
  rcases hh with hh | ⟨j, d, h1, h2⟩
  · exact .inl hh
  · exact .inr ⟨j, d, h j h1, h2⟩
theorem Bt.mono {L L' : Nat → Prop} (h : ∀ j, L j → L' j) {t m : Nat} (hh : Bt ds n0 L t m) : Bt ds n0 L' t m := by
  rcases hh with hh | ⟨j, d, h1, h2⟩
  · exact .inl hh
  · exact .inr ⟨j, d, h j h1, h2⟩

theorem lab_le {d e : DOp} (h : e.rank + (if e.lays then 1 else 0) ≤ d.rank) : e.top n0 ≤ d.lab n0 := by
  unfold DOp.top DOp.lab
  cases hl : e.lays with
  | true =>
    rw [hl] at h
    simp only [if_true] at h ⊢
    have := Nat.mul_le_mul_left BIG h
    rw [Nat.mul_add, Nat.mul_one] at this
    omega
  | false =>
    rw [hl] at h
    simp only [Bool.false_eq_true, if_false, Nat.add_zero] at h ⊢
    have := Nat.mul_le_mul_left BIG h
    omega

/-- What comes before, and what is apart. -/
structure Ord (ds : List DOp) (n0 : Nat) (L : Nat → Prop) (d : DOp) : Prop where
  ord : ∀ j e, L j → ds[j]? = some e → e.top n0 ≤ d.lab n0 ∨ ((∀ t, e.o.dst = some t → t ∉ d.o.reads) ∧ (e.wr = true → d.pure = true) ∧ (d.wr = true → e.pure = true) ∧
    Blind e d)
  apart : ∀ j e, L j → ds[j]? = some e → e.lays = true → d.lays = true → ∀ id, ¬ ((e.lab n0 ≤ id ∧ id < e.lab n0 + BIG) ∧ (d.lab n0 ≤ id ∧ id < d.lab n0 + BIG))
  purel : ∀ (j : Nat) (e : DOp), ds[j]? = some e → e.pure = true → e.lays = false
  lo : d.lo ≤ d.rank

theorem Sta.ord {lo : Nat} (st : Sta P N ops bef ds tot lo) {i : Nat} {d : DOp} (hd : ds[i]? = some d) (hL : ¬ L i) (hLb : ∀ j, L j → j < ds.length)
    (hcl : ∀ j k, L j → k < ds.length → befAt bef (lo + j) (lo + k) = true → L k) : Ord ds n0 L d where
  ord := fun j e hj he => by
    have hne : j ≠ i := fun h => hL (h ▸ hj)
    have hi : i < ds.length := (List.getElem?_eq_some_iff.1 hd).1
    have hw := st.hwin
    have hjl := hLb j hj
    obtain ⟨o, ho, -⟩ := st.hcomp i d hd
    cases hb : befAt bef (lo + i) (lo + j) with
    | true =>
      obtain ⟨hlt, -⟩ := st.hbef (lo + i) o (lo + j) ho (by omega) hb
      exact .inl (lab_le (st.hpair j i e d (by omega) he hd).1)
    | false =>
      have hb' : befAt bef (lo + j) (lo + i) = false := by
        cases hb' : befAt bef (lo + j) (lo + i) with
        | true => exact absurd (hcl j i hj hi hb') hL
        | false => rfl
      right
      by_cases hlt : j < i
      · have := (st.hpair j i e d hlt he hd).2 (by unfold Go.Q.apart; unfold befAt at hb hb'; simp [hb, hb'])
        obtain ⟨p1, p2, p3, p4, p5, p6, p7⟩ := pairOk_spec this
        exact ⟨p1, p4, p5, p6⟩
      · have := (st.hpair i j d e (by omega) hd he).2 (by unfold Go.Q.apart; unfold befAt at hb hb'; simp [hb, hb'])
        obtain ⟨p1, p2, p3, p4, p5, p6, p7⟩ := pairOk_spec this
        exact ⟨p2, p5, p4, p7⟩
  apart := fun j e hj he hel hdl id hh => by
    have hne : j ≠ i := fun h => hL (h ▸ hj)
    by_cases hlt : j < i
    · have := lab_le (n0 := n0) (st.hpair j i e d hlt he hd).1
      simp only [DOp.top, hel, if_true] at this
      omega
    · have := lab_le (n0 := n0) (st.hpair i j d e (by omega) hd he).1
      simp only [DOp.top, hdl, if_true] at this
      omega
  purel := st.hpure
  lo := st.hlo i d hd

theorem hideR_sub {σ : Sto} : ∀ (l : List Nat) (id : Nat) (o : Ob), hideR σ n0 l id = some o → σ id = some o ∧ ∀ q ∈ l, ¬ (n0 + BIG * q ≤ id ∧ id < n0 + BIG * q + BIG)
  | [], id, o, h => ⟨h, by simp⟩
  | q :: l, id, o, h => by
    simp only [hideR] at h
    split at h
    · cases h
    · rename_i hn
      obtain ⟨h1, h2⟩ := hideR_sub l id o h
      exact ⟨h1, fun q' hq' => by
        rcases List.mem_cons.1 hq' with rfl | hq'
        · exact hn
        · exact h2 q' hq'⟩

theorem view_sub {d : DOp} {σ : Sto} {id : Nat} {o : Ob} (h : d.view n0 σ id = some o) : d.pure = false ∧ σ id = some o ∧ (d.wr = false → d.hid ≠ [] → id < d.lab n0 ∧ ∀ q ∈ d.hid, ¬ (n0 + BIG * q ≤ id ∧ id < n0 + BIG * q + BIG)) := by
  unfold DOp.view at h
  cases hp : d.pure with
  | true => simp [hp, Sto.empty] at h
  | false =>
    simp only [hp, Bool.false_eq_true, if_false] at h
    refine ⟨rfl, ?_⟩
    cases hw : d.wr with
    | true => simp only [hw, if_true] at h; exact ⟨h, fun hh => by cases hh⟩
    | false =>
      simp only [hw, Bool.false_eq_true, if_false] at h
      cases hh : d.hid with
      | nil => rw [hh] at h; exact ⟨h, fun _ hne => absurd rfl hne⟩
      | cons q l =>
        rw [hh] at h
        simp only [hide] at h
        split at h
        · rename_i hlt
          obtain ⟨h1, h2⟩ := hideR_sub _ _ _ h
          exact ⟨h1, fun _ _ => ⟨hlt, h2⟩⟩
        · cases h

/-- What an operation sees stands, by the numbers that came before it. -/
theorem view_wf (h : DAt B r N n0 ds L s a w X ι) {d : DOp} (od : Ord ds n0 L d) : WF w X ι (d.view n0 s.σ) (d.lab n0) := by
  have hn0 : n0 ≤ d.lab n0 := by unfold DOp.lab; omega
  have key : ∀ id o, d.view n0 s.σ id = some o → id < d.lab n0 ∧ ∃ m, m ≤ d.lab n0 ∧ ObRep w X ι m id o := by
    intro id o hv
    obtain ⟨hp, hs, hh⟩ := view_sub hv
    -- one that is not ordered ahead leaves nothing to be seen
    have nohid : d.wr = false → ¬ inHid n0 d.hid id := fun hw ⟨q, hq, hr⟩ => by
      have hne : d.hid ≠ [] := fun e0 => by rw [e0] at hq; simp at hq
      exact (hh hw hne).2 q hq hr
    have nosee : ∀ j e, L j → ds[j]? = some e → e.pure = false → (e.wr = true ∨ e.W n0 id ∨ (e.lays = true ∧ e.lab n0 ≤ id ∧ id < e.lab n0 + BIG)) → e.top n0 ≤ d.lab n0 := by
      intro j e hj he hep hor
      rcases od.ord j e hj he with h1 | ⟨-, h2, h3, h4⟩
      · exact h1
      · exfalso
        rcases hor with hw | hW | ⟨hl, hr1, hr2⟩
        · rw [h2 hw] at hp; cases hp
        · cases hw : d.wr with
          | true => rw [h3 hw] at hep; cases hep
          | false =>
            have hdc := calm_of hp hw
            exact nohid hw (W_hid (h4.1 hdc) (h4.2 hW.1 hdc) hW)
        · cases hw : d.wr with
          | true => rw [h3 hw] at hep; cases hep
          | false => exact nohid hw ⟨_, h4.1 (calm_of hp hw) hl, hr1, hr2⟩
    constructor
    · rcases h.dom id (by rw [hs]; simp) with h1 | ⟨j, e, hj, he, hl, hr1, hr2⟩
      · omega
      · have := nosee j e hj he (by
          cases hep : e.pure with
          | false => rfl
          | true => rw [od.purel j e he hep] at hl; cases hl) (.inr (.inr ⟨hl, hr1, hr2⟩))
        simp only [DOp.top, hl, if_true] at this
        omega
    · obtain ⟨m, hb, ho⟩ := h.ob id o hs
      refine ⟨m, ?_, ho⟩
      rcases hb with rfl | ⟨j, e, hj, he, hep, rfl, hor⟩
      · exact hn0
      · exact nosee j e hj he hep (hor.imp_right .inl)
  have hne : ∀ id, d.view n0 s.σ id ≠ none → s.σ id ≠ none := fun id hv => by
    obtain ⟨o, ho⟩ := Option.ne_none_iff_exists'.1 hv
    rw [(view_sub ho).2.1]; simp
  refine WF.of_ob (fun id o hv => ?_) (fun id hv => h.own id (hne id hv)) (fun id id' h1 h2 => h.inj id id' (hne id h1) (hne id' h2)) (fun id hv => ?_) h.xlt
  · obtain ⟨_, m, hm, ho⟩ := key id o hv
    exact ho.move' (Nat.le_refl _) (fun _ _ _ => rfl) (fun _ c _ _ h => ⟨c, h, rfl⟩) (fun _ _ _ => rfl) (fun _ _ h => h) hm rfl
  · obtain ⟨o, ho⟩ := Option.ne_none_iff_exists'.1 hv
    exact (key id o ho).1

/-- An operand stands, by the numbers that came before. -/
theorem read_rep (h : DAt B r N n0 ds L s a w X ι) {d : DOp} (od : Ord ds n0 L d) {t : Nat} (ht : t ∈ d.o.reads) : Rep w X ι (d.lab n0) (s.env t) (a.tmps.getD t undef) := by
  obtain ⟨m, hb, hr⟩ := h.rep t
  have hm : m ≤ d.lab n0 := by
    rcases hb with rfl | ⟨j, e, hj, he, hdst, rfl⟩
    · unfold DOp.lab; omega
    · rcases od.ord j e hj he with h1 | ⟨h1, -⟩
      · exact h1
      · exact absurd ht (h1 t hdst)
  exact hr.move (Nat.le_refl _) (fun _ _ _ => rfl) (fun _ c _ _ h => ⟨c, h, rfl⟩) (fun _ _ => rfl) (fun _ _ h => h) hm

/-- Operands, what is not read left out. -/
def seenV (d : DOp) (s : St) : Opd → V
  | .tmp t => if t ∈ d.o.reads then s.env t else .undef
  | .con v => v
def seen (d : DOp) (a : Act) : Operand → Value
  | .tmp t => if t ∈ d.o.reads then a.tmps.getD t undef else undef
  | x => a.eval x

theorem seen_rep (h : DAt B r N n0 ds L s a w X ι) {d : DOp} (od : Ord ds n0 L d) {x : Operand} {x' : Opd} (hc : cOpd x = some x') : Rep w X ι (d.lab n0) (seenV d s x') (seen d a x) := by
  unfold cOpd at hc
  split at hc
  · simp only [Option.some.injEq] at hc; subst hc
    simp only [seenV, seen]
    split
    · rename_i ht; exact read_rep h od ht
    · exact .undef
  · simp only [Option.map_eq_some_iff] at hc
    obtain ⟨v, hv, rfl⟩ := hc
    exact ofValA_rep hv
  · simp only [Option.some.injEq] at hc; subst hc
    exact .fn _ [] #[] rfl (fun i e u he => by simp at he)
  · cases hc

theorem plain_ok {v : V} (h : v.plain = true) : Ok (fun _ => False) v := by
  have one : ∀ v : V, v.plain1 = true → Ok (fun _ => False) v := by
    intro v h
    unfold V.plain1 at h
    split at h <;> first | (constructor; done) | skip
    · exact .fn _ [] (fun i e he => by simp at he)
    · cases h
  unfold V.plain at h
  split at h
  · exact .agg _ (fun i e he => one e (List.all_eq_true.1 h e (List.mem_of_getElem? he)))
  · exact one _ h

theorem seen_ok (h : DAt B r N n0 ds L s a w X ι) {d : DOp} (od : Ord ds n0 L d) (hcon : ∀ v, Opd.con v ∈ d.o.op.opds → v.plain = true) :
    ∀ x ∈ d.o.op.opds, Ok (fun id => id < d.lab n0 ∧ ι id < w.heap.size) (seenV d s x) := by
  intro x hx
  cases x with
  | con v => exact (plain_ok (hcon v hx)).none
  | tmp t =>
    simp only [seenV]
    split
    · rename_i ht; exact rep_ok (read_rep h od ht)
    · exact .undef

/-- The state behind an operation. -/
theorem draw_next (h : DAt B r N n0 ds L s a w X ι) {i : Nat} {d : DOp} (hd : ds[i]? = some d) (od : Ord ds n0 L d) (hcon : ∀ v, Opd.con v ∈ d.o.op.opds → v.plain = true)
    (hdst : fits N d.o.dst = true) {v : V} {u : Value} {σo : Sto} {n' : Nat} {w' : World} {X' : Nat → Prop} {ι' : Nat → Nat} (hrep : Rep w' X' ι' n' v u) (hwf : WF w' X' ι' σo n')
    (hext : Ext w w' X X' ι ι' (d.view n0 s.σ) σo (d.lab n0) n' (d.lok n0 s.lk)) (hsay : Says (seenV d s) (d.view n0 s.σ) (d.lab n0) d.o.op v σo n') (htop : n' ≤ d.top n0) :
    ∃ ι'', DAt B r N n0 ds (fun j => L j ∨ j = i) (({ s with σ := d.fin n0 s.σ σo } : St).put d.o.dst v) (a.put d.o.dst u) w' X' ι'' := by
  have hvw := view_wf h od
  have hn0 : n0 ≤ d.lab n0 := by unfold DOp.lab; omega
  have hnn : d.lab n0 ≤ n' := hext.hn
  obtain ⟨hokv, hoks, hdom⟩ := hsay (fun id => id < d.lab n0 ∧ ι id < w.heap.size) (seen_ok h od hcon) (wf_ok hvw)
  have hne : ∀ id, d.view n0 s.σ id ≠ none → s.σ id ≠ none := fun id hv => by
    obtain ⟨o, ho⟩ := Option.ne_none_iff_exists'.1 hv
    rw [(view_sub ho).2.1]; simp
  have hlaidlt : ∀ id, s.σ id ≠ none → ι id < w.heap.size := fun id hs => h.xlt _ (h.own id hs)
  have hlok : B.lk ≤ d.lok n0 s.lk := by
    unfold DOp.lok
    split
    · rw [h.hlk]; exact Nat.le_refl _
    · have := h.le; omega
  have hownsub : ∀ b, Own (d.view n0 s.σ) ι (d.lok n0 s.lk) b → Own s.σ ι B.lk b := fun b ⟨id, h1, h2, h3⟩ => ⟨id, Nat.le_trans hlok h1, hne id h2, h3⟩
  have hownX : ∀ {lk b}, Own s.σ ι lk b → X b := fun ⟨id, _, h2, h3⟩ => h3 ▸ h.own id h2
  have hheap : ∀ b, b < w.heap.size → ¬ X b → w'.heap[b]? = w.heap[b]? := fun b hb hx => hext.heap b hb (fun ho => hx (hownX (hownsub b ho)))
  -- new numbers lie in the operation's own range
  have hrange : ∀ id, d.lab n0 ≤ id → id < n' → d.lays = true ∧ id < d.lab n0 + BIG := fun id h1 h2 => by
    unfold DOp.top at htop
    cases hl : d.lays with
    | true => simp only [hl, if_true] at htop; exact ⟨rfl, by omega⟩
    | false => simp only [hl, Bool.false_eq_true, if_false] at htop; omega
  have hnotin : ∀ id, d.lab n0 ≤ id → id < n' → w.heap.size ≤ ι id := fun id h1 h2 => by
    obtain ⟨hl, h3⟩ := hrange id h1 h2
    refine h.res id (by omega) (fun ⟨j, e, hj, he, hel, hr1, hr2⟩ => ?_)
    exact od.apart j e hj he hel hl id ⟨⟨hr1, hr2⟩, h1, h3⟩
  let ι2 : Nat → Nat := fun id => if id < n0 then ι id else if d.lab n0 ≤ id ∧ id < n' then ι' id else if ι id < w.heap.size then ι id else w'.heap.size
  have hlaid : ∀ id, ι id < w.heap.size → ι2 id = ι id := fun id hl => by
    simp only [ι2]
    split
    · rfl
    · split
      · rename_i h2
        have := hnotin id h2.1 h2.2
        omega
      · simp only [hl, if_true]
  have hagree : ∀ id, More (fun id => id < d.lab n0 ∧ ι id < w.heap.size) (d.lab n0) n' id → ι2 id = ι' id := fun id hm => by
    rcases hm with ⟨h1, h2⟩ | ⟨h1, h2⟩
    · rw [hlaid id h2, hext.hι id h1]
    · simp only [ι2]
      rw [if_neg (by omega), if_pos ⟨h1, h2⟩]
  have hmlt : ∀ id, More (fun id => id < d.lab n0 ∧ ι id < w.heap.size) (d.lab n0) n' id → id < d.top n0 := fun id hm => by
    rcases hm with ⟨h1, h2⟩ | ⟨h1, h2⟩ <;> omega
  have hmv : ∀ {m : Nat} {v : V} {u : Value}, Rep w X ι m v u → Rep w' X' ι2 m v u := fun hh =>
    hh.move' hext.size hheap hext.cells (fun id _ hl => hlaid id hl) hext.xnew (Nat.le_refl _)
  have hmvOb : ∀ {m id : Nat} {o : Ob}, w'.heap[ι2 id]? = w.heap[ι id]? → ObRep w X ι m id o → ObRep w' X' ι2 m id o := fun hb hh =>
    hh.move' hext.size hheap hext.cells (fun id _ hl => hlaid id hl) hext.xnew (Nat.le_refl _) hb
  -- objects that came from the operation
  have hnewid : ∀ id, σo id ≠ none → ι2 id = ι' id := fun id hs => by
    rcases hdom id hs with h1 | h1
    · exact hagree id (.inl ⟨hvw.dom id h1, hlaidlt id (hne id h1)⟩)
    · exact hagree id (.inr h1)
  have hnewob : ∀ id o, σo id = some o → ObRep w' X' ι2 (d.top n0) id o := fun id o hs =>
    (hwf.ob hs).on (hoks.ob hs) hagree hmlt (hnewid id (by rw [hs]; simp))
  -- where an object of the new store comes from
  let Wd : Nat → Prop := fun id => (d.wr = true ∧ d.pure = false) ∨ d.W n0 id
  have hcase : ∀ id, (¬ Wd id ∧ d.fin n0 s.σ σo id = s.σ id) ∨ (Wd id ∧ d.pure = false ∧ d.fin n0 s.σ σo id = σo id) := by
    intro id
    cases hp : d.pure with
    | true =>
      left
      refine ⟨fun hh => ?_, by simp [DOp.fin, hp]⟩
      rcases hh with ⟨_, h2⟩ | h2
      · rw [hp] at h2; cases h2
      · have := h2.1; simp [DOp.calm, hp] at this
    | false =>
      cases hw : d.wr with
      | true => right; exact ⟨.inl ⟨hw, hp⟩, rfl, by simp [DOp.fin, hp, hw]⟩
      | false =>
        rcases fin_calm (calm_of hp hw) n0 s.σ σo id with ⟨h1, h2⟩ | ⟨h1, h2⟩
        · right; exact ⟨.inr h1, rfl, h2⟩
        · left
          refine ⟨fun hh => ?_, h2⟩
          rcases hh with ⟨h3, _⟩ | h3
          · rw [hw] at h3; cases h3
          · exact h1 h3
  -- what is not written is not its own
  have hcalm : ∀ id, ¬ Wd id → s.σ id ≠ none → ¬ Own (d.view n0 s.σ) ι (d.lok n0 s.lk) (ι id) := by
    rintro id hW hs ⟨id', h1, h2, h3⟩
    have hid : id' = id := h.inj id' id (hne id' h2) hs h3
    subst hid
    obtain ⟨o, ho⟩ := Option.ne_none_iff_exists'.1 h2
    obtain ⟨hp, _, hh⟩ := view_sub ho
    have hlt := hvw.dom id' h2
    cases hw : d.wr with
    | true => exact hW (.inl ⟨hw, hp⟩)
    | false =>
      have hc := calm_of hp hw
      refine hW (.inr ⟨hc, ?_⟩)
      have hlo : n0 + BIG * d.lo ≤ id' := by simpa [DOp.lok, hw] using h1
      cases hlow : d.low with
      | none =>
        have : d.lo = d.rank := by simp [DOp.lo, hlow]
        rw [this] at hlo
        unfold DOp.lab at hlt
        omega
      | some lo =>
        have : d.lo = lo := by simp [DOp.lo, hlow]
        rw [this] at hlo
        refine ⟨hlo, by unfold DOp.top; omega, fun ⟨q, hq, hr⟩ => ?_⟩
        have hne' : d.hid ≠ [] := fun e0 => by rw [e0] at hq; simp at hq
        exact (hh hw hne').2 q hq hr
  have hwlok : ∀ id, Wd id → B.lk ≤ id → d.lok n0 s.lk ≤ id := by
    intro id hW hlk
    unfold DOp.lok
    rcases hW with ⟨h1, h2⟩ | hW
    · simp only [h1, h2, Bool.not_false, Bool.and_self, if_true, h.hlk]; exact hlk
    · have hc : d.pure = false ∧ d.wr = false := by simpa [DOp.calm] using hW.1
      simp only [hc.1, hc.2, Bool.false_and, Bool.false_eq_true, if_false]
      obtain ⟨-, hW⟩ := hW
      cases hlow : d.low with
      | none => rw [hlow] at hW; simp only [DOp.lo, hlow, Option.getD_none]; exact hW.2.1
      | some lo => rw [hlow] at hW; simp only [DOp.lo, hlow, Option.getD_some]; exact hW.1
  have hwn0 : ∀ id, d.W n0 id → n0 ≤ id := by
    rintro id ⟨-, hW⟩
    cases hlow : d.low with
    | none => rw [hlow] at hW; have := hW.2.1; omega
    | some lo => rw [hlow] at hW; have := hW.1; omega
  have hσ : (({ s with σ := d.fin n0 s.σ σo } : St).put d.o.dst v).σ = d.fin n0 s.σ σo := put_sig
  have hlk' : (({ s with σ := d.fin n0 s.σ σo } : St).put d.o.dst v).lk = s.lk := put_lk
  have hn' : (({ s with σ := d.fin n0 s.σ σo } : St).put d.o.dst v).n = s.n := put_n
  have hL' : ∀ j, L j → (L j ∨ j = i) := fun j hj => .inl hj
  have hext' : Ext w w' X X' ι ι2 s.σ (d.fin n0 s.σ σo) n0 n0 B.lk := {
    hn := Nat.le_refl _, os := hext.os, tape := hext.tape, output := hext.output, size := hext.size
    heap := fun b hb ho => hext.heap b hb (fun ho' => ho (hownsub b ho'))
    cells := hext.cells
    loops := hext.loops
    hι := fun id hid => by simp only [ι2]; rw [if_pos hid]
    xnew := hext.xnew
    xold := fun b hx ho => hext.xold b hx (fun ho' => ho (hownsub b ho'))
    xlt := hext.xlt
    own := fun id hlk hs hlt => by
      rcases hcase id with ⟨-, e⟩ | ⟨hW, -, e⟩
      · rw [e] at hs
        exact ⟨id, hlk, hs, (hlaid id (hlaidlt id hs)).symm⟩
      · rw [e] at hs
        rw [hnewid id hs] at hlt ⊢
        exact hownsub _ (hext.own id (hwlok id hW hlk) hs hlt)
    lock := fun id hlk => by
      rcases hcase id with ⟨-, e⟩ | ⟨hW, h2, e⟩
      · exact e
      · rcases hW with ⟨h1, -⟩ | hW
        · rw [e]
          have hlo : d.lok n0 s.lk = B.lk := by simp [DOp.lok, h1, h2, h.hlk]
          have := hext.lock id (by rw [hlo]; exact hlk)
          rw [this]
          simp [DOp.view, h1, h2]
        · have := hwn0 id hW
          have := h.le
          omega }
  refine ⟨ι2, ?_⟩
  have hmk : Marks B.w.heap.size X' w' a.defers := by
    obtain ⟨rs, m1, m2, m3⟩ := h.marks
    refine ⟨rs, m1, m2, fun q hq => ?_⟩
    obtain ⟨c1, c2, c3⟩ := m3 q hq
    have hlt := (Array.getElem?_eq_some_iff.1 c2).1
    exact ⟨c1, by rw [hheap q hlt c3]; exact c2, fun hx => c3 (hext.xnew q hlt hx)⟩
  exact {
    hn := by rw [hn']; exact h.hn
    hlk := by rw [hlk']; exact h.hlk
    le := h.le
    size := by cases hdd : d.o.dst <;> simpa [Act.put] using h.size
    marks := by cases hdd : d.o.dst <;> simpa [Act.put] using hmk
    rnd := fun l hl => by obtain ⟨rec, hrec⟩ := h.rnd l hl; exact hext.loops _ _ hrec
    ext := by rw [hσ]; exact h.ext.trans hext'
    own := fun id hs => by
      rw [hσ] at hs
      rcases hcase id with ⟨hc, e⟩ | ⟨-, -, e⟩
      · rw [e] at hs
        rw [hlaid id (hlaidlt id hs)]
        exact hext.xold _ (h.own id hs) (hcalm id hc hs)
      · rw [e] at hs; rw [hnewid id hs]; exact hwf.own id hs
    inj := fun id id' hs hs' he => by
      rw [hσ] at hs hs'
      have mixed : ∀ q q', s.σ q ≠ none → ¬ Wd q → σo q' ≠ none → Wd q' → ι2 q ≠ ι2 q' := by
        intro q q' h1 hc h2 hc' e
        rw [hlaid q (hlaidlt q h1), hnewid q' h2] at e
        have hlt := hlaidlt q h1
        rw [e] at hlt
        by_cases hlk : B.lk ≤ q'
        · have := hext.own q' (hwlok q' hc' hlk) h2 hlt
          rw [← e] at this
          exact hcalm q hc h1 this
        · rcases hc' with ⟨g1, g2⟩ | hW
          · exact hc (.inl ⟨g1, g2⟩)
          · have := hwn0 q' hW
            have := h.le
            omega
      rcases hcase id with ⟨hc, e⟩ | ⟨hc, -, e⟩ <;> rcases hcase id' with ⟨hc', e'⟩ | ⟨hc', -, e'⟩ <;> rw [e] at hs <;> rw [e'] at hs'
      · rw [hlaid id (hlaidlt id hs), hlaid id' (hlaidlt id' hs')] at he; exact h.inj id id' hs hs' he
      · exact absurd he (mixed id id' hs hc hs' hc')
      · exact absurd he.symm (mixed id' id hs' hc' hs hc)
      · rw [hnewid id hs, hnewid id' hs'] at he; exact hwf.inj id id' hs hs' he
    xlt := hwf.xlt
    dom := fun id hs => by
      rw [hσ] at hs
      have new : ∀ q, d.lab n0 ≤ q → q < n' → InR ds n0 (fun j => L j ∨ j = i) q := fun q h1 h2 => by
        obtain ⟨hl, h3⟩ := hrange q h1 h2
        exact ⟨i, d, .inr rfl, hd, hl, h1, h3⟩
      rcases hcase id with ⟨hc, e⟩ | ⟨-, -, e⟩
      · rw [e] at hs; exact (h.dom id hs).imp_right (InR.mono hL')
      · rw [e] at hs
        rcases hdom id hs with h1 | h1
        · exact (h.dom id (hne id h1)).imp_right (InR.mono hL')
        · exact .inr (new id h1.1 h1.2)
    ob := fun id o hs => by
      rw [hσ] at hs
      rcases hcase id with ⟨hc, e⟩ | ⟨hW, hp, e⟩
      · rw [e] at hs
        obtain ⟨m, hb, ho⟩ := h.ob id o hs
        refine ⟨m, hb.mono hL', hmvOb ?_ ho⟩
        have hs' : s.σ id ≠ none := by rw [hs]; simp
        have hlt := hlaidlt id hs'
        rw [hlaid id hlt]
        exact hext.heap _ hlt (hcalm id hc hs')
      · rw [e] at hs
        refine ⟨d.top n0, .inr ⟨i, d, .inr rfl, hd, hp, rfl, ?_⟩, hnewob id o hs⟩
        rcases hW with ⟨hw, -⟩ | hW
        · exact .inl hw
        · exact .inr hW
    rep := fun t => by
      have old : ∃ m, Bt ds n0 (fun j => L j ∨ j = i) t m ∧ Rep w' X' ι2 m (s.env t) (a.tmps.getD t undef) := by
        obtain ⟨m, hb, hr⟩ := h.rep t
        exact ⟨m, hb.mono hL', hmv hr⟩
      cases hdd : d.o.dst with
      | none => simpa [St.put, Act.put] using old
      | some q =>
        rw [hdd] at hdst
        have hq : q < a.tmps.size := Nat.lt_of_lt_of_le (by simpa [fits] using hdst) h.size
        by_cases e : t = q
        · subst e
          refine ⟨d.top n0, .inr ⟨i, d, .inr rfl, hd, hdd, rfl⟩, ?_⟩
          simp only [St.put, Act.put, if_true, Array.getD_eq_getD_getElem?, Array.getElem?_setIfInBounds_self_of_lt hq, Option.getD_some]
          exact hrep.on hokv hagree hmlt
        · obtain ⟨m, h1, h2⟩ := old
          refine ⟨m, h1, ?_⟩
          simp only [St.put, Act.put, e, if_false, Array.getD_eq_getD_getElem?, Array.getElem?_setIfInBounds_ne (Ne.symm e)]
          simpa [Array.getD_eq_getD_getElem?] using h2
    res := fun id hid hnot => by
      have hold : ¬ InR ds n0 L id := fun hh => hnot (hh.mono hL')
      have hun := h.res id hid hold
      simp only [ι2]
      rw [if_neg (by omega)]
      split
      · rename_i h2
        obtain ⟨hl, h3⟩ := hrange id h2.1 h2.2
        exact absurd ⟨i, d, .inr rfl, hd, hl, h2.1, h3⟩ hnot
      · rw [if_neg (by omega)]; exact Nat.le_refl _ }

end
end Go.Q
end

section
/- A region that draws its order, as a whole. -/
set_option linter.unusedSimpArgs false
set_option linter.unusedVariables false
set_option linter.unusedSectionVars false
namespace Go.Q
variable [Link]

section
variable {P : Program} {T : Tab} {B : Base} {r : Option Nat} {N n0 tot : Nat} {ops : Array Oper} {bef : List Nat} {ds : List DOp} {L : Nat → Prop} {s : St} {a : Act} {w : World}
  {X : Nat → Prop} {ι : Nat → Nat}

/-- An operation that is not wanted. -/
theorem draw_skip (h : DAt B r N n0 ds L s a w X ι) {i : Nat} {dst : Option Nat} (hdst : fits N dst = true) :
    DAt B r N n0 ds (fun j => L j ∨ j = i) (s.put dst .undef) (a.put dst undef) w X ι := by
  have hL' : ∀ j, L j → (L j ∨ j = i) := fun j hj => .inl hj
  have hσ : (s.put dst .undef).σ = s.σ := by cases dst <;> rfl
  have hlk' : (s.put dst .undef).lk = s.lk := put_lk
  have hn' : (s.put dst .undef).n = s.n := put_n
  exact {
    hn := by rw [hn']; exact h.hn
    hlk := by rw [hlk']; exact h.hlk
    le := h.le
    size := by cases dst <;> simpa [Act.put] using h.size
    marks := by cases dst <;> simpa [Act.put] using h.marks
    rnd := h.rnd
    ext := by rw [hσ]; exact h.ext
    own := by rw [hσ]; exact h.own
    inj := by rw [hσ]; exact h.inj
    xlt := h.xlt
    dom := fun id hs => by rw [hσ] at hs; exact (h.dom id hs).imp_right (InR.mono hL')
    ob := fun id o hs => by
      rw [hσ] at hs
      obtain ⟨m, hb, ho⟩ := h.ob id o hs
      exact ⟨m, hb.mono hL', ho⟩
    rep := fun t => by
      have old : ∃ m, Bt ds n0 (fun j => L j ∨ j = i) t m ∧ Rep w X ι m (s.env t) (a.tmps.getD t undef) := by
        obtain ⟨m, hb, hr⟩ := h.rep t
        exact ⟨m, hb.mono hL', hr⟩
      cases dst with
      | none => simpa [St.put, Act.put] using old
      | some q =>
        have hq : q < a.tmps.size := Nat.lt_of_lt_of_le (by simpa [fits] using hdst) h.size
        by_cases e : t = q
        · subst e
          refine ⟨n0, .inl rfl, ?_⟩
          simp only [St.put, Act.put, if_true, Array.getD_eq_getD_getElem?, Array.getElem?_setIfInBounds_self_of_lt hq, Option.getD_some]
          exact .undef
        · obtain ⟨m, h1, h2⟩ := old
          refine ⟨m, h1, ?_⟩
          simp only [St.put, Act.put, e, if_false, Array.getD_eq_getD_getElem?, Array.getElem?_setIfInBounds_ne (Ne.symm e)]
          simpa [Array.getD_eq_getD_getElem?] using h2
    res := fun id hid hnot => h.res id hid (fun hh => hnot (hh.mono hL')) }

theorem no_select {o : Oper} {ai : AI} (hc : cOp P o = some ai) : (∀ cs b, o.op ≠ .select cs b) ∧ ∀ c, o.op ≠ .defer c := by
  obtain ⟨dst, op, ty, pos, after, guard⟩ := o
  constructor
  · intro cs b e
    simp only at e; subst e
    simp [cOp] at hc
  · intro c e
    simp only at e; subst e
    simp [cOp] at hc

/-- One operation, run. -/
theorem draw_step {lo : Nat} (st : Sta P N ops bef ds tot lo) (h : DAt B r N n0 ds L s a w X ι) {i : Nat} {d : DOp} (hd : ds[i]? = some d) (hL : ¬ L i) (hLb : ∀ j, L j → j < ds.length)
    (hcl : ∀ j k, L j → k < ds.length → befAt bef (lo + j) (lo + k) = true → L k) {K : St → Prop} (hs : stepD T (sndC P T) n0 d s K) {Qm : Exit → Act → World → Prop} {Km : Act → World → Prop}
    (hK : ∀ s' a' w' X' ι', DAt B r N n0 ds (fun j => L j ∨ j = i) s' a' w' X' ι' → K s' → Km a' w') : wpOpIn (Fw r) 0 P ops Qm (lo + i) Km a w := by
  obtain ⟨o, ho, hao, hrd⟩ := st.hcomp i d hd
  obtain ⟨h1, h2, h3⟩ := cOper_spec hao
  have hwant := wants_iff' (fun t => by obtain ⟨m, _, hr⟩ := h.rep t; exact ⟨m, hr⟩) hao
  unfold wpOpIn
  simp only [ho]
  unfold stepD at hs
  split at hs <;> rename_i hw
  · rw [hwant] at hw
    rw [if_pos hw]
    have od := st.ord (n0 := n0) hd hL hLb hcl
    rw [opD_eq] at hs
    have hs' : opW T (sndC P T) false (seenV d s) (d.view n0 s.σ) (d.lab n0) (d.lok n0 s.lk) d.o.op
        (fun v σo n' => n' ≤ d.top n0 ∧ K (({ s with σ := d.fin n0 s.σ σo } : St).put d.o.dst v)) := by
      refine opW_congr (fun x hx => ?_) hs
      cases x with
      | con v => rfl
      | tmp t =>
        have ht : t ∈ d.o.reads := by
          simp only [AOp.reads, List.mem_append]
          exact .inl (List.mem_filterMap.2 ⟨.tmp t, hx, rfl⟩)
        simp [seenV, St.val, ht]
    have hvw := view_wf h od
    have hlok : d.lok n0 s.lk ≤ d.lab n0 := by
      unfold DOp.lok
      split
      · rw [h.hlk]; have := h.le; unfold DOp.lab; omega
      · have := Nat.mul_le_mul_left BIG od.lo; unfold DOp.lab; omega
    have hsay := opW_says hvw (fun x x' hx => seen_rep h od hx) h1 hs'
    obtain ⟨hsel, hdef⟩ := no_select h1
    have hxx : execOp a.eval o = execOp (seen d a) o := by
      refine execOp_congr o hsel (fun x hx => ?_)
      cases x with
      | tmp t =>
        have ht := hrd t (by simpa using hx)
        simp [seen, ht, Act.eval]
      | const v => rfl
      | global g => rfl
      | func f => rfl
    have hto := opW_sound' (r := r) (a := a) hvw hlok (fun x x' hx => seen_rep h od hx) (fun _ => rfl) (fun _ => rfl) (fun _ => rfl) hxx h1 hsay
    refine hto Km Qm (fun u w' hres => ?_)
    obtain ⟨v, σo, n', X', ι', ⟨⟨htop, hk⟩, hsy⟩, hrep, hwf, hext⟩ := hres
    obtain ⟨ι2, hnext⟩ := draw_next h hd od (st.hcon i d hd) (by rw [h2]; exact h3) hrep hwf hext hsy htop
    rw [← h2]
    exact hK _ _ _ _ _ hnext hk
  · rw [hwant] at hw
    rw [if_neg hw]
    refine ⟨fun _ _ => trivial, ?_⟩
    rw [← h2]
    exact hK _ _ _ _ _ (draw_skip h (by rw [h2]; exact h3)) hs

/-- What is not done yet, in the order of the text. -/
structure RestOf (ds : List DOp) (lo : Nat) (listed : Array Bool) (rest : List (Nat × DOp)) : Prop where
  sorted : rest.Pairwise (fun p q => p.1 < q.1)
  mem : ∀ j d, (j, d) ∈ rest ↔ ds[j]? = some d ∧ listed[lo + j]? = some false

/-- All ahead of h are done. -/
def upTo (n h : Nat) : Array Bool := ((List.range n).map fun i => decide (i < h)).toArray

theorem upTo_size {n h : Nat} : (upTo n h).size = n := by simp [upTo]
theorem upTo_get {n h i : Nat} (hi : i < n) : (upTo n h)[i]? = some (decide (i < h)) := by simp [upTo, hi]

theorem upTo_eq {n h : Nat} {l : Array Bool} (hs : l.size = n) (hl : ∀ i, i < n → l[i]? = some (decide (i < h))) : l = upTo n h := by
  apply Array.ext_getElem?
  intro i
  by_cases hi : i < n
  · rw [hl i hi, upTo_get hi]
  · rw [Array.getElem?_eq_none (by omega), Array.getElem?_eq_none (by rw [upTo_size]; omega)]

theorem bar_spec {n h : Nat} (hb : bar bef n h = true) {i j : Nat} (hi : i < h) (hj : h ≤ j) (hjn : j < n) : befAt bef j i = true := by
  simp only [bar, List.all_eq_true, List.mem_range, Bool.or_eq_true, decide_eq_true_eq] at hb
  rcases hb j hjn with h1 | h1
  · omega
  · exact h1 i hi

/-- What is ready. -/
theorem ready_spec {os : List AOp} (hr : RegSt P N ops bef os) {listed : Array Bool} (hsz : listed.size = ops.size) {i : Nat} (hi : i ∈ Region.ready .any ops listed) :
    ∃ o, i < ops.size ∧ ops[i]? = some o ∧ listed[i]? = some false ∧ ∀ e ∈ o.after.toList, Region.binds .any e = true → listed[e.on]? = some true := by
  simp only [Region.ready, List.mem_filter, List.mem_range, Bool.and_eq_true, Bool.not_eq_true', Array.getD_eq_getD_getElem?] at hi
  obtain ⟨hlt, hl, hall⟩ := hi
  have hil : i < listed.size := by omega
  have hoi : ops[i]? = some ops[i] := Array.getElem?_eq_getElem hlt
  refine ⟨ops[i], hlt, hoi, ?_, fun e he hb => ?_⟩
  · rw [Array.getElem?_eq_getElem hil] at hl ⊢
    simpa using hl
  · rw [hoi] at hall
    simp only [Option.map_some, Option.getD_some, Array.all_eq_true'] at hall
    have := hall e (by simpa using he)
    simp only [hb, Bool.not_true, Bool.false_or] at this
    cases hx : listed[e.on]? with
    | none => rw [hx] at this; simp at this
    | some b => rw [hx] at this; simp at this; rw [this]

/-- The first that is not done is ready. -/
theorem ready_first {os : List AOp} (hr : RegSt P N ops bef os) {listed : Array Bool} (hsz : listed.size = ops.size) {i : Nat} (hi : i < ops.size) (hf : listed[i]? = some false)
    (hall : ∀ j, j < i → listed[j]? = some true) : i ∈ Region.ready .any ops listed := by
  have hoi : ops[i]? = some ops[i] := Array.getElem?_eq_getElem hi
  simp only [Region.ready, List.mem_filter, List.mem_range, Bool.and_eq_true, Bool.not_eq_true', Array.getD_eq_getD_getElem?, hf, Option.getD_some, hoi, Option.map_some, true_and]
  refine ⟨hi, ?_⟩
  rw [Array.all_eq_true']
  intro e he
  cases hb : Region.binds .any e with
  | false => rfl
  | true =>
    have hlt := hr.hedge i _ hoi e (by simpa using he) hb
    simp only [Bool.not_true, Bool.false_or]
    rw [hall e.on hlt]; rfl

theorem ready_pred {os : List AOp} (hr : RegSt P N ops bef os) {listed : Array Bool} (hsz : listed.size = ops.size)
    (hcl : ∀ j k, listed[j]? = some true → k < ops.size → befAt bef j k = true → listed[k]? = some true) {i : Nat} (hi : i ∈ Region.ready .any ops listed) {k : Nat} (hk : k < ops.size)
    (hb : befAt bef i k = true) : listed[k]? = some true := by
  obtain ⟨o, hlt, ho, hl, hpre⟩ := ready_spec hr hsz hi
  obtain ⟨-, e, he, hbe, hor⟩ := hr.hbef i o k ho hk hb
  have hel := hpre e he hbe
  rcases hor with rfl | hor
  · exact hel
  · exact hcl e.on k hel hk hor

theorem draw_any {lo : Nat} {os : List AOp} (hr : RegSt P N ops bef os) (st : Sta P N ops bef ds tot lo) (hbar : bar bef ops.size (lo + ds.length) = true) {Qm : Exit → Act → World → Prop} {Q : St → Prop}
    (hQ : ∀ (L : Nat → Prop) s a w X ι, DAt B r N n0 ds L s a w X ι → Q s → wpAnyIn (Fw r) 0 P .any ops Qm (ops.size - (lo + ds.length)) (upTo ops.size (lo + ds.length)) a w) :
    ∀ (fuel : Nat) (listed : Array Bool) (rest : List (Nat × DOp)) (s : St) (a : Act) (w : World)
    (X : Nat → Prop) (ι : Nat → Nat), listed.size = ops.size → RestOf ds lo listed rest → rest.length = fuel → (∀ i, i < lo → listed[i]? = some true) →
    (∀ i, lo + ds.length ≤ i → i < ops.size → listed[i]? = some false) → DAt B r N n0 ds (fun j => j < ds.length ∧ listed[lo + j]? = some true) s a w X ι →
    (∀ j k, listed[j]? = some true → k < ops.size → befAt bef j k = true → listed[k]? = some true) → wpD T (sndC P T) n0 (rest.map (·.2)) s Q →
    wpAnyIn (Fw r) 0 P .any ops Qm (fuel + (ops.size - (lo + ds.length))) listed a w := by
  intro fuel
  have hwin := st.hwin
  induction fuel with
  | zero =>
    intro listed rest s a w X ι hsz hre hlen hlo hhi h hcl hw
    have hnil : rest = [] := by cases rest; rfl; simp at hlen
    subst hnil
    have : listed = upTo ops.size (lo + ds.length) := upTo_eq hsz (fun i hi => by
      by_cases h1 : i < lo
      · rw [hlo i h1]; simp; omega
      · by_cases h2 : i < lo + ds.length
        · have hdi : i - lo < ds.length := by omega
          have hli : i < listed.size := by omega
          cases hx : listed[i] with
          | true => rw [Array.getElem?_eq_getElem hli, hx]; simp [h2]
          | false =>
            have := (hre.mem (i - lo) ds[i - lo]).2 ⟨List.getElem?_eq_getElem hdi, by rw [show lo + (i - lo) = i by omega, Array.getElem?_eq_getElem hli, hx]⟩
            simp at this
        · rw [hhi i (by omega) hi]; simp [h2])
    rw [this, Nat.zero_add]
    exact hQ _ s a w X ι h hw
  | succ fuel ih =>
    intro listed rest s a w X ι hsz hre hlen hlo hhi h hcl hw
    rw [show fuel + 1 + (ops.size - (lo + ds.length)) = (fuel + (ops.size - (lo + ds.length))) + 1 by omega]
    refine ⟨fun hnil => ?_, fun i hi => ?_⟩
    · cases rest with
      | nil => simp at hlen
      | cons p rest =>
        obtain ⟨j, d⟩ := p
        obtain ⟨hjd, hjl⟩ := (hre.mem j d).1 (by simp)
        have hj : j < ds.length := (List.getElem?_eq_some_iff.1 hjd).1
        have := ready_first hr hsz (i := lo + j) (by omega) hjl (fun q hq => by
          by_cases h1 : q < lo
          · exact hlo q h1
          · have hdi : q - lo < ds.length := by omega
            have hli : q < listed.size := by omega
            cases hx : listed[q] with
            | true => rw [Array.getElem?_eq_getElem hli, hx]
            | false =>
              exfalso
              have hm := (hre.mem (q - lo) ds[q - lo]).2 ⟨List.getElem?_eq_getElem hdi, by rw [show lo + (q - lo) = q by omega, Array.getElem?_eq_getElem hli, hx]⟩
              rcases List.mem_cons.1 hm with h | h
              · have : q - lo = j := congrArg Prod.fst h
                omega
              · have := (List.pairwise_cons.1 hre.sorted).1 _ h
                simp only at this
                omega)
        rw [hnil] at this
        simp at this
    · obtain ⟨o, hilt, ho, hl, hpre⟩ := ready_spec hr hsz hi
      have hpred : ∀ k, k < ops.size → befAt bef i k = true → listed[k]? = some true := fun k hk hb => ready_pred hr hsz hcl hi hk hb
      -- it lies in this part
      have hi1 : lo ≤ i := by
        by_cases h1 : i < lo
        · rw [hlo i h1] at hl; cases hl
        · omega
      have hi2 : i < lo + ds.length := by
        by_cases h2 : i < lo + ds.length
        · exact h2
        · exfalso
          cases rest with
          | nil => simp at hlen
          | cons p rest =>
            obtain ⟨j, d⟩ := p
            obtain ⟨hjd, hjl⟩ := (hre.mem j d).1 (by simp)
            have hj : j < ds.length := (List.getElem?_eq_some_iff.1 hjd).1
            have := hpred (lo + j) (by omega) (bar_spec hbar (by omega) (by omega) hilt)
            rw [hjl] at this; cases this
      obtain ⟨k, rfl⟩ : ∃ k, i = lo + k := ⟨i - lo, by omega⟩
      have hk : k < ds.length := by omega
      have hd : ds[k]? = some ds[k] := List.getElem?_eq_getElem hk
      generalize ds[k] = d at hd
      have hmem := (hre.mem k d).2 ⟨hd, hl⟩
      obtain ⟨l1, l2, rfl⟩ := List.append_of_mem hmem
      have hil : lo + k < listed.size := (Array.getElem?_eq_some_iff.1 hl).1
      have hs := List.pairwise_append.1 hre.sorted
      have hs2 := List.pairwise_cons.1 hs.2.1
      -- what stands ahead may come behind
      have hsep : ∀ e ∈ l1.map (·.2), Sep e d := by
        intro e he
        obtain ⟨⟨j, e'⟩, hje, rfl⟩ := List.mem_map.1 he
        obtain ⟨hjd, hjl⟩ := (hre.mem j e').1 (by simp [hje])
        have hji : j < k := hs.2.2 (j, e') hje (k, d) (by simp)
        obtain ⟨oj, hoj, -⟩ := st.hcomp j e' hjd
        obtain ⟨p1, p2⟩ := st.hpair j k e' d hji hjd hd
        refine ⟨p2 ?_, p1⟩
        have b1 : befAt bef (lo + k) (lo + j) = false := by
          cases hb : befAt bef (lo + k) (lo + j) with
          | false => rfl
          | true => have := hpred (lo + j) (by omega) hb; rw [hjl] at this; cases this
        have b2 : befAt bef (lo + j) (lo + k) = false := by
          cases hb : befAt bef (lo + j) (lo + k) with
          | false => rfl
          | true =>
            have := (st.hbef (lo + j) oj (lo + k) hoj (by omega) hb).1
            omega
        unfold befAt at b1 b2
        simp [apart, b1, b2]
      have hw' : wpD T (sndC P T) n0 (d :: (l1.map (·.2) ++ l2.map (·.2))) s Q := swapL (sndC_mono P T) _ _ s hsep (by simpa using hw)
      rw [wpD_cons] at hw'
      have hL' : ∀ q, ((listed.setIfInBounds (lo + k) true)[q]? = some true) ↔ (listed[q]? = some true ∨ q = lo + k) := by
        intro q
        by_cases e : lo + k = q
        · subst e; simp [hil]
        · rw [Array.getElem?_setIfInBounds_ne e]
          constructor
          · exact .inl
          · rintro (h | h)
            · exact h
            · exact absurd h.symm e
      refine draw_step st h hd (by rw [hl]; simp) (fun j hj => hj.1) (fun j q hj hq hb => ⟨hq, hcl (lo + j) (lo + q) hj.2 (by omega) hb⟩) hw' (fun s' a' w' X' ι' h' hw'' => ?_)
      refine ih (listed.setIfInBounds (lo + k) true) (l1 ++ l2) s' a' w' X' ι' (by simpa using hsz) ⟨?_, fun j e => ?_⟩ (by simp at hlen ⊢; omega) (fun q hq => (hL' q).2 (.inl (hlo q hq)))
        (fun q hq hqn => by rw [Array.getElem?_setIfInBounds_ne (by omega)]; exact hhi q hq hqn) ?_ (fun j q hj hq hb => ?_) (by simpa using hw'')
      · exact List.pairwise_append.2 ⟨hs.1, hs2.2, fun p hp q hq => hs.2.2 p hp q (List.mem_cons_of_mem _ hq)⟩
      · have hne : ∀ e', (k, e') ∉ l1 ++ l2 := fun e' hm => by
          rcases List.mem_append.1 hm with hm | hm
          · have : k < k := hs.2.2 _ hm (k, d) (by simp)
            omega
          · have : k < k := hs2.1 _ hm
            omega
        by_cases ej : k = j
        · subst ej
          refine ⟨fun hm => absurd hm (hne e), fun hh => ?_⟩
          have := hh.2
          simp [hil] at this
        · rw [Array.getElem?_setIfInBounds_ne (by omega)]
          rw [← hre.mem j e]
          simp only [List.mem_append, List.mem_cons, Prod.mk.injEq]
          constructor
          · rintro (h | h)
            · exact .inl h
            · exact .inr (.inr h)
          · rintro (h | h | h)
            · exact .inl h
            · exact absurd h.1.symm ej
            · exact .inr h
      · have : (fun j => j < ds.length ∧ (listed.setIfInBounds (lo + k) true)[lo + j]? = some true) = fun j => (j < ds.length ∧ listed[lo + j]? = some true) ∨ j = k := funext fun j => propext (by
          rw [hL']
          constructor
          · rintro ⟨h1, h2 | h2⟩
            · exact .inl ⟨h1, h2⟩
            · exact .inr (by omega)
          · rintro (⟨h1, h2⟩ | rfl)
            · exact ⟨h1, .inl h2⟩
            · exact ⟨hk, .inr rfl⟩)
        rw [this]; exact h'
      · rcases (hL' j).1 hj with hj | rfl
        · exact (hL' q).2 (.inl (hcl j q hj hq hb))
        · exact (hL' q).2 (.inl (hpred q hq hb))

/-- A part begins. -/
theorem draw_start (hat : At B r N s a w X ι) : DAt B r N s.n ds (fun _ => False) s a w X (fun id => if id < s.n then ι id else w.heap.size) := by
  have hι0 : ∀ id, id < s.n → (fun id => if id < s.n then ι id else w.heap.size) id = ι id := fun id h => by simp [h]
  have h1 : Ext w w X X ι (fun id => if id < s.n then ι id else w.heap.size) s.σ s.σ s.n s.n B.lk := {
    hn := Nat.le_refl _, os := rfl, tape := rfl, output := rfl, size := Nat.le_refl _, heap := fun _ _ _ => rfl, cells := fun b c t f h => ⟨c, h, rfl⟩, loops := fun _ q h => ⟨q, h⟩
    hι := hι0, xnew := fun _ _ h => h, xold := fun _ h _ => h, xlt := hat.wf.xlt
    own := fun id h1 h2 h3 => by
      have := hat.wf.dom id h2
      exact ⟨id, h1, h2, (hι0 id this).symm⟩
    lock := fun _ _ => rfl }
  have hwf : WF w X (fun id => if id < s.n then ι id else w.heap.size) s.σ s.n := hat.wf.move (Nat.le_refl _) (fun _ _ => rfl) hι0 (fun _ _ => Iff.rfl) (Nat.le_refl _) hat.wf.xlt
  exact {
    hn := rfl, hlk := hat.hlk, le := hat.le, size := hat.size
    marks := hat.marks
    rnd := hat.rnd
    ext := hat.ext.trans h1
    own := hwf.own, inj := hwf.inj, xlt := hwf.xlt
    dom := fun id hs => .inl (hwf.dom id hs)
    ob := fun id o hs => ⟨s.n, .inl rfl, hwf.ob hs⟩
    rep := fun t => ⟨s.n, .inl rfl, (hat.rep t).ext hat.wf h1⟩
    res := fun id hid _ => by
      have : ¬ id < s.n := by omega
      simp only [this, if_false]
      exact Nat.le_refl _ }

/-- A part ends. -/
theorem draw_end {lo : Nat} (st : Sta P N ops bef ds tot lo) {s : St} (h' : DAt B r N n0 ds L s a w X ι) : At B r N { s with n := n0 + BIG * tot } a w X ι := by
  have htop : ∀ (j : Nat) (d : DOp), ds[j]? = some d → d.top n0 ≤ n0 + BIG * tot := fun j d hd => by
    have h0 := st.htop j d hd
    unfold DOp.top DOp.lab
    cases hl : d.lays with
    | true =>
      rw [hl] at h0
      simp only [if_true] at h0 ⊢
      have := Nat.mul_le_mul_left BIG h0
      rw [Nat.mul_add, Nat.mul_one] at this
      omega
    | false =>
      rw [hl] at h0
      simp only [Bool.false_eq_true, if_false, Nat.add_zero] at h0 ⊢
      have := Nat.mul_le_mul_left BIG h0
      omega
  refine ⟨WF.of_ob (fun id o hs => ?_) h'.own h'.inj (fun id hs => ?_) h'.xlt, h'.hlk, ?_, h'.size, fun t => ?_, ?_, h'.marks, h'.rnd⟩
  · obtain ⟨m, hb, ho⟩ := h'.ob id o hs
    have hm : m ≤ n0 + BIG * tot := by
      rcases hb with rfl | ⟨j, d, _, hd, _, rfl, _⟩
      · omega
      · exact htop j d hd
    exact ho.move' (Nat.le_refl _) (fun _ _ _ => rfl) (fun _ c _ _ h => ⟨c, h, rfl⟩) (fun _ _ _ => rfl) (fun _ _ h => h) hm rfl
  · show id < n0 + BIG * tot
    rcases h'.dom id hs with h0 | ⟨j, d, _, hd, hl, _, hr⟩
    · omega
    · have := htop j d hd
      simp only [DOp.top, hl, if_true] at this
      omega
  · have := h'.le
    show B.lk ≤ n0 + BIG * tot
    omega
  · obtain ⟨m, hb, hr⟩ := h'.rep t
    have hm : m ≤ n0 + BIG * tot := by
      rcases hb with rfl | ⟨j, d, _, hd, _, rfl⟩
      · omega
      · exact htop j d hd
    exact hr.move (Nat.le_refl _) (fun _ _ _ => rfl) (fun _ c _ _ h => ⟨c, h, rfl⟩) (fun _ _ => rfl) (fun _ _ h => h) hm
  · have he := h'.ext
    exact { he with hn := Nat.le_trans he.hn (Nat.le_add_right _ _) }

/-- Operations that come one by one. -/
theorem draw_ones {os : List AOp} (hr : RegSt P N ops bef os) {Qm : Exit → Act → World → Prop} {Q : St → Prop} {hi : Nat}
    (hQ : ∀ s a w X ι, At B r N s a w X ι → Q s → wpAnyIn (Fw r) 0 P .any ops Qm (ops.size - hi) (upTo ops.size hi) a w) :
    ∀ (l : List AOp) (lo : Nat) (s : St) (a : Act) (w : World) (X : Nat → Prop) (ι : Nat → Nat), lo + l.length = hi → hi ≤ ops.size → (∀ (i : Nat) (o : AOp), l[i]? = some o → os[lo + i]? = some o) →
      (∀ i, i < l.length → bar bef ops.size (lo + (i + 1)) = true) → At B r N s a w X ι → wpR T (sndC P T) l s Q → wpAnyIn (Fw r) 0 P .any ops Qm (ops.size - lo) (upTo ops.size lo) a w
  | [], lo, s, a, w, X, ι, hlo, hle, hget, hbar, h, hw => by
    simp at hlo
    subst hlo
    exact hQ s a w X ι h hw
  | ao :: l, lo, s, a, w, X, ι, hlo, hle, hget, hbar, h, hw => by
    simp only [List.length_cons] at hlo hbar
    have hlt : lo < ops.size := by omega
    rw [show ops.size - lo = (ops.size - (lo + 1)) + 1 by omega]
    obtain ⟨o, ho, hao, -, -⟩ := hr.hcomp lo ao (hget 0 ao rfl)
    have hcl : ∀ j k, (upTo ops.size lo)[j]? = some true → k < ops.size → befAt bef j k = true → (upTo ops.size lo)[k]? = some true := by
      intro j k hj hk hb
      have hjn : j < ops.size := by have := (Array.getElem?_eq_some_iff.1 hj).1; rwa [upTo_size] at this
      rw [upTo_get hjn] at hj
      simp at hj
      have hoj : ops[j]? = some ops[j] := Array.getElem?_eq_getElem hjn
      have := (hr.hbef j _ k hoj hk hb).1
      rw [upTo_get hk]; simp; omega
    refine ⟨fun hnil => ?_, fun i hi' => ?_⟩
    · have := ready_first hr (listed := upTo ops.size lo) upTo_size hlt (by rw [upTo_get hlt]; simp) (fun j hj => by rw [upTo_get (by omega)]; simp [hj])
      rw [hnil] at this
      simp at this
    · have hil := ready_spec hr upTo_size hi'
      obtain ⟨o', hin, ho', hl, -⟩ := hil
      rw [upTo_get hin] at hl
      simp at hl
      have hi0 : i = lo := by
        by_cases e : i = lo
        · exact e
        · exfalso
          have := ready_pred hr upTo_size hcl hi' hlt (bar_spec (hbar 0 (by omega)) (i := lo) (j := i) (by omega) (by omega) hin)
          rw [upTo_get hlt] at this
          simp at this
      subst hi0
      have hset : (upTo ops.size i).setIfInBounds i true = upTo ops.size (i + 1) := upTo_eq (by rw [Array.size_setIfInBounds, upTo_size]) (fun j hj => by
        by_cases e : i = j
        · subst e
          rw [Array.getElem?_setIfInBounds_self_of_lt (by rw [upTo_size]; exact hin)]; simp
        · rw [Array.getElem?_setIfInBounds_ne e, upTo_get hj]
          congr 1
          exact decide_eq_decide.2 (by omega))
      rw [hset]
      obtain ⟨h1, h2, h3⟩ := cOper_spec hao
      simp only [wpR] at hw
      rw [wants_iff h hao] at hw
      have next : ∀ s' a' w' X' ι', At B r N s' a' w' X' ι' → wpR T (sndC P T) l s' Q → wpAnyIn (Fw r) 0 P .any ops Qm (ops.size - (i + 1)) (upTo ops.size (i + 1)) a' w' :=
        fun s' a' w' X' ι' h' hw' => draw_ones hr hQ l (i + 1) s' a' w' X' ι' (by omega) hle (fun q o hq => by have := hget (q + 1) o (by simpa using hq); rwa [show i + (q + 1) = i + 1 + q by omega] at this)
          (fun q hq => by have := hbar (q + 1) (by omega); rwa [show i + (q + 1 + 1) = i + 1 + (q + 1) by omega] at this) h' hw'
      unfold wpOpIn
      simp only [ho]
      split at hw <;> rename_i hwant
      · rw [if_pos hwant]
        refine opW_sound (r := r) h.wf h.lkn (fun x x' hx => h.eval hx) (fun _ => rfl) h1 hw _ _ ?_
        intro u w' hres
        obtain ⟨v, σ', n', X', ι', hq, hrr, hwf, he⟩ := hres
        rw [h2] at hq
        exact next _ _ _ _ _ (h.put h3 hrr hwf he) hq
      · rw [if_neg hwant]
        rw [h2] at hw
        exact ⟨fun _ _ => trivial, next _ _ _ _ _ (h.skip h3) hw⟩

theorem segs_ok {os : List AOp} (hr : RegSt P N ops bef os) {own : Nat → Bool} {Qm : Exit → Act → World → Prop} {Q : St → Prop} (hQ : ∀ s a w X ι, At B r N s a w X ι → Q s → Qm .normal a w) :
    ∀ (k lo : Nat) (l : List AOp) (segs : List Seg) (s : St) (a : Act) (w : World) (X : Nat → Prop) (ι : Nat → Nat), mkSegs bef own os.length k lo l = some segs → lo + l.length = ops.size →
      (∀ (i : Nat) (o : AOp), l[i]? = some o → os[lo + i]? = some o) → At B r N s a w X ι → wpS T (sndC P T) segs s Q → wpAnyIn (Fw r) 0 P .any ops Qm (ops.size - lo) (upTo ops.size lo) a w := by
  intro k
  have done : ∀ (lo : Nat) (l : List AOp) (segs : List Seg) (s : St) (a : Act) (w : World) (X : Nat → Prop) (ι : Nat → Nat), l.isEmpty = true → segs = [] → lo + l.length = ops.size →
      At B r N s a w X ι → wpS T (sndC P T) segs s Q → wpAnyIn (Fw r) 0 P .any ops Qm (ops.size - lo) (upTo ops.size lo) a w := by
    intro lo l segs s a w X ι he hs hlo h hw
    have hl : l = [] := by simpa using he
    subst hl; subst hs
    simp at hlo
    subst hlo
    rw [Nat.sub_self]
    refine ⟨?_, hQ s a w X ι h hw⟩
    cases hx : Region.ready .any ops (upTo ops.size ops.size) with
    | nil => rfl
    | cons i l =>
      exfalso
      obtain ⟨o, hin, -, hl, -⟩ := ready_spec hr (listed := upTo ops.size ops.size) upTo_size (i := i) (by rw [hx]; simp)
      rw [upTo_get hin] at hl
      simp at hl
      omega
  induction k with
  | zero =>
    intro lo l segs s a w X ι hm hlo hget h hw
    simp only [mkSegs] at hm
    split at hm
    · rename_i he
      simp only [Option.some.injEq] at hm
      exact done lo l segs s a w X ι he hm.symm hlo h hw
    · cases hm
  | succ k ih =>
    intro lo l segs s a w X ι hm hlo hget h hw
    simp only [mkSegs] at hm
    split at hm
    · rename_i he
      simp only [Option.some.injEq] at hm
      exact done lo l segs s a w X ι he hm.symm hlo h hw
    · rename_i he
      split at hm
      · rename_i hc
        simp only [Bool.and_eq_true, decide_eq_true_eq, List.all_eq_true, List.mem_range] at hc
        obtain ⟨⟨⟨⟨hpos, hmp⟩, hb⟩, hok⟩, hones⟩ := hc
        simp only [Option.map_eq_some_iff] at hm
        obtain ⟨gs, hgs, rfl⟩ := hm
        generalize some' bef os.length (os.length - lo) lo = m at *
        generalize ones bef os.length (os.length - (lo + m)) (lo + m) = p at *
        simp only [wpS] at hw
        have hwl : (l.take m).length = m := by simp; omega
        have hol : ((l.drop m).take p).length = p := by simp; omega
        rw [hr.hlen] at hb hones hgs
        have hwin : ∀ (i : Nat) (o' : AOp), (l.take m)[i]? = some o' → os[lo + i]? = some o' := fun i o' hi => by
          rw [List.getElem?_take] at hi
          split at hi
          · exact hget i o' hi
          · cases hi
        have hle : lo + (l.take m).length ≤ ops.size := by simp; omega
        obtain ⟨st, hdl⟩ := mkWin_spec (own := own) hr hwin hle hok
        have hdm : (mkWin bef own lo (l.take m)).1.length = m := hdl.trans hwl
        have hclo : ∀ j k, (upTo ops.size lo)[j]? = some true → k < ops.size → befAt bef j k = true → (upTo ops.size lo)[k]? = some true := by
          intro j k hj hk hb
          have hjn : j < ops.size := by have := (Array.getElem?_eq_some_iff.1 hj).1; rwa [upTo_size] at this
          rw [upTo_get hjn] at hj
          simp at hj
          have hoj : ops[j]? = some ops[j] := Array.getElem?_eq_getElem hjn
          have := (hr.hbef j _ k hoj hk hb).1
          rw [upTo_get hk]; simp; omega
        have hd0 := draw_start (ds := (mkWin bef own lo (l.take m)).1) h
        have hL : (fun j => j < (mkWin bef own lo (l.take m)).1.length ∧ (upTo ops.size lo)[lo + j]? = some true) = fun _ => False := funext fun j => propext (by
          constructor
          · rintro ⟨h1, h2⟩
            rw [upTo_get (by omega)] at h2
            simp at h2
            omega
          · exact False.elim)
        have key := draw_any (T := T) (r := r) (Qm := Qm) (n0 := s.n) (Q := fun s' => wpR T (sndC P T) ((l.drop m).take p) { s' with n := s.n + BIG * (mkWin bef own lo (l.take m)).2 } (fun s2 => wpS T (sndC P T) gs s2 Q))
          hr st (by rw [hdm]; exact hb) (fun L s1 a1 w1 X1 ι1 h1 hq => by
            rw [hdm]
            refine draw_ones hr (hi := lo + m + p) (Q := fun s2 => wpS T (sndC P T) gs s2 Q) (fun s2 a2 w2 X2 ι2 h2 hq2 => ?_) ((l.drop m).take p) (lo + m) _ a1 w1 X1 ι1 (by rw [hol]) (by omega) (fun i o hi => ?_)
              (fun i hi => hones i (by rw [hol] at hi; exact hi)) (draw_end st h1) hq
            · refine ih (lo + m + p) (l.drop (m + p)) gs s2 a2 w2 X2 ι2 (by rw [hr.hlen]; exact hgs) (by simp; omega) (fun i o hi => ?_) h2 hq2
              rw [List.getElem?_drop] at hi
              have := hget _ o hi
              rwa [show lo + (m + p + i) = lo + m + p + i by omega] at this
            · rw [List.getElem?_take] at hi
              split at hi
              · rw [List.getElem?_drop] at hi
                have := hget _ o hi
                rwa [show lo + (m + i) = lo + m + i by omega] at this
              · cases hi)
          m (upTo ops.size lo) ((mkWin bef own lo (l.take m)).1.zipIdx.map fun q => (q.2, q.1)) s a w X _ upTo_size ⟨?_, fun j d => ?_⟩ (by simp [hdm]) (fun i hi => by rw [upTo_get (by omega)]; simp [hi])
          (fun i hi hin => by rw [upTo_get hin]; simp; omega) (by rw [hL]; exact hd0) hclo ?_
        · rw [hdm, show m + (ops.size - (lo + m)) = ops.size - lo by omega] at key
          exact key
        · rw [List.pairwise_map]
          rw [List.pairwise_iff_getElem]
          intro i j hi hj hij
          simp only [List.getElem_zipIdx]
          omega
        · constructor
          · intro hm
            obtain ⟨⟨d', j'⟩, hm', he⟩ := List.mem_map.1 hm
            simp only [Prod.mk.injEq] at he
            obtain ⟨rfl, rfl⟩ := he
            have hdj := List.mem_zipIdx_iff_getElem?.1 hm'
            refine ⟨hdj, ?_⟩
            have : j' < (mkWin bef own lo (l.take m)).1.length := (List.getElem?_eq_some_iff.1 hdj).1
            rw [upTo_get (by omega)]; simp
          · intro ⟨hd, _⟩
            exact List.mem_map.2 ⟨(d, j), List.mem_zipIdx_iff_getElem?.2 hd, rfl⟩
        · have : ((mkWin bef own lo (l.take m)).1.zipIdx.map fun q => (q.2, q.1)).map (·.2) = (mkWin bef own lo (l.take m)).1 := by
            rw [List.map_map]
            have : ((fun x : Nat × DOp => x.2) ∘ fun q : DOp × Nat => (q.2, q.1)) = Prod.fst := rfl
            rw [this, List.zipIdx_map_fst]
          rw [this]
          exact hw
      · cases hm

theorem draw_ok (hmix : P.follows .mixedOrders = true) : DrawOk P T := by
  intro B r N id ops segs s a w X ι Q hc hat hw
  obtain ⟨bef, os, hr, hm⟩ := cDraw_spec hc
  refine wpIn_region_any hmix ?_
  have h1 : Ext w { w with drawn := w.drawn + 1 } X X ι ι s.σ s.σ s.n s.n s.lk := Ext.draw hat.wf.xlt _
  have hwf : WF { w with drawn := w.drawn + 1 } X ι s.σ s.n := hat.wf.move (Nat.le_refl _) (fun _ _ => rfl) (fun _ _ => rfl) (fun _ _ => Iff.rfl) (Nat.le_refl _) hat.wf.xlt
  have hat' := hat.put (dst := none) (v := .undef) (u := undef) rfl .undef hwf h1
  have h0 : Array.replicate ops.size false = upTo ops.size 0 := upTo_eq (by simp) (fun i hi => by rw [Array.getElem?_replicate, if_pos hi]; simp)
  rw [h0]
  have := segs_ok (T := T) (r := r) hr (Q := Q .normal) (Qm := PostOf B r N Q) (fun s' a' w' X' ι' h' hq => ⟨s', X', ι', h', hq⟩) _ 0 os segs s a _ X ι hm (by rw [Nat.zero_add]; exact hr.hlen)
    (fun i o hi => by rw [Nat.zero_add]; exact hi) hat' hw
  exact this

end
end Go.Q
end

section
/- What the evaluator says of a call on trees, the machine does. -/
set_option linter.unusedSimpArgs false
set_option linter.unusedVariables false
set_option linter.unusedSectionVars false
namespace Go.Q

theorem sound {P : Program} {T : Tab} (hmix : P.follows .mixedOrders = true) (hT : TabOf P T) {j : Job} {Q : Out → Prop} (h : run T j Q) : @sndC (lnk P T) P T j Q :=
  letI := lnk P T
  run_sound (draw_ok hmix) hmix hT h

end Go.Q
#print axioms Go.Q.sound
end

section
/- What a statement's arguments are, as trees. -/
set_option linter.unusedSimpArgs false
set_option linter.unusedVariables false
set_option linter.unusedSectionVars false
namespace Go.Q

/-- Cells that stand for a row of values. -/
def Cs (W : World) (vs : List V) (cs : List Value) : Prop :=
  vs.length = cs.length ∧ (∀ (i : Nat) (e : V) (u : Value), vs[i]? = some e → cs[i]? = some u → Rep W (fun _ => False) (fun _ => 0) 0 e u) ∧ vs.all V.one = true

/-- How what stands at a type is written down. -/
structure Enc (P : Program) (t : TypeId) (α : Type) where
  val : α → V
  ok : α → Prop
  opens : ∀ {H : Type} {enc : TypeId × Value → H} {W : World} {held : Bool} {fuel : Nat} {cs : List Value} {x : DataW H × List MemPlace},
    DataW.trod enc P W 0 (fun _ => true) held fuel t cs = some x → (∀ n ∈ x.1.weights P t, n ≤ reachBytes) → ∃ a, ok a ∧ Cs W (val a).cells cs

theorem weightsAll_mem {H : Type} {P : Program} {e : TypeId} {d : DataW H} : ∀ {ds : List (DataW H)}, d ∈ ds → ∀ n ∈ d.weights P e, n ∈ DataW.weightsAll P e ds
  | d0 :: ds, h, n, hn => by
    simp only [DataW.weightsAll, List.mem_append]
    rcases List.mem_cons.1 h with rfl | h
    · exact .inl hn
    · exact .inr (weightsAll_mem h n hn)

section
variable {P : Program}

def Enc.int {t : TypeId} (k : IntKind) (ht : P.underlying t = some (.int k)) : Enc P t Int where
  val := .int k
  ok := fun n => (Lit.int k n).wf = true
  opens := fun h _ => by
    obtain ⟨n, rfl, -, hw⟩ := DataW.trod_int ht h
    exact ⟨n, hw, rfl, fun i e u he hu => by
      cases i with
      | zero => simp [V.cells] at he hu; subst he; subst hu; exact .int _ _
      | succ i => simp at hu, rfl⟩

def Enc.bool {t : TypeId} (ht : P.underlying t = some .bool) : Enc P t Bool where
  val := .bool
  ok := fun _ => True
  opens := fun h _ => by
    obtain ⟨n, rfl, -⟩ := DataW.trod_bool ht h
    exact ⟨n, trivial, rfl, fun i e u he hu => by
      cases i with
      | zero => simp [V.cells] at he hu; subst he; subst hu; exact .bool _
      | succ i => simp at hu, rfl⟩

def Enc.str {t : TypeId} (ht : P.underlying t = some .string) : Enc P t ByteArray where
  val := .str
  ok := fun s => s.size ≤ reachBytes
  opens := fun {H enc W held fuel cs x} h hwt => by
    obtain ⟨n, rfl, hx, hw⟩ := DataW.trod_string ht h
    have hsz : n.size ≤ reachBytes := by
      subst hx
      have hwt : ∀ m ∈ DataW.weights P t (DataW.lit (H := H) (Lit.string n.data.toList)), m ≤ reachBytes := hwt
      have := hwt n.data.toList.length (by simp only [DataW.weights, List.mem_singleton])
      rw [Array.length_toList] at this
      exact this
    exact ⟨n, hsz, rfl, fun i e u he hu => by
      cases i with
      | zero => simp [V.cells] at he hu; subst he; subst hu; exact .str _
      | succ i => simp at hu, rfl⟩

/-- A slice: nil, or the list of its elements. -/
def slV {β : Type} (sz : Nat) (f : β → V) : Option (List β) → V
  | none => .nilS
  | some l => .sl sz (l.map f)

theorem addr_plain {a : Addr} {W : World} {u : Value} (h : W.cell? a = some u) : a.spot = none := by
  unfold World.cell? at h
  split at h
  · split at h
    · cases h
    · rename_i hs; cases hsp : a.spot with
      | none => rfl
      | some k => rw [hsp] at hs; simp at hs
  · cases h

theorem list_choose {β : Type} {n : Nat} {p : Nat → β → Prop} (h : ∀ i, i < n → ∃ b, p i b) : ∃ l : List β, l.length = n ∧ ∀ (i : Nat) (b : β), l[i]? = some b → p i b := by
  induction n with
  | zero => exact ⟨[], rfl, fun i b hb => by simp at hb⟩
  | succ n ih =>
    obtain ⟨l, h1, h2⟩ := ih (fun i hi => h i (by omega))
    obtain ⟨b, hb⟩ := h n (by omega)
    refine ⟨l ++ [b], by simp [h1], fun i b' hb' => ?_⟩
    rw [List.getElem?_append] at hb'
    split at hb'
    · exact h2 i b' hb'
    · rename_i hn
      have hi : i = n := by
        have := (List.getElem?_eq_some_iff.1 hb').1
        simp at this
        omega
      subst hi
      rw [h1] at hb'
      simp at hb'
      subst hb'
      exact hb

def Enc.slice {t e : TypeId} {β : Type} (E : Enc P e β) (ht : P.underlying t = some (.slice e)) (sz : Nat) (hsz : P.cellsOf e = sz) (hpos : 0 < sz) (B : Nat) (hB : P.bytesOf e = B) : Enc P t (Option (List β)) where
  val := slV sz E.val
  ok := fun o => ∀ l, o = some l → l.length ≤ maxLen ∧ l.length * B ≤ reachBytes ∧ ∀ b ∈ l, E.ok b
  opens := fun {H enc W held fuel cs x} h hwt => by
    letI : Link := ⟨fun _ _ _ => False⟩
    rcases DataW.trod_slice ht h with ⟨rfl, -⟩ | ⟨a, len, cap, elems, rest, n, rfl, rfl, rfl, hb, hlc, hcm, hel, hget, -, -⟩
    · refine ⟨none, (fun l hl => by cases hl), rfl, fun i e u he hu => ?_, rfl⟩
      cases i with
      | zero => simp [V.cells, slV] at he hu; subst he; subst hu; exact .nilS
      | succ i => simp at hu
    · rw [hsz] at hget
      have hwt : ∀ n ∈ DataW.weights P t (DataW.slice (elems.map (·.1)) (rest.map (·.1))), n ≤ reachBytes := hwt
      simp only [DataW.weights, ht, List.mem_cons, List.mem_append, List.length_map] at hwt
      have hlen : len * B ≤ reachBytes := by
        have h1 := hwt _ (.inl rfl)
        rw [hB, hel] at h1
        exact Nat.le_trans (Nat.mul_le_mul_right B (Nat.le_add_right len rest.length)) h1
      have key : ∀ i, i < len → ∃ b, E.ok b ∧ ∃ ds, W.cells? 0 (a.add (i * sz)) sz = some ds ∧ Cs W (E.val b).cells ds := fun i hi => by
        have hi' : i < elems.length := by omega
        have := hget i hi
        rw [List.getElem?_eq_getElem hi', Option.bind_eq_some_iff] at this
        obtain ⟨ds, h1, h2⟩ := this
        obtain ⟨b, hok, hcs⟩ := E.opens h2 (fun n hn => hwt n (.inr (.inl (weightsAll_mem (List.mem_map_of_mem (List.getElem_mem hi')) n hn))))
        exact ⟨b, hok, ds, h1, hcs⟩
      obtain ⟨l, hl, hp⟩ := list_choose key
      refine ⟨some l, fun l' hl' => ?_, rfl, fun i e u he hu => ?_, rfl⟩
      · cases hl'
        refine ⟨by omega, by rw [hl]; exact hlen, fun b hb => ?_⟩
        obtain ⟨i, hi, rfl⟩ := List.getElem_of_mem hb
        exact (hp i _ (List.getElem?_eq_getElem hi)).1
      · cases i with
        | succ i => simp at hu
        | zero =>
          simp [V.cells, slV] at he hu
          subst he; subst hu
          cases l with
          | nil =>
            simp at hl
            subst hl
            exact .slE sz cap a
          | cons b0 l0 =>
            -- the slice stands at a plain address
            obtain ⟨-, ds0, hd0, -⟩ := hp 0 b0 rfl
            simp only [Nat.zero_mul] at hd0
            have ha0 : a.add 0 = a := by simp [Addr.add]
            rw [ha0] at hd0
            obtain ⟨-, hdl, hdc⟩ := World.cells?_some hd0
            have h0 := hdc 0 hpos
            rw [ha0, List.getElem?_eq_getElem (by omega)] at h0
            have hspot := addr_plain h0
            have hlt := World.cells?_block hd0 hpos
            obtain ⟨blk, o, sp⟩ := a
            simp only at hspot hlt
            subst hspot
            have hcell : ∀ (i : Nat) (b : β) (j : Nat) (e : V), (b0 :: l0)[i]? = some b → (E.val b).cells[j]? = some e →
                ∃ u, W.cell? ⟨blk, o + i * sz + j, none⟩ = some u ∧ Rep W (fun _ => False) (fun _ => 0) 0 e u := by
              intro i b j e hb he
              obtain ⟨-, ds, hds, hc1, hc2, -⟩ := hp i b hb
              obtain ⟨-, hdl', hdc'⟩ := World.cells?_some hds
              have hj : j < ds.length := by have := (List.getElem?_eq_some_iff.1 he).1; omega
              have := hdc' j (by omega)
              rw [add_none, add_none, List.getElem?_eq_getElem hj] at this
              exact ⟨ds[j], this, hc2 j e _ he (List.getElem?_eq_getElem hj)⟩
            have hlen : len = ((b0 :: l0).map E.val).length := by rw [List.length_map]; exact hl.symm
            rw [hlen]
            refine .sl sz ((b0 :: l0).map E.val) blk o cap (fun i j => (W.cell? ⟨blk, o + i * sz + j, none⟩).getD undef) (by omega) (fun h => h) hlt (fun i x hx => ?_) (fun i x j e hx he => ?_) (fun i x j e hx he => ?_)
            · rw [List.getElem?_map, Option.map_eq_some_iff] at hx
              obtain ⟨b, hb, rfl⟩ := hx
              obtain ⟨-, ds, hds, hc1, -, hc3⟩ := hp i b hb
              obtain ⟨-, hdl', -⟩ := World.cells?_some hds
              exact ⟨hc1.trans hdl', hc3⟩
            · rw [List.getElem?_map, Option.map_eq_some_iff] at hx
              obtain ⟨b, hb, rfl⟩ := hx
              obtain ⟨u, hu, -⟩ := hcell i b j e hb he
              rw [hu]; rfl
            · rw [List.getElem?_map, Option.map_eq_some_iff] at hx
              obtain ⟨b, hb, rfl⟩ := hx
              obtain ⟨u, hu, hr⟩ := hcell i b j e hb he
              rw [hu]; exact hr

/-- The fields of a struct, from a cell on. -/
structure EncF (P : Program) (off : Nat) (fs : List Field) (tot : Nat) (α : Type) where
  val : α → List V
  ok : α → Prop
  opens : ∀ {H : Type} {enc : TypeId × Value → H} {W : World} {held : Bool} {fuel : Nat} {cs : List Value},
    (∀ f ∈ fs, ∃ x, DataW.trod enc P W 0 (fun _ => true) held fuel f.type ((cs.drop f.offset).take (P.cellsOf f.type)) = some x ∧ ∀ n ∈ x.1.weights P f.type, n ≤ reachBytes) → ∃ a, ok a ∧ Cs W (val a) ((cs.drop off).take tot)

def EncF.nil {off : Nat} : EncF P off [] 0 Unit where
  val := fun _ => []
  ok := fun _ => True
  opens := fun _ => ⟨(), trivial, by simp [Cs]⟩

theorem Cs.append {W : World} {vs vs' : List V} {cs cs' : List Value} (h : Cs W vs cs) (h' : Cs W vs' cs') : Cs W (vs ++ vs') (cs ++ cs') := by
  obtain ⟨a1, a2, a3⟩ := h
  obtain ⟨b1, b2, b3⟩ := h'
  refine ⟨by simp [a1, b1], fun i e u he hu => ?_, by simp [a3, b3]⟩
  rw [List.getElem?_append] at he hu
  rw [a1] at he
  split at he
  · rename_i hlt
    rw [if_pos hlt] at hu; exact a2 i e u he hu
  · rename_i hlt
    rw [if_neg hlt] at hu; exact b2 _ e u he hu

def EncF.cons {off tot sz : Nat} {f : Field} {fs : List Field} {β γ : Type} (E : Enc P f.type β) (hoff : f.offset = off) (hsz : P.cellsOf f.type = sz) (R : EncF P (off + sz) fs tot γ) :
    EncF P off (f :: fs) (sz + tot) (β × γ) where
  val := fun x => (E.val x.1).cells ++ R.val x.2
  ok := fun x => E.ok x.1 ∧ R.ok x.2
  opens := fun {H enc W held fuel cs} h => by
    obtain ⟨x, hx, hwx⟩ := h f (by simp)
    obtain ⟨b, hb, hcb⟩ := E.opens hx hwx
    obtain ⟨c, hc, hcc⟩ := R.opens (fun g hg => h g (List.mem_cons_of_mem _ hg))
    refine ⟨(b, c), ⟨hb, hc⟩, ?_⟩
    rw [hoff, hsz] at hcb
    have : (cs.drop off).take (sz + tot) = (cs.drop off).take sz ++ (cs.drop (off + sz)).take tot := by
      rw [List.take_add, List.drop_drop]
    rw [this]
    exact hcb.append hcc

def Enc.struct {t : TypeId} {fs : Array Field} {tot : Nat} {α : Type} (R : EncF P 0 fs.toList tot α) (ht : P.underlying t = some (.struct fs)) (htot : P.cellsOf t = tot) : Enc P t α where
  val := fun a => .agg (R.val a)
  ok := R.ok
  opens := fun {H enc W held fuel cs x} h hwt => by
    obtain ⟨xs, n, rfl, rfl, hl, hlx, hget⟩ := DataW.trod_struct ht h
    simp only [DataW.weights, ht] at hwt
    obtain ⟨a, ha, hc⟩ := R.opens (enc := enc) (W := W) (held := held) (fuel := n) (cs := cs) (fun f hf => by
      obtain ⟨i, hi, rfl⟩ := List.getElem_of_mem hf
      have hi' : i < fs.size := by simpa using hi
      have hix : i < xs.length := by omega
      have := hget i fs[i] (Array.getElem?_eq_getElem hi')
      rw [List.getElem?_eq_getElem hix] at this
      refine ⟨_, by simpa using this, fun m hm => hwt m (DataW.weights_mem_each (j := i) (t := fs.toList[i].type) (d := xs[i].1) ?_ ?_ m hm)⟩
      · rw [List.getElem?_map, List.getElem?_eq_getElem hi]; rfl
      · rw [List.getElem?_map, List.getElem?_eq_getElem hix]; rfl)
    refine ⟨a, ha, ?_⟩
    rw [htot] at hl
    simpa [V.cells, ← hl] using hc

theorem Cs.flat {W : World} {β : Type} (f : β → List V) (g : Nat → List Value) : ∀ (l : List β) (k : Nat), (∀ (i : Nat) (b : β), l[i]? = some b → Cs W (f b) (g (k + i))) → Cs W (l.flatMap f) ((List.range' k l.length).flatMap g)
  | [], k, _ => by simp [Cs]
  | b :: l, k, h => by
    rw [List.flatMap_cons, List.length_cons, List.range'_succ, List.flatMap_cons]
    refine Cs.append (by simpa using h 0 b rfl) (Cs.flat f g l (k + 1) (fun i c hc => ?_))
    have := h (i + 1) c (by simpa using hc)
    rwa [show k + (i + 1) = k + 1 + i from by omega] at this

theorem chunks {α : Type} (sz : Nat) : ∀ (n k : Nat) (cs : List α), (List.range' k n).flatMap (fun i => (cs.drop (i * sz)).take sz) = (cs.drop (k * sz)).take (n * sz)
  | 0, k, cs => by simp
  | n + 1, k, cs => by
    rw [List.range'_succ, List.flatMap_cons, chunks sz n (k + 1) cs, Nat.succ_mul k, Nat.succ_mul n, Nat.add_comm (n * sz) sz, List.take_add, List.drop_drop]

/-- An array: so many of one kind. -/
def Enc.array {t e : TypeId} {β : Type} (E : Enc P e β) (n : Nat) (ht : P.underlying t = some (.array n e)) (sz : Nat) (hsz : P.cellsOf e = sz) (htot : P.cellsOf t = n * sz) : Enc P t (List β) where
  val := fun l => .agg (l.flatMap fun b => (E.val b).cells)
  ok := fun l => l.length = n ∧ ∀ b ∈ l, E.ok b
  opens := fun {H enc W held fuel cs x} h hwt => by
    obtain ⟨xs, m, rfl, rfl, hl, hlx, hget⟩ := DataW.trod_array ht h
    simp only [DataW.weights, ht] at hwt
    rw [hsz] at hget
    rw [htot] at hl
    have key : ∀ i, i < n → ∃ b, E.ok b ∧ Cs W (E.val b).cells ((cs.drop (i * sz)).take sz) := fun i hi => by
      have hix : i < xs.length := by omega
      have := hget i hi
      rw [List.getElem?_eq_getElem hix] at this
      exact E.opens this (fun k hk => hwt k (weightsAll_mem (List.mem_map_of_mem (List.getElem_mem hix)) k hk))
    obtain ⟨l, hll, hp⟩ := list_choose key
    refine ⟨l, ⟨hll, fun b hb => ?_⟩, ?_⟩
    · obtain ⟨i, hi, rfl⟩ := List.getElem_of_mem hb
      exact (hp i _ (List.getElem?_eq_getElem hi)).1
    · have h1 := Cs.flat (W := W) (fun b => (E.val b).cells) (fun i => (cs.drop (i * sz)).take sz) l 0 (fun i b hb => by simpa using (hp i b hb).2)
      rw [chunks, hll, Nat.zero_mul, List.drop_zero, ← hl, List.take_length] at h1
      exact h1

end
end Go.Q
end

section
/- A law's call, out of the evaluator's word. -/
set_option linter.unusedSimpArgs false
set_option linter.unusedVariables false
set_option linter.unusedSectionVars false
namespace Go.Q

section
variable {P : Program} {T : Tab}

theorem law_calls (hmix : P.follows .mixedOrders = true) (hT : TabOf P T) {f : Nat} {vs : List V} {us : Array Value} {w : World} (hs : us.size = vs.length)
    (hr : ∀ (i : Nat) (e : V) (u : Value), vs[i]? = some e → us[i]? = some u → Rep w (fun _ => False) (fun _ => 0) 0 e u)
    (h : run T (.pure f vs) (fun o => o = .val (.bool true))) : Calls P f us w fun e w' => e = .returned (.bool true) ∧ Go.RowKit.Below w.heap.size w w' := by
  letI := lnk P T
  obtain ⟨-, h2⟩ := sound hmix hT h
  refine callsIn_wide.1 ((h2 w (fun _ => False) us (fun _ h => h.elim) ⟨hs, hr⟩).mono fun e w' hh => ?_)
  obtain ⟨u, r, rfl, hq, X1, ι1, σ1, n1, v, hw1, hr1, hback, he⟩ := hh
  cases hq
  have hv : v = .bool true := by
    have key : frz σ1 DEEP v = some (.bool true) ∨ giv σ1 DEEP v = some (.bool true) := by
      unfold back at hback
      split at hback
      · exact .inr hback.1
      · exact .inl hback
    rcases key with key | key
    · cases v <;> simp [frz, DEEP, Option.bind_eq_some_iff] at key ⊢ <;> exact key
    · cases v
      case fn f cs => cases cs <;> simp [giv, DEEP] at key
      case ref id off len sz =>
        simp only [giv, DEEP] at key
        split at key
        · split at key
          · simp at key
          · cases key
        · cases key
      all_goals first | (simp [giv, DEEP] at key; done) | (simp [giv, DEEP] at key ⊢; exact key)
  subst hv
  cases hr1
  refine ⟨rfl, he.os, he.tape, he.output, he.size, fun k hk => he.heap k hk (fun ⟨id, _, h1, _⟩ => h1 rfl)⟩

/-- A value of one cell. -/
theorem rep_one {t : TypeId} {α : Type} (E : Enc P t α) {H : Type} {enc : TypeId × Value → H} {W : World} {held : Bool} {v : Value} {d : DataW H} {p : List MemPlace}
    (h : DataW.Trod enc P W 0 (fun _ => true) held t v d p) (hwt : ∀ n ∈ d.weights P t, n ≤ reachBytes) (hv : v.cells = #[v]) (h1 : ∀ a, (E.val a).one = true) :
    ∃ a, E.ok a ∧ Rep W (fun _ => False) (fun _ => 0) 0 (E.val a) v := by
  letI : Link := ⟨fun _ _ _ => False⟩
  obtain ⟨fuel, hf⟩ := h
  obtain ⟨a, hok, -, hc, -⟩ := E.opens hf hwt
  refine ⟨a, hok, hc 0 (E.val a) v ?_ ?_⟩
  · rw [one_cells (h1 a)]; rfl
  · rw [hv]; rfl

end
end Go.Q
end

section
/- A run comes to one end: what two runs of one job say holds of one outcome. -/
set_option linter.unusedSimpArgs false
set_option linter.unusedVariables false
namespace Go.Q

section
variable {T : Tab}

/-- Two posts meet. -/
def MeetC (C C' : Calls') : Prop := ∀ j Q Q', C j Q → C' j Q' → ∃ o, Q o ∧ Q' o

variable {C C' : Calls'}

theorem callW_meet (h : MeetC C C') {fs : Bool} {f : Nat} {args : List V} {σ : Sto} {n lk : Nat} {Q Q' : V → Sto → Nat → Prop}
    (h1 : callW T C fs f args σ n lk Q) (h2 : callW T C' fs f args σ n lk Q') : ∃ v σ' n', Q v σ' n' ∧ Q' v σ' n' := by
  unfold callW at *
  cases hmode : T.mode f <;> simp only [hmode] at h1 h2
  case raw =>
    obtain ⟨o, ho, ho'⟩ := h _ _ _ h1.2 h2.2
    cases o <;> try exact ho.elim
    exact ⟨_, _, _, ho, ho'⟩
  all_goals
    obtain ⟨ts, a1, r, a2, D, a3, a4, a5, a6⟩ := h1
    obtain ⟨ts', b1, r', b2, D', b3, b4, b5, b6⟩ := h2
    rw [a1] at b1
    cases b1
    obtain ⟨o, ho, ho'⟩ := h _ _ _ a2 b2
    have hr := ho.symm.trans ho'
    simp only [Out.val.injEq] at hr
    subst hr
    have hD := a3.trans b3.symm
    subst hD
    exact ⟨_, _, _, a6, b6⟩

theorem yieldW_meet (h : MeetC C C') {l : Nat} {args : List V} {σ : Sto} {n lk : Nat} {Q Q' : V → Sto → Nat → Prop}
    (h1 : yieldW C l args σ n lk Q) (h2 : yieldW C' l args σ n lk Q') : ∃ v σ' n', Q v σ' n' ∧ Q' v σ' n' := by
  unfold yieldW at *
  split at h1
  · rename_i hl
    simp only [hl] at h2
    obtain ⟨o, ho, ho'⟩ := h _ _ _ h1.2.2 h2.2.2
    cases o <;> try exact ho.elim
    obtain ⟨a1, a2, a3, a4, a5, e1, q1⟩ := ho
    obtain ⟨b1, b2, b3, b4, b5, e2, q2⟩ := ho'
    rw [e1] at e2
    cases e2
    exact ⟨_, _, _, q1, q2⟩
  · exact h1.elim

theorem opW_meet (h : MeetC C C') {fs : Bool} {ρ : Opd → V} {σ : Sto} {n lk : Nat} {ai : AI} {Q Q' : V → Sto → Nat → Prop}
    (h1 : opW T C fs ρ σ n lk ai Q) (h2 : opW T C' fs ρ σ n lk ai Q') : ∃ v σ' n', Q v σ' n' ∧ Q' v σ' n' := by
  unfold opW at *
  split at h1
  · exact callW_meet h h1 h2
  · split at h1
    · rename_i hg; exact callW_meet h h1 (by simpa only [hg] using h2)
    · rename_i hg; exact callW_meet h h1 (by simpa only [hg] using h2)
    · rename_i hg; simp only [hg] at h2; exact yieldW_meet h h1.2 h2.2
    · exact h1.elim
  · obtain ⟨-, h1⟩ := h1
    obtain ⟨-, h2⟩ := h2
    split at h1
    · rename_i hg; exact callW_meet h h1 (by simpa only [hg] using h2)
    · exact h1.elim
  · split at h1
    · rename_i v σ' n' he; exact ⟨_, _, _, h1, by simpa only [he] using h2⟩
    · exact h1.elim

theorem wpR_meet (h : MeetC C C') : ∀ (ops : List AOp) (s : St) (Q Q' : St → Prop), wpR T C ops s Q → wpR T C' ops s Q' → ∃ s', Q s' ∧ Q' s'
  | [], s, Q, Q', h1, h2 => ⟨s, h1, h2⟩
  | o :: ops, s, Q, Q', h1, h2 => by
    simp only [wpR] at *
    split at h1 <;> rename_i hw <;> simp only [hw, if_true, if_false, Bool.false_eq_true] at h2
    · obtain ⟨v, σ', n', a, b⟩ := opW_meet h h1 h2
      exact wpR_meet h ops _ _ _ a b
    · exact wpR_meet h ops _ _ _ h1 h2

theorem wpD_meet (h : MeetC C C') (n0 : Nat) : ∀ (ops : List DOp) (s : St) (Q Q' : St → Prop), wpD T C n0 ops s Q → wpD T C' n0 ops s Q' → ∃ s', Q s' ∧ Q' s'
  | [], s, Q, Q', h1, h2 => ⟨s, h1, h2⟩
  | d :: ops, s, Q, Q', h1, h2 => by
    simp only [wpD] at *
    split at h1 <;> rename_i hw <;> simp only [hw, if_true, if_false, Bool.false_eq_true] at h2
    · obtain ⟨v, σ', n', a, b⟩ := opW_meet h h1 h2
      exact wpD_meet h n0 ops _ _ _ a.2 b.2
    · exact wpD_meet h n0 ops _ _ _ h1 h2

theorem wpS_meet (h : MeetC C C') : ∀ (segs : List Seg) (s : St) (Q Q' : St → Prop), wpS T C segs s Q → wpS T C' segs s Q' → ∃ s', Q s' ∧ Q' s'
  | [], s, Q, Q', h1, h2 => ⟨s, h1, h2⟩
  | g :: gs, s, Q, Q', h1, h2 => by
    obtain ⟨s1, a, b⟩ := wpD_meet h s.n g.ds s _ _ h1 h2
    obtain ⟨s2, a, b⟩ := wpR_meet h g.ops _ _ _ a b
    exact wpS_meet h gs s2 _ _ a b

theorem thenW_meet {K K' : St → Prop} {Q Q' : Ex → St → Prop} {e : Ex} {s : St} (hk : K s → K' s → ∃ e s', Q e s' ∧ Q' e s')
    (h1 : thenW K Q e s) (h2 : thenW K' Q' e s) : ∃ e s', Q e s' ∧ Q' e s' := by
  cases e <;> simp only [thenW] at h1 h2
  · exact hk h1 h2
  · exact ⟨_, _, h1, h2⟩
  · exact ⟨_, _, h1, h2⟩

theorem loopW_out {B : St → (Ex → St → Prop) → Prop} (hB : ∀ s Q Q', (∀ e s, Q e s → Q' e s) → B s Q → B s Q') {s : St} {Q : Ex → St → Prop}
    (h : loopW B s Q) : B s (thenW (fun s' => loopW B s' Q) Q) :=
  h (fun s => B s (thenW (fun s' => loopW B s' Q) Q)) fun s hs => hB s _ _ (fun e s' hh => by
    cases e <;> simp only [thenW] at *
    · exact loopW_step hB hh
    · exact hh
    · exact hh) hs

theorem wpC_meet (hm' : MonoC C') (h : MeetC C C') : ∀ (c : AC) (s : St) (Q Q' : Ex → St → Prop), wpC T C c s Q → wpC T C' c s Q' → ∃ e s', Q e s' ∧ Q' e s'
  | .skip, s, Q, Q', h1, h2 => ⟨_, _, h1, h2⟩
  | .reg ops, s, Q, Q', h1, h2 => by
    obtain ⟨s', a, b⟩ := wpR_meet h ops s _ _ h1 h2
    exact ⟨_, _, a, b⟩
  | .regd segs, s, Q, Q', h1, h2 => by
    obtain ⟨s', a, b⟩ := wpS_meet h segs s _ _ h1 h2
    exact ⟨_, _, a, b⟩
  | .seq a b, s, Q, Q', h1, h2 => by
    simp only [wpC] at h1 h2
    obtain ⟨e, s', p, q⟩ := wpC_meet hm' h a s _ _ h1 h2
    exact thenW_meet (fun x y => wpC_meet hm' h b s' _ _ x y) p q
  | .cond x a b, s, Q, Q', h1, h2 => by
    simp only [wpC] at h1 h2
    split at h1
    · rename_i hx; simp only [hx] at h2; exact wpC_meet hm' h a s _ _ h1 h2
    · rename_i hx; simp only [hx] at h2; exact wpC_meet hm' h b s _ _ h1 h2
    · exact h1.elim
  | .block id c, s, Q, Q', h1, h2 => by
    simp only [wpC] at h1 h2
    obtain ⟨e, s', p, q⟩ := wpC_meet hm' h c s _ _ h1 h2
    cases e <;> simp only [blockW] at p q
    · exact ⟨_, _, p, q⟩
    · split at p <;> rename_i hi <;> simp only [hi, if_true, if_false] at q
      · exact ⟨_, _, p, q⟩
      · exact ⟨_, _, p, q⟩
    · exact ⟨_, _, p, q⟩
  | .loop c, s, Q, Q', h1, h2 => by
    simp only [wpC] at h1 h2
    refine h1 (fun s => loopW (wpC T C' c) s Q' → ∃ e s', Q e s' ∧ Q' e s') (fun s hs h2 => ?_) h2
    obtain ⟨e, s', p, q⟩ := wpC_meet hm' h c s _ _ hs (loopW_out (fun s Q Q' hq hh => wpC_mono (fun _ _ x => x) hm' c s Q Q' hq hh) h2)
    exact thenW_meet (fun x y => x y) p q
  | .rangeF g ps assign body, s, Q, Q', h1, h2 => by
    simp only [wpC, rangeW] at h1 h2
    split at h1
    · rename_i hg
      simp only [hg] at h2
      obtain ⟨o, ho, ho'⟩ := h _ _ _ h1.2 h2.2
      cases o <;> try exact ho.elim
      simp only at ho ho'
      split at ho
      · rename_i hl
        simp only [hl] at ho'
        exact ⟨_, _, ho.2, ho'.2⟩
      · exact ho.elim
    · exact h1.elim
  | .exit id, s, Q, Q', h1, h2 => ⟨_, _, h1, h2⟩
  | .ret, s, Q, Q', h1, h2 => ⟨_, _, h1, h2⟩

theorem back_one {m : Mode} {σ : Sto} {v r r' : V} (h : back m σ v r) (h' : back m σ v r') : r = r' := by
  cases m <;> simp only [back] at h h'
  · exact Option.some.inj (h.symm.trans h')
  · exact Option.some.inj (h.1.symm.trans h'.1)
  · exact Option.some.inj (h.symm.trans h')

theorem jobW_meet (hm' : MonoC C') (h : MeetC C C') {j : Job} {Q Q' : Out → Prop} (h1 : jobW T C j Q) (h2 : jobW T C' j Q') : ∃ o, Q o ∧ Q' o := by
  cases j <;> simp only [jobW] at h1 h2
  · obtain ⟨fn, a1, a2, a3, a4⟩ := h1
    obtain ⟨fn', b1, b2, b3, b4⟩ := h2
    rw [a1] at b1; cases b1
    obtain ⟨e, s, ⟨p1, v, p2, r, p3, p4⟩, ⟨q1, v', q2, r', q3, q4⟩⟩ := wpC_meet hm' h _ _ _ _ a4 b4
    rw [p2] at q2; cases q2
    cases back_one p3 q3
    exact ⟨_, p4, q4⟩
  · obtain ⟨fn, a1, a2, a4⟩ := h1
    obtain ⟨fn', b1, b2, b4⟩ := h2
    rw [a1] at b1; cases b1
    obtain ⟨e, s, ⟨p1, v, p2, p4⟩, ⟨q1, v', q2, q4⟩⟩ := wpC_meet hm' h _ _ _ _ a4 b4
    rw [p2] at q2; cases q2
    exact ⟨_, p4, q4⟩
  · obtain ⟨e, s, ⟨p1, x1, x2, x3, x4, x5, p2, p3⟩, ⟨q1, y1, y2, y3, y4, y5, q2, q3⟩⟩ := wpC_meet hm' h _ _ _ _ h1 h2
    rw [p2] at q2; cases q2
    obtain ⟨e', s', ⟨_, p4⟩, ⟨_, q4⟩⟩ := wpC_meet hm' h _ _ _ _ p3 q3
    exact ⟨_, p4, q4⟩

theorem run_out {j : Job} {Q : Out → Prop} (h : run T j Q) : jobW T (run T) j Q :=
  h (fun j Q => jobW T (run T) j Q) (fun j Q Q' hq hh => jobW_mono (fun _ _ x => x) run_mono hq hh)
    (fun j Q hh => jobW_mono (fun j Q x => run_step x) run_mono (fun _ x => x) hh)

theorem run_meet : MeetC (run T) (run T) := fun j Q Q' h h' => by
  refine h (fun j Q => ∀ Q', run T j Q' → ∃ o, Q o ∧ Q' o) (fun j Q Q' hq hh R hR => ?_) (fun j Q hh Q' hQ' => ?_) Q' h'
  · obtain ⟨o, a, b⟩ := hh R hR
    exact ⟨o, hq o a, b⟩
  · exact jobW_meet run_mono (fun j Q Q' a b => a Q' b) hh (run_out hQ')

/-- What a call on trees comes to. -/
noncomputable def res (T : Tab) (f : Nat) (vs : List V) : Option V :=
  open Classical in if h : ∃ r, run T (.pure f vs) (fun o => o = .val r) then some h.choose else none

theorem res_run {f : Nat} {vs : List V} {r : V} (h : res T f vs = some r) : run T (.pure f vs) (fun o => o = .val r) := by
  unfold res at h
  split at h
  · rename_i hx; cases h; exact hx.choose_spec
  · cases h

theorem run_res {f : Nat} {vs : List V} {r : V} (h : run T (.pure f vs) (fun o => o = .val r)) : res T f vs = some r := by
  have hx : ∃ r, run T (.pure f vs) (fun o => o = .val r) := ⟨r, h⟩
  unfold res
  rw [dif_pos hx]
  obtain ⟨o, a, b⟩ := run_meet _ _ _ hx.choose_spec h
  rw [a] at b
  simp only [Out.val.injEq] at b
  rw [b]

end
end Go.Q
end

section
/- A run comes to something definite. -/
set_option linter.unusedSimpArgs false
set_option linter.unusedVariables false
namespace Go.Q

section
variable {T : Tab}

/-- What is said of a job's outcome is said of one outcome. -/
def DefC (C C' : Calls') : Prop := ∀ j Q, C j Q → ∃ o, Q o ∧ C' j (fun o' => o' = o)

variable {C C' : Calls'}

theorem callW_def (h : DefC C C') (hm : MonoC C') {fs : Bool} {f : Nat} {args : List V} {σ : Sto} {n lk : Nat} {Q : V → Sto → Nat → Prop}
    (h1 : callW T C fs f args σ n lk Q) : ∃ v σ' n', Q v σ' n' ∧ callW T C' fs f args σ n lk (fun v2 σ2 n2 => v2 = v ∧ σ2 = σ' ∧ n2 = n') := by
  unfold callW at *
  cases hmode : T.mode f <;> simp only [hmode] at h1 ⊢
  case raw =>
    obtain ⟨o, ho, ho'⟩ := h _ _ h1.2
    cases o <;> try exact ho.elim
    exact ⟨_, _, _, ho, h1.1, hm _ _ _ (fun o' e => by subst e; exact ⟨rfl, rfl, rfl⟩) ho'⟩
  all_goals
    obtain ⟨ts, a1, r, a2, D, a3, a4, a5, a6⟩ := h1
    obtain ⟨o, ho, ho'⟩ := h _ _ a2
    subst ho
    exact ⟨_, _, _, a6, ts, a1, r, ho', D, a3, a4, a5, rfl, rfl, rfl⟩

theorem yieldW_def (h : DefC C C') (hm : MonoC C') {l : Nat} {args : List V} {σ : Sto} {n lk : Nat} {Q : V → Sto → Nat → Prop}
    (h1 : yieldW C l args σ n lk Q) : ∃ v σ' n', Q v σ' n' ∧ yieldW C' l args σ n lk (fun v2 σ2 n2 => v2 = v ∧ σ2 = σ' ∧ n2 = n') := by
  unfold yieldW at *
  split at h1
  · rename_i hl
    simp only [hl]
    obtain ⟨o, ho, ho'⟩ := h _ _ h1.2.2
    cases o <;> try exact ho.elim
    obtain ⟨a1, a2, a3, a4, a5, e1, q1⟩ := ho
    exact ⟨_, _, _, q1, h1.1, h1.2.1, hm _ _ _ (fun o' e => by subst e; exact ⟨a1, a2, a3, a4, a5, e1, rfl, rfl, rfl⟩) ho'⟩
  · exact h1.elim

theorem opW_def (h : DefC C C') (hm : MonoC C') {fs : Bool} {ρ : Opd → V} {σ : Sto} {n lk : Nat} {ai : AI} {Q : V → Sto → Nat → Prop}
    (h1 : opW T C fs ρ σ n lk ai Q) : ∃ v σ' n', Q v σ' n' ∧ opW T C' fs ρ σ n lk ai (fun v2 σ2 n2 => v2 = v ∧ σ2 = σ' ∧ n2 = n') := by
  cases ai
  case call f args => exact callW_def h hm h1
  case callv g args =>
    simp only [opW] at h1 ⊢
    cases hg : ρ g <;> rw [hg] at h1 <;> try exact h1.elim
    · exact callW_def h hm h1
    · exact callW_def h hm h1
    · obtain ⟨v, σ', n', q, a⟩ := yieldW_def h hm h1.2
      exact ⟨v, σ', n', q, h1.1, a⟩
  case inv x tbl args =>
    simp only [opW] at h1 ⊢
    obtain ⟨h0, h1⟩ := h1
    split at h1
    · obtain ⟨v, σ', n', q, a⟩ := callW_def h hm h1
      exact ⟨v, σ', n', q, h0, a⟩
    · exact h1.elim
  all_goals
    simp only [opW] at h1 ⊢
    split at h1
    · exact ⟨_, _, _, h1, rfl, rfl, rfl⟩
    · exact h1.elim

theorem wpR_def (h : DefC C C') (hm : MonoC C') : ∀ (ops : List AOp) (s : St) (Q : St → Prop), wpR T C ops s Q → ∃ s', Q s' ∧ wpR T C' ops s (fun s2 => s2 = s')
  | [], s, Q, h1 => ⟨s, h1, rfl⟩
  | o :: ops, s, Q, h1 => by
    simp only [wpR] at *
    split at h1 <;> rename_i hw <;> simp only [hw, if_true, if_false, Bool.false_eq_true]
    · obtain ⟨v, σ', n', a, b⟩ := opW_def h hm h1
      obtain ⟨s', q, c⟩ := wpR_def h hm ops _ _ a
      exact ⟨s', q, opW_mono (fun _ _ x => x) hm (fun v2 σ2 n2 ⟨e1, e2, e3⟩ => by subst e1; subst e2; subst e3; exact c) b⟩
    · exact wpR_def h hm ops _ _ h1

theorem wpD_def (h : DefC C C') (hm : MonoC C') (n0 : Nat) : ∀ (ops : List DOp) (s : St) (Q : St → Prop), wpD T C n0 ops s Q → ∃ s', Q s' ∧ wpD T C' n0 ops s (fun s2 => s2 = s')
  | [], s, Q, h1 => ⟨s, h1, rfl⟩
  | d :: ops, s, Q, h1 => by
    simp only [wpD] at *
    split at h1 <;> rename_i hw <;> simp only [hw, if_true, if_false, Bool.false_eq_true]
    · obtain ⟨v, σ', n', a, b⟩ := opW_def h hm h1
      obtain ⟨s', q, c⟩ := wpD_def h hm n0 ops _ _ a.2
      exact ⟨s', q, opW_mono (fun _ _ x => x) hm (fun v2 σ2 n2 ⟨e1, e2, e3⟩ => by subst e1; subst e2; subst e3; exact ⟨a.1, c⟩) b⟩
    · exact wpD_def h hm n0 ops _ _ h1

theorem wpS_def (h : DefC C C') (hm : MonoC C') : ∀ (segs : List Seg) (s : St) (Q : St → Prop), wpS T C segs s Q → ∃ s', Q s' ∧ wpS T C' segs s (fun s2 => s2 = s')
  | [], s, Q, h1 => ⟨s, h1, rfl⟩
  | g :: gs, s, Q, h1 => by
    obtain ⟨s1, a, b⟩ := wpD_def h hm s.n g.ds s _ h1
    obtain ⟨s2, c, d⟩ := wpR_def h hm g.ops _ _ a
    obtain ⟨s3, e, f⟩ := wpS_def h hm gs s2 _ c
    exact ⟨s3, e, wpD_mono (fun _ _ x => x) hm _ _ _ _ _ (fun s1' e1 => by subst e1; exact wpR_mono (fun _ _ x => x) hm _ _ _ _ (fun s2' e2 => by subst e2; exact f) d) b⟩

theorem wpC_def (h : DefC C C') (hm : MonoC C') : ∀ (c : AC) (s : St) (Q : Ex → St → Prop), wpC T C c s Q → ∃ e s', Q e s' ∧ wpC T C' c s (fun e2 s2 => e2 = e ∧ s2 = s')
  | .skip, s, Q, h1 => ⟨_, _, h1, rfl, rfl⟩
  | .reg ops, s, Q, h1 => by
    obtain ⟨s', a, b⟩ := wpR_def h hm ops s _ h1
    exact ⟨_, _, a, wpR_mono (fun _ _ x => x) hm _ _ _ _ (fun s2 e => ⟨rfl, e⟩) b⟩
  | .regd segs, s, Q, h1 => by
    obtain ⟨s', a, b⟩ := wpS_def h hm segs s _ h1
    exact ⟨_, _, a, wpS_mono (fun _ _ x => x) hm _ _ _ _ (fun s2 e => ⟨rfl, e⟩) b⟩
  | .seq a b, s, Q, h1 => by
    simp only [wpC] at h1 ⊢
    obtain ⟨e, s', p, q⟩ := wpC_def h hm a s _ h1
    cases e <;> simp only [thenW] at p
    · obtain ⟨e2, s2, p2, q2⟩ := wpC_def h hm b s' _ p
      exact ⟨e2, s2, p2, wpC_mono (fun _ _ x => x) hm _ _ _ _ (fun e3 s3 ⟨h1, h2⟩ => by subst h1; subst h2; exact q2) q⟩
    · exact ⟨_, _, p, wpC_mono (fun _ _ x => x) hm _ _ _ _ (fun e3 s3 ⟨h1, h2⟩ => by subst h1; subst h2; exact ⟨rfl, rfl⟩) q⟩
    · exact ⟨_, _, p, wpC_mono (fun _ _ x => x) hm _ _ _ _ (fun e3 s3 ⟨h1, h2⟩ => by subst h1; subst h2; exact ⟨rfl, rfl⟩) q⟩
  | .cond x a b, s, Q, h1 => by
    simp only [wpC] at h1 ⊢
    cases hx : s.val x <;> rw [hx] at h1 <;> try exact h1.elim
    rename_i bb
    cases bb
    · exact wpC_def h hm b s _ h1
    · exact wpC_def h hm a s _ h1
  | .block id c, s, Q, h1 => by
    simp only [wpC] at h1 ⊢
    obtain ⟨e, s', p, q⟩ := wpC_def h hm c s _ h1
    cases e <;> simp only [blockW] at p
    · exact ⟨_, _, p, wpC_mono (fun _ _ x => x) hm _ _ _ _ (fun e3 s3 ⟨h1, h2⟩ => by subst h1; subst h2; exact ⟨rfl, rfl⟩) q⟩
    · split at p <;> rename_i hi
      · exact ⟨_, _, p, wpC_mono (fun _ _ x => x) hm _ _ _ _ (fun e3 s3 ⟨h1, h2⟩ => by subst h1; subst h2; simp only [blockW, hi, if_true]; exact ⟨trivial, trivial⟩) q⟩
      · exact ⟨_, _, p, wpC_mono (fun _ _ x => x) hm _ _ _ _ (fun e3 s3 ⟨h1, h2⟩ => by subst h1; subst h2; simp only [blockW, hi, if_false]; exact ⟨trivial, trivial⟩) q⟩
    · exact ⟨_, _, p, wpC_mono (fun _ _ x => x) hm _ _ _ _ (fun e3 s3 ⟨h1, h2⟩ => by subst h1; subst h2; exact ⟨rfl, rfl⟩) q⟩
  | .loop c, s, Q, h1 => by
    simp only [wpC] at h1 ⊢
    refine h1 (fun s => ∃ e s', Q e s' ∧ loopW (wpC T C' c) s (fun e2 s2 => e2 = e ∧ s2 = s')) (fun s hs => ?_)
    obtain ⟨e, s', p, q⟩ := wpC_def h hm c s _ hs
    have hB := fun s Q Q' hq hh => wpC_mono (T := T) (fun _ _ x => x) hm c s Q Q' hq hh
    cases e <;> simp only [thenW] at p
    · obtain ⟨e2, s2, p2, q2⟩ := p
      exact ⟨e2, s2, p2, loopW_step hB (hB _ _ _ (fun e3 s3 ⟨h1, h2⟩ => by subst h1; subst h2; exact q2) q)⟩
    · exact ⟨_, _, p, loopW_step hB (hB _ _ _ (fun e3 s3 ⟨h1, h2⟩ => by subst h1; subst h2; exact ⟨rfl, rfl⟩) q)⟩
    · exact ⟨_, _, p, loopW_step hB (hB _ _ _ (fun e3 s3 ⟨h1, h2⟩ => by subst h1; subst h2; exact ⟨rfl, rfl⟩) q)⟩
  | .rangeF g ps assign body, s, Q, h1 => by
    simp only [wpC, rangeW] at h1 ⊢
    cases hg : s.val g <;> rw [hg] at h1 <;> try exact h1.elim
    obtain ⟨o, ho, ho'⟩ := h _ _ h1.2
    cases o <;> try exact ho.elim
    simp only at ho
    split at ho
    · rename_i hl
      exact ⟨_, _, ho.2, h1.1, hm _ _ _ (fun o' e => by subst e; simp only [hl]; exact ⟨ho.1, trivial, trivial⟩) ho'⟩
    · exact ho.elim
  | .exit id, s, Q, h1 => ⟨_, _, h1, rfl, rfl⟩
  | .ret, s, Q, h1 => ⟨_, _, h1, rfl, rfl⟩

theorem jobW_def (h : DefC C C') (hm : MonoC C') {j : Job} {Q : Out → Prop} (h1 : jobW T C j Q) : ∃ o, Q o ∧ jobW T C' j (fun o' => o' = o) := by
  cases j <;> simp only [jobW] at h1 ⊢
  · obtain ⟨fn, a1, a2, a3, a4⟩ := h1
    obtain ⟨e, s, ⟨p1, v, p2, r, p3, p4⟩, q⟩ := wpC_def h hm _ _ _ a4
    exact ⟨_, p4, fn, a1, a2, a3, wpC_mono (fun _ _ x => x) hm _ _ _ _ (fun e3 s3 ⟨h1, h2⟩ => by subst h1; subst h2; exact ⟨p1, v, p2, r, p3, rfl⟩) q⟩
  · obtain ⟨fn, a1, a2, a4⟩ := h1
    obtain ⟨e, s, ⟨p1, v, p2, p4⟩, q⟩ := wpC_def h hm _ _ _ a4
    exact ⟨_, p4, fn, a1, a2, wpC_mono (fun _ _ x => x) hm _ _ _ _ (fun e3 s3 ⟨h1, h2⟩ => by subst h1; subst h2; exact ⟨p1, v, p2, rfl⟩) q⟩
  · obtain ⟨e, s, ⟨p1, x1, x2, x3, x4, x5, p2, p3⟩, q⟩ := wpC_def h hm _ _ _ h1
    obtain ⟨e', s', ⟨p5, p4⟩, q'⟩ := wpC_def h hm _ _ _ p3
    exact ⟨_, p4, wpC_mono (fun _ _ x => x) hm _ _ _ _ (fun e3 s3 ⟨h1, h2⟩ => by
      subst h1; subst h2
      exact ⟨p1, x1, x2, x3, x4, x5, p2, wpC_mono (fun _ _ x => x) hm _ _ _ _ (fun e4 s4 ⟨h1, h2⟩ => by subst h1; subst h2; exact ⟨p5, rfl⟩) q'⟩) q⟩

theorem run_def : DefC (run T) (run T) := fun j Q h => by
  refine h (fun j Q => ∃ o, Q o ∧ run T j (fun o' => o' = o)) (fun j Q Q' hq ⟨o, a, b⟩ => ⟨o, hq o a, b⟩) (fun j Q hh => ?_)
  obtain ⟨o, a, b⟩ := jobW_def (C' := run T) (fun j Q x => x) run_mono hh
  exact ⟨o, a, run_step b⟩

/-- What an operation comes to. -/
noncomputable def opR (T : Tab) (ρ : Opd → V) (σ : Sto) (n lk : Nat) (ai : AI) : Option (V × Sto × Nat) :=
  open Classical in if h : ∃ x : V × Sto × Nat, opW T (run T) true ρ σ n lk ai (fun v σ' n' => (v, σ', n') = x) then some h.choose else none

theorem opR_ok {ρ : Opd → V} {σ σ' : Sto} {n n' lk : Nat} {ai : AI} {v : V} {Q : V → Sto → Nat → Prop} (h : opR T ρ σ n lk ai = some (v, σ', n')) (hq : Q v σ' n') : opW T (run T) true ρ σ n lk ai Q := by
  unfold opR at h
  split at h
  · rename_i hx
    simp only [Option.some.injEq] at h
    refine opW_mono (fun _ _ x => x) run_mono (fun v2 σ2 n2 e => ?_) hx.choose_spec
    rw [h] at e
    simp only [Prod.mk.injEq] at e
    obtain ⟨rfl, rfl, rfl⟩ := e
    exact hq
  · cases h

theorem opR_some {ρ : Opd → V} {σ : Sto} {n lk : Nat} {ai : AI} {Q : V → Sto → Nat → Prop} (h : opW T (run T) true ρ σ n lk ai Q) : ∃ v σ' n', opR T ρ σ n lk ai = some (v, σ', n') ∧ Q v σ' n' := by
  obtain ⟨v, σ', n', hq, hd⟩ := opW_def run_def run_mono h
  have hx : ∃ x : V × Sto × Nat, opW T (run T) true ρ σ n lk ai (fun v σ' n' => (v, σ', n') = x) :=
    ⟨(v, σ', n'), opW_mono (fun _ _ x => x) run_mono (fun v2 σ2 n2 ⟨e1, e2, e3⟩ => by subst e1; subst e2; subst e3; rfl) hd⟩
  refine ⟨v, σ', n', ?_, hq⟩
  unfold opR
  rw [dif_pos hx]
  obtain ⟨v2, σ2, n2, a, b⟩ := opW_meet run_meet hx.choose_spec hd
  rw [← a, b.1, b.2.1, b.2.2]

end
end Go.Q
end

section
/- The evaluator's rules in a form that a rewriter can follow: one road, values in normal form, guards as conditional values. -/
set_option linter.unusedSimpArgs false
set_option linter.unusedVariables false
namespace Go.Q

/-- A value that hangs on a condition. -/
def cv (b : Bool) (x y : V) : V := if b = true then x else y

@[congr] theorem cv_congr {b b' : Bool} {x x' y y' : V} (hb : b = b') (hx : b' = true → x = x') (hy : b' = false → y = y') : cv b x y = cv b' x' y' := by
  subst hb
  cases b
  · simp [cv, hy rfl]
  · simp [cv, hx rfl]

theorem cv_true (x y : V) : cv true x y = x := rfl
theorem cv_false (x y : V) : cv false x y = y := rfl
theorem cv_and (a b : Bool) (x : V) : cv (a && b) x .undef = cv a (cv b x .undef) .undef := by cases a <;> rfl
theorem cv_bool_and (b : Bool) (x : Bool) : cv b (.bool x) (.bool false) = .bool (b && x) := by cases b <;> rfl
theorem cv_bool_or (b : Bool) (x : Bool) : cv b (.bool true) (.bool x) = .bool (b || x) := by cases b <;> rfl
theorem cv_same (b : Bool) (x : V) : cv b x x = x := by cases b <;> rfl

theorem cv_bool_imp (b : Bool) (x : Bool) : cv b (.bool x) (.bool true) = .bool (!b || x) := by cases b <;> rfl
theorem cv_bool_nand (b : Bool) (x : Bool) : cv b (.bool false) (.bool x) = .bool (!b && x) := by cases b <;> rfl
theorem cv_int (b : Bool) (k : IntKind) (x y : Int) : cv b (.int k x) (.int k y) = .int k (if b = true then x else y) := by cases b <;> rfl
theorem cv_not (b : Bool) (x y : V) : cv (!b) x y = cv b y x := by cases b <;> rfl

def pt (env : Nat → V) (d : Nat) (v : V) : Nat → V := fun t => if t = d then v else env t
theorem pt_get (env : Nat → V) (d : Nat) (v : V) (t : Nat) : pt env d v t = if t = d then v else env t := rfl

def ptO (env : Nat → V) (d : Option Nat) (v : V) : Nat → V := match d with
  | some d => pt env d v
  | none => env
theorem ptO_some (env : Nat → V) (d : Nat) (v : V) : ptO env (some d) v = pt env d v := rfl
theorem ptO_none (env : Nat → V) (v : V) : ptO env none v = env := rfl

def vl (env : Nat → V) : Opd → V
  | .tmp t => env t
  | .con v => v
theorem vl_tmp (env : Nat → V) (t : Nat) : vl env (.tmp t) = env t := rfl
theorem vl_con (env : Nat → V) (v : V) : vl env (.con v) = v := rfl

theorem st_val (env : Nat → V) (σ : Sto) (n lk : Nat) : St.val ⟨env, σ, n, lk⟩ = vl env := by funext x; cases x <;> rfl
theorem st_put (env : Nat → V) (σ : Sto) (n lk : Nat) (d : Option Nat) (v : V) : St.put ⟨env, σ, n, lk⟩ d v = ⟨ptO env d v, σ, n, lk⟩ := by cases d <;> rfl

abbrev R3 := Option (V × Sto × Nat)

/-- What comes, and what is done with it. -/
def bindE (e : R3) (K : V → Sto → Nat → Prop) : Prop := match e with
  | some (v, σ, n) => K v σ n
  | none => False
theorem bindE_some (v : V) (σ : Sto) (n : Nat) (K : V → Sto → Nat → Prop) : bindE (some (v, σ, n)) K = K v σ n := rfl
@[congr] theorem bindE_congr {e e' : R3} {K : V → Sto → Nat → Prop} (h : e = e') : bindE e K = bindE e' K := by rw [h]

/-- Done under a condition. -/
def gev (g : Bool) (e d : R3) : R3 := if g = true then e else d
@[congr] theorem gev_congr {b b' : Bool} {x x' y y' : R3} (hb : b = b') (hx : b' = true → x = x') (hy : y = y') : gev b x y = gev b' x' y' := by
  subst hb
  subst hy
  cases b
  · rfl
  · simp [gev, hx rfl]
theorem gev_true (e d : R3) : gev true e d = e := rfl
theorem gev_false (e d : R3) : gev false e d = d := rfl
theorem gev_and (a b : Bool) (e d : R3) : gev (a && b) e d = gev a (gev b e d) d := by cases a <;> rfl
theorem gev_some (g : Bool) (v u : V) (σ : Sto) (n : Nat) : gev g (some (v, σ, n)) (some (u, σ, n)) = some (cv g v u, σ, n) := by cases g <;> rfl

/-- Done where a condition fails. -/
def gevn (g : Bool) (e d : R3) : R3 := if g = true then d else e
@[congr] theorem gevn_congr {b b' : Bool} {x x' y y' : R3} (hb : b = b') (hx : b' = false → x = x') (hy : y = y') : gevn b x y = gevn b' x' y' := by
  subst hb
  subst hy
  cases b
  · simp [gevn, hx rfl]
  · rfl
theorem gev_not (g : Bool) (e d : R3) : gev (!g) e d = gevn g e d := by cases g <;> rfl
theorem gevn_true (e d : R3) : gevn true e d = d := rfl
theorem gevn_false (e d : R3) : gevn false e d = e := rfl
theorem gevn_some (g : Bool) (v u : V) (σ : Sto) (n : Nat) : gevn g (some (v, σ, n)) (some (u, σ, n)) = some (cv g u v, σ, n) := by cases g <;> rfl

def wantsV (w : Bool) : V → Bool
  | .bool b => b == w
  | _ => false
theorem wantsV_bool (w b : Bool) : wantsV w (.bool b) = (b == w) := rfl
theorem wantsV_undef (w : Bool) : wantsV w .undef = false := rfl
theorem wantsV_cv (w b : Bool) (x : V) : wantsV w (cv b x .undef) = (b && wantsV w x) := by cases b <;> rfl
theorem wantsV_cvn (w b : Bool) (x : V) : wantsV w (cv b .undef x) = (!b && wantsV w x) := by cases b <;> rfl
def wantsO (env : Nat → V) : Option (Nat × Bool) → Bool
  | none => true
  | some (t, w) => wantsV w (env t)
theorem wantsO_none (env : Nat → V) : wantsO env none = true := rfl
theorem wantsO_some (env : Nat → V) (t : Nat) (w : Bool) : wantsO env (some (t, w)) = wantsV w (env t) := rfl
theorem wants_eq (g : Option (Nat × Bool)) (env : Nat → V) : wants g env = wantsO env g := by
  rcases g with _ | ⟨t, w⟩
  · rfl
  · simp only [wants, wantsO, wantsV]
    cases env t <;> rfl

/-- What a call on trees hands back. -/
def backE (fs : Bool) (D : List Nat) (r : V) (σ : Sto) (n lk : Nat) : R3 :=
  if flat r = true then some (thaw σ n r) else if ((fs || D.isEmpty) && D.all (fun id => decide (lk ≤ id))) = true then some (thaw (dropL σ D) n r) else none

noncomputable def callR (T : Tab) (fs : Bool) (f : Nat) (ts : Option (List V)) (D : List Nat) (σ : Sto) (n lk : Nat) : R3 :=
  match ts with
  | none => none
  | some ts => match res T f ts with
    | none => none
    | some r => backE fs D r σ n lk

/-- What a call on the store as it is comes to. -/
noncomputable def rawR (T : Tab) (f : Nat) (args : List V) (σ : Sto) (n lk : Nat) : R3 :=
  open Classical in if h : ∃ x : V × Sto × Nat, run T (.raw f args σ n lk) (fun o => o = .mem x.1 x.2.1 x.2.2) then some h.choose else none
/-- What a loop's round comes to. -/
noncomputable def yldR (T : Tab) (l : Nat) (args : List V) (σ : Sto) (n lk : Nat) : R3 :=
  open Classical in if h : ∃ x : V × Sto × Nat, yieldW (run T) l args σ n lk (fun v σ' n' => (v, σ', n') = x) then some h.choose else none

/-- A post on what a call leaves. -/
def memQ (Q : V → Sto → Nat → Prop) (o : Out) : Prop := match o with
  | .mem v σ' n' => Q v σ' n'
  | _ => False

theorem rawR_ok {T : Tab} {f : Nat} {args : List V} {σ σ' : Sto} {n n' lk : Nat} {v : V} {Q : V → Sto → Nat → Prop} (h : rawR T f args σ n lk = some (v, σ', n')) (hq : Q v σ' n') : run T (.raw f args σ n lk) (memQ Q) := by
  unfold rawR at h
  split at h
  · rename_i hx
    simp only [Option.some.injEq] at h
    refine run_mono _ _ _ (fun o e => ?_) hx.choose_spec
    rw [h] at e
    subst e
    exact hq
  · cases h
theorem rawR_of {T : Tab} {f : Nat} {args : List V} {σ : Sto} {n lk : Nat} {Q : V → Sto → Nat → Prop} (h : run T (.raw f args σ n lk) (memQ Q)) : ∃ v σ' n', rawR T f args σ n lk = some (v, σ', n') ∧ Q v σ' n' := by
  obtain ⟨o, hq, hd⟩ := run_def _ _ h
  cases o <;> try exact hq.elim
  rename_i v σ' n'
  have hx : ∃ x : V × Sto × Nat, run T (.raw f args σ n lk) (fun o => o = .mem x.1 x.2.1 x.2.2) := ⟨(v, σ', n'), hd⟩
  refine ⟨v, σ', n', ?_, hq⟩
  unfold rawR
  rw [dif_pos hx]
  obtain ⟨o, a, b⟩ := run_meet _ _ _ hx.choose_spec hd
  rw [a] at b
  simp only [Out.mem.injEq] at b
  obtain ⟨b1, b2, b3⟩ := b
  rw [← b1, ← b2, ← b3]
theorem yldR_ok {T : Tab} {l : Nat} {args : List V} {σ σ' : Sto} {n n' lk : Nat} {v : V} {Q : V → Sto → Nat → Prop} (h : yldR T l args σ n lk = some (v, σ', n')) (hq : Q v σ' n') : yieldW (run T) l args σ n lk Q := by
  unfold yldR at h
  split at h
  · rename_i hx
    simp only [Option.some.injEq] at h
    refine yieldW_mono (fun _ _ x => x) run_mono (fun v2 σ2 n2 e => ?_) hx.choose_spec
    rw [h] at e
    simp only [Prod.mk.injEq] at e
    obtain ⟨rfl, rfl, rfl⟩ := e
    exact hq
  · cases h
theorem yldR_of {T : Tab} {l : Nat} {args : List V} {σ : Sto} {n lk : Nat} {Q : V → Sto → Nat → Prop} (h : yieldW (run T) l args σ n lk Q) : ∃ v σ' n', yldR T l args σ n lk = some (v, σ', n') ∧ Q v σ' n' := by
  obtain ⟨v, σ', n', hq, hd⟩ := yieldW_def run_def run_mono h
  have hx : ∃ x : V × Sto × Nat, yieldW (run T) l args σ n lk (fun v σ' n' => (v, σ', n') = x) :=
    ⟨(v, σ', n'), yieldW_mono (fun _ _ x => x) run_mono (fun v2 σ2 n2 ⟨e1, e2, e3⟩ => by subst e1; subst e2; subst e3; rfl) hd⟩
  refine ⟨v, σ', n', ?_, hq⟩
  unfold yldR
  rw [dif_pos hx]
  obtain ⟨v2, σ2, n2, a, b⟩ := yieldW_meet run_meet hx.choose_spec hd
  rw [← a, b.1, b.2.1, b.2.2]

noncomputable def callE (T : Tab) (fs : Bool) (f : Nat) (args : List V) (σ : Sto) (n lk : Nat) : R3 :=
  if T.mode f = .raw then (if fs = true then rawR T f args σ n lk else none) else callR T fs f (args.mapM (frz σ DEEP)) (args.flatMap (rch σ DEEP)) σ n lk

noncomputable def callvE (T : Tab) (fs : Bool) (g : V) (args : List V) (σ : Sto) (n lk : Nat) : R3 :=
  match g with
  | .fn f caps => callE T fs f (args ++ caps) σ n lk
  | .bnd f bs => callE T fs f (bs ++ args) σ n lk
  | .yld l => if fs = true then yldR T l args σ n lk else none
  | _ => none

/-- A method of an interface value is called. -/
noncomputable def invE (T : Tab) (fs : Bool) (t : Option (Nat × V)) (args : List V) (σ : Sto) (n lk : Nat) : R3 :=
  match t with
  | some (f, r) => if fs = true then callE T fs f (r :: args) σ n lk else none
  | none => none

noncomputable def evT (T : Tab) (fs : Bool) (ρ : Opd → V) (σ : Sto) (n lk : Nat) : AI → R3
  | .call f args => callE T fs f (args.map ρ) σ n lk
  | .callv g args => callvE T fs (ρ g) (args.map ρ) σ n lk
  | .inv x tbl args => invE T fs (invOf σ tbl (ρ x)) (args.map ρ) σ n lk
  | ai => ev ρ σ n lk ai

variable {T : Tab}

theorem callE_ok {fs : Bool} {f : Nat} {args : List V} {σ σ' : Sto} {n n' lk : Nat} {v : V} {Q : V → Sto → Nat → Prop}
    (h : callE T fs f args σ n lk = some (v, σ', n')) (hq : Q v σ' n') : callW T (run T) fs f args σ n lk Q := by
  unfold callE callR at h
  split at h
  · rename_i hm
    split at h
    · rename_i hfs
      unfold callW
      rw [hm]
      exact ⟨hfs, rawR_ok h hq⟩
    · cases h
  rename_i hm
  split at h
  · cases h
  rename_i ts hts
  split at h
  · cases h
  rename_i r hr
  have key : ∃ D : List Nat, D = (if flat r then [] else args.flatMap (rch σ DEEP)) ∧ (fs = false → D = []) ∧ (∀ id ∈ D, lk ≤ id) ∧
        Q (thaw (dropL σ D) n r).1 (thaw (dropL σ D) n r).2.1 (thaw (dropL σ D) n r).2.2 := by
    refine ⟨_, rfl, ?_⟩
    unfold backE at h
    split at h
    · rename_i hf
      have h0 : dropL σ [] = σ := by funext id; simp [dropL]
      simp only [hf, if_true, h0]
      simp only [Option.some.injEq] at h
      rw [h]
      exact ⟨fun _ => trivial, fun id hid => by simp at hid, hq⟩
    · rename_i hf
      split at h
      · rename_i hc
        simp only [Bool.and_eq_true, Bool.or_eq_true, List.isEmpty_iff, List.all_eq_true, decide_eq_true_eq] at hc
        simp only [hf, if_false, Bool.false_eq_true]
        simp only [Option.some.injEq] at h
        rw [h]
        exact ⟨fun hfs => by simpa [hfs] using hc.1, hc.2, hq⟩
      · cases h
  unfold callW
  cases hmode : T.mode f
  case raw => exact absurd hmode hm
  all_goals exact ⟨ts, hts, r, res_run hr, key⟩

theorem evT_ok {fs : Bool} {ρ : Opd → V} {σ σ' : Sto} {n n' lk : Nat} {ai : AI} {v : V} {Q : V → Sto → Nat → Prop}
    (h : evT T fs ρ σ n lk ai = some (v, σ', n')) (hq : Q v σ' n') : opW T (run T) fs ρ σ n lk ai Q := by
  cases ai
  case call f args => exact callE_ok h hq
  case callv g args =>
    simp only [evT, callvE] at h
    simp only [opW]
    split at h
    · rename_i hg; simp only [hg]; exact callE_ok h hq
    · rename_i hg; simp only [hg]; exact callE_ok h hq
    · rename_i hg
      simp only [hg]
      split at h
      · rename_i hfs; exact ⟨hfs, yldR_ok h hq⟩
      · cases h
    · cases h
  case inv x tbl args =>
    simp only [evT, invE] at h
    simp only [opW]
    split at h
    · rename_i f r hi
      simp only [hi]
      split at h
      · rename_i hfs; exact ⟨hfs, callE_ok h hq⟩
      · cases h
    · cases h
  all_goals
    simp only [evT] at h
    simp only [opW, h]
    exact hq

/-- Operations one by one. -/
noncomputable def WR (T : Tab) : List AOp → (Nat → V) → Sto → Nat → Nat → (St → Prop) → Prop
  | [], env, σ, n, lk, Q => Q ⟨env, σ, n, lk⟩
  | o :: ops, env, σ, n, lk, Q => bindE (gev (wantsO env o.guard) (evT T true (vl env) σ n lk o.op) (some (.undef, σ, n))) fun v σ' n' => WR T ops (ptO env o.dst v) σ' n' lk Q

/-- .. from a value on. -/
def stepW (T : Tab) (e : R3) (d : Option Nat) (ops : List AOp) (env : Nat → V) (lk : Nat) (Q : St → Prop) : Prop :=
  bindE e fun v σ' n' => WR T ops (ptO env d v) σ' n' lk Q
theorem stepW_some (v : V) (σ : Sto) (n : Nat) (d : Option Nat) (ops : List AOp) (env : Nat → V) (lk : Nat) (Q : St → Prop) :
    stepW T (some (v, σ, n)) d ops env lk Q = WR T ops (ptO env d v) σ n lk Q := rfl
theorem stepW_congr {e e' : R3} {d : Option Nat} {ops : List AOp} {env : Nat → V} {lk : Nat} {Q : St → Prop} (h : e = e') : stepW T e d ops env lk Q = stepW T e' d ops env lk Q := by rw [h]

theorem stepW_raw {f : Nat} (hm : T.mode f = .raw) {args : List V} {σ : Sto} {n lk : Nat} {d : Option Nat} {ops : List AOp} {env : Nat → V} {Q : St → Prop}
    (h : run T (.raw f args σ n lk) (memQ fun v σ' n' => WR T ops (ptO env d v) σ' n' lk Q)) : stepW T (callE T true f args σ n lk) d ops env lk Q := by
  obtain ⟨v, σ', n', h1, h2⟩ := rawR_of h
  have : callE T true f args σ n lk = some (v, σ', n') := by unfold callE; rw [if_pos hm, if_pos rfl, h1]
  rw [this]; exact h2
theorem stepW_yld {l : Nat} {args : List V} {σ : Sto} {n lk : Nat} {d : Option Nat} {ops : List AOp} {env : Nat → V} {Q : St → Prop}
    (h : yieldW (run T) l args σ n lk (fun v σ' n' => WR T ops (ptO env d v) σ' n' lk Q)) : stepW T (callvE T true (.yld l) args σ n lk) d ops env lk Q := by
  obtain ⟨v, σ', n', h1, h2⟩ := yldR_of h
  have : callvE T true (.yld l) args σ n lk = some (v, σ', n') := h1
  rw [this]; exact h2

theorem WR_nil (env : Nat → V) (σ : Sto) (n lk : Nat) (Q : St → Prop) : WR T [] env σ n lk Q = Q ⟨env, σ, n, lk⟩ := rfl
theorem WR_cons (d : Option Nat) (op : AI) (ops : List AOp) (env : Nat → V) (σ : Sto) (n lk : Nat) (Q : St → Prop) :
    WR T (⟨d, none, op⟩ :: ops) env σ n lk Q = stepW T (evT T true (vl env) σ n lk op) d ops env lk Q := rfl
theorem WR_consG (d : Option Nat) (t : Nat) (w : Bool) (op : AI) (ops : List AOp) (env : Nat → V) (σ : Sto) (n lk : Nat) (Q : St → Prop) :
    WR T (⟨d, some (t, w), op⟩ :: ops) env σ n lk Q = stepW T (gev (wantsV w (env t)) (evT T true (vl env) σ n lk op) (some (.undef, σ, n))) d ops env lk Q := rfl

theorem bindE_out {e : R3} {K : V → Sto → Nat → Prop} (h : bindE e K) : ∃ v σ n, e = some (v, σ, n) ∧ K v σ n := by
  unfold bindE at h
  split at h
  · exact ⟨_, _, _, rfl, h⟩
  · exact h.elim

theorem WR_ok : ∀ (ops : List AOp) (env : Nat → V) (σ : Sto) (n lk : Nat) (Q : St → Prop), WR T ops env σ n lk Q → wpR T (run T) ops ⟨env, σ, n, lk⟩ Q
  | [], env, σ, n, lk, Q, h => h
  | o :: ops, env, σ, n, lk, Q, h => by
    obtain ⟨v, σ', n', he, hk⟩ := bindE_out h
    simp only [wpR, st_val, st_put, wants_eq]
    cases hg : wantsO env o.guard <;> simp only [hg] at he
    · rw [gev_false] at he
      cases he
      simp only [Bool.false_eq_true, if_false]
      exact WR_ok ops _ _ _ _ _ hk
    · rw [gev_true] at he
      simp only [if_true]
      exact evT_ok he (WR_ok ops _ _ _ _ _ hk)

/-- One operation of a part whose order is drawn. -/
noncomputable def dE (T : Tab) (d : DOp) (env : Nat → V) (σ : Sto) (n0 lk : Nat) : R3 :=
  match evT T false (vl env) (if d.pure then Sto.empty else if d.wr then σ else hide σ n0 (n0 + BIG * d.rank) d.hid) (n0 + BIG * d.rank)
    (if d.wr && !d.pure then lk else n0 + BIG * d.low.getD d.rank) d.o.op with
  | some (v, σ', n') => if n' ≤ n0 + BIG * d.rank + (if d.lays then BIG else 0) then
      some (v, (if d.pure then σ else if d.wr then σ' else match d.low with
        | some lo => mergeL σ σ' n0 lo (n0 + BIG * d.rank + (if d.lays then BIG else 0)) d.hid
        | none => if d.lays then merge σ σ' (n0 + BIG * d.rank) else σ), n0) else none
  | none => none

/-- .. that touches nothing. -/
def keepS (σ : Sto) (n0 : Nat) (m : Nat) : R3 → R3
  | some (v, σ', n') => if n' ≤ m then some (v, σ, n0) else none
  | none => none
theorem keepS_some (σ σ' : Sto) (n0 m n' : Nat) (v : V) : keepS σ n0 m (some (v, σ', n')) = if n' ≤ m then some (v, σ, n0) else none := rfl

theorem dE_pure (dst : Option Nat) (g : Option (Nat × Bool)) (op : AI) (wr : Bool) (rank : Nat) (hid : List Nat) (env : Nat → V) (σ : Sto) (n0 lk : Nat) :
    dE T ⟨⟨dst, g, op⟩, true, wr, false, rank, hid, none⟩ env σ n0 lk = keepS σ n0 (n0 + BIG * rank) (evT T false (vl env) Sto.empty (n0 + BIG * rank) (n0 + BIG * rank) op) := by
  simp only [dE, keepS, Option.getD_none, if_true, Bool.not_true, Bool.and_false, Bool.false_eq_true, if_false, Nat.add_zero]
theorem dE_read (dst : Option Nat) (g : Option (Nat × Bool)) (op : AI) (rank : Nat) (hid : List Nat) (env : Nat → V) (σ : Sto) (n0 lk : Nat) :
    dE T ⟨⟨dst, g, op⟩, false, false, false, rank, hid, none⟩ env σ n0 lk = keepS σ n0 (n0 + BIG * rank) (evT T false (vl env) (hide σ n0 (n0 + BIG * rank) hid) (n0 + BIG * rank) (n0 + BIG * rank) op) := by
  simp only [dE, keepS, Option.getD_none, if_true, Bool.not_true, Bool.and_false, Bool.false_eq_true, if_false, Nat.add_zero, Bool.false_and]
/-- .. that lays objects. -/
def layS (σ : Sto) (n0 lab : Nat) : R3 → R3
  | some (v, σ', n') => if n' ≤ lab + BIG then some (v, merge σ σ' lab, n0) else none
  | none => none
theorem layS_some (σ σ' : Sto) (n0 lab n' : Nat) (v : V) : layS σ n0 lab (some (v, σ', n')) = if n' ≤ lab + BIG then some (v, merge σ σ' lab, n0) else none := rfl
theorem dE_lay (dst : Option Nat) (g : Option (Nat × Bool)) (op : AI) (rank : Nat) (hid : List Nat) (env : Nat → V) (σ : Sto) (n0 lk : Nat) :
    dE T ⟨⟨dst, g, op⟩, false, false, true, rank, hid, none⟩ env σ n0 lk = layS σ n0 (n0 + BIG * rank) (evT T false (vl env) (hide σ n0 (n0 + BIG * rank) hid) (n0 + BIG * rank) (n0 + BIG * rank) op) := by
  simp only [dE, layS, Option.getD_none, if_true, Bool.not_true, Bool.and_false, Bool.false_eq_true, if_false, Bool.false_and]
/-- .. that writes what was there. -/
def wrS (n0 m : Nat) : R3 → R3
  | some (v, σ', n') => if n' ≤ m then some (v, σ', n0) else none
  | none => none
theorem wrS_some (σ' : Sto) (n0 m n' : Nat) (v : V) : wrS n0 m (some (v, σ', n')) = if n' ≤ m then some (v, σ', n0) else none := rfl
theorem dE_wrl (dst : Option Nat) (g : Option (Nat × Bool)) (op : AI) (rank : Nat) (hid : List Nat) (low : Option Nat) (env : Nat → V) (σ : Sto) (n0 lk : Nat) :
    dE T ⟨⟨dst, g, op⟩, false, true, true, rank, hid, low⟩ env σ n0 lk = wrS n0 (n0 + BIG * rank + BIG) (evT T false (vl env) σ (n0 + BIG * rank) lk op) := by
  simp only [dE, wrS, if_true, Bool.not_false, Bool.and_self, Bool.false_eq_true, if_false]
theorem dE_wr0 (dst : Option Nat) (g : Option (Nat × Bool)) (op : AI) (rank : Nat) (hid : List Nat) (low : Option Nat) (env : Nat → V) (σ : Sto) (n0 lk : Nat) :
    dE T ⟨⟨dst, g, op⟩, false, true, false, rank, hid, low⟩ env σ n0 lk = wrS n0 (n0 + BIG * rank) (evT T false (vl env) σ (n0 + BIG * rank) lk op) := by
  simp only [dE, wrS, if_true, Bool.not_false, Bool.and_self, Bool.false_eq_true, if_false, Nat.add_zero]
/-- .. that writes what was laid in its region. -/
def lowS (σ : Sto) (n0 lo top : Nat) (hid : List Nat) : R3 → R3
  | some (v, σ', n') => if n' ≤ top then some (v, mergeL σ σ' n0 lo top hid, n0) else none
  | none => none
theorem lowS_some (σ σ' : Sto) (n0 lo top n' : Nat) (hid : List Nat) (v : V) : lowS σ n0 lo top hid (some (v, σ', n')) = if n' ≤ top then some (v, mergeL σ σ' n0 lo top hid, n0) else none := rfl
theorem dE_low0 (dst : Option Nat) (g : Option (Nat × Bool)) (op : AI) (rank : Nat) (hid : List Nat) (lo : Nat) (env : Nat → V) (σ : Sto) (n0 lk : Nat) :
    dE T ⟨⟨dst, g, op⟩, false, false, false, rank, hid, some lo⟩ env σ n0 lk = lowS σ n0 lo (n0 + BIG * rank) hid (evT T false (vl env) (hide σ n0 (n0 + BIG * rank) hid) (n0 + BIG * rank) (n0 + BIG * lo) op) := by
  simp only [dE, lowS, Option.getD_some, if_true, Bool.not_true, Bool.and_false, Bool.false_eq_true, if_false, Nat.add_zero, Bool.false_and]
theorem dE_lowl (dst : Option Nat) (g : Option (Nat × Bool)) (op : AI) (rank : Nat) (hid : List Nat) (lo : Nat) (env : Nat → V) (σ : Sto) (n0 lk : Nat) :
    dE T ⟨⟨dst, g, op⟩, false, false, true, rank, hid, some lo⟩ env σ n0 lk = lowS σ n0 lo (n0 + BIG * rank + BIG) hid (evT T false (vl env) (hide σ n0 (n0 + BIG * rank) hid) (n0 + BIG * rank) (n0 + BIG * lo) op) := by
  simp only [dE, lowS, Option.getD_some, if_true, Bool.not_true, Bool.and_false, Bool.false_eq_true, if_false, Nat.add_zero, Bool.false_and]
theorem hideR_low (σ : Sto) (n0 : Nat) : ∀ (hid : List Nat) {i : Nat}, i < n0 → hideR σ n0 hid i = σ i
  | [], _, _ => rfl
  | r :: rs, i, h => by
    have : ¬ (n0 + BIG * r ≤ i ∧ i < n0 + BIG * r + BIG) := by omega
    simp only [hideR, this, if_false]
    exact hideR_low σ n0 rs h
theorem hide_low (σ : Sto) (n0 lab : Nat) (hid : List Nat) {i : Nat} (h : i < n0) (hl : n0 ≤ lab) : hide σ n0 lab hid i = σ i := by
  cases hid with
  | nil => rfl
  | cons r rs =>
    have : i < lab := by omega
    simp only [hide, this, if_true]
    exact hideR_low σ n0 (r :: rs) h
theorem hide_high (σ : Sto) (n0 lab r : Nat) (rs : List Nat) {i : Nat} (h : lab ≤ i) : hide σ n0 lab (r :: rs) i = none := by
  have : ¬ i < lab := by omega
  simp only [hide, this, if_false]
theorem merge_low (σ σ' : Sto) (lab : Nat) {i : Nat} (h : i < lab) : merge σ σ' lab i = σ i := by
  have : ¬ (lab ≤ i ∧ i < lab + BIG) := by omega
  simp only [merge, this, if_false]
theorem merge_in (σ σ' : Sto) (lab : Nat) {i : Nat} (h : lab ≤ i) (h' : i < lab + BIG) : merge σ σ' lab i = σ' i := by
  simp only [merge, h, h', and_self, if_true]
theorem w_big_pos : 0 < BIG := by have := big_le; omega
theorem hide_nil (σ : Sto) (n0 lab : Nat) : hide σ n0 lab [] = σ := rfl

/-- What stands behind a part of a region. -/
abbrev AfterD := (Nat → V) → Sto → Prop

noncomputable def WD (T : Tab) (n0 : Nat) : List DOp → (Nat → V) → Sto → Nat → AfterD → Prop
  | [], env, σ, lk, Q => Q env σ
  | d :: ds, env, σ, lk, Q => bindE (gev (wantsO env d.o.guard) (dE T d env σ n0 lk) (some (.undef, σ, n0))) fun v σ' _ => WD T n0 ds (ptO env d.o.dst v) σ' lk Q

def stepDW (T : Tab) (n0 : Nat) (e : R3) (d : Option Nat) (ds : List DOp) (env : Nat → V) (lk : Nat) (Q : AfterD) : Prop :=
  bindE e fun v σ' _ => WD T n0 ds (ptO env d v) σ' lk Q
theorem stepDW_some (n0 : Nat) (v : V) (σ : Sto) (n : Nat) (d : Option Nat) (ds : List DOp) (env : Nat → V) (lk : Nat) (Q : AfterD) :
    stepDW T n0 (some (v, σ, n)) d ds env lk Q = WD T n0 ds (ptO env d v) σ lk Q := rfl

theorem WD_nil (n0 : Nat) (env : Nat → V) (σ : Sto) (lk : Nat) (Q : AfterD) : WD T n0 [] env σ lk Q = Q env σ := rfl
theorem WD_cons (n0 : Nat) (d : Option Nat) (op : AI) (a b c : Bool) (rank : Nat) (hid : List Nat) (low : Option Nat) (ds : List DOp) (env : Nat → V) (σ : Sto) (lk : Nat) (Q : AfterD) :
    WD T n0 (⟨⟨d, none, op⟩, a, b, c, rank, hid, low⟩ :: ds) env σ lk Q = stepDW T n0 (dE T ⟨⟨d, none, op⟩, a, b, c, rank, hid, low⟩ env σ n0 lk) d ds env lk Q := rfl
theorem WD_consG (n0 : Nat) (d : Option Nat) (t : Nat) (w : Bool) (op : AI) (a b c : Bool) (rank : Nat) (hid : List Nat) (low : Option Nat) (ds : List DOp) (env : Nat → V) (σ : Sto) (lk : Nat) (Q : AfterD) :
    WD T n0 (⟨⟨d, some (t, w), op⟩, a, b, c, rank, hid, low⟩ :: ds) env σ lk Q =
      stepDW T n0 (gev (wantsV w (env t)) (dE T ⟨⟨d, some (t, w), op⟩, a, b, c, rank, hid, low⟩ env σ n0 lk) (some (.undef, σ, n0))) d ds env lk Q := rfl

theorem WD_ok (n0 : Nat) : ∀ (ds : List DOp) (env : Nat → V) (σ : Sto) (n lk : Nat) (Q : (Nat → V) → Sto → Prop), WD T n0 ds env σ lk Q →
    wpD T (run T) n0 ds ⟨env, σ, n, lk⟩ fun s => s.n = n ∧ s.lk = lk ∧ Q s.env s.σ
  | [], env, σ, n, lk, Q, h => ⟨rfl, rfl, h⟩
  | d :: ds, env, σ, n, lk, Q, h => by
    obtain ⟨v, σ', n', he, hk⟩ := bindE_out h
    simp only [wpD, st_val, st_put, wants_eq]
    cases hg : wantsO env d.o.guard <;> simp only [hg] at he
    · rw [gev_false] at he
      cases he
      simp only [Bool.false_eq_true, if_false]
      exact WD_ok n0 ds _ _ _ _ _ hk
    · rw [gev_true] at he
      simp only [if_true]
      unfold dE at he
      generalize hev : evT T false (vl env) (if d.pure then Sto.empty else if d.wr then σ else hide σ n0 (n0 + BIG * d.rank) d.hid) (n0 + BIG * d.rank)
        (if d.wr && !d.pure then lk else n0 + BIG * d.low.getD d.rank) d.o.op = r at he
      rcases r with _ | ⟨v1, σ1, n1⟩
      · cases he
      · simp only at he
        by_cases hn : n1 ≤ n0 + BIG * d.rank + (if d.lays then BIG else 0)
        · rw [if_pos hn] at he
          simp only [Option.some.injEq, Prod.mk.injEq] at he
          obtain ⟨rfl, rfl, rfl⟩ := he
          exact evT_ok hev ⟨hn, WD_ok n0 ds _ _ _ _ _ hk⟩
        · rw [if_neg hn] at he
          cases he

noncomputable def WS (T : Tab) : List Seg → (Nat → V) → Sto → Nat → Nat → (St → Prop) → Prop
  | [], env, σ, n, lk, Q => Q ⟨env, σ, n, lk⟩
  | g :: gs, env, σ, n, lk, Q => WD T n g.ds env σ lk fun env' σ' => WR T g.ops env' σ' (n + BIG * g.lays) lk fun s => WS T gs s.env s.σ s.n s.lk Q

/-- What stands behind a region's part. -/
def segQ (T : Tab) (gs : List Seg) (Q : St → Prop) : St → Prop := fun s => WS T gs s.env s.σ s.n s.lk Q
theorem segQ_st (gs : List Seg) (Q : St → Prop) (env : Nat → V) (σ : Sto) (n lk : Nat) : segQ T gs Q ⟨env, σ, n, lk⟩ = WS T gs env σ n lk Q := rfl
def aftD (T : Tab) (ops : List AOp) (n lk : Nat) (Q : St → Prop) : AfterD := fun env σ => WR T ops env σ n lk Q
theorem aftD_st (ops : List AOp) (n lk : Nat) (Q : St → Prop) (env : Nat → V) (σ : Sto) : aftD T ops n lk Q env σ = WR T ops env σ n lk Q := rfl
theorem WS_nil (env : Nat → V) (σ : Sto) (n lk : Nat) (Q : St → Prop) : WS T [] env σ n lk Q = Q ⟨env, σ, n, lk⟩ := rfl
theorem WS_cons0 (ds : List DOp) (ops : List AOp) (gs : List Seg) (env : Nat → V) (σ : Sto) (n lk : Nat) (Q : St → Prop) :
    WS T (⟨ds, 0, ops⟩ :: gs) env σ n lk Q = WD T n ds env σ lk (aftD T ops n lk (segQ T gs Q)) := rfl
theorem WS_cons (ds : List DOp) (l : Nat) (ops : List AOp) (gs : List Seg) (env : Nat → V) (σ : Sto) (n lk : Nat) (Q : St → Prop) :
    WS T (⟨ds, l, ops⟩ :: gs) env σ n lk Q = WD T n ds env σ lk (aftD T ops (n + BIG * l) lk (segQ T gs Q)) := rfl

theorem wpD_weak {n0 : Nat} {ds : List DOp} {s : St} {Q Q' : St → Prop} (h : wpD T (run T) n0 ds s Q) (hq : ∀ s, Q s → Q' s) : wpD T (run T) n0 ds s Q' :=
  wpD_mono (fun _ _ x => x) run_mono n0 ds s Q Q' hq h

theorem WS_ok : ∀ (gs : List Seg) (env : Nat → V) (σ : Sto) (n lk : Nat) (Q : St → Prop), WS T gs env σ n lk Q → wpS T (run T) gs ⟨env, σ, n, lk⟩ Q
  | [], env, σ, n, lk, Q, h => h
  | g :: gs, env, σ, n, lk, Q, h => by
    simp only [wpS]
    refine wpD_weak (WD_ok n g.ds env σ n lk _ h) fun s hs => ?_
    obtain ⟨env', σ', n', lk'⟩ := s
    obtain ⟨rfl, rfl, hk⟩ := hs
    refine WR_ok g.ops _ _ _ _ _ ?_
    have : ∀ (ops : List AOp) (env : Nat → V) (σ : Sto) (n lk : Nat) (Q Q' : St → Prop), (∀ s, Q s → Q' s) → WR T ops env σ n lk Q → WR T ops env σ n lk Q' := by
      intro ops
      induction ops with
      | nil => exact fun env σ n lk Q Q' hq hh => hq _ hh
      | cons o ops ih =>
        intro env σ n lk Q Q' hq hh
        obtain ⟨v, σ', n', he, hk⟩ := bindE_out hh
        simp only [WR, he, bindE]
        exact ih _ _ _ _ _ _ hq hk
    exact this _ _ _ _ _ _ _ (fun s hs => WS_ok gs _ _ _ _ _ hs) hk

/-- A test. -/
def condW (v : V) (A B : Prop) : Prop := match v with
  | .bool true => A
  | .bool false => B
  | _ => False
@[congr] theorem condW_congr {v v' : V} {A B : Prop} (h : v = v') : condW v A B = condW v' A B := by rw [h]
theorem condW_true (A B : Prop) : condW (.bool true) A B = A := rfl
theorem condW_false (A B : Prop) : condW (.bool false) A B = B := rfl
theorem condW_split {b : Bool} {A B : Prop} (h : b = true → A) (h' : b = false → B) : condW (.bool b) A B := by
  cases b
  · exact h' rfl
  · exact h rfl

/-- A test in code. -/
def norQ (Q : Ex → St → Prop) : St → Prop := Q .normal
theorem norQ_st (Q : Ex → St → Prop) (s : St) : norQ Q s = Q .normal s := rfl

/-- Code, from a state laid open. -/
noncomputable def WC (T : Tab) : AC → (Nat → V) → Sto → Nat → Nat → (Ex → St → Prop) → Prop
  | .skip, env, σ, n, lk, Q => Q .normal ⟨env, σ, n, lk⟩
  | .reg ops, env, σ, n, lk, Q => WR T ops env σ n lk (Q .normal)
  | .regd gs, env, σ, n, lk, Q => WS T gs env σ n lk (Q .normal)
  | .seq a b, env, σ, n, lk, Q => WC T a env σ n lk fun ex s => match ex with
    | .normal => WC T b s.env s.σ s.n s.lk Q
    | ex => Q ex s
  | .cond x a b, env, σ, n, lk, Q => condW (vl env x) (WC T a env σ n lk Q) (WC T b env σ n lk Q)
  | .block id c, env, σ, n, lk, Q => WC T c env σ n lk (blockW id Q)
  | .loop c, env, σ, n, lk, Q => wpC T (run T) (.loop c) ⟨env, σ, n, lk⟩ Q
  | .rangeF g ps x y, env, σ, n, lk, Q => wpC T (run T) (.rangeF g ps x y) ⟨env, σ, n, lk⟩ Q
  | .exit id, env, σ, n, lk, Q => Q (.exit id) ⟨env, σ, n, lk⟩
  | .ret, env, σ, n, lk, Q => Q .ret ⟨env, σ, n, lk⟩

theorem WC_ok : ∀ (c : AC) (env : Nat → V) (σ : Sto) (n lk : Nat) (Q : Ex → St → Prop), WC T c env σ n lk Q → wpC T (run T) c ⟨env, σ, n, lk⟩ Q
  | .skip, env, σ, n, lk, Q, h => h
  | .reg ops, env, σ, n, lk, Q, h => WR_ok ops env σ n lk _ h
  | .regd gs, env, σ, n, lk, Q, h => WS_ok gs env σ n lk _ h
  | .seq a b, env, σ, n, lk, Q, h => by
    simp only [wpC]
    simp only [WC] at h
    refine wpC_mono (fun _ _ x => x) run_mono a _ _ _ (fun e s hh => ?_) (WC_ok a env σ n lk _ h)
    cases e <;> simp only [thenW] at hh ⊢
    · exact WC_ok b _ _ _ _ _ hh
    · exact hh
    · exact hh
  | .cond x a b, env, σ, n, lk, Q, h => by
    simp only [WC] at h
    simp only [wpC, st_val]
    unfold condW at h
    split at h
    · rename_i hx; simp only [hx]; exact WC_ok a _ _ _ _ _ h
    · rename_i hx; simp only [hx]; exact WC_ok b _ _ _ _ _ h
    · exact h.elim
  | .block id c, env, σ, n, lk, Q, h => WC_ok c env σ n lk _ h
  | .loop c, env, σ, n, lk, Q, h => h
  | .rangeF g ps x y, env, σ, n, lk, Q, h => h
  | .exit id, env, σ, n, lk, Q, h => h
  | .ret, env, σ, n, lk, Q, h => h

/-- What stands behind a part. -/
def seqQ (T : Tab) (b : AC) (Q : Ex → St → Prop) : Ex → St → Prop
  | .normal, ⟨env, σ, n, lk⟩ => WC T b env σ n lk Q
  | ex, s => Q ex s
theorem seqQ_normal (b : AC) (Q : Ex → St → Prop) (env : Nat → V) (σ : Sto) (n lk : Nat) : seqQ T b Q .normal ⟨env, σ, n, lk⟩ = WC T b env σ n lk Q := rfl
theorem seqQ_exit (b : AC) (Q : Ex → St → Prop) (i : Nat) (s : St) : seqQ T b Q (.exit i) s = Q (.exit i) s := rfl
theorem seqQ_ret (b : AC) (Q : Ex → St → Prop) (s : St) : seqQ T b Q .ret s = Q .ret s := rfl

theorem blockW_normal (i : Nat) (Q : Ex → St → Prop) (s : St) : blockW i Q .normal s = Q .normal s := rfl
theorem blockW_ret (i : Nat) (Q : Ex → St → Prop) (s : St) : blockW i Q .ret s = Q .ret s := rfl
theorem blockW_exit (i j : Nat) (Q : Ex → St → Prop) (s : St) : blockW i Q (.exit j) s = if j = i then Q .normal s else Q (.exit j) s := rfl

theorem WC_skip (env : Nat → V) (σ : Sto) (n lk : Nat) (Q : Ex → St → Prop) : WC T .skip env σ n lk Q = Q .normal ⟨env, σ, n, lk⟩ := rfl
theorem WC_ret (env : Nat → V) (σ : Sto) (n lk : Nat) (Q : Ex → St → Prop) : WC T .ret env σ n lk Q = Q .ret ⟨env, σ, n, lk⟩ := rfl
theorem WC_exit (i : Nat) (env : Nat → V) (σ : Sto) (n lk : Nat) (Q : Ex → St → Prop) : WC T (.exit i) env σ n lk Q = Q (.exit i) ⟨env, σ, n, lk⟩ := rfl
theorem WC_block (i : Nat) (c : AC) (env : Nat → V) (σ : Sto) (n lk : Nat) (Q : Ex → St → Prop) : WC T (.block i c) env σ n lk Q = WC T c env σ n lk (blockW i Q) := rfl
theorem WC_seq (a b : AC) (env : Nat → V) (σ : Sto) (n lk : Nat) (Q : Ex → St → Prop) : WC T (.seq a b) env σ n lk Q = WC T a env σ n lk (seqQ T b Q) := by
  simp only [WC]
  congr 1
  funext e s
  cases e <;> rfl
def condC (T : Tab) (v : V) (a b : AC) (env : Nat → V) (σ : Sto) (n lk : Nat) (Q : Ex → St → Prop) : Prop := condW v (WC T a env σ n lk Q) (WC T b env σ n lk Q)
theorem condC_true (a b : AC) (env : Nat → V) (σ : Sto) (n lk : Nat) (Q : Ex → St → Prop) : condC T (.bool true) a b env σ n lk Q = WC T a env σ n lk Q := rfl
theorem condC_false (a b : AC) (env : Nat → V) (σ : Sto) (n lk : Nat) (Q : Ex → St → Prop) : condC T (.bool false) a b env σ n lk Q = WC T b env σ n lk Q := rfl
theorem condC_split {x : Bool} {a b : AC} {env : Nat → V} {σ : Sto} {n lk : Nat} {Q : Ex → St → Prop} (h : x = true → WC T a env σ n lk Q) (h' : x = false → WC T b env σ n lk Q) :
    condC T (.bool x) a b env σ n lk Q := condW_split h h'
theorem WC_cond (x : Opd) (a b : AC) (env : Nat → V) (σ : Sto) (n lk : Nat) (Q : Ex → St → Prop) :
    WC T (.cond x a b) env σ n lk Q = condC T (vl env x) a b env σ n lk Q := rfl
theorem WC_reg (ops : List AOp) (env : Nat → V) (σ : Sto) (n lk : Nat) (Q : Ex → St → Prop) : WC T (.reg ops) env σ n lk Q = WR T ops env σ n lk (norQ Q) := rfl
theorem WC_regd (gs : List Seg) (env : Nat → V) (σ : Sto) (n lk : Nat) (Q : Ex → St → Prop) : WC T (.regd gs) env σ n lk Q = WS T gs env σ n lk (norQ Q) := rfl

/-- A loop, by something that grows less. -/
theorem WC_loop {α : Type} {c : AC} {Q : Ex → St → Prop} (I : α → St → Prop) (m : α → Nat)
    (hI : ∀ a env σ n lk, I a ⟨env, σ, n, lk⟩ → WC T c env σ n lk (fun e s => match e with
      | .normal => ∃ a', m a' < m a ∧ I a' s
      | e => Q e s)) : ∀ (a : α) (env : Nat → V) (σ : Sto) (n lk : Nat), I a ⟨env, σ, n, lk⟩ → WC T (.loop c) env σ n lk Q := by
  have key : ∀ (k : Nat) (a : α) (s : St), m a < k → I a s → wpC T (run T) (.loop c) s Q := by
    intro k
    induction k with
    | zero => intro a s h; omega
    | succ k ih =>
      intro a s hk hi
      simp only [wpC]
      refine loopW_step (fun s Q Q' hq hh => wpC_mono (fun _ _ x => x) run_mono c s Q Q' hq hh) ?_
      obtain ⟨env, σ, n, lk⟩ := s
      refine wpC_mono (fun _ _ x => x) run_mono c _ _ _ (fun e s' hh => ?_) (WC_ok c _ _ _ _ _ (hI a env σ n lk hi))
      cases e <;> simp only [thenW] at hh ⊢
      · obtain ⟨a', h1, h2⟩ := hh
        exact ih a' s' (by omega) h2
      · exact hh
      · exact hh
  exact fun a env σ n lk h => key (m a + 1) a _ (by omega) h

/-- What stands behind a loop's round. -/
def lpQ (J : (Nat → V) → Sto → Nat → Nat → Prop) (Q : Ex → St → Prop) : Ex → St → Prop
  | .normal, s => J s.env s.σ s.n s.lk
  | e, s => Q e s
theorem lpQ_normal (J : (Nat → V) → Sto → Nat → Nat → Prop) (Q : Ex → St → Prop) (env : Nat → V) (σ : Sto) (n lk : Nat) : lpQ J Q .normal ⟨env, σ, n, lk⟩ = J env σ n lk := rfl
theorem lpQ_exit (J : (Nat → V) → Sto → Nat → Nat → Prop) (Q : Ex → St → Prop) (i : Nat) (s : St) : lpQ J Q (.exit i) s = Q (.exit i) s := rfl
theorem lpQ_ret (J : (Nat → V) → Sto → Nat → Nat → Prop) (Q : Ex → St → Prop) (s : St) : lpQ J Q .ret s = Q .ret s := rfl

theorem WC_loopI {α : Type} {c : AC} {Q : Ex → St → Prop} (lk : Nat) (I : α → (Nat → V) → Sto → Nat → Prop) (m : α → Nat)
    (hI : ∀ a env σ n, I a env σ n → WC T c env σ n lk (lpQ (fun env' σ' n' lk' => lk' = lk ∧ ∃ a', m a' < m a ∧ I a' env' σ' n') Q)) (a : α) (env : Nat → V) (σ : Sto) (n : Nat) (h : I a env σ n) :
    WC T (.loop c) env σ n lk Q := by
  have key : ∀ (k : Nat) (a : α) (env : Nat → V) (σ : Sto) (n : Nat), m a < k → I a env σ n → wpC T (run T) (.loop c) ⟨env, σ, n, lk⟩ Q := by
    intro k
    induction k with
    | zero => intro a _ _ _ h; omega
    | succ k ih =>
      intro a env σ n hk hi
      simp only [wpC]
      refine loopW_step (fun s Q Q' hq hh => wpC_mono (fun _ _ x => x) run_mono c s Q Q' hq hh) ?_
      refine wpC_mono (fun _ _ x => x) run_mono c _ _ _ (fun e s' hh => ?_) (WC_ok c _ _ _ _ _ (hI a env σ n hi))
      cases e <;> simp only [thenW] at hh ⊢
      · obtain ⟨env', σ', n', lk'⟩ := s'
        obtain ⟨h0, a', h1, h2⟩ := hh
        simp only at h0
        subst h0
        exact ih a' _ _ _ (by omega) h2
      · exact hh
      · exact hh
  exact key (m a + 1) a env σ n (by omega) h

/-- A call's end. -/
def endQ (rs : List Res) (P : Sto → V → Prop) (ex : Ex) (s : St) : Prop := isEnd ex = true ∧ ∃ v, outOf s rs = some v ∧ P s.σ v

theorem run_pure {f : Nat} {args : List V} {r : V} {fn : Fn} (hf : T.fn f = some fn) (hl : args.length = fn.np) (hm : T.mode f = .pure)
    (h : WC T fn.body (envOf args) Sto.empty 0 0 (endQ fn.res fun σ v => frz σ DEEP v = some r)) : run T (.pure f args) (fun o => o = .val r) := by
  refine run_step ?_
  simp only [jobW]
  refine ⟨fn, hf, hl, (by rw [hm]; decide), wpC_mono (fun _ _ x => x) run_mono _ _ _ _ (fun e s hh => ?_) (WC_ok _ _ _ _ _ _ h)⟩
  obtain ⟨h1, v, h2, h3⟩ := hh
  exact ⟨h1, v, h2, r, by rw [hm]; exact h3, rfl⟩

theorem run_own {f : Nat} {args : List V} {r : V} {fn : Fn} (hf : T.fn f = some fn) (hl : args.length = fn.np) (hm : T.mode f = .own)
    (h : WC T fn.body (envOf args) Sto.empty 0 0 (endQ fn.res fun σ v => giv σ DEEP v = some r ∧ (gids σ DEEP v).Nodup)) : run T (.pure f args) (fun o => o = .val r) := by
  refine run_step ?_
  simp only [jobW]
  refine ⟨fn, hf, hl, (by rw [hm]; decide), wpC_mono (fun _ _ x => x) run_mono _ _ _ _ (fun e s hh => ?_) (WC_ok _ _ _ _ _ _ h)⟩
  obtain ⟨h1, v, h2, h3⟩ := hh
  exact ⟨h1, v, h2, r, by rw [hm]; exact h3, rfl⟩

/-- A call on the store as it is. -/
theorem run_raw {f : Nat} {args : List V} {σ : Sto} {n lk : Nat} {fn : Fn} {Q : V → Sto → Nat → Prop} (hf : T.fn f = some fn) (hl : args.length = fn.np)
    (h : WC T fn.body (envOf args) σ n lk (fun ex s => isEnd ex = true ∧ ∃ v, outOf s fn.res = some v ∧ Q v s.σ s.n)) : run T (.raw f args σ n lk) (memQ Q) := by
  refine run_step ?_
  simp only [jobW]
  exact ⟨fn, hf, hl, wpC_mono (fun _ _ x => x) run_mono _ _ _ _ (fun e s hh => hh) (WC_ok _ _ _ _ _ _ h)⟩

/-- A call's end, with what it leaves. -/
def endR (rs : List Res) (Q : V → Sto → Nat → Prop) (ex : Ex) (s : St) : Prop := isEnd ex = true ∧ ∃ v, outOf s rs = some v ∧ Q v s.σ s.n
theorem run_rawE {f : Nat} {args : List V} {σ : Sto} {n lk : Nat} {fn : Fn} {Q : V → Sto → Nat → Prop} (hf : T.fn f = some fn) (hl : args.length = fn.np)
    (h : WC T fn.body (envOf args) σ n lk (endR fn.res Q)) : run T (.raw f args σ n lk) (memQ Q) := run_raw hf hl h

end Go.Q
end

section
/- What single operations come to, in a form that a rewriter can follow. -/
set_option linter.unusedSimpArgs false
set_option linter.unusedVariables false
namespace Go.Q

variable {T : Tab}

theorem row_at (σ : Sto) (id sz i : Nat) : rowAt σ id sz i = match σ id with
  | some (.row sz' xs) => if sz' = sz then xs[i]? else none
  | _ => none := rfl

def rowO (o : Option Ob) (sz i : Nat) : Option V := match o with
  | some (.row sz' xs) => if sz' = sz then xs[i]? else none
  | _ => none
theorem rowO_row (sz i : Nat) (xs : List V) : rowO (some (.row sz xs)) sz i = xs[i]? := by simp [rowO]

def r1 (v : Option V) (σ : Sto) (n : Nat) : R3 := v.map fun v => (v, σ, n)
theorem r1_some (v : V) (σ : Sto) (n : Nat) : r1 (some v) σ n = some (v, σ, n) := rfl

def pickE (c a b : V) (σ : Sto) (n : Nat) : R3 := match c with
  | .bool t => some (cv t a b, σ, n)
  | _ => none
theorem pickE_bool (t : Bool) (a b : V) (σ : Sto) (n : Nat) : pickE (.bool t) a b σ n = some (cv t a b, σ, n) := rfl
/-- Only the value that is taken is looked at. -/
@[congr] theorem pickE_congr {c c' a a' b b' : V} {σ σ' : Sto} {n n' : Nat} (h : c = c') (h1 : σ = σ') (h2 : n = n') : pickE c a b σ n = pickE c' a b σ' n' := by rw [h, h1, h2]

def boxE (v : V) (σ : Sto) (n : Nat) : R3 := if v.cells.all V.one = true then some (.ptr n v.cells.length 0 0, upd σ n (some (.row v.cells.length [v])), n + 1) else none

def loadE (agg : Bool) (s : Nat) (v : V) (σ : Sto) (n : Nat) : R3 := match v with
  | .ptr id sz i j => r1 ((rowO (σ id) sz i).bind fun e => loadC agg s (e.cells.drop j)) σ n
  | .box cs => r1 (loadC agg s cs) σ n
  | _ => none
theorem loadE_ptr (agg : Bool) (s id sz i j : Nat) (σ : Sto) (n : Nat) : loadE agg s (.ptr id sz i j) σ n = r1 ((rowO (σ id) sz i).bind fun e => loadC agg s (e.cells.drop j)) σ n := rfl
theorem loadE_box (agg : Bool) (s : Nat) (cs : List V) (σ : Sto) (n : Nat) : loadE agg s (.box cs) σ n = r1 (loadC agg s cs) σ n := rfl
theorem loadC_one (s : Nat) (c : V) (cs : List V) : loadC false s (c :: cs) = some c := rfl
theorem loadC_agg (s : Nat) (cs : List V) : loadC true s cs = if s ≤ cs.length then some (.agg (cs.take s)) else none := rfl

def putR (o : Option Ob) (s id sz i j lk : Nat) (v : V) (σ : Sto) (n : Nat) : R3 := match o with
  | some (.row sz' xs) =>
    match xs[i]? with
    | some e =>
      if sz' = sz ∧ lk ≤ id ∧ 0 < s ∧ v.cells.length = s ∧ v.cells.all V.one = true ∧ j + s ≤ sz then
        some (.undef, upd σ id (some (.row sz (xs.set i (spliceC e j v.cells)))), n)
      else none
    | none => none
  | _ => none
def putE (s lk : Nat) (x v : V) (σ : Sto) (n : Nat) : R3 := match x with
  | .ptr id sz i j => putR (σ id) s id sz i j lk v σ n
  | _ => none
theorem putE_ptr (s lk id sz i j : Nat) (v : V) (σ : Sto) (n : Nat) : putE s lk (.ptr id sz i j) v σ n = putR (σ id) s id sz i j lk v σ n := rfl
def putX (e : Option V) (s id sz i j lk : Nat) (xs : List V) (v : V) (σ : Sto) (n : Nat) : R3 := match e with
  | some e =>
      if lk ≤ id ∧ 0 < s ∧ v.cells.length = s ∧ v.cells.all V.one = true ∧ j + s ≤ sz then
        some (.undef, upd σ id (some (.row sz (xs.set i (spliceC e j v.cells)))), n)
      else none
  | none => none
theorem putR_row (s id sz i j lk : Nat) (xs : List V) (v : V) (σ : Sto) (n : Nat) : putR (some (.row sz xs)) s id sz i j lk v σ n = putX xs[i]? s id sz i j lk xs v σ n := by
  unfold putR putX
  simp only [true_and]
theorem putX_some (e : V) (s id sz i j lk : Nat) (xs : List V) (v : V) (σ : Sto) (n : Nat) : putX (some e) s id sz i j lk xs v σ n =
      if lk ≤ id ∧ 0 < s ∧ v.cells.length = s ∧ v.cells.all V.one = true ∧ j + s ≤ sz then
        some (.undef, upd σ id (some (.row sz (xs.set i (spliceC e j v.cells)))), n)
      else none := rfl

def nilckE (v : V) (σ : Sto) (n : Nat) : R3 := match v with
  | .ptr id sz i j => some (.ptr id sz i j, σ, n)
  | .box cs => some (.box cs, σ, n)
  | .fn f caps => some (.fn f caps, σ, n)
  | _ => none
theorem nilckE_ptr (id sz i j : Nat) (σ : Sto) (n : Nat) : nilckE (.ptr id sz i j) σ n = some (.ptr id sz i j, σ, n) := rfl
theorem nilckE_box (cs : List V) (σ : Sto) (n : Nat) : nilckE (.box cs) σ n = some (.box cs, σ, n) := rfl
theorem nilckE_fn (f : Nat) (cs : List V) (σ : Sto) (n : Nat) : nilckE (.fn f cs) σ n = some (.fn f cs, σ, n) := rfl

def eqBE (neg : Bool) (x y : V) : Option V := match x, y with
  | .bool a, .bool b => some (.bool ((a == b) != neg))
  | _, _ => none
theorem eqBE_bool (neg a b : Bool) : eqBE neg (.bool a) (.bool b) = some (.bool ((a == b) != neg)) := rfl
def eqAE (neg : Bool) (ks : List CK) (x y : V) : Option V := match x, y with
  | .agg xs, .agg ys => (eqCells ks xs ys).map fun (b : Bool) => .bool (b != neg)
  | _, _ => none
theorem eqAE_agg (neg : Bool) (ks : List CK) (xs ys : List V) : eqAE neg ks (.agg xs) (.agg ys) = (eqCells ks xs ys).map fun (b : Bool) => .bool (b != neg) := rfl
def eqNE (neg : Bool) (x : V) : Option V := match x with
  | .nilS => some (.bool (!neg))
  | .sl .. | .ref .. => some (.bool neg)
  | _ => none
theorem eqNE_nil (neg : Bool) : eqNE neg .nilS = some (.bool (!neg)) := rfl
theorem eqNE_sl (neg : Bool) (sz : Nat) (xs : List V) : eqNE neg (.sl sz xs) = some (.bool neg) := rfl
theorem eqNE_ref (neg : Bool) (id off len sz : Nat) : eqNE neg (.ref id off len sz) = some (.bool neg) := rfl
def eqFE (neg : Bool) (x : V) : Option V := match x with
  | .nilF => some (.bool (!neg))
  | .fn .. => some (.bool neg)
  | _ => none
theorem eqFE_nil (neg : Bool) : eqFE neg .nilF = some (.bool (!neg)) := rfl
theorem eqFE_fn (neg : Bool) (f : Nat) (xs : List V) : eqFE neg (.fn f xs) = some (.bool neg) := rfl
def convE (k : IntKind) (x : V) : Option V := match x with
  | .int _ a => some (.int k (k.wrap a))
  | _ => none
theorem convE_int (k k' : IntKind) (a : Int) : convE k (.int k' a) = some (.int k (k.wrap a)) := rfl
def mkslE (sz bytes : Nat) (e len : V) (σ : Sto) (n : Nat) : R3 := match len with
  | .int .i64 l => if 0 ≤ l ∧ bytes * l ≤ 140737488355328 ∧ e.cells.length = sz then
        some (.ref n 0 l.toNat sz, upd σ n (some (.row sz (List.replicate l.toNat e))), n + 1) else none
  | _ => none
theorem mkslE_int (sz bytes : Nat) (e : V) (l : Int) (σ : Sto) (n : Nat) : mkslE sz bytes e (.int .i64 l) σ n = if 0 ≤ l ∧ bytes * l ≤ 140737488355328 ∧ e.cells.length = sz then
        some (.ref n 0 l.toNat sz, upd σ n (some (.row sz (List.replicate l.toNat e))), n + 1) else none := rfl

/-- A bound of a slice. -/
def bndE (v : V) (most : Nat) : Option Nat := match v with
  | .int _ n => if 0 ≤ n ∧ n ≤ most then some n.toNat else none
  | _ => none
theorem bndE_int (k : IntKind) (n : Int) (most : Nat) : bndE (.int k n) most = if 0 ≤ n ∧ n ≤ most then some n.toNat else none := rfl
theorem boundOf_none (ρ : Opd → V) (d most : Nat) : boundOf ρ none d most = some d := rfl
theorem boundOf_some (ρ : Opd → V) (x : Opd) (d most : Nat) : boundOf ρ (some x) d most = bndE (ρ x) most := by
  simp only [boundOf, bndE, intOf]
  cases ρ x <;> rfl

def sliceE (ρ : Opd → V) (sz : Nat) (x : V) (lo hi : Option Opd) : Option V := match x with
  | .nilS => (boundOf ρ hi 0 0).bind fun h => (boundOf ρ lo 0 h).bind fun l => if l = 0 ∧ h = 0 then some .nilS else none
  | .sl sz' xs => (boundOf ρ hi xs.length xs.length).bind fun h => (boundOf ρ lo 0 h).bind fun l =>
        if sz' = sz then some (.sl sz ((xs.take h).drop l)) else none
  | .ref id off len sz' => (boundOf ρ hi len len).bind fun h => (boundOf ρ lo 0 h).bind fun l =>
        if sz' = sz then some (.ref id (off + l) (h - l) sz) else none
  | _ => none
theorem sliceE_nil (ρ : Opd → V) (sz : Nat) (lo hi : Option Opd) : sliceE ρ sz .nilS lo hi = (boundOf ρ hi 0 0).bind fun h => (boundOf ρ lo 0 h).bind fun l => if l = 0 ∧ h = 0 then some .nilS else none := rfl
theorem sliceE_sl (ρ : Opd → V) (sz : Nat) (xs : List V) (lo hi : Option Opd) : sliceE ρ sz (.sl sz xs) lo hi =
    (boundOf ρ hi xs.length xs.length).bind fun h => (boundOf ρ lo 0 h).bind fun l => some (.sl sz ((xs.take h).drop l)) := by simp [sliceE]
theorem sliceE_ref (ρ : Opd → V) (id off len sz : Nat) (lo hi : Option Opd) : sliceE ρ sz (.ref id off len sz) lo hi =
    (boundOf ρ hi len len).bind fun h => (boundOf ρ lo 0 h).bind fun l => some (.ref id (off + l) (h - l) sz) := by simp [sliceE]

def sliceSE (ρ : Opd → V) (x : V) (lo hi : Option Opd) : Option V := match x with
  | .str s => (boundOf ρ hi s.size s.size).bind fun h => (boundOf ρ lo 0 h).bind fun l => some (.str (s.extract l h))
  | _ => none
theorem sliceSE_str (ρ : Opd → V) (s : ByteArray) (lo hi : Option Opd) : sliceSE ρ (.str s) lo hi = (boundOf ρ hi s.size s.size).bind fun h => (boundOf ρ lo 0 h).bind fun l => some (.str (s.extract l h)) := rfl

def faddrE (x : V) (off : Nat) : Option V := match x with
  | .ptr id sz i j => some (.ptr id sz i (j + off))
  | .box cs => some (.box (cs.drop off))
  | _ => none
theorem faddrE_ptr (id sz i j off : Nat) : faddrE (.ptr id sz i j) off = some (.ptr id sz i (j + off)) := rfl
theorem faddrE_box (cs : List V) (off : Nat) : faddrE (.box cs) off = some (.box (cs.drop off)) := rfl
def fldE (agg : Bool) (s off : Nat) (x : V) : Option V := match x with
  | .agg cs => loadC agg s (cs.drop off)
  | _ => none
theorem fldE_agg (agg : Bool) (s off : Nat) (cs : List V) : fldE agg s off (.agg cs) = loadC agg s (cs.drop off) := rfl
def iaddrE (sz : Nat) (x i : V) : Option V := match x, i with
  | .sl sz' xs, .int _ k => if 0 ≤ k ∧ sz' = sz then (xs[k.toNat]?).map fun e => .box e.cells else none
  | .ref id off len sz', .int _ k => if 0 ≤ k ∧ k < len ∧ sz' = sz then some (.ptr id sz (off + k.toNat) 0) else none
  | _, _ => none
theorem iaddrE_sl (sz : Nat) (xs : List V) (k : IntKind) (i : Nat) : iaddrE sz (.sl sz xs) (.int k (i : Int)) = (xs[i]?).map fun e => .box e.cells := by simp [iaddrE]
theorem iaddrE_ref (sz id off len : Nat) (k : IntKind) (i : Nat) : iaddrE sz (.ref id off len sz) (.int k (i : Int)) = if i < len then some (.ptr id sz (off + i) 0) else none := by
  simp [iaddrE]
theorem iaddrE_slI (sz : Nat) (xs : List V) (k : IntKind) (i : Int) (h : 0 ≤ i) : iaddrE sz (.sl sz xs) (.int k i) = (xs[i.toNat]?).map fun e => .box e.cells := by simp [iaddrE, h]
theorem iaddrE_refI (sz id off len : Nat) (k : IntKind) (i : Int) (h : 0 ≤ i) (h' : i < len) : iaddrE sz (.ref id off len sz) (.int k i) = some (.ptr id sz (off + i.toNat) 0) := by
  simp [iaddrE, h, h']
def iaddrAE (m es : Nat) (x i : V) : Option V := match x, i with
  | .ptr id sz e j, .int _ k => if 0 ≤ k ∧ k < m then some (.ptr id sz e (j + k.toNat * es)) else none
  | .box cs, .int _ k => if 0 ≤ k ∧ k < m then some (.box (cs.drop (k.toNat * es))) else none
  | _, _ => none
def idxAE (agg : Bool) (m es : Nat) (x i : V) : Option V := match x, i with
  | .agg cs, .int _ k => if 0 ≤ k ∧ k < m then loadC agg es (cs.drop (k.toNat * es)) else none
  | _, _ => none
theorem idxAE_nat (agg : Bool) (m es : Nat) (cs : List V) (k : IntKind) (i : Nat) : idxAE agg m es (.agg cs) (.int k (i : Int)) = if i < m then loadC agg es (cs.drop (i * es)) else none := by
  simp [idxAE]
def idxSE (x i : V) : Option V := match x, i with
  | .str s, .int _ k => if 0 ≤ k then (s[k.toNat]?).map fun b => .int .u8 b.toNat else none
  | _, _ => none
def extE (x : V) (i : Nat) : Option V := match x with
  | .tup vs => vs[i]?
  | _ => none
theorem extE_tup (vs : List V) (i : Nat) : extE (.tup vs) i = vs[i]? := rfl
def lenE (x : V) : Option V := (lenOf x).map fun (l : Nat) => .int .i64 (l : Int)
theorem lenE_nil : lenE .nilS = some (.int .i64 ((0 : Nat) : Int)) := rfl
theorem lenE_sl (sz : Nat) (xs : List V) : lenE (.sl sz xs) = some (.int .i64 (xs.length : Int)) := rfl
theorem lenE_ref (id off len sz : Nat) : lenE (.ref id off len sz) = some (.int .i64 (len : Int)) := rfl
def lenSE (x : V) : Option V := match x with
  | .str s => some (.int .i64 s.size)
  | _ => none
theorem lenSE_str (s : ByteArray) : lenSE (.str s) = some (.int .i64 s.size) := rfl
theorem minV_int (k : IntKind) (x y : Int) : minV (.int k x) (.int k y) = some (.int k (if y < x then y else x)) := rfl
theorem maxV_int (k : IntKind) (x y : Int) : maxV (.int k x) (.int k y) = some (.int k (if x < y then y else x)) := rfl
def mmE (f : V → V → Option V) : List V → Option V
  | x :: ys => ys.foldlM f x
  | [] => none
theorem mmE_one (f : V → V → Option V) (x : V) : mmE f [x] = some x := rfl
theorem mmE_two (f : V → V → Option V) (x y : V) : mmE f [x, y] = f x y := by simp [mmE, List.foldlM]
theorem mmE_three (f : V → V → Option V) (x y z : V) : mmE f [x, y, z] = (f x y).bind fun a => f a z := by
  simp only [mmE, List.foldlM]
  cases f x y <;> simp

/-- What an assertion comes to. -/
def tasE (ok : Bool) (t : Nat) (z : V) : V → Option V
  | .iface t' v => if t' = t then some (if ok then .tup [v, .bool true] else v) else if ok then some (.tup [z, .bool false]) else none
  | .nilI => if ok then some (.tup [z, .bool false]) else none
  | _ => none
theorem tasE_iface (t t' : Nat) (z v : V) : tasE true t z (.iface t' v) = if t' = t then some (.tup [v, .bool true]) else some (.tup [z, .bool false]) := by
  simp [tasE]
def slice3E (ρ : Opd → V) (sz : Nat) (x : V) (lo : Option Opd) (hi mx : Opd) : Option V := if ((intOf (ρ mx)).isSome && intOf (ρ mx) == intOf (ρ hi)) = true then (match x with
    | .nilS => (boundOf ρ (some hi) 0 0).bind fun h => (boundOf ρ lo 0 h).bind fun l => if l = 0 ∧ h = 0 then some .nilS else none
    | .sl sz' xs => (boundOf ρ (some hi) xs.length xs.length).bind fun h => (boundOf ρ lo 0 h).bind fun l =>
        if sz' = sz then some (.sl sz ((xs.take h).drop l)) else none
    | .ref id off len sz' => (boundOf ρ (some hi) len len).bind fun h => (boundOf ρ lo 0 h).bind fun l =>
        if sz' = sz then some (.ref id (off + l) (h - l) sz) else none
    | _ => none) else none

theorem slice3E_ref {ρ : Opd → V} {sz id len : Nat} {hi mx : Opd} {k : IntKind} {m : Nat} (h1 : ρ hi = .int k (m : Int)) (h2 : ρ mx = .int k (m : Int)) (h : m ≤ len) : slice3E ρ sz (.ref id 0 len sz) none hi mx = some (.ref id 0 m sz) := by
  have hb : boundOf ρ (some hi) len len = some m := by
    simp only [boundOf, h1, intOf]
    rw [if_pos ⟨by omega, by omega⟩]
    simp
  simp [slice3E, h1, h2, intOf, hb]
  simp [boundOf]
theorem slice3E_nil {ρ : Opd → V} {sz : Nat} {hi mx : Opd} {k : IntKind} (h1 : ρ hi = .int k 0) (h2 : ρ mx = .int k 0) : slice3E ρ sz .nilS none hi mx = some .nilS := by
  simp [slice3E, h1, h2, intOf, boundOf]

/-- What is put behind. -/
def appE (o : Option Ob) (sz bytes id len lk : Nat) (ys : List V) (σ : Sto) (n : Nat) : R3 := match o with
  | some (.row sz'' xs) =>
      if sz'' = sz ∧ len ≤ xs.length ∧ lk ≤ id ∧ (len + ys.length) * bytes ≤ LIM then
            some (.ref n 0 (len + ys.length) sz, upd (upd σ id none) n (some (.row sz (xs.take len ++ ys))), n + 1)
          else none
  | _ => none
theorem appE_row (sz bytes id lk : Nat) (xs ys : List V) (σ : Sto) (n : Nat) : appE (some (.row sz xs)) sz bytes id xs.length lk ys σ n =
    if lk ≤ id ∧ (xs.length + ys.length) * bytes ≤ LIM then some (.ref n 0 (xs.length + ys.length) sz, upd (upd σ id none) n (some (.row sz (xs ++ ys))), n + 1) else none := by
  simp [appE]
def appendE (sz bytes lk : Nat) (x : V) (ys : Option (List V)) (σ : Sto) (n : Nat) : R3 := match ys with
  | none => none
  | some ys => match x with
    | .nilS => if ys.isEmpty = true then some (.nilS, σ, n) else
        if ys.length * bytes ≤ LIM then some (.ref n 0 ys.length sz, upd σ n (some (.row sz ys)), n + 1) else none
    | .ref id off len sz' => if sz' = sz ∧ off = 0 then appE (σ id) sz bytes id len lk ys σ n else none
    | _ => none
theorem appendE_nil (sz bytes lk : Nat) (ys : List V) (σ : Sto) (n : Nat) : appendE sz bytes lk .nilS (some ys) σ n = if ys.isEmpty = true then some (.nilS, σ, n) else
        if ys.length * bytes ≤ LIM then some (.ref n 0 ys.length sz, upd σ n (some (.row sz ys)), n + 1) else none := rfl
theorem appendE_ref (sz bytes lk id len : Nat) (ys : List V) (σ : Sto) (n : Nat) : appendE sz bytes lk (.ref id 0 len sz) (some ys) σ n = appE (σ id) sz bytes id len lk ys σ n := by
  simp [appendE]
theorem elems_nil (σ : Sto) (sz : Nat) : elems σ sz .nilS = some [] := rfl
theorem elems_sl (σ : Sto) (sz : Nat) (xs : List V) : elems σ sz (.sl sz xs) = some xs := by simp [elems]
def elemsO (o : Option Ob) (sz off len : Nat) : Option (List V) := match o with
  | some (.row sz'' xs) => if sz'' = sz ∧ off + len ≤ xs.length then some ((xs.drop off).take len) else none
  | _ => none
theorem w_elems_ref (σ : Sto) (id off len sz : Nat) : elems σ sz (.ref id off len sz) = elemsO (σ id) sz off len := by
  simp only [elems, elemsO, true_and]
  rfl
theorem elemsO_row (sz off len : Nat) (xs : List V) : elemsO (some (.row sz xs)) sz off len = if off + len ≤ xs.length then some ((xs.drop off).take len) else none := by simp [elemsO]
theorem elemsO_all (sz : Nat) (xs : List V) : elemsO (some (.row sz xs)) sz 0 xs.length = some xs := by simp [elemsO]

section
variable (fs : Bool) (ρ : Opd → V) (σ : Sto) (n lk : Nat)
theorem evw_mov (x : Opd) : evT T fs ρ σ n lk (.mov x) = some (ρ x, σ, n) := rfl
theorem evw_pick (c a b : Opd) : evT T fs ρ σ n lk (.pick c a b) = pickE (ρ c) (ρ a) (ρ b) σ n := by
  simp only [evT, ev, pickE]
  cases ρ c <;> rfl
theorem evw_alloc (e : V) : evT T fs ρ σ n lk (.alloc e) = some (.ptr n e.cells.length 0 0, upd σ n (some (.row e.cells.length [e])), n + 1) := rfl
theorem evw_box (x : Opd) : evT T fs ρ σ n lk (.box x) = boxE (ρ x) σ n := rfl
theorem evw_build (z : List V) (ps : List (Nat × Nat × Opd)) : evT T fs ρ σ n lk (.build z ps) = r1 ((partsOf ρ z ps).map .agg) σ n := by
  simp only [evT, ev, r1]
  cases partsOf ρ z ps <;> rfl
theorem evw_lit (sz : Nat) (es : List Opd) : evT T fs ρ σ n lk (.lit sz es) = if es.all (fun x => decide ((ρ x).cells.length = sz) && (ρ x).cells.all V.one) = true then
      some (.ref n 0 es.length sz, upd σ n (some (.row sz (es.map ρ))), n + 1) else none := rfl
theorem evw_load (agg : Bool) (s : Nat) (x : Opd) : evT T fs ρ σ n lk (.load agg s x) = loadE agg s (ρ x) σ n := by
  simp only [evT, ev, loadE, r1]
  cases ρ x <;> try rfl
  simp only [Option.map_bind]
  rfl
theorem evw_store (s : Nat) (x v : Opd) : evT T fs ρ σ n lk (.store s x v) = putE s lk (ρ x) (ρ v) σ n := by
  simp only [evT, ev, putE]
  cases ρ x <;> rfl
theorem evw_nilck (x : Opd) : evT T fs ρ σ n lk (.nilck x) = nilckE (ρ x) σ n := by
  simp only [evT, ev, nilckE]
  cases ρ x <;> rfl
theorem evw_bin (op : BinOp) (x y : Opd) : evT T fs ρ σ n lk (.bin op x y) = r1 (binV op (ρ x) (ρ y)) σ n := rfl
theorem evw_eqB (neg : Bool) (x y : Opd) : evT T fs ρ σ n lk (.eqB neg x y) = r1 (eqBE neg (ρ x) (ρ y)) σ n := by
  simp only [evT, ev, eqBE]
  cases ρ x <;> cases ρ y <;> rfl
theorem evw_eqA (neg : Bool) (ks : List CK) (x y : Opd) : evT T fs ρ σ n lk (.eqA neg ks x y) = r1 (eqAE neg ks (ρ x) (ρ y)) σ n := by
  simp only [evT, ev, eqAE]
  cases ρ x <;> cases ρ y <;> try rfl
  simp only [r1, Option.map_map]
  rfl
theorem evw_eqN (neg : Bool) (x : Opd) : evT T fs ρ σ n lk (.eqN neg x) = r1 (eqNE neg (ρ x)) σ n := by
  simp only [evT, ev, eqNE]
  cases ρ x <;> rfl
theorem evw_eqF (neg : Bool) (x : Opd) : evT T fs ρ σ n lk (.eqF neg x) = r1 (eqFE neg (ρ x)) σ n := by
  simp only [evT, ev, eqFE]
  cases ρ x <;> rfl
theorem evw_un (op : UnOp) (x : Opd) : evT T fs ρ σ n lk (.un op x) = r1 (unV op (ρ x)) σ n := rfl
theorem evw_conv (k : IntKind) (x : Opd) : evT T fs ρ σ n lk (.conv k x) = r1 (convE k (ρ x)) σ n := by
  simp only [evT, ev, convE]
  cases ρ x <;> rfl
theorem evw_mkbnd (f : Nat) (bs : List Opd) : evT T fs ρ σ n lk (.mkbnd f bs) = some (.bnd f (bs.map ρ), σ, n) := rfl
theorem evw_mkfn (f : Nat) (caps : List Opd) : evT T fs ρ σ n lk (.mkfn f caps) = some (.fn f (caps.map ρ), σ, n) := rfl
theorem evw_mksl (sz bytes : Nat) (e : V) (len : Opd) : evT T fs ρ σ n lk (.mksl sz bytes e len) = mkslE sz bytes e (ρ len) σ n := by
  simp only [evT, ev, mkslE]
  cases ρ len <;> try rfl
theorem evw_slice (sz : Nat) (x : Opd) (lo hi : Option Opd) : evT T fs ρ σ n lk (.slice sz x lo hi) = r1 (sliceE ρ sz (ρ x) lo hi) σ n := by
  simp only [evT, ev, sliceE, r1]
  cases ρ x <;> simp only [Option.map_bind, Option.map_none] <;> congr <;> funext h <;> simp only [Function.comp, Option.map_bind] <;> congr <;> funext l <;> simp only [Function.comp] <;> split <;> rfl
theorem evw_sliceS (x : Opd) (lo hi : Option Opd) : evT T fs ρ σ n lk (.sliceS x lo hi) = r1 (sliceSE ρ (ρ x) lo hi) σ n := by
  simp only [evT, ev, sliceSE, r1]
  cases ρ x <;> simp only [Option.map_bind, Option.map_none] <;> congr <;> funext h <;> simp only [Function.comp, Option.map_bind] <;> congr
theorem evw_faddr (x : Opd) (off : Nat) : evT T fs ρ σ n lk (.faddr x off) = r1 (faddrE (ρ x) off) σ n := by
  simp only [evT, ev, faddrE]
  cases ρ x <;> rfl
theorem evw_fld (agg : Bool) (s off : Nat) (x : Opd) : evT T fs ρ σ n lk (.fld agg s off x) = r1 (fldE agg s off (ρ x)) σ n := by
  simp only [evT, ev, fldE]
  cases ρ x <;> rfl
theorem evw_iaddr (sz : Nat) (x i : Opd) : evT T fs ρ σ n lk (.iaddr sz x i) = r1 (iaddrE sz (ρ x) (ρ i)) σ n := by
  simp only [evT, ev, iaddrE]
  cases ρ x <;> cases ρ i <;> simp only [r1, Option.map_none]
  · split
    · simp only [Option.map_map]; rfl
    · rfl
  · split <;> rfl
theorem evw_iaddrA (m es : Nat) (x i : Opd) : evT T fs ρ σ n lk (.iaddrA m es x i) = r1 (iaddrAE m es (ρ x) (ρ i)) σ n := by
  simp only [evT, ev, iaddrAE]
  cases ρ x <;> cases ρ i <;> simp only [r1, Option.map_none] <;> split <;> rfl
theorem evw_idxA (agg : Bool) (m es : Nat) (x i : Opd) : evT T fs ρ σ n lk (.idxA agg m es x i) = r1 (idxAE agg m es (ρ x) (ρ i)) σ n := by
  simp only [evT, ev, idxAE]
  cases ρ x <;> cases ρ i <;> simp only [r1, Option.map_none]
  split <;> rfl
theorem evw_idxS (x i : Opd) : evT T fs ρ σ n lk (.idxS x i) = r1 (idxSE (ρ x) (ρ i)) σ n := by
  simp only [evT, ev, idxSE]
  cases ρ x <;> cases ρ i <;> simp only [r1, Option.map_none]
  split
  · simp only [Option.map_map]; rfl
  · rfl
theorem evw_ext (x : Opd) (i : Nat) : evT T fs ρ σ n lk (.ext x i) = r1 (extE (ρ x) i) σ n := by
  simp only [evT, ev, extE]
  cases ρ x <;> rfl
theorem evw_len (x : Opd) : evT T fs ρ σ n lk (.len x) = r1 (lenE (ρ x)) σ n := by
  simp only [evT, ev, lenE, r1]
  cases lenOf (ρ x) <;> rfl
theorem evw_lenS (x : Opd) : evT T fs ρ σ n lk (.lenS x) = r1 (lenSE (ρ x)) σ n := by
  simp only [evT, ev, lenSE]
  cases ρ x <;> rfl
theorem evw_min (xs : List Opd) : evT T fs ρ σ n lk (.min xs) = r1 (mmE minV (xs.map ρ)) σ n := by
  simp only [evT, ev, mmE]
  cases xs.map ρ <;> rfl
theorem evw_max (xs : List Opd) : evT T fs ρ σ n lk (.max xs) = r1 (mmE maxV (xs.map ρ)) σ n := by
  simp only [evT, ev, mmE]
  cases xs.map ρ <;> rfl
theorem evw_append (sz bytes : Nat) (x y : Opd) : evT T fs ρ σ n lk (.append sz bytes x y) = appendE sz bytes lk (ρ x) (elems σ sz (ρ y)) σ n := by
  simp only [evT, ev, appendE]
  cases elems σ sz (ρ y) <;> simp only []
  cases ρ x <;> simp only []
  rename_i id off len sz'
  simp only [appE]
  rcases hσ : σ id with _ | ob
  · simp
  · cases ob
    · rename_i sz'' xs
      by_cases h1 : sz' = sz <;> by_cases h2 : off = 0 <;> simp [h1, h2]
    · simp
theorem evw_tas (ok : Bool) (t : Nat) (z : V) (x : Opd) : evT T fs ρ σ n lk (.tas ok t z x) = r1 (tasE ok t z (ρ x)) σ n := by
  simp only [evT, ev, tasE]
  cases ρ x <;> try rfl
  · simp only [r1]
    split
    · rfl
    · split <;> rfl
  · simp only [r1]
    split <;> rfl
theorem evw_slice3 (sz : Nat) (x : Opd) (lo : Option Opd) (hi mx : Opd) : evT T fs ρ σ n lk (.slice3 sz x lo hi mx) = r1 (slice3E ρ sz (ρ x) lo hi mx) σ n := by
  simp only [evT, ev, slice3E, r1]
  split
  · cases ρ x <;> simp only [Option.map_bind, Option.map_none] <;> congr <;> funext h <;> simp only [Function.comp, Option.map_bind] <;> congr <;> funext l <;> simp only [Function.comp] <;> split <;> rfl
  · rfl
theorem evw_inv (x : Opd) (tbl : List (Nat × Nat × Option (Bool × Nat × Nat))) (args : List Opd) : evT T fs ρ σ n lk (.inv x tbl args) = invE T fs (invOf σ tbl (ρ x)) (args.map ρ) σ n lk := rfl
theorem evw_mkif (t : Nat) (x : Opd) : evT T fs ρ σ n lk (.mkif t x) = some (.iface t (ρ x), σ, n) := rfl
theorem evw_call (f : Nat) (args : List Opd) : evT T fs ρ σ n lk (.call f args) = callE T fs f (args.map ρ) σ n lk := rfl
theorem evw_callv (g : Opd) (args : List Opd) : evT T fs ρ σ n lk (.callv g args) = callvE T fs (ρ g) (args.map ρ) σ n lk := rfl
end

theorem invE_some (f : Nat) (r : V) (args : List V) (σ : Sto) (n lk : Nat) : invE T true (some (f, r)) args σ n lk = callE T true f (r :: args) σ n lk := rfl
theorem invOf_cons (σ : Sto) (t t' f : Nat) (rc : Option (Bool × Nat × Nat)) (tbl : List (Nat × Nat × Option (Bool × Nat × Nat))) (v : V) :
    invOf σ ((t', f, rc) :: tbl) (.iface t v) = if t' = t then (recvOf σ v rc).map fun u => (f, u) else invOf σ tbl (.iface t v) := by
  by_cases h : t' = t
  · subst h; simp [invOf]
  · simp [invOf, h]
theorem recvOf_self (σ : Sto) (v : V) : recvOf σ v none = some v := rfl
theorem recvOf_ptr (σ : Sto) (agg : Bool) (s off id sz i j : Nat) : recvOf σ (.ptr id sz i j) (some (agg, s, off)) = (rowO (σ id) sz i).bind fun e => loadC agg s (e.cells.drop (j + off)) := rfl
theorem callvE_bnd (fs : Bool) (f : Nat) (bs args : List V) (σ : Sto) (n lk : Nat) : callvE T fs (.bnd f bs) args σ n lk = callE T fs f (bs ++ args) σ n lk := rfl
theorem callvE_fn (fs : Bool) (f : Nat) (caps args : List V) (σ : Sto) (n lk : Nat) : callvE T fs (.fn f caps) args σ n lk = callE T fs f (args ++ caps) σ n lk := rfl
theorem callE_eq {f : Nat} (h : T.mode f ≠ .raw) (fs : Bool) (args : List V) (σ : Sto) (n lk : Nat) :
    callE T fs f args σ n lk = callR T fs f (args.mapM (frz σ 12)) (args.flatMap (rch σ 12)) σ n lk := by
  unfold callE; rw [if_neg h]; rfl

/-- .. of the result. -/
noncomputable def retE (fs : Bool) (r : Option V) (D : List Nat) (σ : Sto) (n lk : Nat) : R3 := match r with
  | none => none
  | some r => backE fs D r σ n lk
theorem callR_some (fs : Bool) (f : Nat) (ts : List V) (D : List Nat) (σ : Sto) (n lk : Nat) : callR T fs f (some ts) D σ n lk = retE fs (res T f ts) D σ n lk := by
  unfold callR retE
  rfl
theorem retE_some (fs : Bool) (r : V) (D : List Nat) (σ : Sto) (n lk : Nat) : retE fs (some r) D σ n lk = backE fs D r σ n lk := rfl

/-! Trees are handed over as they are. -/
theorem w_dropL_nil (σ : Sto) : dropL σ [] = σ := by funext id; simp [dropL]
theorem backE_nil (fs : Bool) (r : V) (σ : Sto) (n lk : Nat) : backE fs [] r σ n lk = some (thaw σ n r) := by
  unfold backE
  split
  · rfl
  · simp [w_dropL_nil]
theorem backE_flat {r : V} (h : flat r = true) (fs : Bool) (D : List Nat) (σ : Sto) (n lk : Nat) : backE fs D r σ n lk = some (thaw σ n r) := by simp [backE, h]

def Tr : Nat → V → Bool
  | 0, _ => false
  | k + 1, .agg cs => cs.all (Tr k)
  | k + 1, .tup cs => cs.all (Tr k)
  | k + 1, .fn _ cs => cs.all (Tr k)
  | k + 1, .bnd _ cs => cs.all (Tr k)
  | k + 1, .iface _ v => Tr k v
  | _ + 1, .ref .. => false
  | _ + 1, .ptr .. => false
  | _ + 1, .own .. => false
  | _ + 1, .yld .. => false
  | _ + 1, _ => true

theorem mapM_id {f : V → Option V} : ∀ {cs : List V}, (∀ c ∈ cs, f c = some c) → cs.mapM f = some cs
  | [], _ => rfl
  | c :: cs, h => by
    rw [List.mapM_cons, h c (by simp), mapM_id (fun d hd => h d (List.mem_cons_of_mem _ hd))]
    rfl

theorem frz_tr (σ : Sto) : ∀ (k : Nat) (v : V), Tr k v = true → frz σ k v = some v ∧ rch σ k v = []
  | 0, _, h => by simp [Tr] at h
  | k + 1, v, h => by
    cases v
    case agg cs =>
      simp only [Tr, List.all_eq_true] at h
      have h1 := fun c hc => frz_tr σ k c (h c hc)
      simp only [frz, rch]
      rw [mapM_id (fun c hc => (h1 c hc).1)]
      exact ⟨rfl, List.flatMap_eq_nil_iff.2 fun c hc => (h1 c hc).2⟩
    case tup cs =>
      simp only [Tr, List.all_eq_true] at h
      have h1 := fun c hc => frz_tr σ k c (h c hc)
      simp only [frz, rch]
      rw [mapM_id (fun c hc => (h1 c hc).1)]
      exact ⟨rfl, List.flatMap_eq_nil_iff.2 fun c hc => (h1 c hc).2⟩
    case fn f cs =>
      simp only [Tr, List.all_eq_true] at h
      have h1 := fun c hc => frz_tr σ k c (h c hc)
      simp only [frz, rch]
      rw [mapM_id (fun c hc => (h1 c hc).1)]
      exact ⟨rfl, List.flatMap_eq_nil_iff.2 fun c hc => (h1 c hc).2⟩
    case bnd f cs =>
      simp only [Tr, List.all_eq_true] at h
      have h1 := fun c hc => frz_tr σ k c (h c hc)
      simp only [frz, rch]
      rw [mapM_id (fun c hc => (h1 c hc).1)]
      exact ⟨rfl, List.flatMap_eq_nil_iff.2 fun c hc => (h1 c hc).2⟩
    case iface t v =>
      simp only [Tr] at h
      have h1 := frz_tr σ k v h
      simp only [frz, rch, h1.1, h1.2]
      exact ⟨rfl, trivial⟩
    all_goals first | (simp [Tr] at h; done) | exact ⟨rfl, rfl⟩

theorem elemM_tr {σ : Sto} {k : Nat} {v : V} (h : Tr k v = true) : elemM (frz σ k) v = some v := by
  cases k with
  | zero => simp [Tr] at h
  | succ k =>
    unfold elemM
    split
    · rename_i cs
      simp only [Tr, List.all_eq_true] at h
      have h1 : ∀ c ∈ cs, frz σ (k + 1) c = some c := fun c hc => by
        have := h c hc
        have h2 : Tr (k + 1) c = true := by
          clear h hc
          revert c
          suffices ∀ (j : Nat) (c : V), Tr j c = true → Tr (j + 1) c = true from fun c h => this k c h
          intro j
          induction j with
          | zero => intro c h; simp [Tr] at h
          | succ j ih =>
            intro c h
            cases c <;> simp only [Tr, List.all_eq_true] at h ⊢ <;> first | exact h | exact fun c hc => ih c (h c hc) | exact ih _ h
        exact (frz_tr σ _ _ h2).1
      rw [mapM_id h1]; rfl
    · exact (frz_tr σ _ _ h).1

/-- Rows of trees. -/
theorem frz_ref {σ : Sto} {id off len sz : Nat} {xs : List V} (k : Nat) (h : elemsO (σ id) sz off len = some xs) (ht : ∀ x ∈ xs, Tr k x = true) :
    frz σ (k + 1) (.ref id off len sz) = some (.sl sz xs) := by
  simp only [frz, w_elems_ref, h, Option.bind_some]
  rw [mapM_id (fun c hc => elemM_tr (ht c hc))]
  rfl

/-- What can be handed over as it is. -/
def Gv : Nat → V → Bool
  | 0, _ => false
  | k + 1, .agg cs => cs.all (Gv k)
  | k + 1, .tup cs => cs.all (Gv k)
  | k + 1, .iface _ v => Gv k v
  | _ + 1, .int .. => true
  | _ + 1, .bool .. => true
  | _ + 1, .str .. => true
  | _ + 1, .nilS => true
  | _ + 1, .nilP => true
  | _ + 1, .nilF => true
  | _ + 1, .nilI => true
  | _ + 1, .undef => true
  | _ + 1, .sl .. => true
  | _ + 1, .box _ => true
  | _ + 1, _ => false

theorem giv_tr (σ : Sto) : ∀ (k : Nat) (v : V), Gv k v = true → giv σ k v = some v ∧ gids σ k v = []
  | 0, _, h => by simp [Gv] at h
  | k + 1, v, h => by
    cases v
    case agg cs =>
      simp only [Gv, List.all_eq_true] at h
      have h1 := fun c hc => giv_tr σ k c (h c hc)
      simp only [giv, gids]
      rw [mapM_id (fun c hc => (h1 c hc).1)]
      exact ⟨rfl, List.flatMap_eq_nil_iff.2 fun c hc => (h1 c hc).2⟩
    case tup cs =>
      simp only [Gv, List.all_eq_true] at h
      have h1 := fun c hc => giv_tr σ k c (h c hc)
      simp only [giv, gids]
      rw [mapM_id (fun c hc => (h1 c hc).1)]
      exact ⟨rfl, List.flatMap_eq_nil_iff.2 fun c hc => (h1 c hc).2⟩
    case iface t v =>
      simp only [Gv] at h
      have h1 := giv_tr σ k v h
      simp only [giv, gids, h1.1, h1.2]
      exact ⟨rfl, trivial⟩
    all_goals first | (simp [Gv] at h; done) | exact ⟨rfl, rfl⟩

/-! What frozen and thawed leaves are. -/
theorem frz_int (σ : Sto) (k : Nat) (i : IntKind) (x : Int) : frz σ (k + 1) (.int i x) = some (.int i x) := rfl
theorem rch_int (σ : Sto) (k : Nat) (i : IntKind) (x : Int) : rch σ (k + 1) (.int i x) = [] := rfl
theorem frz_bool (σ : Sto) (k : Nat) (b : Bool) : frz σ (k + 1) (.bool b) = some (.bool b) := rfl
theorem rch_bool (σ : Sto) (k : Nat) (b : Bool) : rch σ (k + 1) (.bool b) = [] := rfl
theorem frz_str (σ : Sto) (k : Nat) (s : ByteArray) : frz σ (k + 1) (.str s) = some (.str s) := rfl
theorem rch_str (σ : Sto) (k : Nat) (s : ByteArray) : rch σ (k + 1) (.str s) = [] := rfl
theorem frz_nilS (σ : Sto) (k : Nat)  : frz σ (k + 1) .nilS = some .nilS := rfl
theorem rch_nilS (σ : Sto) (k : Nat)  : rch σ (k + 1) .nilS = [] := rfl
theorem frz_nilF (σ : Sto) (k : Nat)  : frz σ (k + 1) .nilF = some .nilF := rfl
theorem rch_nilF (σ : Sto) (k : Nat)  : rch σ (k + 1) .nilF = [] := rfl
theorem frz_nilP (σ : Sto) (k : Nat)  : frz σ (k + 1) .nilP = some .nilP := rfl
theorem rch_nilP (σ : Sto) (k : Nat)  : rch σ (k + 1) .nilP = [] := rfl
theorem frz_nilI (σ : Sto) (k : Nat)  : frz σ (k + 1) .nilI = some .nilI := rfl
theorem rch_nilI (σ : Sto) (k : Nat)  : rch σ (k + 1) .nilI = [] := rfl
theorem frz_undef (σ : Sto) (k : Nat)  : frz σ (k + 1) .undef = some .undef := rfl
theorem rch_undef (σ : Sto) (k : Nat)  : rch σ (k + 1) .undef = [] := rfl
theorem frz_sl (σ : Sto) (k : Nat) (sz : Nat) (xs : List V) : frz σ (k + 1) (.sl sz xs) = some (.sl sz xs) := rfl
theorem rch_sl (σ : Sto) (k : Nat) (sz : Nat) (xs : List V) : rch σ (k + 1) (.sl sz xs) = [] := rfl
theorem frz_box (σ : Sto) (k : Nat) (xs : List V) : frz σ (k + 1) (.box xs) = some (.box xs) := rfl
theorem rch_box (σ : Sto) (k : Nat) (xs : List V) : rch σ (k + 1) (.box xs) = [] := rfl
theorem frz_fn (σ : Sto) (k f : Nat) (cs : List V) : frz σ (k + 1) (.fn f cs) = (cs.mapM (frz σ k)).map (.fn f) := rfl
theorem rch_fn (σ : Sto) (k f : Nat) (cs : List V) : rch σ (k + 1) (.fn f cs) = cs.flatMap (rch σ k) := rfl
theorem frz_bnd (σ : Sto) (k f : Nat) (cs : List V) : frz σ (k + 1) (.bnd f cs) = (cs.mapM (frz σ k)).map (.bnd f) := rfl
theorem rch_bnd (σ : Sto) (k f : Nat) (cs : List V) : rch σ (k + 1) (.bnd f cs) = cs.flatMap (rch σ k) := rfl
theorem frz_agg (σ : Sto) (k : Nat) (cs : List V) : frz σ (k + 1) (.agg cs) = (cs.mapM (frz σ k)).map .agg := rfl
theorem rch_agg (σ : Sto) (k : Nat) (cs : List V) : rch σ (k + 1) (.agg cs) = cs.flatMap (rch σ k) := rfl
theorem frz_tup (σ : Sto) (k : Nat) (cs : List V) : frz σ (k + 1) (.tup cs) = (cs.mapM (frz σ k)).map .tup := rfl
theorem rch_tup (σ : Sto) (k : Nat) (cs : List V) : rch σ (k + 1) (.tup cs) = cs.flatMap (rch σ k) := rfl
theorem rowAt_O (σ : Sto) (id sz i : Nat) : rowAt σ id sz i = rowO (σ id) sz i := by
  simp only [rowAt, rowO]
  rfl
theorem frz_ptr (σ : Sto) (k id sz i j : Nat) : frz σ (k + 1) (.ptr id sz i j) = ((rowO (σ id) sz i).bind fun e => ((e.cells.drop j).mapM (frz σ k)).map .box) := by
  simp only [frz, rowAt_O]
theorem rch_ptr (σ : Sto) (k id sz i j : Nat) : rch σ (k + 1) (.ptr id sz i j) = id :: (((rowO (σ id) sz i).map fun e => (e.cells.drop j).flatMap (rch σ k)).getD []) := by
  simp only [rch, rowAt_O]
theorem frz_rf (σ : Sto) (k id off len sz : Nat) : frz σ (k + 1) (.ref id off len sz) = ((elemsO (σ id) sz off len).bind fun xs => (xs.mapM (elemM (frz σ k))).map (.sl sz)) := by
  simp only [frz, w_elems_ref]
theorem rch_rf (σ : Sto) (k id off len sz : Nat) : rch σ (k + 1) (.ref id off len sz) = id :: ((elemsO (σ id) sz off len).getD []).flatMap fun x => x.cells.flatMap (rch σ k) := by
  simp only [rch, w_elems_ref]
theorem bk_int (fs : Bool) (D : List Nat) (i : IntKind) (x : Int) (σ : Sto) (n lk : Nat) : backE fs D (.int i x) σ n lk = some (.int i x, σ, n) := rfl
theorem bk_bool (fs : Bool) (D : List Nat) (x : Bool) (σ : Sto) (n lk : Nat) : backE fs D (.bool x) σ n lk = some (.bool x, σ, n) := rfl
theorem bk_str (fs : Bool) (D : List Nat) (x : ByteArray) (σ : Sto) (n lk : Nat) : backE fs D (.str x) σ n lk = some (.str x, σ, n) := rfl
theorem thaw_int (σ : Sto) (n : Nat) (k : IntKind) (x : Int) : thaw σ n (.int k x) = (.int k x, σ, n) := rfl
theorem thaw_bool (σ : Sto) (n : Nat) (b : Bool) : thaw σ n (.bool b) = (.bool b, σ, n) := rfl
theorem thaw_str (σ : Sto) (n : Nat) (s : ByteArray) : thaw σ n (.str s) = (.str s, σ, n) := rfl
theorem thaw_nilS (σ : Sto) (n : Nat) : thaw σ n .nilS = (.nilS, σ, n) := rfl
theorem thaw_sl (σ : Sto) (n : Nat) (sz : Nat) (xs : List V) : thaw σ n (.sl sz xs) = (.sl sz xs, σ, n) := rfl
theorem thaw_own (σ : Sto) (n : Nat) (sz : Nat) (xs : List V) : thaw σ n (.own sz xs) =
    (.ref (thawL σ n xs).2.2 0 xs.length sz, upd (thawL σ n xs).2.1 (thawL σ n xs).2.2 (some (.row sz (thawL σ n xs).1)), (thawL σ n xs).2.2 + 1) := rfl
theorem thaw_agg (σ : Sto) (n : Nat) (xs : List V) : thaw σ n (.agg xs) = (.agg (thawL σ n xs).1, (thawL σ n xs).2) := rfl
theorem thaw_tup (σ : Sto) (n : Nat) (xs : List V) : thaw σ n (.tup xs) = (.tup (thawL σ n xs).1, (thawL σ n xs).2) := rfl
theorem thawL_nil (σ : Sto) (n : Nat) : thawL σ n [] = ([], σ, n) := rfl
theorem thawL_cons (σ : Sto) (n : Nat) (x : V) (xs : List V) : thawL σ n (x :: xs) =
    ((thaw σ n x).1 :: (thawL (thaw σ n x).2.1 (thaw σ n x).2.2 xs).1, (thawL (thaw σ n x).2.1 (thaw σ n x).2.2 xs).2) := rfl

/-- Nothing in it becomes an object of the store. -/
def Nw : Nat → V → Bool
  | 0, _ => false
  | k + 1, .agg cs => cs.all (Nw k)
  | k + 1, .tup cs => cs.all (Nw k)
  | k + 1, .iface _ v => Nw k v
  | _ + 1, .own .. => false
  | _ + 1, _ => true

theorem thaw_nw (σ : Sto) (n : Nat) : ∀ (k : Nat) (v : V), Nw k v = true → thaw σ n v = (v, σ, n)
  | 0, _, h => by simp [Nw] at h
  | k + 1, v, h => by
    have hL : ∀ cs : List V, (∀ c ∈ cs, Nw k c = true) → thawL σ n cs = (cs, σ, n) := by
      intro cs
      induction cs with
      | nil => intro _; rfl
      | cons d ds ih =>
        intro h
        rw [thawL_cons, thaw_nw σ n k d (h d (by simp))]
        simp only
        rw [ih (fun c hc => h c (List.mem_cons_of_mem _ hc))]
    cases v
    case agg cs =>
      simp only [Nw, List.all_eq_true] at h
      rw [thaw_agg, hL cs h]
    case tup cs =>
      simp only [Nw, List.all_eq_true] at h
      rw [thaw_tup, hL cs h]
    case iface t v =>
      simp only [Nw] at h
      simp only [thaw, thaw_nw σ n k v h]
    all_goals first | (simp [Nw] at h; done) | rfl

theorem thawL_nw {σ : Sto} {n : Nat} (k : Nat) : ∀ {cs : List V}, (∀ c ∈ cs, Nw k c = true) → thawL σ n cs = (cs, σ, n)
  | [], _ => rfl
  | d :: ds, h => by
    rw [thawL_cons, thaw_nw σ n k d (h d (by simp))]
    simp only
    rw [thawL_nw k (fun c hc => h c (List.mem_cons_of_mem _ hc))]

theorem bk_tupf (fs : Bool) (D : List Nat) (xs : List V) (σ : Sto) (n lk : Nat) (h : xs.all flat = true) (h' : xs.all (Nw 11) = true) : backE fs D (.tup xs) σ n lk = some (.tup xs, σ, n) := by
  have hf : flat (.tup xs) = true := by
    simp only [flat]
    clear h'
    induction xs with
    | nil => rfl
    | cons x xs ih => simp only [List.all_cons, Bool.and_eq_true] at h; simp only [flatL, h.1, ih h.2, Bool.and_self]
  rw [backE_flat hf, thaw_nw σ n 12]
  simpa [Nw] using h'

/-! Numbers. -/
section
variable (k : IntKind) (a b : Int)
theorem bin_add : binV .add (.int k a) (.int k b) = some (.int k (k.wrap (a + b))) := by simp [binV, pureV, Go.binOp, Op.intArith]; rfl
theorem bin_sub : binV .sub (.int k a) (.int k b) = some (.int k (k.wrap (a - b))) := by simp [binV, pureV, Go.binOp, Op.intArith]; rfl
theorem bin_mul : binV .mul (.int k a) (.int k b) = some (.int k (k.wrap (a * b))) := by simp [binV, pureV, Go.binOp, Op.intArith]; rfl
theorem bin_quo (h : b ≠ 0) : binV .quo (.int k a) (.int k b) = some (.int k (k.wrap (a.tdiv b))) := by simp [binV, pureV, Go.binOp, Op.intDiv, h]; rfl
theorem bin_rem (h : b ≠ 0) : binV .rem (.int k a) (.int k b) = some (.int k (a.tmod b)) := by simp [binV, pureV, Go.binOp, Op.intDiv, h]; rfl
theorem bin_eql : binV .eql (.int k a) (.int k b) = some (.bool (a == b)) := by simp [binV, pureV, Go.binOp, Op.intCmp]; rfl
theorem bin_neq : binV .neq (.int k a) (.int k b) = some (.bool (a != b)) := by simp [binV, pureV, Go.binOp, Op.intCmp]; rfl
theorem bin_lss : binV .lss (.int k a) (.int k b) = some (.bool (decide (a < b))) := by simp [binV, pureV, Go.binOp, Op.intCmp]; rfl
theorem bin_leq : binV .leq (.int k a) (.int k b) = some (.bool (decide (a ≤ b))) := by simp [binV, pureV, Go.binOp, Op.intCmp]; rfl
theorem bin_gtr : binV .gtr (.int k a) (.int k b) = some (.bool (decide (b < a))) := by simp [binV, pureV, Go.binOp, Op.intCmp]; rfl
theorem bin_geq : binV .geq (.int k a) (.int k b) = some (.bool (decide (b ≤ a))) := by simp [binV, pureV, Go.binOp, Op.intCmp]; rfl
theorem bin_and : binV .and (.int k a) (.int k b) = some (.int k (k.wrap (BitVec.ofInt k.bits a &&& BitVec.ofInt k.bits b).toNat)) := by simp [binV, pureV, Go.binOp, Op.intBits]; rfl
theorem bin_or : binV .or (.int k a) (.int k b) = some (.int k (k.wrap (BitVec.ofInt k.bits a ||| BitVec.ofInt k.bits b).toNat)) := by simp [binV, pureV, Go.binOp, Op.intBits]; rfl
theorem bin_xor : binV .xor (.int k a) (.int k b) = some (.int k (k.wrap (BitVec.ofInt k.bits a ^^^ BitVec.ofInt k.bits b).toNat)) := by simp [binV, pureV, Go.binOp, Op.intBits]; rfl
theorem un_not (x : Bool) : unV .not (.bool x) = some (.bool (!x)) := by simp [unV, pureV, Op.unary]; rfl
end

theorem wrap_i64 {x : Int} (h : -9223372036854775808 ≤ x) (h' : x < 9223372036854775808) : IntKind.i64.wrap x = x := by
  simp [IntKind.wrap, IntKind.bits, IntKind.signed]; omega
theorem wrap_u64 {x : Int} (h : 0 ≤ x) (h' : x < 18446744073709551616) : IntKind.u64.wrap x = x := by
  simp [IntKind.wrap, IntKind.bits, IntKind.signed]; omega
theorem wrap_i32 {x : Int} (h : -2147483648 ≤ x) (h' : x < 2147483648) : IntKind.i32.wrap x = x := by
  simp [IntKind.wrap, IntKind.bits, IntKind.signed]; omega
theorem wrap_u8 {x : Int} (h : 0 ≤ x) (h' : x < 256) : IntKind.u8.wrap x = x := by
  simp [IntKind.wrap, IntKind.bits, IntKind.signed]; omega

/-! Stores. -/
theorem upd_get (σ : Sto) (id : Nat) (o : Option Ob) (i : Nat) : upd σ id o i = if i = id then o else σ i := rfl
theorem empty_get (i : Nat) : Sto.empty i = none := rfl

/-! Parameters. -/
theorem envOf_0 (a : V) (l : List V) : envOf (a :: l) 0 = a := rfl
theorem envOf_1 (a b : V) (l : List V) : envOf (a :: b :: l) 1 = b := rfl
theorem envOf_2 (a b c : V) (l : List V) : envOf (a :: b :: c :: l) 2 = c := rfl
theorem envOf_3 (a b c d : V) (l : List V) : envOf (a :: b :: c :: d :: l) 3 = d := rfl
theorem envOf_4 (a b c d e : V) (l : List V) : envOf (a :: b :: c :: d :: e :: l) 4 = e := rfl
theorem envOf_5 (a b c d e f : V) (l : List V) : envOf (a :: b :: c :: d :: e :: f :: l) 5 = f := rfl

/-! The end. -/
theorem endQ_ret (rs : List Res) (P : Sto → V → Prop) (env : Nat → V) (σ : Sto) (n lk : Nat) : endQ rs P .ret ⟨env, σ, n, lk⟩ = ∃ v, outOf ⟨env, σ, n, lk⟩ rs = some v ∧ P σ v := by
  simp [endQ, isEnd]
theorem endQ_normal (rs : List Res) (P : Sto → V → Prop) (env : Nat → V) (σ : Sto) (n lk : Nat) : endQ rs P .normal ⟨env, σ, n, lk⟩ = ∃ v, outOf ⟨env, σ, n, lk⟩ rs = some v ∧ P σ v := by
  simp [endQ, isEnd]
def outQ (o : Option V) (P : V → Prop) : Prop := match o with
  | some v => P v
  | none => False
theorem outQ_some (v : V) (P : V → Prop) : outQ (some v) P = P v := rfl
theorem outQ_eq (o : Option V) (P : V → Prop) : (∃ v, o = some v ∧ P v) = outQ o P := by cases o <;> simp [outQ]
def outR (o : Option V) (P : V → Prop) : Prop := ∃ v, o = some v ∧ P v
theorem endR_ret (rs : List Res) (P : V → Sto → Nat → Prop) (env : Nat → V) (σ : Sto) (n lk : Nat) : endR rs P .ret ⟨env, σ, n, lk⟩ = ∃ v, outOf ⟨env, σ, n, lk⟩ rs = some v ∧ P v σ n := by
  simp [endR, isEnd]
theorem endR_normal (rs : List Res) (P : V → Sto → Nat → Prop) (env : Nat → V) (σ : Sto) (n lk : Nat) : endR rs P .normal ⟨env, σ, n, lk⟩ = ∃ v, outOf ⟨env, σ, n, lk⟩ rs = some v ∧ P v σ n := by
  simp [endR, isEnd]
theorem out_nil (env : Nat → V) (σ : Sto) (n lk : Nat) : outOf ⟨env, σ, n, lk⟩ [] = some .undef := rfl
theorem deep_eq : DEEP = 12 := rfl
theorem out_tmp (env : Nat → V) (σ : Sto) (n lk t : Nat) : outOf ⟨env, σ, n, lk⟩ [.tmp t] = some (env t) := rfl
theorem out_two (env : Nat → V) (σ : Sto) (n lk t u : Nat) : outOf ⟨env, σ, n, lk⟩ [.tmp t, .tmp u] = some (.tup [env t, env u]) := rfl
theorem out_three (env : Nat → V) (σ : Sto) (n lk t u x : Nat) : outOf ⟨env, σ, n, lk⟩ [.tmp t, .tmp u, .tmp x] = some (.tup [env t, env u, env x]) := rfl

/-- What a result's cell holds. -/
def cellR (x : V) (σ : Sto) (agg : Bool) (sz : Nat) : Option V := match x with
  | .ptr id sz' i j => (rowO (σ id) sz' i).bind fun e => loadC agg sz (e.cells.drop j)
  | _ => none
theorem resOf_cell (env : Nat → V) (σ : Sto) (n lk t : Nat) (a : Bool) (s : Nat) : resOf ⟨env, σ, n, lk⟩ (.cell t a s) = cellR (env t) σ a s := by
  simp only [resOf, cellR]
  cases env t <;> simp only [rowAt_O]
theorem cellR_ptr (id sz' i j : Nat) (σ : Sto) (agg : Bool) (sz : Nat) : cellR (.ptr id sz' i j) σ agg sz = (rowO (σ id) sz' i).bind fun e => loadC agg sz (e.cells.drop j) := rfl
theorem out_cell (env : Nat → V) (σ : Sto) (n lk t : Nat) (a : Bool) (s : Nat) : outOf ⟨env, σ, n, lk⟩ [.cell t a s] = cellR (env t) σ a s := resOf_cell env σ n lk t a s
theorem out_ct (env : Nat → V) (σ : Sto) (n lk t u : Nat) (a : Bool) (s : Nat) : outOf ⟨env, σ, n, lk⟩ [.cell t a s, .tmp u] = (cellR (env t) σ a s).map fun v => .tup [v, env u] := by
  rw [← resOf_cell env σ n lk]
  simp only [outOf, List.mapM_cons, List.mapM_nil]
  cases resOf ⟨env, σ, n, lk⟩ (.cell t a s) <;> rfl
theorem out_cc (env : Nat → V) (σ : Sto) (n lk t u : Nat) (a b : Bool) (s r : Nat) : outOf ⟨env, σ, n, lk⟩ [.cell t a s, .cell u b r] = (cellR (env t) σ a s).bind fun v => (cellR (env u) σ b r).map fun w => .tup [v, w] := by
  rw [← resOf_cell env σ n lk, ← resOf_cell env σ n lk]
  simp only [outOf, List.mapM_cons, List.mapM_nil]
  cases resOf ⟨env, σ, n, lk⟩ (.cell t a s) <;> cases resOf ⟨env, σ, n, lk⟩ (.cell u b r) <;> rfl

end Go.Q
end

section
/- What single operations come to at encoded slices; cells of values. -/
set_option linter.unusedSimpArgs false
set_option linter.unusedVariables false
namespace Go.Q

variable {T : Tab}

theorem one_int (k : IntKind) (x : Int) : (V.int k x).one = true := rfl
theorem one_bool (x : Bool) : (V.bool x).one = true := rfl
theorem one_str (x : ByteArray) : (V.str x).one = true := rfl
theorem one_nilS : V.nilS.one = true := rfl
theorem one_nilF : V.nilF.one = true := rfl
theorem one_nilP : V.nilP.one = true := rfl
theorem one_nilI : V.nilI.one = true := rfl
theorem one_sl (sz : Nat) (xs : List V) : (V.sl sz xs).one = true := rfl
theorem one_ref (id off len sz : Nat) : (V.ref id off len sz).one = true := rfl
theorem one_ptr (id sz i j : Nat) : (V.ptr id sz i j).one = true := rfl
theorem one_box (xs : List V) : (V.box xs).one = true := rfl
theorem one_bnd (f : Nat) (xs : List V) : (V.bnd f xs).one = true := rfl
theorem one_fn (f : Nat) (xs : List V) : (V.fn f xs).one = true := rfl
theorem one_iface (t : Nat) (x : V) : (V.iface t x).one = true := rfl
theorem cl_agg (xs : List V) : (V.agg xs).cells = xs := rfl
theorem cl_int (k : IntKind) (x : Int) : (V.int k x).cells = [.int k x] := rfl
theorem cl_bool (x : Bool) : (V.bool x).cells = [.bool x] := rfl
theorem cl_str (x : ByteArray) : (V.str x).cells = [.str x] := rfl
theorem cl_nilS : V.nilS.cells = [.nilS] := rfl
theorem cl_nilF : V.nilF.cells = [.nilF] := rfl
theorem cl_nilP : V.nilP.cells = [.nilP] := rfl
theorem cl_nilI : V.nilI.cells = [.nilI] := rfl
theorem cl_sl (sz : Nat) (xs : List V) : (V.sl sz xs).cells = [.sl sz xs] := rfl
theorem cl_ref (id off len sz : Nat) : (V.ref id off len sz).cells = [.ref id off len sz] := rfl
theorem cl_ptr (id sz i j : Nat) : (V.ptr id sz i j).cells = [.ptr id sz i j] := rfl
theorem cl_box (xs : List V) : (V.box xs).cells = [.box xs] := rfl
theorem cl_bnd (f : Nat) (xs : List V) : (V.bnd f xs).cells = [.bnd f xs] := rfl
theorem cl_fn (f : Nat) (xs : List V) : (V.fn f xs).cells = [.fn f xs] := rfl
theorem cl_iface (t : Nat) (x : V) : (V.iface t x).cells = [.iface t x] := rfl

section
variable {β : Type} (sz : Nat) (f : β → V) (o : Option (List β))

def lst {β : Type} (o : Option (List β)) : List β := o.getD []
theorem lst_some (l : List β) : lst (some l) = l := rfl
theorem lst_none : lst (none : Option (List β)) = [] := rfl
theorem slV_some (l : List β) : slV sz f (some l) = .sl sz (l.map f) := rfl
theorem slV_none : slV sz f none = .nilS := rfl

theorem one_slV : (slV sz f o).one = true := by cases o <;> rfl
theorem cl_slV : (slV sz f o).cells = [slV sz f o] := by cases o <;> rfl
theorem frz_slV (σ : Sto) (k : Nat) : frz σ (k + 1) (slV sz f o) = some (slV sz f o) := by cases o <;> rfl
theorem rch_slV (σ : Sto) (k : Nat) : rch σ (k + 1) (slV sz f o) = [] := by cases o <;> rfl
theorem thaw_slV (σ : Sto) (n : Nat) : thaw σ n (slV sz f o) = (slV sz f o, σ, n) := by cases o <;> rfl
theorem lenE_slV : lenE (slV sz f o) = some (.int .i64 ((lst o).length : Int)) := by cases o <;> simp [slV, lst, lenE, lenOf]
theorem iaddrE_slV (k : IntKind) (i : Nat) : iaddrE sz (slV sz f o) (.int k (i : Int)) = ((lst o)[i]?).map fun e => .box (f e).cells := by
  cases o with
  | none => simp [slV, lst, iaddrE]
  | some l => rw [slV_some, iaddrE_sl, List.getElem?_map]; cases h : l[i]? <;> simp [lst, h]
theorem iaddrE_slV0 (k : IntKind) : iaddrE sz (slV sz f o) (.int k 0) = ((lst o)[0]?).map fun e => .box (f e).cells := iaddrE_slV sz f o k 0
theorem elems_slV (σ : Sto) : elems σ sz (slV sz f o) = some ((lst o).map f) := by cases o <;> simp [slV, lst, elems]
theorem eqNE_slV (neg : Bool) : eqNE neg (slV sz f o) = some (.bool (o.isNone != neg)) := by cases o <;> cases neg <;> rfl
theorem Tr_slV (k : Nat) : Tr (k + 1) (slV sz f o) = true := by cases o <;> rfl
theorem Nw_slV (k : Nat) : Nw (k + 1) (slV sz f o) = true := by cases o <;> rfl

/-- Part of a slice. -/
def sub (o : Option (List β)) (l h : Nat) : Option (List β) := o.map fun xs => (xs.take h).drop l
theorem lst_sub (l h : Nat) : lst (sub o l h) = ((lst o).take h).drop l := by cases o <;> simp [sub, lst]
theorem sliceE_slV (ρ : Opd → V) (lo hi : Option Opd) : sliceE ρ sz (slV sz f o) lo hi =
    (boundOf ρ hi (lst o).length (lst o).length).bind fun h => (boundOf ρ lo 0 h).bind fun l => if h ≤ (lst o).length ∧ l ≤ h then some (slV sz f (sub o l h)) else none := by
  have hb : ∀ (ρ : Opd → V) (b : Option Opd) (d m h : Nat), d ≤ m → boundOf ρ b d m = some h → h ≤ m := by
    intro ρ b d m h hd hb
    unfold boundOf at hb
    split at hb
    · cases hb; exact hd
    · split at hb
      · split at hb
        · cases hb; omega
        · cases hb
      · cases hb
  cases o with
  | none =>
    simp only [slV, sliceE, lst, Option.getD_none, List.length_nil, sub, Option.map_none]
    cases h1 : boundOf ρ hi 0 0 with
    | none => rfl
    | some h =>
      simp only [Option.bind_some]
      cases h2 : boundOf ρ lo 0 h with
      | none => rfl
      | some l =>
        simp only [Option.bind_some]
        have := hb _ _ _ _ _ (Nat.le_refl _) h1
        have := hb _ _ _ _ _ (Nat.zero_le _) h2
        have a1 : l = 0 := by omega
        have a2 : h = 0 := by omega
        simp [a1, a2]
  | some xs =>
    simp only [slV, sliceE_sl, lst, Option.getD_some, List.length_map, sub, Option.map_some]
    cases h1 : boundOf ρ hi xs.length xs.length with
    | none => rfl
    | some h =>
      simp only [Option.bind_some]
      cases h2 : boundOf ρ lo 0 h with
      | none => rfl
      | some l =>
        simp only [Option.bind_some]
        have b1 := hb _ _ _ _ _ (Nat.le_refl _) h1
        have b2 := hb _ _ _ _ _ (Nat.zero_le _) h2
        simp [b1, b2]
end

theorem spl_agg (old : List V) (j : Nat) (cs : List V) : spliceC (.agg old) j cs = .agg (old.take j ++ cs ++ old.drop (j + cs.length)) := rfl
theorem spl_int (k : IntKind) (x : Int) (j : Nat) (c : V) : spliceC (.int k x) j [c] = c := rfl
theorem spl_bool (x : Bool) (j : Nat) (c : V) : spliceC (.bool x) j [c] = c := rfl
theorem spl_str (x : ByteArray) (j : Nat) (c : V) : spliceC (.str x) j [c] = c := rfl
theorem spl_nilS  (j : Nat) (c : V) : spliceC .nilS j [c] = c := rfl
theorem spl_nilF  (j : Nat) (c : V) : spliceC .nilF j [c] = c := rfl
theorem spl_nilP  (j : Nat) (c : V) : spliceC .nilP j [c] = c := rfl
theorem spl_nilI  (j : Nat) (c : V) : spliceC .nilI j [c] = c := rfl
theorem spl_undef  (j : Nat) (c : V) : spliceC .undef j [c] = c := rfl
theorem spl_sl (sz : Nat) (xs : List V) (j : Nat) (c : V) : spliceC (.sl sz xs) j [c] = c := rfl
theorem spl_ref (id off len sz : Nat) (j : Nat) (c : V) : spliceC (.ref id off len sz) j [c] = c := rfl
theorem spl_ptr (id sz a b : Nat) (j : Nat) (c : V) : spliceC (.ptr id sz a b) j [c] = c := rfl
theorem spl_box (xs : List V) (j : Nat) (c : V) : spliceC (.box xs) j [c] = c := rfl
theorem spl_bnd (f : Nat) (xs : List V) (j : Nat) (c : V) : spliceC (.bnd f xs) j [c] = c := rfl
theorem spl_fn (f : Nat) (xs : List V) (j : Nat) (c : V) : spliceC (.fn f xs) j [c] = c := rfl
theorem spl_iface (t : Nat) (x : V) (j : Nat) (c : V) : spliceC (.iface t x) j [c] = c := rfl
theorem spl_slV {β : Type} (sz : Nat) (f : β → V) (o : Option (List β)) (j : Nat) (c : V) : spliceC (slV sz f o) j [c] = c := by cases o <;> rfl
theorem spl_one {x : V} (h : x.one = true) (j : Nat) (c : V) : spliceC x j [c] = c := by cases x <;> first | rfl | (simp [V.one] at h)
theorem iaddrAE_p0 (m es id sz e j : Nat) (k : IntKind) : iaddrAE m es (.ptr id sz e j) (.int k 0) = if 0 < m then some (.ptr id sz e (j + 0 * es)) else none := by
  simp only [iaddrAE]; by_cases h : 0 < m
  · rw [if_pos h, if_pos (by omega)]; rfl
  · rw [if_neg h, if_neg (by omega)]
theorem idxAE_l0 (agg : Bool) (m es : Nat) (cs : List V) (k : IntKind) : idxAE agg m es (.agg cs) (.int k 0) = if 0 < m then loadC agg es (cs.drop (0 * es)) else none := by
  simp only [idxAE]; by_cases h : 0 < m
  · rw [if_pos h, if_pos (by omega)]; rfl
  · rw [if_neg h, if_neg (by omega)]
theorem iaddrAE_p1 (m es id sz e j : Nat) (k : IntKind) : iaddrAE m es (.ptr id sz e j) (.int k 1) = if 1 < m then some (.ptr id sz e (j + 1 * es)) else none := by
  simp only [iaddrAE]; by_cases h : 1 < m
  · rw [if_pos h, if_pos (by omega)]; rfl
  · rw [if_neg h, if_neg (by omega)]
theorem idxAE_l1 (agg : Bool) (m es : Nat) (cs : List V) (k : IntKind) : idxAE agg m es (.agg cs) (.int k 1) = if 1 < m then loadC agg es (cs.drop (1 * es)) else none := by
  simp only [idxAE]; by_cases h : 1 < m
  · rw [if_pos h, if_pos (by omega)]; rfl
  · rw [if_neg h, if_neg (by omega)]
theorem iaddrAE_p2 (m es id sz e j : Nat) (k : IntKind) : iaddrAE m es (.ptr id sz e j) (.int k 2) = if 2 < m then some (.ptr id sz e (j + 2 * es)) else none := by
  simp only [iaddrAE]; by_cases h : 2 < m
  · rw [if_pos h, if_pos (by omega)]; rfl
  · rw [if_neg h, if_neg (by omega)]
theorem idxAE_l2 (agg : Bool) (m es : Nat) (cs : List V) (k : IntKind) : idxAE agg m es (.agg cs) (.int k 2) = if 2 < m then loadC agg es (cs.drop (2 * es)) else none := by
  simp only [idxAE]; by_cases h : 2 < m
  · rw [if_pos h, if_pos (by omega)]; rfl
  · rw [if_neg h, if_neg (by omega)]
theorem iaddrAE_p3 (m es id sz e j : Nat) (k : IntKind) : iaddrAE m es (.ptr id sz e j) (.int k 3) = if 3 < m then some (.ptr id sz e (j + 3 * es)) else none := by
  simp only [iaddrAE]; by_cases h : 3 < m
  · rw [if_pos h, if_pos (by omega)]; rfl
  · rw [if_neg h, if_neg (by omega)]
theorem idxAE_l3 (agg : Bool) (m es : Nat) (cs : List V) (k : IntKind) : idxAE agg m es (.agg cs) (.int k 3) = if 3 < m then loadC agg es (cs.drop (3 * es)) else none := by
  simp only [idxAE]; by_cases h : 3 < m
  · rw [if_pos h, if_pos (by omega)]; rfl
  · rw [if_neg h, if_neg (by omega)]
theorem iaddrAE_p4 (m es id sz e j : Nat) (k : IntKind) : iaddrAE m es (.ptr id sz e j) (.int k 4) = if 4 < m then some (.ptr id sz e (j + 4 * es)) else none := by
  simp only [iaddrAE]; by_cases h : 4 < m
  · rw [if_pos h, if_pos (by omega)]; rfl
  · rw [if_neg h, if_neg (by omega)]
theorem idxAE_l4 (agg : Bool) (m es : Nat) (cs : List V) (k : IntKind) : idxAE agg m es (.agg cs) (.int k 4) = if 4 < m then loadC agg es (cs.drop (4 * es)) else none := by
  simp only [idxAE]; by_cases h : 4 < m
  · rw [if_pos h, if_pos (by omega)]; rfl
  · rw [if_neg h, if_neg (by omega)]
theorem iaddrAE_p5 (m es id sz e j : Nat) (k : IntKind) : iaddrAE m es (.ptr id sz e j) (.int k 5) = if 5 < m then some (.ptr id sz e (j + 5 * es)) else none := by
  simp only [iaddrAE]; by_cases h : 5 < m
  · rw [if_pos h, if_pos (by omega)]; rfl
  · rw [if_neg h, if_neg (by omega)]
theorem idxAE_l5 (agg : Bool) (m es : Nat) (cs : List V) (k : IntKind) : idxAE agg m es (.agg cs) (.int k 5) = if 5 < m then loadC agg es (cs.drop (5 * es)) else none := by
  simp only [idxAE]; by_cases h : 5 < m
  · rw [if_pos h, if_pos (by omega)]; rfl
  · rw [if_neg h, if_neg (by omega)]
theorem iaddrAE_p6 (m es id sz e j : Nat) (k : IntKind) : iaddrAE m es (.ptr id sz e j) (.int k 6) = if 6 < m then some (.ptr id sz e (j + 6 * es)) else none := by
  simp only [iaddrAE]; by_cases h : 6 < m
  · rw [if_pos h, if_pos (by omega)]; rfl
  · rw [if_neg h, if_neg (by omega)]
theorem idxAE_l6 (agg : Bool) (m es : Nat) (cs : List V) (k : IntKind) : idxAE agg m es (.agg cs) (.int k 6) = if 6 < m then loadC agg es (cs.drop (6 * es)) else none := by
  simp only [idxAE]; by_cases h : 6 < m
  · rw [if_pos h, if_pos (by omega)]; rfl
  · rw [if_neg h, if_neg (by omega)]
theorem iaddrAE_p7 (m es id sz e j : Nat) (k : IntKind) : iaddrAE m es (.ptr id sz e j) (.int k 7) = if 7 < m then some (.ptr id sz e (j + 7 * es)) else none := by
  simp only [iaddrAE]; by_cases h : 7 < m
  · rw [if_pos h, if_pos (by omega)]; rfl
  · rw [if_neg h, if_neg (by omega)]
theorem idxAE_l7 (agg : Bool) (m es : Nat) (cs : List V) (k : IntKind) : idxAE agg m es (.agg cs) (.int k 7) = if 7 < m then loadC agg es (cs.drop (7 * es)) else none := by
  simp only [idxAE]; by_cases h : 7 < m
  · rw [if_pos h, if_pos (by omega)]; rfl
  · rw [if_neg h, if_neg (by omega)]
theorem iaddrAE_nat (m es id sz e j : Nat) (k : IntKind) (i : Nat) : iaddrAE m es (.ptr id sz e j) (.int k (i : Int)) = if i < m then some (.ptr id sz e (j + i * es)) else none := by simp [iaddrAE]
theorem iaddrAE_bnat (m es : Nat) (cs : List V) (k : IntKind) (i : Nat) : iaddrAE m es (.box cs) (.int k (i : Int)) = if i < m then some (.box (cs.drop (i * es))) else none := by simp [iaddrAE]
theorem iaddrE_r0 (sz id off len : Nat) (k : IntKind) : iaddrE sz (.ref id off len sz) (.int k 0) = if 0 < len then some (.ptr id sz off 0) else none := by
  simp [iaddrE]
theorem iaddrE_s0 (sz : Nat) (xs : List V) (k : IntKind) : iaddrE sz (.sl sz xs) (.int k 0) = (xs[0]?).map fun e => .box e.cells := by simp [iaddrE]
theorem bndE_nat (k : IntKind) (m most : Nat) : bndE (.int k (m : Int)) most = if m ≤ most then some m else none := by
  simp [bndE]
theorem appE_row' (sz bytes id len lk : Nat) (xs ys : List V) (σ : Sto) (n : Nat) : appE (some (.row sz xs)) sz bytes id len lk ys σ n =
    if (len = xs.length ∨ len < xs.length) ∧ lk ≤ id ∧ (len + ys.length) * bytes ≤ LIM then some (.ref n 0 (len + ys.length) sz, upd (upd σ id none) n (some (.row sz ((if len = xs.length then xs else xs.take len) ++ ys))), n + 1) else none := by
  have e : (len ≤ xs.length) = (len = xs.length ∨ len < xs.length) := by simp only [eq_iff_iff]; omega
  simp only [appE, e, true_and]
  split
  · split
    · rename_i h; simp [h]
    · rfl
  · rfl

theorem elemM_int (f : V → Option V) (k : IntKind) (n : Int) : elemM f (.int k n) = f (.int k n) := rfl
theorem elemM_bool (f : V → Option V) (b : Bool) : elemM f (.bool b) = f (.bool b) := rfl
theorem elemM_nilS (f : V → Option V) : elemM f .nilS = f .nilS := rfl
theorem elemM_sl (f : V → Option V) (sz : Nat) (xs : List V) : elemM f (.sl sz xs) = f (.sl sz xs) := rfl
theorem elemM_ref (f : V → Option V) (i o l s : Nat) : elemM f (.ref i o l s) = f (.ref i o l s) := rfl
theorem elemM_agg (f : V → Option V) (cs : List V) : elemM f (.agg cs) = (cs.mapM f).map .agg := rfl

/-- A call on trees that hands back no rows of its own. -/
theorem callE_tr {f : Nat} {args : List V} {r : V} (hm : T.mode f ≠ .raw) (hr : res T f args = some r) (ht : args.all (Tr 12) = true) (hn : Nw 12 r = true)
    (fs : Bool) (σ : Sto) (n lk : Nat) : callE T fs f args σ n lk = some (r, σ, n) := by
  rw [callE_eq hm]
  rw [List.all_eq_true] at ht
  rw [mapM_id (fun c hc => (frz_tr σ 12 c (ht c hc)).1), callR_some, hr, retE_some]
  have : args.flatMap (rch σ 12) = [] := List.flatMap_eq_nil_iff.2 fun c hc => (frz_tr σ 12 c (ht c hc)).2
  rw [this, backE_nil, thaw_nw σ n 12 r hn]

theorem all_Tr_nil (k : Nat) : ([] : List V).all (Tr k) = true := rfl
theorem Tr_int (k : Nat) (i : IntKind) (x : Int) : Tr (k + 1) (.int i x) = true := rfl
theorem Tr_bool (k : Nat) (x : Bool) : Tr (k + 1) (.bool x) = true := rfl
theorem Tr_agg (k : Nat) (xs : List V) : Tr (k + 1) (.agg xs) = xs.all (Tr k) := rfl
theorem Tr_bnd (k : Nat) (f : Nat) (xs : List V) : Tr (k + 1) (.bnd f xs) = xs.all (Tr k) := rfl
theorem Tr_fn (k : Nat) (f : Nat) (xs : List V) : Tr (k + 1) (.fn f xs) = xs.all (Tr k) := rfl
theorem Tr_mono : ∀ {k : Nat} {v : V}, Tr k v = true → Tr (k + 1) v = true
  | 0, _, h => by simp [Tr] at h
  | k + 1, v, h => by
    cases v <;> simp only [Tr, List.all_eq_true] at h ⊢ <;> first | exact h | exact fun c hc => Tr_mono (h c hc) | exact Tr_mono h

end Go.Q
end

section
/- A statement's row, out of a call that returns true. -/
set_option linter.unusedSimpArgs false
set_option linter.unusedVariables false
set_option linter.unusedSectionVars false
namespace Go.Q

/-- Another name for what is written down. -/
def Enc.map {P : Program} {t : TypeId} {α β : Type} (E : Enc P t α) (g : α → β) (val : β → V) (ok : β → Prop) (hv : ∀ a, E.ok a → E.val a = val (g a)) (ho : ∀ a, E.ok a → ok (g a)) : Enc P t β where
  val := val
  ok := ok
  opens := fun h hw => by
    obtain ⟨a, h1, h2⟩ := E.opens h hw
    exact ⟨g a, ho a h1, by rw [← hv a h1]; exact h2⟩

theorem weights_at {H : Type} {P : Program} {ts : List TypeId} {ds : List (DataW H)} {j : Nat} {t : TypeId} {d : DataW H}
    (hsz : (DataW.weightsEach P ts ds).all (· ≤ reachBytes) = true) (ht : ts[j]? = some t) (hd : ds[j]? = some d) : ∀ n ∈ d.weights P t, n ≤ reachBytes := fun n hn => by
  have := List.all_eq_true.1 hsz n (DataW.weights_mem_each ht hd n hn)
  simpa using this

theorem reach_eq : reachBytes = 140737488351232 := rfl

theorem okWide_arr' {P : Program} {w : World} {r : Reach} {base : Nat} {t e : TypeId} {n : Nat} {v : Value} (ht : P.underlying t = some (.array n e)) (h : Value.okWide P w r base t v) : ∃ cs, v = .agg cs ∧ cs.size = P.cellsOf t := by
  unfold Value.okWide at h
  rw [ht] at h
  obtain ⟨cs, h1, h2, -⟩ := h
  exact ⟨cs, h1, h2⟩

/-- A struct or an array. -/
theorem rep_agg {P : Program} {t : TypeId} {α : Type} (E : Enc P t α) {H : Type} {enc : TypeId × Value → H} {W : World} {held : Bool} {us : Array Value} {d : DataW H} {p : List MemPlace}
    (h : DataW.Trod enc P W 0 (fun _ => true) held t (.agg us) d p) (hwt : ∀ n ∈ d.weights P t, n ≤ reachBytes) (hv : ∀ a, ∃ cs, E.val a = .agg cs) :
    ∃ a, E.ok a ∧ Rep W (fun _ => False) (fun _ => 0) 0 (E.val a) (.agg us) := by
  letI : Link := ⟨fun _ _ _ => False⟩
  obtain ⟨fuel, hf⟩ := h
  obtain ⟨a, hok, h1, hc, -⟩ := E.opens hf hwt
  obtain ⟨cs, hcs⟩ := hv a
  refine ⟨a, hok, ?_⟩
  rw [hcs] at h1 hc ⊢
  have e : (Value.agg us).cells = us := rfl
  rw [e] at h1 hc
  refine .agg cs us (by simpa [V.cells] using h1) (fun i e u he hu => hc i e u he ?_)
  rw [Array.getElem?_toList]
  exact hu

end Go.Q
end

section
/- Loops that count. -/
set_option linter.unusedSimpArgs false
set_option linter.unusedVariables false
namespace Go.Q

variable {T : Tab}

/-- What stands behind the body of a loop that counts. -/
def forQ (i : Nat) (y : Opd) (u k j N lk : Nat) (I : (Nat → V) → Sto → Nat → Prop) (Q : Ex → St → Prop) : Ex → St → Prop
  | .normal, s => s.lk = lk ∧ s.env i = .int .i64 (j : Int) ∧ vl s.env y = .int .i64 (N : Int) ∧ I (pt (pt s.env u (.int .i64 ((j + 1 : Nat) : Int))) i (.int .i64 ((j + 1 : Nat) : Int))) s.σ s.n
  | .exit e, s => if e = k then s.lk = lk ∧ s.env i = .int .i64 (j : Int) ∧ vl s.env y = .int .i64 (N : Int) ∧ I (pt (pt s.env u (.int .i64 ((j + 1 : Nat) : Int))) i (.int .i64 ((j + 1 : Nat) : Int))) s.σ s.n
      else Q (.exit e) s
  | .ret, s => Q .ret s
theorem forQ_normal (i : Nat) (y : Opd) (u k j N lk lk' : Nat) (I : (Nat → V) → Sto → Nat → Prop) (Q : Ex → St → Prop) (env : Nat → V) (σ : Sto) (n : Nat) :
    forQ i y u k j N lk I Q .normal ⟨env, σ, n, lk'⟩ = (lk' = lk ∧ env i = .int .i64 (j : Int) ∧ vl env y = .int .i64 (N : Int) ∧ I (pt (pt env u (.int .i64 ((j + 1 : Nat) : Int))) i (.int .i64 ((j + 1 : Nat) : Int))) σ n) := rfl
theorem forQ_exit (i : Nat) (y : Opd) (u k j N lk lk' e : Nat) (I : (Nat → V) → Sto → Nat → Prop) (Q : Ex → St → Prop) (env : Nat → V) (σ : Sto) (n : Nat) :
    forQ i y u k j N lk I Q (.exit e) ⟨env, σ, n, lk'⟩ = if e = k then (lk' = lk ∧ env i = .int .i64 (j : Int) ∧ vl env y = .int .i64 (N : Int) ∧ I (pt (pt env u (.int .i64 ((j + 1 : Nat) : Int))) i (.int .i64 ((j + 1 : Nat) : Int))) σ n) else Q (.exit e) ⟨env, σ, n, lk'⟩ := rfl
theorem forQ_ret (i : Nat) (y : Opd) (u k j N lk : Nat) (I : (Nat → V) → Sto → Nat → Prop) (Q : Ex → St → Prop) (s : St) : forQ i y u k j N lk I Q .ret s = Q .ret s := rfl

/-- The code of such a loop. -/
abbrev forC (g i u k b : Nat) (y : Opd) (body : AC) : AC :=
  .loop (.seq (.reg [⟨some g, none, .bin .lss (.tmp i) y⟩]) (.seq (.cond (.tmp g) .skip (.exit b)) (.seq (.block k body)
    (.reg [⟨some u, none, .bin .add (.tmp i) (.con (.int .i64 1))⟩, ⟨some i, none, .mov (.tmp u)⟩]))))

theorem WC_monoQ {c : AC} {env : Nat → V} {σ : Sto} {n lk : Nat} {Q Q' : Ex → St → Prop} (h : WC T c env σ n lk Q) (hq : ∀ e s, Q e s → Q' e s) : wpC T (run T) c ⟨env, σ, n, lk⟩ Q' :=
  wpC_mono (fun _ _ x => x) run_mono c _ _ _ hq (WC_ok c _ _ _ _ _ h)

theorem wpC_reg {ops : List AOp} {env : Nat → V} {σ : Sto} {n lk : Nat} {Q : Ex → St → Prop} (h : WR T ops env σ n lk (Q .normal)) : wpC T (run T) (.reg ops) ⟨env, σ, n, lk⟩ Q := WR_ok _ _ _ _ _ _ h

theorem WC_for {g i u k b : Nat} {y : Opd} {body : AC} {Q : Ex → St → Prop} (N : Nat) (lk : Nat) (I : Nat → (Nat → V) → Sto → Nat → Prop)
    (hN : N < 9223372036854775808) (hiu : i ≠ u) (hgi : i ≠ g) (hgy : ∀ (env : Nat → V) (v : V), vl (pt env g v) y = vl env y) (huy : ∀ (env : Nat → V) (v w : V), vl (pt (pt env u v) i w) y = vl env y)
    (hbody : ∀ j env σ n, j < N → env i = .int .i64 (j : Int) → vl env y = .int .i64 (N : Int) → I j env σ n → WC T body (pt env g (.bool true)) σ n lk (forQ i y u k j N lk (I (j + 1)) Q))
    (hend : ∀ env σ n, I N env σ n → env i = .int .i64 (N : Int) → vl env y = .int .i64 (N : Int) → Q (.exit b) ⟨pt env g (.bool false), σ, n, lk⟩)
    (env : Nat → V) (σ : Sto) (n : Nat) (h1 : env i = .int .i64 0) (h2 : vl env y = .int .i64 (N : Int)) (h0 : I 0 env σ n) : WC T (forC g i u k b y body) env σ n lk Q := by
  have key : ∀ (m j : Nat) (env : Nat → V) (σ : Sto) (n : Nat), N - j < m → j ≤ N → env i = .int .i64 (j : Int) → vl env y = .int .i64 (N : Int) → I j env σ n →
      wpC T (run T) (forC g i u k b y body) ⟨env, σ, n, lk⟩ Q := by
    intro m
    induction m with
    | zero => intro j _ _ _ h; omega
    | succ m ih =>
      intro j env σ n hm hj h1 h2 hI
      show loopW (wpC T (run T) _) _ _
      refine loopW_step (fun s Q Q' hq hh => wpC_mono (fun _ _ x => x) run_mono _ s Q Q' hq hh) ?_
      simp only [wpC]
      refine WR_ok _ _ _ _ _ _ ?_
      simp only [WR_cons, evw_bin, vl_tmp, h1, h2, bin_lss, r1_some, stepW_some, WR_nil, ptO_some, thenW]
      simp only [St.val, pt_get, if_true]
      have hnext : ∀ (env' : Nat → V) (σ' : Sto) (n' lk' : Nat), lk' = lk → env' i = .int .i64 (j : Int) → vl env' y = .int .i64 (N : Int) → j < N →
          I (j + 1) (pt (pt env' u (.int .i64 ((j + 1 : Nat) : Int))) i (.int .i64 ((j + 1 : Nat) : Int))) σ' n' →
          wpR T (run T) [⟨some u, none, .bin .add (.tmp i) (.con (.int .i64 1))⟩, ⟨some i, none, .mov (.tmp u)⟩] ⟨env', σ', n', lk'⟩ fun s' => loopW (wpC T (run T) (.seq (.reg [⟨some g, none, .bin .lss (.tmp i) y⟩]) (.seq (.cond (.tmp g) .skip (.exit b)) (.seq (.block k body)
    (.reg [⟨some u, none, .bin .add (.tmp i) (.con (.int .i64 1))⟩, ⟨some i, none, .mov (.tmp u)⟩]))))) s' Q := by
        intro env' σ' n' lk' hl e1 e2 hjN hI'
        subst hl
        refine WR_ok _ _ _ _ _ _ ?_
        have hw : IntKind.i64.wrap ((j : Int) + 1) = ((j + 1 : Nat) : Int) := by rw [wrap_i64] <;> omega
        simp only [WR_cons, evw_bin, vl_tmp, vl_con, e1, bin_add, r1_some, stepW_some, WR_nil, ptO_some, hw, evw_mov, pt_get, if_true]
        refine ih (j + 1) _ _ _ (by omega) (by omega) (by simp [pt_get]) ?_ hI'
        rw [huy]; exact e2
      by_cases hjN : j < N
      · have hd : decide ((j : Int) < (N : Int)) = true := by simp [hjN]
        simp only [hd]
        have hb := hbody j env σ n hjN h1 h2 hI
        refine WC_monoQ hb fun e s hs => ?_
        obtain ⟨env', σ', n', lk'⟩ := s
        cases e with
        | normal =>
          simp only [forQ_normal] at hs
          simp only [blockW, thenW]
          exact hnext _ _ _ _ hs.1 hs.2.1 hs.2.2.1 hjN hs.2.2.2
        | exit e =>
          simp only [forQ_exit] at hs
          simp only [blockW]
          split at hs <;> rename_i hek
          · rw [if_pos hek]
            exact hnext _ _ _ _ hs.1 hs.2.1 hs.2.2.1 hjN hs.2.2.2
          · rw [if_neg hek]
            exact hs
        | ret => exact hs
      · have hd : decide ((j : Int) < (N : Int)) = false := by simp; omega
        have hjN : j = N := by omega
        subst hjN
        simp only [hd]
        exact hend env σ n hI h1 h2
  exact key (N + 1) 0 env σ n (by omega) (by omega) h1 h2 h0

end Go.Q
end

section
/- The rules in two bundles. -/
set_option linter.unusedVariables false
set_option linter.defProp false
namespace Go.Q
/-- Rules for the head. -/
def wP := And.intro @WC_skip (And.intro @WC_ret (And.intro @WC_exit (And.intro @WC_block (And.intro @WC_seq (And.intro @WC_cond (And.intro @WC_reg (And.intro @WC_regd (And.intro @WR_nil (And.intro @WR_cons (And.intro @WR_consG (And.intro @WD_nil (And.intro @WD_cons (And.intro @WD_consG (And.intro @WS_nil (And.intro @WS_cons0 (And.intro @WS_cons (And.intro @seqQ_normal (And.intro @seqQ_exit (And.intro @seqQ_ret (And.intro @blockW_normal (And.intro @blockW_ret (And.intro @blockW_exit (And.intro @norQ_st (And.intro @segQ_st (And.intro @aftD_st (And.intro @forQ_normal (And.intro @forQ_exit (And.intro @forQ_ret (And.intro @lpQ_normal (And.intro @lpQ_exit (And.intro @lpQ_ret (And.intro @endR_ret (And.intro @endR_normal (And.intro @endQ_ret (@endQ_normal)))))))))))))))))))))))))))))))))))
/-- Rules for what stands within. -/
def wQ := And.intro @condC_true (And.intro @condC_false (And.intro @stepW_some (And.intro @stepDW_some (And.intro @out_nil (And.intro @outQ_eq (And.intro @outQ_some (And.intro @out_tmp (And.intro @out_two (And.intro @out_three (And.intro @out_cell (And.intro @out_ct (And.intro @out_cc (And.intro @cellR_ptr (And.intro @ptO_some (And.intro @ptO_none (And.intro @pt_get (And.intro @vl_tmp (And.intro @vl_con (And.intro @cv_true (And.intro @cv_not (And.intro @gev_not (And.intro @gevn_true (And.intro @gevn_false (And.intro @gevn_some (And.intro @wantsV_cvn (And.intro @cv_false (And.intro @cv_bool_and (And.intro @cv_bool_or (And.intro @cv_bool_imp (And.intro @cv_bool_nand (And.intro @cv_int (And.intro @cv_same (And.intro @gev_true (And.intro @gev_false (And.intro @gev_some (And.intro @wantsV_bool (And.intro @wantsV_undef (And.intro @wantsV_cv (And.intro @dE_pure (And.intro @dE_read (And.intro @dE_lay (And.intro @layS_some (And.intro @lowS_some (And.intro @dE_wrl (And.intro @dE_wr0 (And.intro @dE_low0 (And.intro @dE_lowl (And.intro @wrS_some (And.intro @hide_nil (And.intro @keepS_some (And.intro @evw_mov (And.intro @evw_pick (And.intro @evw_alloc (And.intro @evw_box (And.intro @evw_build (And.intro @evw_lit (And.intro @evw_load (And.intro @evw_store (And.intro @evw_nilck (And.intro @evw_bin (And.intro @evw_eqB (And.intro @evw_eqA (And.intro @evw_eqN (And.intro @evw_eqF (And.intro @evw_un (And.intro @evw_conv (And.intro @evw_mkfn (And.intro @evw_mkbnd (And.intro @evw_mksl (And.intro @evw_slice (And.intro @evw_sliceS (And.intro @evw_faddr (And.intro @evw_fld (And.intro @evw_iaddr (And.intro @evw_iaddrA (And.intro @evw_idxA (And.intro @evw_idxS (And.intro @evw_ext (@evw_len)))))))))))))))))))))))))))))))))))))))))))))))))))))))))))))))))))))))))))))))
def wQ1 := And.intro @evw_lenS (And.intro @evw_min (And.intro @evw_max (And.intro @evw_append (And.intro @evw_mkif (And.intro @evw_tas (And.intro @tasE_iface (And.intro @evw_inv (And.intro @invE_some (And.intro @invOf_cons (And.intro @recvOf_self (And.intro @recvOf_ptr (And.intro @evw_call (And.intro @evw_callv (And.intro @rowO_row (And.intro @r1_some (And.intro @pickE_bool (And.intro @loadE_ptr (And.intro @loadE_box (And.intro @loadC_one (And.intro @loadC_agg (And.intro @putE_ptr (And.intro @putR_row (And.intro @putX_some (And.intro @spl_agg (And.intro @spl_int (And.intro @spl_bool (And.intro @spl_str (And.intro @spl_nilS (And.intro @spl_nilF (And.intro @spl_nilP (And.intro @spl_nilI (And.intro @spl_undef (And.intro @spl_sl (And.intro @spl_ref (And.intro @spl_ptr (And.intro @spl_box (And.intro @spl_fn (And.intro @spl_bnd (And.intro @spl_iface (And.intro @spl_slV (And.intro @nilckE_ptr (And.intro @nilckE_box (And.intro @nilckE_fn (And.intro @eqBE_bool (And.intro @eqAE_agg (And.intro @eqNE_nil (And.intro @eqNE_sl (And.intro @eqNE_ref (And.intro @eqFE_nil (And.intro @eqFE_fn (And.intro @convE_int (And.intro @mkslE_int (And.intro @boundOf_none (And.intro @boundOf_some (And.intro @sliceE_sl (And.intro @sliceE_ref (And.intro @sliceSE_str (And.intro @faddrE_ptr (And.intro @faddrE_box (And.intro @fldE_agg (And.intro @iaddrE_sl (And.intro @iaddrE_ref (And.intro @idxAE_nat (And.intro @extE_tup (And.intro @lenE_nil (And.intro @lenE_sl (And.intro @lenE_ref (And.intro @lenSE_str (And.intro @minV_int (And.intro @maxV_int (And.intro @mmE_one (And.intro @mmE_two (And.intro @mmE_three (And.intro @appendE_ref (And.intro @appE_row' (And.intro @bndE_nat (And.intro @iaddrE_r0 (And.intro @iaddrE_s0 (@iaddrAE_nat)))))))))))))))))))))))))))))))))))))))))))))))))))))))))))))))))))))))))))))))
def wQ2 := And.intro @iaddrAE_bnat (And.intro @iaddrAE_p0 (And.intro @idxAE_l0 (And.intro @iaddrAE_p1 (And.intro @idxAE_l1 (And.intro @iaddrAE_p2 (And.intro @idxAE_l2 (And.intro @iaddrAE_p3 (And.intro @idxAE_l3 (And.intro @iaddrAE_p4 (And.intro @idxAE_l4 (And.intro @iaddrAE_p5 (And.intro @idxAE_l5 (And.intro @iaddrAE_p6 (And.intro @idxAE_l6 (And.intro @iaddrAE_p7 (And.intro @idxAE_l7 (And.intro @elems_nil (And.intro @elems_sl (And.intro @w_elems_ref (And.intro @elemsO_row (And.intro @callvE_fn (And.intro @callvE_bnd (And.intro @callR_some (And.intro @retE_some (And.intro @backE_nil (And.intro @elemM_int (And.intro @elemM_bool (And.intro @elemM_nilS (And.intro @elemM_sl (And.intro @elemM_ref (And.intro @elemM_agg (And.intro @deep_eq (And.intro @frz_int (And.intro @frz_bool (And.intro @frz_str (And.intro @frz_nilS (And.intro @frz_nilF (And.intro @frz_nilP (And.intro @frz_nilI (And.intro @frz_undef (And.intro @frz_sl (And.intro @frz_box (And.intro @frz_fn (And.intro @frz_bnd (And.intro @frz_agg (And.intro @frz_tup (And.intro @frz_ptr (And.intro @rch_int (And.intro @rch_bool (And.intro @rch_str (And.intro @rch_nilS (And.intro @rch_nilF (And.intro @rch_nilP (And.intro @rch_nilI (And.intro @rch_undef (And.intro @rch_sl (And.intro @rch_box (And.intro @rch_fn (And.intro @rch_bnd (And.intro @rch_agg (And.intro @rch_tup (And.intro @rch_ptr (And.intro @bk_int (And.intro @bk_bool (And.intro @bk_str (And.intro @thaw_int (And.intro @thaw_bool (And.intro @thaw_str (And.intro @thaw_nilS (And.intro @thaw_sl (And.intro @thaw_own (And.intro @thaw_agg (And.intro @thaw_tup (And.intro @thawL_nil (And.intro @thawL_cons (And.intro @bin_add (And.intro @bin_sub (And.intro @bin_mul (@bin_eql)))))))))))))))))))))))))))))))))))))))))))))))))))))))))))))))))))))))))))))))
def wQ3 := And.intro @bin_neq (And.intro @bin_lss (And.intro @bin_leq (And.intro @bin_gtr (And.intro @bin_geq (And.intro @un_not (And.intro @upd_get (And.intro @empty_get (And.intro @envOf_0 (And.intro @envOf_1 (And.intro @envOf_2 (And.intro @envOf_3 (And.intro @envOf_4 (And.intro @envOf_5 (And.intro @one_int (And.intro @one_bool (And.intro @one_str (And.intro @one_nilS (And.intro @one_nilF (And.intro @one_nilP (And.intro @one_nilI (And.intro @one_sl (And.intro @one_ref (And.intro @one_ptr (And.intro @one_box (And.intro @one_fn (And.intro @one_bnd (And.intro @one_iface (And.intro @cl_agg (And.intro @cl_int (And.intro @cl_bool (And.intro @cl_str (And.intro @cl_nilS (And.intro @cl_nilF (And.intro @cl_nilP (And.intro @cl_nilI (And.intro @cl_sl (And.intro @cl_ref (And.intro @cl_ptr (And.intro @cl_box (And.intro @cl_fn (And.intro @cl_bnd (And.intro @cl_iface (And.intro @one_slV (And.intro @cl_slV (And.intro @frz_slV (And.intro @rch_slV (And.intro @thaw_slV (And.intro @lenE_slV (And.intro @iaddrE_slV (And.intro @iaddrE_slV0 (And.intro @elems_slV (And.intro @eqNE_slV (@sliceE_slV)))))))))))))))))))))))))))))))))))))))))))))))))))))
/-- Plain rules. -/
def wR := And.intro @List.take_length.{0} (And.intro @Nat.zero_add (And.intro @Nat.add_zero (And.intro @Nat.mul_zero (And.intro @Nat.le_refl (And.intro @Nat.zero_le (And.intro @Nat.one_ne_zero (And.intro @Nat.zero_ne_one (And.intro @List.map_cons.{0,0} (And.intro @List.map_nil.{0,0} (And.intro @List.mapM_cons.{0,0,0} (And.intro @List.mapM_nil.{0,0,0} (And.intro @List.flatMap_cons.{0,0} (And.intro @List.flatMap_nil.{0,0} (And.intro @List.append_nil.{0} (And.intro @List.nil_append.{0} (And.intro @List.cons_append.{0} (And.intro @List.drop_zero.{0} (And.intro @List.drop_succ_cons.{0} (And.intro @List.take_zero.{0} (And.intro @List.take_succ_cons.{0} (And.intro @List.take_nil.{0} (And.intro @List.drop_nil.{0} (And.intro @List.length_cons.{0} (And.intro @List.length_nil.{0} (And.intro @List.getElem?_cons_zero.{0} (And.intro @List.getElem?_cons_succ.{0} (And.intro @List.getElem?_nil.{0} (And.intro @List.set_cons_zero.{0} (And.intro @List.set_cons_succ.{0} (And.intro @List.all_cons.{0} (And.intro @List.all_nil.{0} (And.intro @Option.bind_some.{0,0} (And.intro @Option.bind_none.{0,0} (And.intro @Option.map_some.{0,0} (And.intro @Option.map_none.{0,0} (And.intro @Option.pure_def.{0} (And.intro @Option.bind_eq_bind.{0} (And.intro @Bool.and_true (And.intro @Bool.true_and (And.intro @Bool.and_self (And.intro @Bool.or_false (And.intro @Bool.false_or (And.intro @Bool.and_false (And.intro @Bool.false_and (And.intro @Bool.or_true (And.intro @Bool.true_or (And.intro @Bool.not_true (And.intro @Bool.not_false (And.intro @Bool.not_not (And.intro @decide_true (And.intro @decide_false (And.intro @and_self (And.intro @and_true (And.intro @true_and (And.intro @beq_self_eq_true.{0} (And.intro @beq_true (And.intro @beq_false (And.intro @bne_self_eq_false.{0} (And.intro @Bool.false_eq_true (And.intro @Nat.zero_lt_succ (And.intro @Nat.zero_lt_one (And.intro @Nat.add_assoc (And.intro @Nat.left_eq_add (@Nat.add_eq_left))))))))))))))))))))))))))))))))))))))))))))))))))))))))))))))))
end Go.Q
end
