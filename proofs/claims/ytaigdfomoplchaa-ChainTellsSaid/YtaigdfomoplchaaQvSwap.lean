/- Operations that draw their order: the evaluator's word is the same in every order. -/
import Derived.Test.YtaigdfomoplchaaQvCode
set_option linter.unusedSimpArgs false
set_option linter.unusedVariables false
namespace Go.Q

theorem partsOf_congr {ρ ρ' : Opd → V} : ∀ (ps : List (Nat × Nat × Opd)) (z : List V), (∀ p ∈ ps, ρ p.2.2 = ρ' p.2.2) → partsOf ρ z ps = partsOf ρ' z ps
  | [], z, _ => rfl
  | (off, size, x) :: ps, z, h => by
    have h0 : ρ x = ρ' x := h (off, size, x) (by simp)
    simp only [partsOf, h0]
    split
    · exact partsOf_congr ps _ (fun p hp => h p (List.mem_cons_of_mem _ hp))
    · rfl

theorem boundOf_congr {ρ ρ' : Opd → V} {o : Option Opd} {d most : Nat} (h : ∀ x, o = some x → ρ x = ρ' x) : boundOf ρ o d most = boundOf ρ' o d most := by
  cases o with
  | none => rfl
  | some x => simp only [boundOf, h x rfl]

theorem ev_congr {ρ ρ' : Opd → V} {σ : Sto} {n lk : Nat} {ai : AI} (h : ∀ x ∈ ai.opds, ρ x = ρ' x) : ev ρ σ n lk ai = ev ρ' σ n lk ai := by
  cases ai <;> simp only [AI.opds] at h
  case build z ps => simp only [ev, partsOf_congr ps z (fun p hp => h _ (List.mem_map.2 ⟨p, hp, rfl⟩))]
  case lit sz es =>
    have h1 : es.map ρ = es.map ρ' := List.map_congr_left (fun x hx => h x hx)
    have h2 : (es.all fun x => decide ((ρ x).cells.length = sz) && (ρ x).cells.all V.one) = es.all fun x => decide ((ρ' x).cells.length = sz) && (ρ' x).cells.all V.one := by
      apply Bool.eq_iff_iff.2
      simp only [List.all_eq_true]
      exact ⟨fun hh x hx => by rw [← h x hx]; exact hh x hx, fun hh x hx => by rw [h x hx]; exact hh x hx⟩
    simp only [ev, h1, h2]
  case mkfn f es => simp only [ev, List.map_congr_left (fun x hx => h x hx)]
  case min es => simp only [ev, List.map_congr_left (fun x hx => h x hx)]
  case max es => simp only [ev, List.map_congr_left (fun x hx => h x hx)]
  case slice sz x lo hi =>
    have h0 := h x (by simp)
    have h1 : ∀ d m, boundOf ρ lo d m = boundOf ρ' lo d m := fun d m => boundOf_congr (fun y hy => h y (by simp [hy]))
    have h2 : ∀ d m, boundOf ρ hi d m = boundOf ρ' hi d m := fun d m => boundOf_congr (fun y hy => h y (by simp [hy]))
    simp only [ev, h0, h1, h2]
  case sliceS x lo hi =>
    have h0 := h x (by simp)
    have h1 : ∀ d m, boundOf ρ lo d m = boundOf ρ' lo d m := fun d m => boundOf_congr (fun y hy => h y (by simp [hy]))
    have h2 : ∀ d m, boundOf ρ hi d m = boundOf ρ' hi d m := fun d m => boundOf_congr (fun y hy => h y (by simp [hy]))
    simp only [ev, h0, h1, h2]
  case call => simp [ev]
  case callv => simp [ev]
  all_goals
    first
      | rfl
      | simp only [ev, h _ (List.mem_cons_self ..), h _ (List.mem_cons_of_mem _ (List.mem_cons_self ..)), h _ (List.mem_cons_of_mem _ (List.mem_cons_of_mem _ (List.mem_cons_self ..)))]
      | simp only [ev, h _ (List.mem_cons_self ..), h _ (List.mem_cons_of_mem _ (List.mem_cons_self ..))]
      | simp only [ev, h _ (List.mem_cons_self ..)]

section
variable {T : Tab} {C : Calls'}

theorem opW_congr {fs : Bool} {ρ ρ' : Opd → V} {σ : Sto} {n lk : Nat} {ai : AI} {Q : V → Sto → Nat → Prop} (h : ∀ x ∈ ai.opds, ρ x = ρ' x)
    (hh : opW T C fs ρ σ n lk ai Q) : opW T C fs ρ' σ n lk ai Q := by
  have he := ev_congr (σ := σ) (n := n) (lk := lk) h
  unfold opW at *
  split at hh
  · simp only [AI.opds] at h
    rwa [List.map_congr_left (fun x hx => h x hx)] at hh
  · simp only [AI.opds] at h
    rename_i g args
    rw [h g (by simp)] at hh
    rw [List.map_congr_left (fun x hx => h x (List.mem_cons_of_mem _ hx))] at hh
    exact hh
  · rw [he] at hh; exact hh

/-- What an operation comes to is one thing, where nothing is written that was there. -/
theorem opW_out {ρ : Opd → V} {σ : Sto} {n lk : Nat} {ai : AI} {Q : V → Sto → Nat → Prop} (h : opW T C false ρ σ n lk ai Q) :
    ∃ v σ' n', Q v σ' n' ∧ ∀ Q' : V → Sto → Nat → Prop, Q' v σ' n' → opW T C false ρ σ n lk ai Q' := by
  have call : ∀ {f args}, callW T C false f args σ n lk Q → ∃ v σ' n', Q v σ' n' ∧ ∀ Q' : V → Sto → Nat → Prop, Q' v σ' n' → callW T C false f args σ n lk Q' := by
    intro f args hc
    unfold callW at *
    cases hm : T.mode f <;> simp only [hm] at hc ⊢
    case raw => simp at hc
    all_goals
      obtain ⟨ts, h1, r, h2, D, h3, h4, h5, h6⟩ := hc
      exact ⟨_, _, _, h6, fun Q' hq => ⟨ts, h1, r, h2, D, h3, h4, h5, hq⟩⟩
  unfold opW at *
  split at h
  · exact call h
  · split at h
    · exact call h
    · simp at h
    · exact h.elim
  · split at h
    · rename_i v σ' n' he
      exact ⟨v, σ', n', h, fun Q' hq => hq⟩
    · exact h.elim

def DOp.lab (d : DOp) (n0 : Nat) : Nat := n0 + BIG * d.rank
def DOp.view (d : DOp) (n0 : Nat) (σ : Sto) : Sto := if d.pure then Sto.empty else if d.wr then σ else hide σ n0 (d.lab n0) d.hid
def DOp.fin (d : DOp) (n0 : Nat) (σ σo : Sto) : Sto := if d.pure then σ else if d.wr then σo else if d.lays then merge σ σo (d.lab n0) else σ
def DOp.lok (d : DOp) (n0 lk : Nat) : Nat := if d.wr && !d.pure then lk else d.lab n0
def DOp.top (d : DOp) (n0 : Nat) : Nat := d.lab n0 + (if d.lays then BIG else 0)

theorem opD_eq (d : DOp) (ρ : Opd → V) (σ : Sto) (n0 lk : Nat) (Q : V → Sto → Prop) :
    opD T C d ρ σ n0 lk Q = opW T C false ρ (d.view n0 σ) (d.lab n0) (d.lok n0 lk) d.o.op fun v σo n' => n' ≤ d.top n0 ∧ Q v (d.fin n0 σ σo) := rfl

def stepD (T : Tab) (C : Calls') (n0 : Nat) (d : DOp) (s : St) (K : St → Prop) : Prop :=
  if wants d.o.guard s.env then opD T C d s.val s.σ n0 s.lk fun v σ' => K ({ s with σ := σ' }.put d.o.dst v) else K (s.put d.o.dst .undef)

theorem wpD_cons (n0 : Nat) (d : DOp) (ds : List DOp) (s : St) (Q : St → Prop) : wpD T C n0 (d :: ds) s Q = stepD T C n0 d s (fun s' => wpD T C n0 ds s' Q) := rfl

/-- Which operations' ranges are apart. -/
def Sep (d e : DOp) : Prop := pairOk d e = true ∧ d.rank + (if d.lays then 1 else 0) ≤ e.rank

theorem pairOk_spec {a b : DOp} (h : pairOk a b = true) : (∀ t, a.o.dst = some t → t ∉ b.o.reads) ∧ (∀ t, b.o.dst = some t → t ∉ a.o.reads) ∧ (∀ t, a.o.dst = some t → b.o.dst ≠ some t) ∧
    (a.wr = true → b.pure = true) ∧ (b.wr = true → a.pure = true) ∧ (b.calm = true → a.lays = true → a.rank ∈ b.hid) ∧ (a.calm = true → b.lays = true → b.rank ∈ a.hid) := by
  simp only [pairOk, Bool.and_eq_true, Bool.not_eq_true', Bool.or_eq_true, Bool.not_eq_true, List.contains_iff_mem] at h
  obtain ⟨⟨⟨⟨⟨⟨h1, h2⟩, h3⟩, h4⟩, h5⟩, h6⟩, h7⟩ := h
  refine ⟨fun t ht hm => ?_, fun t ht hm => ?_, fun t ht hb => ?_, fun hw => ?_, fun hw => ?_, fun hc hl => ?_, fun hc hl => ?_⟩
  · rw [ht] at h1; simp [meets, hm] at h1
  · rw [ht] at h2; simp [meets, hm] at h2
  · rw [ht, hb] at h3; simp [meets] at h3
  · rcases h4 with h | h
    · rw [hw] at h; cases h
    · exact h
  · rcases h5 with h | h
    · rw [hw] at h; cases h
    · exact h
  · rcases h6 with h | h
    · rw [hc, hl] at h; cases h
    · simpa using h
  · rcases h7 with h | h
    · rw [hc, hl] at h; cases h
    · simpa using h

theorem hideR_merge (σ σo : Sto) (n0 rk : Nat) : ∀ (hid : List Nat), rk ∈ hid → hideR (merge σ σo (n0 + BIG * rk)) n0 hid = hideR σ n0 hid ∨
    ∀ id, hideR (merge σ σo (n0 + BIG * rk)) n0 hid id = hideR σ n0 hid id
  | [], h => by simp at h
  | r :: rs, h => by
    right
    intro id
    simp only [hideR]
    split
    · rfl
    · rename_i hn
      have key : ∀ (l : List Nat), ¬ (n0 + BIG * rk ≤ id ∧ id < n0 + BIG * rk + BIG) → hideR (merge σ σo (n0 + BIG * rk)) n0 l id = hideR σ n0 l id := by
        intro l hne
        induction l with
        | nil => simp [hideR, merge, hne]
        | cons q l ih => simp only [hideR]; split; rfl; exact ih
      by_cases he : r = rk
      · subst he; exact key rs hn
      · have hm : rk ∈ rs := by
          rcases List.mem_cons.1 h with h | h
          · exact absurd h.symm he
          · exact h
        rcases hideR_merge σ σo n0 rk rs hm with h1 | h1
        · rw [h1]
        · exact h1 id

theorem view_fin {d e : DOp} (h1 : d.wr = true → e.pure = true) (h2 : e.wr = true → d.pure = true) (h3 : e.calm = true → d.lays = true → d.rank ∈ e.hid) (n0 : Nat) (σ σd : Sto) :
    e.view n0 (d.fin n0 σ σd) = e.view n0 σ := by
  unfold DOp.view DOp.fin
  cases hp : e.pure with
  | true => simp
  | false =>
    cases hw : e.wr with
    | true => simp [h2 hw]
    | false =>
      simp only [Bool.false_eq_true, if_false]
      cases hdp : d.pure with
      | true => simp
      | false =>
        cases hdw : d.wr with
        | true => rw [h1 hdw] at hp; cases hp
        | false =>
          cases hdl : d.lays with
          | false => simp
          | true =>
            simp only [Bool.false_eq_true, if_false, if_true]
            have hm := h3 (by simp [DOp.calm, hp, hw]) hdl
            cases hh : e.hid with
            | nil => rw [hh] at hm; simp at hm
            | cons r rs =>
              rw [hh] at hm
              funext id
              simp only [hide]
              split
              · rcases hideR_merge σ σd n0 d.rank _ hm with h | h
                · exact congrFun h id
                · exact h id
              · rfl

theorem fin_fin {d e : DOp} (h1 : d.wr = true → e.pure = true) (h2 : e.wr = true → d.pure = true) (h3 : d.rank + (if d.lays then 1 else 0) ≤ e.rank) (n0 : Nat) (σ σd σe : Sto) :
    d.fin n0 (e.fin n0 σ σe) σd = e.fin n0 (d.fin n0 σ σd) σe := by
  unfold DOp.fin
  cases hp : e.pure with
  | true => simp
  | false =>
    cases hdp : d.pure with
    | true => simp
    | false =>
      cases hw : e.wr with
      | true => rw [h2 hw] at hdp; cases hdp
      | false =>
        cases hdw : d.wr with
        | true => rw [h1 hdw] at hp; cases hp
        | false =>
          cases hdl : d.lays <;> cases hel : e.lays <;> simp
          rw [hdl] at h3
          simp only [if_true] at h3
          have hr : n0 + BIG * d.rank + BIG ≤ n0 + BIG * e.rank := by
            have := Nat.mul_le_mul_left BIG h3
            rw [Nat.mul_add] at this
            omega
          funext id
          simp only [merge, DOp.lab]
          by_cases a1 : n0 + BIG * d.rank ≤ id ∧ id < n0 + BIG * d.rank + BIG <;> by_cases a2 : n0 + BIG * e.rank ≤ id ∧ id < n0 + BIG * e.rank + BIG <;> simp only [a1, a2, if_true, if_false, and_self]
          omega

theorem val_put {s : St} {σ' : Sto} {dst : Option Nat} {v : V} {x : Opd} (h : ∀ t, dst = some t → x ≠ .tmp t) : (({ s with σ := σ' } : St).put dst v).val x = s.val x := by
  cases x with
  | con c => cases dst <;> rfl
  | tmp t =>
    cases dst with
    | none => rfl
    | some d =>
      have hne : t ≠ d := fun e => h d rfl (by rw [e])
      simp [St.put, St.val, hne]

theorem wants_put {s : St} {σ' : Sto} {dst : Option Nat} {v : V} {g : Option (Nat × Bool)} (h : ∀ t, dst = some t → ∀ b, g ≠ some (t, b)) :
    wants g (({ s with σ := σ' } : St).put dst v).env = wants g s.env := by
  cases g with
  | none => rfl
  | some p =>
    obtain ⟨t, b⟩ := p
    cases dst with
    | none => rfl
    | some d =>
      have hne : t ≠ d := fun e => h d rfl b (by rw [e])
      simp [wants, St.put, hne]

theorem reads_opd {o : AOp} {t : Nat} (h : t ∉ o.reads) : (∀ x ∈ o.op.opds, x ≠ .tmp t) ∧ ∀ b, o.guard ≠ some (t, b) := by
  simp only [AOp.reads, List.mem_append, not_or] at h
  refine ⟨fun x hx e => h.1 ?_, fun b e => h.2 (by rw [e]; simp)⟩
  rw [List.mem_filterMap]
  exact ⟨x, hx, by rw [e]⟩

/-- What a step in a drawn region comes to: nothing, or an outcome. -/
def Outc (T : Tab) (C : Calls') (n0 : Nat) (d : DOp) (s : St) (v : V) (g : Sto → Sto) : Prop :=
  (wants d.o.guard s.env = false ∧ v = .undef ∧ g = fun σ => σ) ∨
  (wants d.o.guard s.env = true ∧ ∃ σo n', (g = fun σ => d.fin n0 σ σo) ∧ n' ≤ d.top n0 ∧
    ∀ Q' : V → Sto → Nat → Prop, Q' v σo n' → opW T C false s.val (d.view n0 s.σ) (d.lab n0) (d.lok n0 s.lk) d.o.op Q')

theorem stepD_iff {n0 : Nat} {d : DOp} {s : St} {K : St → Prop} : stepD T C n0 d s K ↔ ∃ v g, Outc T C n0 d s v g ∧ K ({ s with σ := g s.σ }.put d.o.dst v) := by
  unfold stepD
  constructor
  · intro h
    split at h <;> rename_i hw
    · rw [opD_eq] at h
      obtain ⟨v, σo, n', ⟨h1, h2⟩, h3⟩ := opW_out h
      exact ⟨v, _, .inr ⟨hw, σo, n', rfl, h1, h3⟩, h2⟩
    · exact ⟨.undef, _, .inl ⟨by simpa using hw, rfl, rfl⟩, h⟩
  · rintro ⟨v, g, ⟨hw, rfl, rfl⟩ | ⟨hw, σo, n', rfl, h1, h3⟩, h⟩
    · simpa [hw] using h
    · rw [if_pos hw, opD_eq]; exact h3 _ ⟨h1, h⟩

theorem put_comm {s : St} {σ1 σ2 : Sto} {d e : Option Nat} {v u : V} (h : ∀ t, d = some t → e ≠ some t) :
    ({ ({ s with σ := σ1 } : St).put d v with σ := σ2 } : St).put e u = (({ s with σ := σ2 } : St).put e u).put d v := by
  cases d with
  | none => cases e <;> rfl
  | some d =>
    cases e with
    | none => rfl
    | some e =>
      have hne : d ≠ e := fun hh => h d rfl (by rw [hh])
      simp only [St.put, St.mk.injEq, and_self, and_true]
      funext t
      split
      · rename_i he; subst he; rw [if_neg (Ne.symm hne)]
      · rfl

theorem put_sig {s : St} {σ1 : Sto} {d : Option Nat} {v : V} : (({ s with σ := σ1 } : St).put d v).σ = σ1 := by cases d <;> rfl
theorem put_lk {s : St} {d : Option Nat} {v : V} : (s.put d v).lk = s.lk := by cases d <;> rfl
theorem put_n {s : St} {d : Option Nat} {v : V} : (s.put d v).n = s.n := by cases d <;> rfl

/-- An effect of an operation's. -/
def Eff (d : DOp) (n0 : Nat) (g : Sto → Sto) : Prop := (g = fun σ => σ) ∨ ∃ σo, g = fun σ => d.fin n0 σ σo

theorem Outc.eff {n0 : Nat} {d : DOp} {s : St} {v : V} {g : Sto → Sto} (h : Outc T C n0 d s v g) : Eff d n0 g := by
  rcases h with ⟨-, -, h⟩ | ⟨-, σo, _, h, -⟩
  · exact .inl h
  · exact .inr ⟨σo, h⟩

/-- An operation's outcome hangs on nothing that the other one does. -/
theorem outc_iff {n0 : Nat} {d e : DOp} (p1 : ∀ t, d.o.dst = some t → t ∉ e.o.reads) (p4 : d.wr = true → e.pure = true) (p5 : e.wr = true → d.pure = true)
    (p6 : e.calm = true → d.lays = true → d.rank ∈ e.hid) {s : St} {v u : V} {g g' : Sto → Sto} (hg : Eff d n0 g) :
    Outc T C n0 e (({ s with σ := g s.σ } : St).put d.o.dst v) u g' ↔ Outc T C n0 e s u g' := by
  have re : ∀ t, d.o.dst = some t → (∀ x ∈ e.o.op.opds, x ≠ .tmp t) ∧ ∀ b, e.o.guard ≠ some (t, b) := fun t ht => reads_opd (p1 t ht)
  have hview : e.view n0 (g s.σ) = e.view n0 s.σ := by
    rcases hg with rfl | ⟨σd, rfl⟩
    · rfl
    · exact view_fin p4 p5 p6 n0 s.σ σd
  have hwant : wants e.o.guard (({ s with σ := g s.σ } : St).put d.o.dst v).env = wants e.o.guard s.env := wants_put (fun t ht => (re t ht).2)
  have hop : ∀ Q : V → Sto → Nat → Prop, opW T C false (({ s with σ := g s.σ } : St).put d.o.dst v).val (e.view n0 (({ s with σ := g s.σ } : St).put d.o.dst v).σ) (e.lab n0)
      (e.lok n0 (({ s with σ := g s.σ } : St).put d.o.dst v).lk) e.o.op Q ↔ opW T C false s.val (e.view n0 s.σ) (e.lab n0) (e.lok n0 s.lk) e.o.op Q := by
    intro Q
    rw [put_sig, hview, put_lk]
    exact ⟨opW_congr (fun x hx => val_put (fun t ht => (re t ht).1 x hx)), opW_congr (fun x hx => (val_put (fun t ht => (re t ht).1 x hx)).symm)⟩
  unfold Outc
  simp only [hwant, hop]

/-- Two that may come in either order. -/
theorem swap2 {n0 : Nat} {d e : DOp} (hs : Sep d e) {s : St} {K : St → Prop} (h : stepD T C n0 d s (fun s1 => stepD T C n0 e s1 K)) :
    stepD T C n0 e s (fun s1 => stepD T C n0 d s1 K) := by
  obtain ⟨p1, p2, p3, p4, p5, p6, p7⟩ := pairOk_spec hs.1
  obtain ⟨v, g, hd, h⟩ := stepD_iff.1 h
  obtain ⟨u, g', he, h⟩ := stepD_iff.1 h
  have he0 := (outc_iff p1 p4 p5 p6 hd.eff).1 he
  refine stepD_iff.2 ⟨u, g', he0, stepD_iff.2 ⟨v, g, (outc_iff p2 p5 p4 p7 he0.eff).2 hd, ?_⟩⟩
  have hc : g (g' s.σ) = g' (g s.σ) := by
    rcases hd.eff with rfl | ⟨σd, rfl⟩ <;> rcases he0.eff with rfl | ⟨σe, rfl⟩ <;> try rfl
    exact fin_fin p4 p5 hs.2 n0 s.σ σd σe
  rw [put_sig] at h ⊢
  rw [put_comm p3] at h
  rw [hc]
  have : ({ ({ s with σ := g' s.σ } : St).put e.o.dst u with σ := g' (g s.σ) } : St) = ({ s with σ := g' (g s.σ) } : St).put e.o.dst u := by cases e.o.dst <;> rfl
  rw [this]
  exact h

theorem stepD_mono (hm : MonoC C) {n0 : Nat} {d : DOp} {s : St} {K K' : St → Prop} (hk : ∀ s, K s → K' s) (h : stepD T C n0 d s K) : stepD T C n0 d s K' := by
  obtain ⟨v, g, h1, h2⟩ := stepD_iff.1 h
  exact stepD_iff.2 ⟨v, g, h1, hk _ h2⟩

/-- One that may come ahead of all that stand ahead of it. -/
theorem swapL (hm : MonoC C) {n0 : Nat} {e : DOp} {Q : St → Prop} : ∀ (l1 l2 : List DOp) (s : St), (∀ d ∈ l1, Sep d e) → wpD T C n0 (l1 ++ e :: l2) s Q → wpD T C n0 (e :: (l1 ++ l2)) s Q
  | [], l2, s, _, h => h
  | d :: l1, l2, s, hs, h => by
    simp only [List.cons_append, wpD_cons] at h ⊢
    refine swap2 (hs d (by simp)) (stepD_mono hm (fun s1 h1 => ?_) h)
    have := swapL hm l1 l2 s1 (fun d' hd' => hs d' (List.mem_cons_of_mem _ hd')) h1
    rwa [wpD_cons] at this

end
end Go.Q
