/- A call on trees hands back no objects but new ones. -/
import Derived.Test.YtaigdfomoplchaaQvSnd
import Derived.Test.YtaigdfomoplchaaQvOkEv
set_option linter.unusedSimpArgs false
set_option linter.unusedVariables false
set_option linter.unusedSectionVars false
namespace Go.Q
variable [Link]

def Thw (r : V) : Prop := ∀ (K : Nat → Prop) (σ : Sto) (n : Nat), OkS K σ → Ok (More K n (thaw σ n r).2.2) (thaw σ n r).1 ∧ OkS (More K n (thaw σ n r).2.2) (thaw σ n r).2.1 ∧ n ≤ (thaw σ n r).2.2 ∧ Dom σ (thaw σ n r).2.1 n (thaw σ n r).2.2
def ThwL (m : List V) : Prop := ∀ (K : Nat → Prop) (σ : Sto) (n : Nat), OkS K σ → (∀ (i : Nat) (e : V), (thawL σ n m).1[i]? = some e → Ok (More K n (thawL σ n m).2.2) e) ∧
  OkS (More K n (thawL σ n m).2.2) (thawL σ n m).2.1 ∧ n ≤ (thawL σ n m).2.2 ∧ Dom σ (thawL σ n m).2.1 n (thawL σ n m).2.2

theorem more_more {K : Nat → Prop} {n n' n'' : Nat} (h : n ≤ n') (h' : n' ≤ n'') : ∀ id, More (More K n n') n' n'' id → More K n n'' id := by
  intro id hh
  rcases hh with (hh | hh) | hh
  · exact .inl hh
  · exact .inr ⟨hh.1, by omega⟩
  · exact .inr ⟨by omega, hh.2⟩

theorem thwL_cons {y : V} {m : List V} (h : Thw y) (hm : ThwL m) : ThwL (y :: m) := by
  intro K σ n hs
  obtain ⟨a1, a2, a3, a4⟩ := h K σ n hs
  obtain ⟨b1, b2, b3, b4⟩ := hm _ _ (thaw σ n y).2.2 a2
  simp only [thawL]
  refine ⟨fun i e he => ?_, b2.mono (more_more a3 b3), by omega, fun id hid => ?_⟩
  rotate_left
  · rcases b4 id hid with h | h
    · rcases a4 id h with h | h
      · exact .inl h
      · exact .inr ⟨h.1, by omega⟩
    · exact .inr ⟨by omega, h.2⟩
  cases i with
  | zero =>
    simp at he; subst he
    exact a1.mono (fun id hh => by rcases hh with hh | hh; exact .inl hh; exact .inr ⟨hh.1, by omega⟩)
  | succ i => exact (b1 i e (by simpa using he)).mono (more_more a3 b3)

theorem thwL_nil : ThwL [] := fun K σ n hs => by simp [thawL]; exact ⟨hs.mono more_sub, Dom.refl⟩

theorem thw_leaf {r : V} (ht : ∀ σ n, thaw σ n r = (r, σ, n)) (h : ∀ K, Ok K r) : Thw r := fun K σ n hs => by
  rw [ht]; exact ⟨h _, hs.mono more_sub, Nat.le_refl _, Dom.refl⟩

theorem thwL_all : ∀ (l m : List V) (f : V → Option V), (∀ x y, x ∈ l → f x = some y → Thw y) → l.mapM f = some m → ThwL m
  | [], m, f, _, h => by simp at h; subst h; exact thwL_nil
  | x :: l, m, f, hf, h => by
    simp only [List.mapM_cons, Option.pure_def, Option.bind_eq_bind, Option.bind_eq_some_iff, Option.some.injEq] at h
    obtain ⟨y, hy, m', hm, rfl⟩ := h
    exact thwL_cons (hf x y (by simp) hy) (thwL_all l m' f (fun x' y' hx' => hf x' y' (List.mem_cons_of_mem _ hx')) hm)

theorem thw_agg {m : List V} (h : ThwL m) : Thw (.agg m) := fun K σ n hs => by
  obtain ⟨a1, a2, a3, a4⟩ := h K σ n hs
  simp only [thaw]
  exact ⟨.agg _ a1, a2, a3, a4⟩

section
variable {w : World} {X : Nat → Prop} {ι : Nat → Nat} {σ : Sto} {n : Nat}

theorem giv_thw {K0 : Nat → Prop} (hs : OkS K0 σ) : ∀ (k : Nat) (v r : V), giv σ k v = some r → Ok K0 v → Thw r := by
  intro k
  induction k with
  | zero => intro v r h; simp [giv] at h
  | succ k ih =>
    have ihE : ∀ x y, elemM (giv σ k) x = some y → Ok K0 x → Thw y := by
      intro x y h hx
      unfold elemM at h
      split at h
      · rename_i cs
        simp only [Option.map_eq_some_iff] at h
        obtain ⟨cs', hcs, rfl⟩ := h
        cases hx with
        | agg _ hx => exact thw_agg (thwL_all cs cs' _ (fun x y hm hy => ih x y hy (ok_mem.1 hx x hm)) hcs)
      · exact ih _ _ h hx
    intro v r h hv
    cases hv with
    | int q m => simp [giv] at h; subst h; exact thw_leaf (fun _ _ => by simp [thaw]) (fun _ => .int q m)
    | bool b => simp [giv] at h; subst h; exact thw_leaf (fun _ _ => by simp [thaw]) (fun _ => .bool b)
    | str s => simp [giv] at h; subst h; exact thw_leaf (fun _ _ => by simp [thaw]) (fun _ => .str s)
    | nilS => simp [giv] at h; subst h; exact thw_leaf (fun _ _ => by simp [thaw]) (fun _ => .nilS)
    | nilP => simp [giv] at h; subst h; exact thw_leaf (fun _ _ => by simp [thaw]) (fun _ => .nilP)
    | nilF => simp [giv] at h; subst h; exact thw_leaf (fun _ _ => by simp [thaw]) (fun _ => .nilF)
    | nilI => simp [giv] at h; subst h; exact thw_leaf (fun _ _ => by simp [thaw]) (fun _ => .nilI)
    | undef => simp [giv] at h; subst h; exact thw_leaf (fun _ _ => by simp [thaw]) (fun _ => .undef)
    | yld l h' => simp [giv] at h
    | ptr id sz i j h' => simp [giv] at h
    | sl sz xs h' => simp [giv] at h; subst h; exact thw_leaf (fun _ _ => by simp [thaw]) (fun _ => .sl sz xs h')
    | box cs h' => simp [giv] at h; subst h; exact thw_leaf (fun _ _ => by simp [thaw]) (fun _ => .box cs h')
    | fn f cs h' =>
      cases cs with
      | nil => simp [giv] at h; subst h; exact thw_leaf (fun _ _ => by simp [thaw]) (fun _ => .fn f [] (fun i e he => by simp at he))
      | cons c cs => simp [giv] at h
    | iface t x h' =>
      simp only [giv, Option.map_eq_some_iff] at h
      obtain ⟨y, hy, rfl⟩ := h
      intro K σ' n' hs'
      obtain ⟨a1, a2, a3, a4⟩ := ih x y hy h' K σ' n' hs'
      simp only [thaw]
      exact ⟨.iface _ _ a1, a2, a3, a4⟩
    | agg cs h' =>
      simp only [giv, Option.map_eq_some_iff] at h
      obtain ⟨m, hm, rfl⟩ := h
      exact thw_agg (thwL_all cs m _ (fun x y hx hy => ih x y hy (ok_mem.1 h' x hx)) hm)
    | tup cs h' =>
      simp only [giv, Option.map_eq_some_iff] at h
      obtain ⟨m, hm, rfl⟩ := h
      intro K σ' n' hs'
      obtain ⟨a1, a2, a3, a4⟩ := thwL_all cs m _ (fun x y hx hy => ih x y hy (ok_mem.1 h' x hx)) hm K σ' n' hs'
      simp only [thaw]
      exact ⟨.tup _ a1, a2, a3, a4⟩
    | ref id off len sz h' =>
      simp only [giv] at h
      split at h
      · rename_i sz' xs hrow
        split at h
        · simp only [Option.map_eq_some_iff] at h
          obtain ⟨m, hm, rfl⟩ := h
          intro K σ' n' hs'
          obtain ⟨a1, a2, a3, a4⟩ := thwL_all xs m _ (fun x y hx hy => ihE x y hy (ok_mem.1 (fun i x hx => hs.1 _ _ _ hrow i x hx) x hx)) hm K σ' n' hs'
          simp only [thaw]
          have hsub : ∀ id, More K n' (thawL σ' n' m).2.2 id → More K n' ((thawL σ' n' m).2.2 + 1) id := fun id hh => by
            rcases hh with hh | hh
            · exact .inl hh
            · exact .inr ⟨hh.1, by omega⟩
          exact ⟨.ref _ _ _ _ (.inr ⟨a3, by omega⟩), (a2.mono hsub).upd_row (fun i x hx => (a1 i x hx).mono hsub), by omega, fun id' hid => by
            by_cases e : id' = (thawL σ' n' m).2.2
            · right; omega
            · rcases a4 id' (by simpa [upd, e] using hid) with h | h
              · exact .inl h
              · exact .inr ⟨h.1, by omega⟩⟩
        · cases h
      · cases h

theorem wf_ok (hw : WF w X ι σ n) : OkS (fun id => id < n ∧ ι id < w.heap.size) σ := by
  refine ⟨fun id sz xs hs i x hx => ?_, fun id env ps a b st pend hs t => ?_⟩
  · obtain ⟨cells, ty, u, a1, a2, a3, a4, a5⟩ := hw.row id sz xs hs
    exact ok_of_cells (fun j e he => rep_ok (a5 i x j e hx he))
  · obtain ⟨r, a1, a2⟩ := hw.loop id _ _ _ _ _ _ hs
    exact rep_ok (a2.rep t)

theorem back_thw {m : Mode} {w' : World} {X0 : Nat → Prop} {r : V} {u : Value} (h : Back m w w' X0 r u) : Thw r := by
  obtain ⟨X1, ι1, σ1, n1, v, hw1, hr1, hback, he⟩ := h
  by_cases hm : m = .own
  · subst hm
    exact giv_thw (wf_ok hw1) DEEP v r hback.1 (rep_ok hr1)
  · have hfrz : frz σ1 DEEP v = some r := by
      cases m <;> simp only [back] at hback <;> first | exact hback | exact absurd rfl hm
    refine thw_leaf (thaw_frz DEEP v r hfrz) (fun K => ?_)
    have := frz_rep (ι' := fun _ => 0) (n' := 0) hw1 (D := rch σ1 DEEP v) DEEP v r u hfrz hr1 (fun _ h => h)
    exact (rep_ok this).mono (fun id h => by omega)

end

section
variable {P : Program} {T : Tab} {w : World} {X : Nat → Prop} {ι : Nat → Nat} {σ : Sto} {n lk : Nat} {ρ' : Opd → V}

/-- What an operation of a drawn region comes to speaks of no objects but those that it was shown, and new ones. -/
def Says (ρ' : Opd → V) (σ : Sto) (n : Nat) (ai : AI) (v : V) (σ' : Sto) (n' : Nat) : Prop :=
  ∀ K : Nat → Prop, (∀ x ∈ ai.opds, Ok K (ρ' x)) → OkS K σ → Ok (More K n n') v ∧ OkS (More K n n') σ' ∧ Dom σ σ' n n'

theorem zeros_ok {o : Oper} {ai : AI} (hc : cOp P o = some ai) : ∀ e ∈ ai.zeros, Ok (fun _ => False) e := by
  have key : ∀ {t : TypeId} {i : TI}, ti P t = some i → Ok (fun _ => False) i.zero := fun {t i} hi => by
    obtain ⟨_, j, z, _, _, _, _, hz⟩ := ti_spec hi
    exact (rep_ok (ofValA_rep (w := default) (X := fun _ => False) (ι := fun _ => 0) (n := 0) hz)).mono (fun id h => by omega)
  have keyc : ∀ {t : TypeId} {i : TI}, ti P t = some i → ∀ e ∈ i.zero.cells, Ok (fun _ => False) e := fun hi e he => ok_mem.1 (Ok.cells (key hi)) e he
  obtain ⟨dst, op, ty, pos, after, guard⟩ := o
  intro e he
  cases ai <;> simp only [AI.zeros, List.not_mem_nil] at he
  case alloc z =>
    simp at he; subst he
    cases op <;> simp only [cOp, reduceCtorEq] at hc
    all_goals
      repeat' (first | (simp only [Option.bind_eq_bind, Option.bind_eq_some_iff, Option.map_eq_some_iff, Option.some.injEq, reduceCtorEq, and_false, exists_false] at hc; done) |
        (simp only [Option.bind_eq_bind, Option.bind_eq_some_iff, Option.map_eq_some_iff, Option.some.injEq, reduceCtorEq, and_false, exists_false, AI.alloc.injEq] at hc) | (obtain ⟨_, _, hc⟩ := hc) | split at hc | (subst hc; exact key (by assumption)) | exact key (by assumption) | cases hc)
  case build z ps =>
    cases op <;> simp only [cOp, reduceCtorEq] at hc
    all_goals
      repeat' (first | (simp only [Option.bind_eq_bind, Option.bind_eq_some_iff, Option.map_eq_some_iff, Option.some.injEq, reduceCtorEq, and_false, exists_false] at hc; done) |
        (simp only [Option.bind_eq_bind, Option.bind_eq_some_iff, Option.map_eq_some_iff, Option.some.injEq, reduceCtorEq, and_false, exists_false, AI.build.injEq] at hc) | (obtain ⟨rfl, _⟩ := hc; exact keyc (by assumption) e he) | (obtain ⟨_, _, hc⟩ := hc) | split at hc | cases hc)
  case mksl sz bytes z len =>
    simp at he; subst he
    cases op <;> simp only [cOp, reduceCtorEq] at hc
    all_goals
      repeat' (first | (simp only [Option.bind_eq_bind, Option.bind_eq_some_iff, Option.map_eq_some_iff, Option.some.injEq, reduceCtorEq, and_false, exists_false] at hc; done) |
        (simp only [Option.bind_eq_bind, Option.bind_eq_some_iff, Option.map_eq_some_iff, Option.some.injEq, reduceCtorEq, and_false, exists_false, AI.mksl.injEq] at hc) | (obtain ⟨_, _, rfl, _⟩ := hc; exact key (by assumption)) | (obtain ⟨_, _, hc⟩ := hc) | split at hc | cases hc)

theorem callW_says {f : Nat} {args : List V} {us : Array Value} {Q : V → Sto → Nat → Prop} (hw : WF w X ι σ n) (hr : Reps w X ι n args us) (h : callW T (sndC P T) false f args σ n lk Q) :
    callW T (sndC P T) false f args σ n lk (fun v σ' n' => Q v σ' n' ∧ ∀ K : Nat → Prop, OkS K σ → Ok (More K n n') v ∧ OkS (More K n n') σ' ∧ Dom σ σ' n n') := by
  unfold callW at *
  cases hm : T.mode f <;> simp only [hm] at h ⊢
  case raw => simp at h
  all_goals
    obtain ⟨ts, h1, r, h2, D, h3, h4, h5, h6⟩ := h
    refine ⟨ts, h1, r, h2, D, h3, h4, h5, h6, ?_⟩
    have hD : D = [] := h4 trivial
    subst hD
    rw [dropL_nil]
    obtain ⟨b1, b2⟩ := args_frz hw h1 hr.1 hr.2
    obtain ⟨_, hcall⟩ := h2
    obtain ⟨_, hcall⟩ := hcall w (cutX X ι σ (args.flatMap (rch σ DEEP))) us (fun b hb => hw.xlt b hb.1) ⟨b1, b2⟩
    obtain ⟨e, w', fr, ⟨u, r2, rfl, he, hb⟩, _⟩ := hcall [] (room_wide _)
    cases he
    have ht := back_thw hb
    exact fun K hs => ⟨(ht K σ n hs).1, (ht K σ n hs).2.1, (ht K σ n hs).2.2.2⟩

theorem opW_says {ρ : Operand → Value} {o : Oper} {ai : AI} {Q : V → Sto → Nat → Prop} (hw : WF w X ι σ n)
    (hρ : ∀ (x : Operand) (x' : Opd), cOpd x = some x' → Rep w X ι n (ρ' x') (ρ x)) (hc : cOp P o = some ai)
    (h : opW T (sndC P T) false ρ' σ n lk ai Q) : opW T (sndC P T) false ρ' σ n lk ai (fun v σ' n' => Q v σ' n' ∧ Says ρ' σ n ai v σ' n') := by
  by_cases hcall : ∃ g es, ai = .callv g es ∨ ∃ f, ai = .call f es
  · obtain ⟨g, es, hai⟩ := hcall
    obtain ⟨c, hop, x, hcal, es', hes, hx⟩ := call_shape hc hai
    obtain ⟨e1, e2⟩ := cOpds_spec hes hρ
    have hreps : Reps w X ι n (es'.map ρ') (c.args.map ρ) := ⟨by simpa using e1.symm, fun i e u he hu => e2 i e u he (by simpa using hu)⟩
    rcases hx with ⟨f, rfl, rfl⟩ | ⟨g', hg, rfl⟩
    · simp only [opW] at h ⊢
      have := callW_says hw hreps h
      exact callW_mono (fun _ _ h => h) (sndC_mono P T) (fun v σ' n' hh => ⟨hh.1, fun K _ hs => hh.2 K hs⟩) this
    · simp only [opW] at h ⊢
      have hgr := hρ _ _ hg
      split at h
      · rename_i f caps hval
        rw [hval] at hgr
        generalize hu : ρ x = u at hgr
        cases hgr with
        | fn _ _ cus hl' hr' =>
          have hreps' : Reps w X ι n (es'.map ρ' ++ caps) (c.args.map ρ ++ cus) := by
            refine ⟨by rw [Array.size_append, List.length_append, hreps.1, hl'], fun i e u he hu => ?_⟩
            rw [List.getElem?_append] at he
            rw [Array.getElem?_append] at hu
            rw [hreps.1] at hu
            split at he <;> rename_i hlt
            · rw [if_pos hlt] at hu; exact hreps.2 i e u he hu
            · rw [if_neg hlt] at hu; exact hr' _ e u he hu
          exact callW_mono (fun _ _ h => h) (sndC_mono P T) (fun v σ' n' hh => ⟨hh.1, fun K _ hs => hh.2 K hs⟩) (callW_says hw hreps' h)
      · simp at h
      · exact h.elim
  · unfold opW at h ⊢
    split at h
    · exact absurd ⟨.con .undef, _, .inr ⟨_, rfl⟩⟩ hcall
    · exact absurd ⟨_, _, .inl rfl⟩ hcall
    · split at h
      · rename_i v σ' n' he
        refine ⟨h, fun K hk hs => ?_⟩
        exact ev_ok hk (zeros_ok hc) hs v σ' n' he
      · exact h.elim

end
end Go.Q
