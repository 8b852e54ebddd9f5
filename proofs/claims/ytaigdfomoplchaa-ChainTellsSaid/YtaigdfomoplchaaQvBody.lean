/- Code, run as the evaluator says. -/
import Derived.Test.YtaigdfomoplchaaQvReg
import Derived.RangeFuncNested
set_option linter.unusedSimpArgs false
set_option linter.unusedVariables false
set_option linter.unusedSectionVars false
namespace Go.Q

@[reducible] def lnk (P : Program) (T : Tab) : Link := ⟨fun N c a => cCode P N (ownB T) c = some a⟩

section
variable [Link] {P : Program} {T : Tab} {B : Base} {r : Option Nat} {N : Nat}

/-- What holds where code is left. -/
def PostOf (B : Base) (r : Option Nat) (N : Nat) (Q : Ex → St → Prop) : Exit → Act → World → Prop
  | .normal, a, w => ∃ s X ι, At B r N s a w X ι ∧ Q .normal s
  | .exit id, a, w => ∃ s X ι, At B r N s a w X ι ∧ Q (.exit id) s
  | .ret, a, w => ∃ s X ι, At B r N s a w X ι ∧ Q .ret s
  | _, _, _ => False

/-- A region that draws its order, run as the evaluator says. -/
def DrawOk (P : Program) (T : Tab) : Prop := ∀ (B : Base) (r : Option Nat) (N : Nat) (id : Nat) (ops : Array Oper) (segs : List Seg) (s : St) (a : Act) (w : World)
  (X : Nat → Prop) (ι : Nat → Nat) (Q : Ex → St → Prop), cDraw P N (ownB T) ops = some segs → At B r N s a w X ι →
    wpS T (sndC P T) segs s (Q .normal) → (Code.region id ops true).wpIn (Fw r) 0 P (PostOf B r N Q) a w

theorem PostOf.mono {Q Q' : Ex → St → Prop} (h : ∀ e s, Q e s → Q' e s) {e : Exit} {a : Act} {w : World} (hh : PostOf B r N Q e a w) : PostOf B r N Q' e a w := by
  cases e <;> simp only [PostOf] at * <;> first | exact hh | (obtain ⟨s, X, ι, h1, h2⟩ := hh; exact ⟨s, X, ι, h1, h _ _ h2⟩)

/-- Where a loop's body begins again. -/
def LoopAt (F : Fence) (P : Program) (c : Code) (Q : Exit → Act → World → Prop) (a : Act) (w : World) : Prop :=
  ∀ (b : Frame) (k : List Item) (cs : List Frame), b.roundOf = F.round → F.fn b.fn → F.room (cs.length + 1 + 0) →
    ∃ e a' w', Q e a' w' ∧ ArrivesIn (Machine.fenced P F) P (lone (b.atR a (.code c :: .inLoop c :: k)) cs w) b k cs e a' w'

theorem LoopAt.step {F : Fence} {c : Code} {Q : Exit → Act → World → Prop} {a : Act} {w : World} (h : c.wpIn F 0 P (Exit.then (LoopAt F P c Q) Q) a w) : LoopAt F P c Q a w := by
  intro b k cs hro hb hr
  obtain ⟨e, a₁, w₁, hq, harr⟩ := h b (.inLoop c :: k) cs hro hb hr
  cases e with
  | normal =>
    obtain ⟨e₂, a₂, w₂, hq₂, harr₂⟩ := hq b k cs hro hb hr
    exact ⟨e₂, a₂, w₂, hq₂, .of_steps (StepsIn.trans harr (.one (fenced_calm hb hr rfl) stepR_inLoop)) harr₂⟩
  | exit id => exact ⟨_, a₁, w₁, hq, .pass (x := .inLoop c) rfl (fun _ _ => .inl (by simp)) harr⟩
  | goto l => exact ⟨_, a₁, w₁, hq, .pass (x := .inLoop c) rfl (fun _ _ => .inl (by simp)) harr⟩
  | ret => exact ⟨_, a₁, w₁, hq, .pass (x := .inLoop c) rfl (fun _ _ => .inl (by simp)) harr⟩
  | panic ch => exact ⟨_, a₁, w₁, hq, .pass (x := .inLoop c) rfl (fun _ _ => .inl (by simp)) harr⟩
  | outgrown => exact ⟨_, a₁, w₁, hq, .pass (x := .inLoop c) rfl (fun _ _ => .inl (by simp)) harr⟩

theorem LoopAt.loop {F : Fence} {c : Code} {Q : Exit → Act → World → Prop} {a : Act} {w : World} (h : LoopAt F P c Q a w) : (Code.loop c).wpIn F 0 P Q a w := by
  intro b k cs hro hb hr
  obtain ⟨e, a', w', hq, harr⟩ := h b k cs hro hb hr
  exact ⟨e, a', w', hq, .of_steps (.one (fenced_calm hb hr rfl) stepR_loop) harr⟩

theorem stepR_scope {b : Frame} {a : Act} {k : List Item} {cs : List Frame} {w : World} {c : Code} :
    step P (lone (b.atR a (.code (.scope c) :: k)) cs w) = .next (lone (b.atR a (.code c :: .inScope c :: k)) cs w) :=
  step_lone_go (by simp [stepG, stepG.exec, Frame.atR])
theorem stepR_inScope {b : Frame} {a : Act} {k : List Item} {cs : List Frame} {w : World} {c : Code} :
    step P (lone (b.atR a (.inScope c :: k)) cs w) = .next (lone (b.atR a k) cs w) :=
  step_lone_go (by simp [stepG, stepG.exec, Frame.atR])

theorem wpIn_scope {F : Fence} {c : Code} {Q : Exit → Act → World → Prop} {a : Act} {w : World} (hg : ∀ l a w, ¬ Q (.goto l) a w) (h : c.wpIn F 0 P Q a w) : (Code.scope c).wpIn F 0 P Q a w := by
  intro b k cs hro hb hr
  have h0 : (lone (b.atR a (.code (.scope c) :: k)) cs w).fenced P F := fenced_calm hb hr rfl
  have s0 : step P (lone (b.atR a (.code (.scope c) :: k)) cs w) = .next (lone (b.atR a (.code c :: .inScope c :: k)) cs w) := stepR_scope
  obtain ⟨e, a₁, w₁, hq, harr⟩ := h b (.inScope c :: k) cs hro hb hr
  cases e with
  | normal => exact ⟨.normal, a₁, w₁, hq, .head h0 s0 (StepsIn.trans harr (.one (fenced_calm hb hr rfl) stepR_inScope))⟩
  | exit id =>
    have hx : exitTo id (.inScope c :: k) = exitTo id k := by simp [exitTo]
    exact ⟨.exit id, a₁, w₁, hq, fun k' hk => .head h0 s0 (harr.1 k' (by rw [hx]; exact hk)),
      fun hr' hk => let ⟨k₁, h1, h2⟩ := harr.2 hr' (by rw [hx]; exact hk); ⟨k₁, h1, .head h0 s0 h2⟩⟩
  | goto l => exact absurd hq (hg _ _ _)
  | ret => exact ⟨_, a₁, w₁, hq, .of_steps (.one h0 s0) harr⟩
  | panic ch => exact ⟨_, a₁, w₁, hq, .of_steps (.one h0 s0) harr⟩
  | outgrown => exact ⟨_, a₁, w₁, hq, .of_steps (.one h0 s0) harr⟩
/-- A loop over a function. -/
theorem range_sound {g : Operand} {g' : Opd} {ps : Array Tmp} {x y : Code} {ax ay : AC} {s : St} {a : Act} {w : World} {X : Nat → Prop} {ι : Nat → Nat} {Q : Ex → St → Prop} {f : Nat}
    {caps : List V} {cus : Array Value} (h : At B r N s a w X ι) (hg : cOpd g = some g') (hu : a.eval g = .func (.func f) #[] cus) (hl' : caps.length = cus.size)
    (hr' : ∀ (i : Nat) (e : V) (u : Value), caps[i]? = some e → cus[i]? = some u → Rep w X ι s.n e u) (hps : ∀ p ∈ ps, p < N) (hx : Link.rel N x ax) (hy : Link.rel N y ay) (hent : Ent P f)
    (hw : ∀ (w : World) (X : Nat → Prop) (ι : Nat → Nat) (us : Array Value), WF w X ι (upd s.σ s.n (some (.loop s.env ps.toList ax ay .ready none))) (s.n + 1) → s.lk ≤ s.n + 1 →
      Reps w X ι (s.n + 1) (.yld s.n :: caps) us → CallsIn Fence.wide 0 P f us w fun e w' => ∃ u v σ' n' X' ι', e = .returned u ∧ (match σ' s.n with
        | some (.loop _ _ _ _ st pend) => st ≠ .busy ∧ Q (pend.getD .normal) { s with σ := upd σ' s.n none, n := n' }
        | _ => False) ∧ WF w' X' ι' σ' n' ∧ Rep w' X' ι' n' v u ∧ Ext w w' X X' ι ι' (upd s.σ s.n (some (.loop s.env ps.toList ax ay .ready none))) σ' (s.n + 1) n' s.lk) :
    (Code.rangeFunc g ps x y).wpIn (Fw r) 0 P (PostOf B r N Q) a w := by
  refine wpIn_rangeFunc fun fn _ => ?_
  -- what is laid ahead of the record
  have enter : ∃ (wd : World) (mark : List Deferred) (D : Nat), WF wd X ι s.σ s.n ∧ Ext w wd X X ι ι s.σ s.σ s.n s.n s.lk ∧
      (Instr.enterLoop fn a.tmps ps x y r).run P w = .ok (wd.heap.size, mark) (wd.alloc (.loop { state := .ready, pending := none, fn, tmps := a.tmps, params := ps, assign := x, body := y, defers := D })) ∧
      Marks B.w.heap.size X wd (mark ++ a.defers) := by
    cases hr : r with
    | none =>
      obtain ⟨b1, b2⟩ := lay_block (lk := s.lk) h.wf (.deferred (some []))
      refine ⟨w.alloc (.deferred (some [])), [markOf w.heap.size], w.heap.size, b1, b2, ?_, ?_⟩
      · rw [run_enterLoop_outer]; simp [markOf]
      · obtain ⟨rs, m1, m2, m3⟩ := h.marks
        have hlt : ∀ q ∈ rs, q < w.heap.size := fun q hq => (Array.getElem?_eq_some_iff.1 (m3 q hq).2.1).1
        refine ⟨w.heap.size :: rs, by simp [m1], List.nodup_cons.2 ⟨fun hm => by have := hlt _ hm; omega, m2⟩, fun q hq => ?_⟩
        rcases List.mem_cons.1 hq with rfl | hq
        · exact ⟨h.ext.size, World.alloc_heap_new w _, fun hX => by have := h.wf.xlt _ hX; omega⟩
        · obtain ⟨c1, c2, c3⟩ := m3 q hq
          exact ⟨c1, by rw [Go.RowKit.Below.heap_alloc _ _ _ (hlt q hq)]; exact c2, c3⟩
    | some l0 =>
      obtain ⟨rec, hrec⟩ := h.rnd l0 hr
      refine ⟨w, [], rec.defers, h.wf, Ext.refl h.wf.xlt, ?_, by simpa using h.marks⟩
      rw [run_enterLoop_inner hrec]
  obtain ⟨wd, mark, D, hwd, hed, hrun, hmk⟩ := enter
  have hrep : LoopRep wd X ι s.n { state := .ready, pending := none, fn, tmps := a.tmps, params := ps, assign := x, body := y, defers := D } s.env ps.toList ax ay .ready none :=
    ⟨rfl, rfl, by simp, rfl, ⟨N, h.size, by simpa using hps, hx, hy⟩, fun t => (h.rep t).ext h.wf hed⟩
  obtain ⟨hw1, he1⟩ := new_loop (lk := s.lk) hwd h.lkn hrep
  have hι1 : setι ι s.n wd.heap.size s.n = wd.heap.size := by simp [setι]
  refine ⟨wd.heap.size, mark, (wd.alloc (.loop { state := .ready, pending := none, fn, tmps := a.tmps, params := ps, assign := x, body := y, defers := D })), { target := .fn (.func f) cus, args := #[.func (.yield wd.heap.size) #[] #[]] }, (wd.alloc (.loop { state := .ready, pending := none, fn, tmps := a.tmps, params := ps, assign := x, body := y, defers := D })), f, #[.func (.yield wd.heap.size) #[] #[]] ++ cus, (wd.alloc (.loop { state := .ready, pending := none, fn, tmps := a.tmps, params := ps, assign := x, body := y, defers := D })), hrun, ?_, fun _ _ => trivial, ?_,
    fun h => by simp [Fw, Fence.wide] at h, ?_⟩
  · have hc : a.eval (.const (.func (.yield wd.heap.size) #[] #[])) = .func (.yield wd.heap.size) #[] #[] := rfl
    simp [rangeCall, resolve, hu, hc, Deferred.ofValue]
  · simpa [invoke] using run_callFunc hent _ _
  · have hreps : Reps (wd.alloc (.loop { state := .ready, pending := none, fn, tmps := a.tmps, params := ps, assign := x, body := y, defers := D })) (addX X wd.heap.size) (setι ι s.n wd.heap.size) (s.n + 1)
        (.yld s.n :: caps) (#[.func (.yield wd.heap.size) #[] #[]] ++ cus) := by
      refine ⟨by simp; omega, fun i e u he hu => ?_⟩
      cases i with
      | zero =>
        simp only [List.getElem?_cons_zero, Option.some.injEq] at he
        subst he
        rw [Array.getElem?_append] at hu
        simp at hu
        subst hu
        have := Rep.yld (w := wd.alloc (.loop { state := .ready, pending := none, fn, tmps := a.tmps, params := ps, assign := x, body := y, defers := D })) (X := addX X wd.heap.size)
          (ι := setι ι s.n wd.heap.size) (n := s.n + 1) s.n (by omega) (by rw [hι1]; simp)
        rwa [hι1] at this
      | succ i =>
        have hu' : cus[i]? = some u := by
          rw [Array.getElem?_append] at hu
          simpa using hu
        exact ((hr' i e u (by simpa using he) hu').ext h.wf hed).ext hwd he1
    refine callsIn_fw ((hw _ _ _ _ hw1 (by have := h.lkn; omega) hreps).mono fun e w' hh => ?_)
    obtain ⟨u, v, σ', n', X', ι', rfl, hm, hwf, -, hext⟩ := hh
    split at hm
    · rename_i env ps' a' b' st pend hrow
      obtain ⟨hst, hq⟩ := hm
      obtain ⟨rec, hrec, hlr⟩ := hwf.loop _ _ _ _ _ _ _ hrow
      have hι' : ι' s.n = wd.heap.size := (hext.hι s.n (by omega)).trans hι1
      rw [hι'] at hrec
      obtain ⟨c1, c2⟩ := end_loop (lk := s.lk) (r' := { rec with state := .exhausted }) hwf (by rw [hrow]; simp) (by rw [hι']; exact hrec) h.lkn
      rw [hι'] at c1 c2
      have e04 := (hed.trans he1).trans (hext.trans c2)
      have hat : At B r N { s with σ := upd σ' s.n none, n := n' } { a with defers := mark ++ a.defers } (w'.putObj wd.heap.size (.loop { rec with state := .exhausted })) X' ι' := by
        refine ⟨c1, h.hlk, Nat.le_trans h.le e04.hn, h.size, fun t => (h.rep t).ext h.wf e04, h.ext.trans (by rw [← h.hlk]; exact e04), ?_, fun l hl => ?_⟩
        · exact ((hmk.ext hwd he1).ext hw1 hext).ext hwf c2
        · obtain ⟨rec0, h0⟩ := h.rnd l hl
          exact e04.loops _ _ h0
      have hend := run_endLoop (P := P) hrec (by rw [hlr.hst]; cases st <;> simp [stM] at hst ⊢)
      generalize w'.putObj wd.heap.size (.loop { rec with state := .exhausted }) = W4 at hat hend
      refine ⟨rec.pending, W4, hend, ?_⟩
      rw [hlr.hpend]
      cases pend with
      | none => exact ⟨_, X', ι', hat, hq⟩
      | some ex =>
        cases ex with
        | normal => exact absurd rfl hlr.hpn
        | ret => exact wpIn_ret ⟨_, X', ι', hat, hq⟩
        | exit id => exact wpIn_exit ⟨_, X', ι', hat, hq⟩
    · exact hm.elim
end

section
variable {P : Program} {T : Tab} {B : Base} {r : Option Nat} {N : Nat}

theorem code_sound (hdraw : @DrawOk (lnk P T) P T) (hmix : P.follows .mixedOrders = true) : ∀ (c : Code) (ac : AC), cCode P N (ownB T) c = some ac → ∀ (s : St) (a : Act) (w : World)
    (X : Nat → Prop) (ι : Nat → Nat) (Q : Ex → St → Prop), @At (lnk P T) B r N s a w X ι → wpC T (@sndC (lnk P T) P T) ac s Q → c.wpIn (Fw r) 0 P (@PostOf (lnk P T) B r N Q) a w := by
  letI := lnk P T
  intro c
  induction c with
  | skip =>
    intro ac hc s a w X ι Q h hw
    simp only [cCode, Option.some.injEq] at hc; subst hc
    exact wpIn_skip ⟨s, X, ι, h, hw⟩
  | label l =>
    intro ac hc s a w X ι Q h hw
    simp only [cCode, Option.some.injEq] at hc; subst hc
    exact wpIn_label ⟨s, X, ι, h, hw⟩
  | exit id =>
    intro ac hc s a w X ι Q h hw
    simp only [cCode, Option.some.injEq] at hc; subst hc
    exact wpIn_exit ⟨s, X, ι, h, hw⟩
  | ret =>
    intro ac hc s a w X ι Q h hw
    simp only [cCode, Option.some.injEq] at hc; subst hc
    exact wpIn_ret ⟨s, X, ι, h, hw⟩
  | goto l => intro ac hc; simp [cCode] at hc
  | refuse why => intro ac hc; simp [cCode] at hc
  | scope c ih =>
    intro ac hc s a w X ι Q h hw
    simp only [cCode] at hc
    exact wpIn_scope (fun l a w hh => hh) (ih ac hc s a w X ι Q h hw)
  | seq x y ihx ihy =>
    intro ac hc s a w X ι Q h hw
    simp only [cCode, Option.bind_eq_bind, Option.bind_eq_some_iff, Option.some.injEq] at hc
    obtain ⟨ax, hx, ay, hy, rfl⟩ := hc
    simp only [wpC] at hw
    refine wpIn_seq (wpIn_mono (ihx ax hx s a w X ι _ h hw) (fun e a' w' hh => ?_))
    cases e with
    | normal =>
      obtain ⟨s', X', ι', h1, h2⟩ := hh
      exact ihy ay hy s' a' w' X' ι' Q h1 h2
    | exit id => exact hh
    | ret => exact hh
    | goto l => exact hh.elim
    | panic ch => exact hh.elim
    | outgrown => exact hh.elim
  | cond x y z ihy ihz =>
    intro ac hc s a w X ι Q h hw
    simp only [cCode, Option.bind_eq_bind, Option.bind_eq_some_iff, Option.some.injEq] at hc
    obtain ⟨x', hx, ay, hy, az, hz, rfl⟩ := hc
    simp only [wpC] at hw
    have he := h.eval hx
    split at hw
    · rename_i hv
      rw [hv] at he
      exact wpIn_cond (rep_bool' he) (ihy ay hy s a w X ι Q h hw)
    · rename_i hv
      rw [hv] at he
      exact wpIn_cond (rep_bool' he) (ihz az hz s a w X ι Q h hw)
    · exact hw.elim
  | block id c ih =>
    intro ac hc s a w X ι Q h hw
    simp only [cCode, Option.map_eq_some_iff] at hc
    obtain ⟨ac', hc', rfl⟩ := hc
    simp only [wpC] at hw
    refine wpIn_block (wpIn_mono (ih ac' hc' s a w X ι _ h hw) (fun e a' w' hh => ?_))
    cases e with
    | normal => exact hh
    | exit i =>
      obtain ⟨s', X', ι', h1, h2⟩ := hh
      simp only [blockW] at h2
      simp only [Exit.inBlock]
      split at h2 <;> rename_i hi
      · rw [if_pos hi]; exact ⟨s', X', ι', h1, h2⟩
      · rw [if_neg hi]; exact ⟨s', X', ι', h1, h2⟩
    | ret => exact hh
    | goto l => exact hh.elim
    | panic ch => exact hh.elim
    | outgrown => exact hh.elim
  | loop c ih =>
    intro ac hc s a w X ι Q h hw
    simp only [cCode, Option.map_eq_some_iff] at hc
    obtain ⟨ac', hc', rfl⟩ := hc
    simp only [wpC] at hw
    have := hw (fun s => ∀ (a : Act) (w : World) (X : Nat → Prop) (ι : Nat → Nat), At B r N s a w X ι → LoopAt (Fw r) P c (PostOf B r N Q) a w) (fun s hs a w X ι h => by
      refine LoopAt.step (wpIn_mono (ih ac' hc' s a w X ι _ h hs) (fun e a' w' hh => ?_))
      cases e with
      | normal =>
        obtain ⟨s', X', ι', h1, h2⟩ := hh
        exact h2 a' w' X' ι' h1
      | exit id => exact hh
      | ret => exact hh
      | goto l => exact hh.elim
      | panic ch => exact hh.elim
      | outgrown => exact hh.elim)
    exact (this a w X ι h).loop
  | region id ops draw =>
    intro ac hc s a w X ι Q h hw
    simp only [cCode] at hc
    split at hc
    · rename_i hd
      subst hd
      simp only [Option.map_eq_some_iff] at hc
      obtain ⟨segs, hds, rfl⟩ := hc
      simp only [wpC] at hw
      exact hdraw B r N id ops segs s a w X ι Q hds h hw
    · rename_i hd
      have hd' : draw = false := by simpa using hd
      subst hd'
      simp only [Option.map_eq_some_iff] at hc
      obtain ⟨al, hal, rfl⟩ := hc
      simp only [wpC] at hw
      exact wpIn_region_list (wpR_sound (Q := fun s => Q .normal s) (fun s a w X ι h1 h2 => ⟨s, X, ι, h1, h2⟩) _ _ hal s a w X ι h hw)
  | rangeFunc g ps x y ihx ihy =>
    intro ac hc s a w X ι Q h hw
    simp only [cCode, Option.bind_eq_bind, Option.bind_eq_some_iff] at hc
    obtain ⟨g', hg, ax, hx, ay, hy, hc⟩ := hc
    split at hc
    · rename_i hps
      simp only [Option.some.injEq] at hc; subst hc
      simp only [wpC, rangeW] at hw
      have hge := h.eval hg
      split at hw
      · rename_i f caps hval
        rw [hval] at hge
        generalize hu : a.eval g = u at hge
        cases hge with
        | fn _ _ cus hl' hr' =>
          obtain ⟨hlk, ⟨hent, hw⟩⟩ := hw
          exact range_sound h hg hu hl' hr' (fun p hp => by simpa using List.all_eq_true.1 hps p (by simpa using hp)) hx hy hent hw
      · exact hw.elim
    · cases hc

end
end Go.Q
